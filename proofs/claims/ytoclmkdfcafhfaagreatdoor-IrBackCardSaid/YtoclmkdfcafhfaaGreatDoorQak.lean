/- A machine for closed runs: the operations that change the world. -/
import Derived.Test.YtoclmkdfcafhfaaGreatDoorQaj
set_option maxRecDepth 20000
set_option maxHeartbeats 2000000
namespace Go.Rex
section
open Go.RowKit Go.MapKept
open Go.Vcg (Keep beq_ne aggOf sizeT zeroT bytesT add_lit callable run_zeroValue run_append_row run_append_call run_buildSlice BP nat16_eq natB_eq)
theorem setRow_fr (w : World) (B : Nat) (cs : Array Value) : Fr B w (w.setRow B cs) := ⟨rfl, rfl, rfl, by simp, fun b _ hb => setRow_other w B b cs hb⟩
theorem splice_get {xs vs : List Value} {off i : Nat} (h : off + vs.length ≤ xs.length) : (xs.take off ++ vs ++ xs.drop (off + vs.length))[i]? = if i < off then xs[i]? else if i < off + vs.length then vs[i - off]? else xs[i]? := by
  have e1 : (xs.take off).length = off := by simp; omega
  by_cases h1 : i < off
  · rw [if_pos h1, List.append_assoc, List.getElem?_append_left (by omega), List.getElem?_take, if_pos h1]
  · rw [if_neg h1, List.append_assoc, List.getElem?_append_right (by omega), e1]
    by_cases h2 : i < off + vs.length
    · rw [if_pos h2, List.getElem?_append_left (by omega)]
    · rw [if_neg h2, List.getElem?_append_right (by omega), List.getElem?_drop]
      congr 1
      omega
section
variable {P : Program} {N : Nat} {w0 : World} {ρ : Env} {h : Heap} {l : Sls} {a : Act} {w : World} {nx : Nat}
variable {ds : Option Nat} {ty : TypeId} {pos : String} {af : Array Edge} {gd : Option (Nat × Bool)}
def hstore (h : Heap) (b off : Nat) (vs : List Value) : Option Heap := match hget h b with
  | some (.cells cs t false) => match layD off vs cs with
    | some cs' => some (hset h b (some (.cells cs' t false)))
    | none => none
  | some (.row cs t sz) => match layD off vs cs with
    | some cs' => some (hset h b (some (.row cs' t sz)))
    | none => none
  | _ => none
theorem hstore_sound (r : Rel w0 ρ h nx w) {b off : Nat} {vs VS : List Value} {h' : Heap} (e : hstore h b off vs = some h') (hv : rvs ρ vs = some VS) (h1 : ∀ u ∈ VS, u.oneCell' = true) :
    ∃ B C w', ρ b = some (B, C, 0) ∧ Pr h h' ∧ Rel w0 ρ h' nx w' ∧ ∀ t V, V.cells.toList = VS → sizeT P t = some VS.length → (Instr.storeAt t (.pointer (some ⟨B, off, none⟩)) V).run P w = .ok () w' := by
  have run : ∀ B (arr : Array Value) et t V, w.heap[B]? = some (.cells arr et (0, 0)) → off + VS.length ≤ arr.size → V.cells.toList = VS → sizeT P t = some VS.length →
      (Instr.storeAt t (.pointer (some ⟨B, off, none⟩)) V).run P w = .ok () (w.setRow B (arr.toList.take off ++ VS ++ arr.toList.drop (off + VS.length)).toArray) := fun B arr et t V hh hfit hV hsz => by
    have hrow := run_storeCells_at (P := P) B off et VS 0 arr w hh (by omega) h1
    have hl : V.cells.size = VS.length := by rw [← hV]; simp
    have hl' : ¬ V.cells.size ≠ VS.length := by simpa using hl
    simp only [Instr.storeAt, Instr.sureAddr, storeVar, Sem.run_bind, Sem.run_pure, Result.andThen_ok, Go.Vcg.run_sizeOf hsz, if_neg hl', hV]
    simpa using hrow
  unfold hstore at e
  split at e
  · rename_i cs t hg
    split at e
    · rename_i cs' hl
      cases e
      obtain ⟨B, C, hB, CS, g1, g2⟩ := r.ok b _ hg
      obtain ⟨k1, k2⟩ := rvs_layD g1 hv hl
      refine ⟨B, C, _, hB, Pr.set (hget_lt hg) _, r.upd hg rfl rfl hB (setRow_fr w B _) ⟨_, k2, ?_⟩, fun t' V hV hsz => run B CS.toArray t t' V g2 (by simpa using k1) hV hsz⟩
      exact setRow_heap w B CS.toArray _ t (0, 0) g2
    · cases e
  · rename_i cs t sz hg
    split at e
    · rename_i cs' hl
      cases e
      obtain ⟨B, C, hB, CS, arr, g1, g2, g3, g4, g5, g6⟩ := r.ok b _ hg
      obtain ⟨k1, k2⟩ := rvs_layD g1 hv hl
      have hlen : (CS.take off ++ VS ++ CS.drop (off + VS.length)).length = CS.length := by simp; omega
      refine ⟨B, C, _, hB, Pr.set (hget_lt hg) _, r.upd hg rfl rfl hB (setRow_fr w B _) ⟨_, _, k2, setRow_heap w B arr (arr.toList.take off ++ VS ++ arr.toList.drop (off + VS.length)).toArray t (0, 0) g2, ?_, g4, ?_, ?_⟩, fun t' V hV hsz => run B arr t t' V g2 (by omega) hV hsz⟩
      · rw [← g3]; simp; omega
      · rw [hlen]; simp; omega
      · rw [hlen]
        apply List.ext_getElem?
        intro i
        have hcs : ∀ i, i < CS.length → CS[i]? = arr[i]? := fun i hi => by rw [← g6, List.getElem?_take, if_pos hi]; simp
        rw [List.getElem?_take]
        by_cases hi : i < CS.length
        · rw [if_pos hi]
          have q1 := splice_get (xs := arr.toList) (vs := VS) (off := off) (i := i) (by simp; omega)
          have q2 := splice_get (xs := CS) (vs := VS) (off := off) (i := i) k1
          have q3 := hcs i hi
          rw [q1, q2]
          simp [q3]
        · rw [if_neg hi, List.getElem?_eq_none (by omega)]
    · cases e
  · cases e
inductive Eff where
  | val (v : Value) (h : Heap) (nx : Nat)
  | skip (h : Heap) (nx : Nat)
def Does (P : Program) (w0 : World) (ρ : Env) (h : Heap) (b0 : Nat) (a : Act) (w : World) (o : Oper) : Eff → Prop
  | .val v h' nx' => ∃ ρ' V w', ELe ρ ρ' ∧ (∀ c, c ≠ b0 → ρ' c = ρ c) ∧ Pr h h' ∧ rv ρ' v = some V ∧ Rel w0 ρ' h' nx' w' ∧ (execOp a.eval o).run P w = .ok (.value V) w'
  | .skip h' nx' => ∃ w', Pr h h' ∧ Rel w0 ρ h' nx' w' ∧ (execOp a.eval o).run P w = .ok .skip w'
theorem ext_other {ρ : Env} {b : Nat} {x : Nat × Nat × Nat} : ∀ c, c ≠ b → ext ρ b x c = ρ c := fun _ hc => ext_ne hc
def estore (P : Program) (h : Heap) (nx : Nat) (t : TypeId) (u v : Value) : Option Eff := match u with
  | .pointer (some ⟨b, o, none⟩) => match sizeT P t with
    | some n => match Nat.beq (cellsOf v).length n with
      | true => match (cellsOf v).all (·.oneCell') with
        | true => match hstore h b o (cellsOf v) with
          | some h' => some (.skip h' nx)
          | none => none
        | false => none
      | false => none
    | none => none
  | _ => none
theorem estore_sound (r : Rel w0 ρ h nx w) {t : TypeId} {x y : Operand} {u v : Value} {f : Eff} (hu : rv ρ u = some (a.eval x)) (hv : rv ρ v = some (a.eval y)) {b0 : Nat} (e : estore P h nx t u v = some f) : Does P w0 ρ h b0 a w ⟨ds, .store t x y, ty, pos, af, gd⟩ f := by
  unfold estore at e
  split at e
  · rename_i b o
    split at e
    · rename_i n hn
      split at e
      · rename_i hl
        split at e
        · rename_i h1
          split at e
          · rename_i h' hs
            cases e
            have hc := rv_cells hv h1
            obtain ⟨B, C, w', g1, gp, g2, g3⟩ := hstore_sound (P := P) r hs hc (rvs_one hc h1)
            obtain ⟨B', C', O', g4, g5⟩ := rv_ptr' hu
            rw [g1] at g4
            cases g4
            have hlen := rvs_length hc
            have hl' := Nat.eq_of_beq_eq_true hl
            have hr := g3 t (a.eval y) rfl (by rw [hn]; congr 1; omega)
            refine ⟨w', gp, g2, ?_⟩
            rw [Nat.zero_add] at g5
            generalize a.eval = ev at g5 hr
            simp [execOp, g5, hr]
          · cases e
        · cases e
      · cases e
    · cases e
  · cases e
def ebox (h : Heap) (b0 nx : Nat) (t : TypeId) (v : Value) : Option Eff := match (cellsOf v).all (·.oneCell') with
  | true => some (.val (.pointer (some ⟨b0, 0, none⟩)) (hset h b0 (some (.cells (cellsOf v) t false))) nx)
  | false => none
theorem rv_newptr {B C : Nat} {b : Nat} : rv (ext ρ b (B, C, 0)) (.pointer (some ⟨b, 0, none⟩)) = some (.pointer (some ⟨B, 0, none⟩)) := by simp [rv, ext_same]
theorem ebox_sound {b0 nx' : Nat} (r : Rel w0 ρ h nx w) (hf : Fresh ρ nx b0 nx') {t : TypeId} {x : Operand} {v : Value} {f : Eff} (hv : rv ρ v = some (a.eval x)) (e : ebox h b0 nx' t v = some f) : Does P w0 ρ h b0 a w ⟨ds, .box t x, ty, pos, af, gd⟩ f := by
  unfold ebox at e
  split at e
  · rename_i h1
    cases e
    have hc := rv_cells hv h1
    refine ⟨_, _, _, ext_le hf.free, ext_other, Pr.set (Nat.lt_of_lt_of_le hf.lt hf.small) _, rv_newptr, r.cells hf hc t, ?_⟩
    generalize a.eval = ev
    simp [execOp, Instr.box, newVar, newRow]
  · cases e
def ealloc (P : Program) (h : Heap) (b0 nx : Nat) (t : TypeId) : Option Eff := match zeroT P t with
  | some z => match flat2 z with
    | true => match (cellsOf z).all (·.oneCell') with
      | true => some (.val (.pointer (some ⟨b0, 0, none⟩)) (hset h b0 (some (.cells (cellsOf z) t false))) nx)
      | false => none
    | false => none
  | none => none
theorem ealloc_sound {b0 nx' : Nat} (r : Rel w0 ρ h nx w) (hf : Fresh ρ nx b0 nx') {t : TypeId} {f : Eff} (e : ealloc P h b0 nx' t = some f) : Does P w0 ρ h b0 a w ⟨ds, .alloc t, ty, pos, af, gd⟩ f := by
  unfold ealloc at e
  split at e
  · rename_i z hz
    split at e
    · rename_i hfl
      split at e
      · rename_i h1
        cases e
        have hc := rv_cells (rv_flat2 (ρ := ρ) hfl) h1
        refine ⟨_, _, _, ext_le hf.free, ext_other, Pr.set (Nat.lt_of_lt_of_le hf.lt hf.small) _, rv_newptr, r.cells hf hc t, ?_⟩
        generalize a.eval = ev
        simp [execOp, Instr.alloc, run_zeroValue hz, newVar, newRow]
      · cases e
    · cases e
  · cases e
def partsM (N : Nat) (l : Sls) (s : Nat) : Nat → List (Nat × Operand) → Option (List Value)
  | _, [] => some []
  | i, (j, x) :: ps => match Nat.beq j i with
    | true => match aev N l x with
      | some v => match (cellsOf v).all (·.oneCell') with
        | true => match Nat.beq (cellsOf v).length s with
          | true => match partsM N l s (i + 1) ps with
            | some r => some (cellsOf v ++ r)
            | none => none
          | false => none
        | false => none
      | none => none
    | false => none
theorem partsM_sound (hs : Sl N ρ l a) {s : Nat} : ∀ {ps : List (Nat × Operand)} {i : Nat} {cs : List Value}, partsM N l s i ps = some cs →
    ∃ VS : List Value, (ps.map fun (i, x) => (i, a.eval x)) = (VS.zipIdx i).map (fun p => (p.2, p.1)) ∧ rvs ρ cs = some (Go.Vcg.flat VS) ∧ (∀ v ∈ VS, v.cells.size = s) ∧ VS.length = ps.length
  | [], i, cs, e => by unfold partsM at e; cases e; exact ⟨[], by simp, by simp [rvs, Go.Vcg.flat], by simp, rfl⟩
  | (j, x) :: ps, i, cs, e => by
    unfold partsM at e
    split at e
    · rename_i hj
      split at e
      · rename_i v hv
        split at e
        · rename_i h1
          split at e
          · rename_i hl
            split at e
            · rename_i r hr
              cases e
              obtain ⟨VS, g1, g2, g3, g4⟩ := partsM_sound hs hr
              have hx := aev_sound hs hv
              have hc := rv_cells hx h1
              have hji := Nat.eq_of_beq_eq_true hj
              subst hji
              refine ⟨a.eval x :: VS, by simp [g1], ?_, ?_, by simp [g4]⟩
              · have : Go.Vcg.flat (a.eval x :: VS) = (a.eval x).cells.toList ++ Go.Vcg.flat VS := by simp [Go.Vcg.flat]
                rw [this]
                exact rvs_append hc g2
              · intro u hu
                rcases List.mem_cons.1 hu with rfl | hu
                · have := rvs_length hc
                  have h2 := Nat.eq_of_beq_eq_true hl
                  rw [← h2, ← this]; simp
                · exact g3 u hu
            · cases e
          · cases e
        · cases e
      · cases e
    · cases e
def ebuild (P : Program) (N : Nat) (h : Heap) (b0 nx : Nat) (l : Sls) (t : TypeId) (n : Nat) (ps : List (Nat × Operand)) : Option Eff := match P.underlying t with
  | some (.slice el) => match sizeT P el with
    | some s => match zeroT P el with
      | some _ => match Nat.beq ps.length n with
        | true => match Nat.ble (n * s) 16777216 with
          | true => match Nat.blt n capU with
            | true => match partsM N l s 0 ps with
              | some cs => some (.val (.slice (some ⟨b0, 0, none⟩) n n) (hset h b0 (some (.cells cs el false))) nx)
              | none => none
            | false => none
          | false => none
        | false => none
      | none => none
    | none => none
  | _ => none
theorem ebuild_sound {b0 nx' : Nat} (r : Rel w0 ρ h nx w) (hf : Fresh ρ nx b0 nx') (hs : Sl N ρ l a) {t : TypeId} {n : Nat} {ps : List (Nat × Operand)} {f : Eff} (e : ebuild P N h b0 nx' l t n ps = some f) : Does P w0 ρ h b0 a w ⟨ds, .buildSlice t n ps.toArray, ty, pos, af, gd⟩ f := by
  unfold ebuild at e
  split at e
  · rename_i el hT
    split at e
    · rename_i s hsz
      split at e
      · rename_i z hz
        split at e
        · rename_i hl
          split at e
          · rename_i hb
            split at e
            · rename_i hu
              split at e
              · rename_i cs hp
                cases e
                obtain ⟨VS, g1, g2, g3, g4⟩ := partsM_sound hs hp
                have hl' := Nat.eq_of_beq_eq_true hl
                refine ⟨_, .slice (some ⟨w.heap.size, 0 + 0, none⟩) n n, _, ext_le hf.free, ext_other, Pr.set (Nat.lt_of_lt_of_le hf.lt hf.small) _, rv_slice_mk ext_same (blt_t hu), r.cells hf g2 el, ?_⟩
                have hr := run_buildSlice (P := P) VS hT hsz hz g3 (by rw [g4, hl']; exact ble_t hb) w
                generalize a.eval = ev at g1
                rw [g4, hl', ← g1] at hr
                simp [execOp, hr]
              · cases e
            · cases e
          · cases e
        · cases e
      · cases e
    · cases e
  · cases e
end
end
section
open Go.RowKit Go.MapKept
open Go.Vcg (Keep beq_ne aggOf sizeT zeroT bytesT add_lit callable run_zeroValue run_append_row run_append_call placesT placesL fold_set nat16_eq natB_eq)
section
variable {P : Program} {N : Nat} {w0 : World} {ρ : Env} {h : Heap} {l : Sls} {a : Act} {w : World} {nx : Nat}
variable {ds : Option Nat} {ty : TypeId} {pos : String} {af : Array Edge} {gd : Option (Nat × Bool)}
theorem fold_lay {off : Nat} {u : Value} {z : List Value} (hf : off + u.cells.size ≤ z.length) : (u.cells.zipIdx.foldl (fun cs (c, j) => cs.setIfInBounds (off + j) c) (⟨z⟩ : Array Value)) = ⟨z.take off ++ u.cells.toList ++ z.drop (off + u.cells.toList.length)⟩ := by
  apply Array.ext_getElem?
  intro k
  have := fold_set u.cells.toList off 0 ⟨z⟩ k
  have e : u.cells.zipIdx.foldl (fun cs (c, j) => cs.setIfInBounds (off + j) c) (⟨z⟩ : Array Value) = (u.cells.toList.zipIdx 0).foldl (fun (cs : Array Value) (p : Value × Nat) => cs.setIfInBounds (off + p.2) p.1) ⟨z⟩ := by
    rw [← Array.foldl_toList]; simp
  rw [e, this]
  have q := splice_get (xs := z) (vs := u.cells.toList) (off := off) (i := k) (by simpa using hf)
  simp only [List.getElem?_toArray, Nat.add_zero]
  rw [q]
  have hl : u.cells.toList.length = u.cells.size := by simp
  have hz : (⟨z⟩ : Array Value).size = z.length := rfl
  rw [hl, hz]
  by_cases h1 : off ≤ k ∧ k < off + u.cells.size ∧ k < z.length
  · rw [if_pos h1, if_neg (by omega), if_pos (by omega)]
  · rw [if_neg h1]
    by_cases h2 : k < off
    · rw [if_pos h2]
    · rw [if_neg h2, if_neg (by omega)]
def fillM (N : Nat) (l : Sls) (pl : List (Nat × Nat)) : List (Nat × Operand) → List Value → Option (List Value)
  | [], cs => some cs
  | (i, x) :: ps, cs => match nth pl i with
    | some (off, s) => match aev N l x with
      | some v => match (cellsOf v).all (·.oneCell') with
        | true => match Nat.beq (cellsOf v).length s with
          | true => match layD off (cellsOf v) cs with
            | some cs' => fillM N l pl ps cs'
            | none => none
          | false => none
        | false => none
      | none => none
    | none => none
theorem fillM_sound (hs : Sl N ρ l a) {pl : List (Nat × Nat)} : ∀ {ps : List (Nat × Operand)} {cs cs' CS : List Value}, rvs ρ cs = some CS → fillM N l pl ps cs = some cs' →
    ∃ CS', rvs ρ cs' = some CS' ∧ ∀ place : Nat → Option (Nat × Nat), (∀ i x, pl[i]? = some x → place i = some x) → Instr.fill place ⟨CS⟩ (ps.map fun (i, x) => (i, a.eval x)) = some ⟨CS'⟩
  | [], cs, cs', CS, hc, e => by unfold fillM at e; cases e; exact ⟨CS, hc, fun _ _ => rfl⟩
  | (i, x) :: ps, cs, cs', CS, hc, e => by
    unfold fillM at e
    split at e
    · rename_i off s hp
      split at e
      · rename_i v hv
        split at e
        · rename_i h1
          split at e
          · rename_i hl
            split at e
            · rename_i cs1 hlay
              have hx := rv_cells (aev_sound hs hv) h1
              obtain ⟨k1, k2⟩ := rvs_layD hc hx hlay
              obtain ⟨CS', g1, g2⟩ := fillM_sound hs k2 e
              refine ⟨CS', g1, fun place hpl => ?_⟩
              rw [nth_eq] at hp
              have hlen := rvs_length hx
              have hl' := Nat.eq_of_beq_eq_true hl
              have hsz : (a.eval x).cells.size = s := by rw [← hl', ← hlen]; simp
              simp only [List.map_cons, Instr.fill, hpl i _ hp]
              have h3 : (⟨CS⟩ : Array Value).size = CS.length := rfl
              rw [if_neg (by simp only [hsz, h3]; simp at k1; simp; omega), fold_lay (by simpa using k1)]
              exact g2 place hpl
            · cases e
          · cases e
        · cases e
      · cases e
    · cases e
def qbuild (P : Program) (N : Nat) (l : Sls) (t : TypeId) (ps : List (Nat × Operand)) : Option Value := match zeroT P t with
  | some z => match flat2 z with
    | true => match (cellsOf z).all (·.oneCell') with
      | true => match placesT P t with
        | some pl => match fillM N l pl ps (cellsOf z) with
          | some cs => some (.agg ⟨cs⟩)
          | none => none
        | none => none
      | false => none
    | false => none
  | none => none
theorem qbuild_sound (hs : Sl N ρ l a) {t : TypeId} {ps : List (Nat × Operand)} {v : Value} (e : qbuild P N l t ps = some v) : Yes P ρ a w ⟨ds, .build t ps.toArray, ty, pos, af, gd⟩ v := by
  unfold qbuild at e
  split at e
  · rename_i z hz
    split at e
    · rename_i hf
      split at e
      · rename_i h1
        split at e
        · rename_i pl hpl
          split at e
          · rename_i cs hc
            cases e
            obtain ⟨CS', g1, key⟩ := fillM_sound hs (rv_cells (rv_flat2 (ρ := ρ) hf) h1) hc
            refine ⟨.agg ⟨CS'⟩, by simp [rv, g1], ?_⟩
            generalize a.eval = ev at key
            have e2 : (ps.toArray.map fun (i, x) => (i, ev x)) = (ps.map fun (i, x) => (i, ev x)).toArray := by simp
            have hzc : (⟨z.cells.toList⟩ : Array Value) = z.cells := by simp
            rw [hzc] at key
            have hr : (Instr.build t (ps.map fun (i, x) => (i, ev x)).toArray).run P w = .ok (.agg ⟨CS'⟩) w := by
              unfold placesT at hpl
              cases hu : P.underlying t with
              | none => simp [hu] at hpl
              | some de =>
                cases de <;> simp [hu] at hpl
                · rename_i m e
                  cases hsz : sizeT P e with
                  | none => simp [hsz] at hpl
                  | some s =>
                    simp only [hsz, Option.some.injEq] at hpl
                    have hk := key (fun i => some (i * s, s)) (fun i x hx => by
                      rw [← hpl] at hx
                      rw [List.getElem?_map] at hx
                      cases hr : (List.range m)[i]? with
                      | none => simp [hr] at hx
                      | some k =>
                        obtain ⟨hk1, hk2⟩ := List.getElem?_eq_some_iff.1 hr
                        rw [List.getElem_range] at hk2
                        subst hk2
                        simp [hr] at hx
                        simp [hx])
                    simp [Instr.build, run_zeroValue hz, run_underlying hu, Go.Vcg.run_sizeOf hsz, hk]
                · rename_i fields
                  have hm : (fields.mapM (m := Sem) fun f => do pure (f.offset, ← sizeOf f.type)).run P w = .ok pl.toArray w := by
                    rw [Array.mapM_eq_mapM_toList]
                    simp [Go.Vcg.run_places _ _ hpl]
                  have hk := key (fun i => pl.toArray[i]?) (fun i x hx => by simpa using hx)
                  simp only [Instr.build, Sem.run_bind, run_zeroValue hz, Result.andThen_ok, run_underlying hu, hm, hk]
                  rfl
            simp only [execOp, e2]
            simp only [Sem.run_bind, hr, Result.andThen_ok]; rfl
          · cases e
        · cases e
      · cases e
    · cases e
  · cases e
end
end
section
open Go.RowKit Go.MapKept
open Go.Vcg (Keep beq_ne aggOf sizeT zeroT bytesT add_lit callable run_zeroValue run_append_row run_append_call nat16_eq natB_eq lookV run_lookup_own)
theorem capU_big : 33554432 < capU := by unfold capU; decide
attribute [local irreducible] capU
section
variable {P : Program} {N : Nat} {w0 : World} {ρ : Env} {h : Heap} {l : Sls} {a : Act} {w : World} {nx : Nat}
variable {ds : Option Nat} {ty : TypeId} {pos : String} {af : Array Edge} {gd : Option (Nat × Bool)}
def srcM (h : Heap) (s : Nat) (v : Value) : Option (Nat × List Value) := match v with
  | .slice none 0 _ => some (0, [])
  | .slice (some ⟨b, o, none⟩) m _ => match m with
    | 0 => some (0, [])
    | m + 1 => match hcells h b with
      | some cs => match takeD o ((m + 1) * s) cs with
        | some xs => match xs.all (·.oneCell') with
          | true => some (m + 1, xs)
          | false => none
        | none => none
      | none => none
  | _ => none
theorem srcM_sound (hk : HeapOk ρ h w) {s m : Nat} {v V : Value} {xs : List Value} (hv : rv ρ v = some V) (e : srcM h s v = some (m, xs)) :
    ∃ A c NS, V = .slice A m c ∧ (A = none → m = 0 ∧ NS = []) ∧ rvs ρ xs = some NS ∧ NS.length = m * s ∧ (∀ u ∈ NS, u.oneCell' = true) ∧ ∀ ad, A = some ad → ∀ j u, NS[j]? = some u → w.cell? (ad.add j) = some u := by
  unfold srcM at e
  split at e
  · cases e
    cases rv_nil hv rfl
    exact ⟨none, _, [], rfl, fun _ => ⟨rfl, rfl⟩, by simp [rvs], by simp, by simp, by simp⟩
  · rename_i b o m' c
    obtain ⟨B, C, O, hb, h1⟩ := rv_slice hv
    have h2 : ∃ c', V = .slice (some ⟨B, O + o, none⟩) m' c' := by
      rcases h1 with ⟨_, rfl⟩ | ⟨_, _, rfl⟩ <;> exact ⟨_, rfl⟩
    obtain ⟨c', rfl⟩ := h2
    split at e
    · cases e
      exact ⟨_, _, [], rfl, by simp, by simp [rvs], by simp, by simp, by simp⟩
    · rename_i m
      split at e
      · rename_i cs hc
        split at e
        · rename_i xs' hx
          split at e
          · rename_i hall
            cases e
            obtain ⟨B', C', CS, g1, g2, g3⟩ := hcells_sound hk hc
            rw [hb] at g1
            cases g1
            obtain ⟨XS, k1, k2, k3⟩ := rvs_takeD g2 hx
            refine ⟨_, _, XS, rfl, by simp, k1, k2, rvs_one k1 hall, fun ad hA j u hu => ?_⟩
            cases hA
            rw [add_lit, Nat.zero_add]
            exact g3 _ _ (k3 j u hu)
          · cases e
        · cases e
      · cases e
  · cases e
theorem run_append_zero {t e : TypeId} {s : Nat} (ht : P.underlying t = some (.slice e)) (hs : sizeT P e = some s) {A B : Option Addr} {n c c2 : Nat} (hn : n ≤ c) : (Builtin.append_ #[t, t] ty #[.slice A n c, .slice B 0 c2]).run P w = .ok (.slice A n c) w := by
  have hl : ∀ b : Addr, (loadCells b 0).run P w = .ok #[] w := fun b => run_loadCells_list w b [] (by simp)
  have hz := Go.Vcg.run_sizeOf (P := P) hs
  rcases A with _ | A <;> rcases B with _ | B <;> simp [Builtin.append_, run_underlying ht, hz, Builtin.lenOf, Builtin.firstCells, hn, storeCells, hl]
def eappend (P : Program) (h : Heap) (b0 nx0 nx : Nat) (t : TypeId) (u v : Value) : Option Eff := match P.underlying t with
  | some (.slice e) => match sizeT P e with
    | some s => match srcM h s v with
      | some (0, _) => match u with
        | .slice none 0 0 => some (.val u h nx0)
        | .slice (some ⟨_, _, none⟩) n c => match Nat.ble n c with
          | true => some (.val u h nx0)
          | false => none
        | _ => none
      | some (m + 1, xs) => match zeroT P e with
          | some z => match Nat.beq z.cells.size s with
            | true => match bytesT P e with
              | some bytes => match Nat.blt 0 s with
                | true => match u with
                  | .slice none 0 0 => match Nat.ble ((m + 1) * bytes) 16777216 with
                    | true => match Nat.ble (m + 1) 16777216 with
                      | true => some (.val (.slice (some ⟨b0, 0, none⟩) (m + 1) capU) (hset h b0 (some (.row xs e s))) nx)
                      | false => none
                    | false => none
                  | .slice (some ⟨b, o, none⟩) n c => match Nat.ble ((n + (m + 1)) * bytes) 16777216 with
                    | true => match Nat.ble (n + (m + 1)) 16777216 with
                      | true => match Nat.beq c capU with
                        | true => match hget h b with
                          | some (.row cs t' s') => match Nat.beq o 0 with
                            | true => match Nat.beq t' e with
                              | true => match Nat.beq s' s with
                                | true => match Nat.beq cs.length (n * s) with
                                  | true => some (.val (.slice (some ⟨b0, 0, none⟩) (n + (m + 1)) capU) (hset (hset h b none) b0 (some (.row (cs ++ xs) e s))) nx)
                                  | false => none
                                | false => none
                              | false => none
                            | false => none
                          | _ => none
                        | false => match Nat.blt c (n + (m + 1)) with
                          | true => match Nat.beq n 0 with
                            | true => some (.val (.slice (some ⟨b0, 0, none⟩) (n + (m + 1)) capU) (hset h b0 (some (.row xs e s))) nx)
                            | false => match hcells h b with
                              | some cs => match takeD o (n * s) cs with
                                | some ys => some (.val (.slice (some ⟨b0, 0, none⟩) (n + (m + 1)) capU) (hset h b0 (some (.row (ys ++ xs) e s))) nx)
                                | none => none
                              | none => none
                          | false => none
                      | false => none
                    | false => none
                  | _ => none
                | false => none
              | none => none
            | false => none
          | none => none
      | none => none
    | none => none
  | _ => none
theorem row_new {CS : List Value} {z : Value} {s C n : Nat} (hz : z.cells.size = s) (hl : CS.length = n * s) (hn : n ≤ C) :
    (CS.toArray ++ Builtin.zeroCells z.cells (C - n)).size = C * s ∧ CS.length ≤ (CS.toArray ++ Builtin.zeroCells z.cells (C - n)).size ∧ (CS.toArray ++ Builtin.zeroCells z.cells (C - n)).toList.take CS.length = CS := by
  refine ⟨?_, by simp, by simp⟩
  simp only [Array.size_append, size_zeroCells, hz, List.size_toArray, hl]
  rw [← Nat.add_mul]
  congr 1
  omega
theorem append_own {b0 nx' : Nat} (r : Rel w0 ρ h nx w) (hf : Fresh ρ nx b0 nx') {t el : TypeId} {s bytes : Nat} {z : Value} (hT : P.underlying t = some (.slice el)) (hs : sizeT P el = some s) (hz : zeroT P el = some z) (hzs : z.cells.size = s) (hby : bytesT P el = some bytes) (hpos : 0 < s)
    {b B C n m c2 : Nat} {cs xs NS : List Value} {ad : Addr} (hg : hget h b = some (.row cs el s)) (hb : ρ b = some (B, C, 0)) (hobj : ObjOk ρ C (.row cs el s) w.heap[B]?) (hcl : cs.length = n * s) (hnC : n ≤ C)
    (hNS : rvs ρ xs = some NS) (hlen : NS.length = (m + 1) * s) (hcell : ∀ j u, NS[j]? = some u → w.cell? (ad.add j) = some u) (hone : ∀ u ∈ NS, u.oneCell' = true) (hb1 : (n + (m + 1)) * bytes ≤ 16777216) (hb2 : n + (m + 1) ≤ 16777216) :
    ∃ ρ' V w', ELe ρ ρ' ∧ (∀ c, c ≠ b0 → ρ' c = ρ c) ∧ rv ρ' (.slice (some ⟨b0, 0, none⟩) (n + (m + 1)) capU) = some V ∧ Rel w0 ρ' (hset (hset h b none) b0 (some (.row (cs ++ xs) el s))) nx' w' ∧ (Builtin.append_ #[t, t] ty #[.slice (some ⟨B, 0, none⟩) n C, .slice (some ad) (m + 1) c2]).run P w = .ok V w' := by
  obtain ⟨CS, arr, g1, g2, g3, g4, g5, g6⟩ := hobj
  have hCl := rvs_length g1
  have hown : w.ownsRow 0 el s (.slice (some ⟨B, 0, none⟩) n C) n CS :=
    ⟨by omega, .inr ⟨B, C, arr, rfl, Nat.zero_le _, g2, hnC, g4, g3, by rw [← hcl, ← hCl]; exact g6⟩⟩
  obtain ⟨v', w', r1, r2, r3, r4⟩ := run_append_row (P := P) (ty := ty) (w := w) (t := t) hT hs hz (by simpa using hzs) hby hpos hown (A := some ad) (m := m + 1) (c := c2) (news := NS) hlen (by simp) (fun ad' e' => by cases e'; exact hcell) hone (by omega) (by omega)
  have hBlt : B < w.heap.size := (Array.getElem?_eq_some_iff.1 g2).1
  have hB0 := r.own b _ hg rfl B C hb
  rcases r2.2 with ⟨h1, h2⟩ | ⟨g, cap, cur, hv', _, k1, k2, k3, k4, k5⟩
  · omega
  subst hv'
  have hgB : g = B ∨ g = w.heap.size := by
    rcases r4 with r4 | r4
    · left; simp only [Value.ownBlock, Option.some.injEq] at r4; exact r4
    · right; simp only [Value.ownBlock, Option.some.injEq] at r4; exact r4
  have fr : Fr2 g B w w' := ⟨r3.os, r3.tape, r3.output, r3.size, fun k hk _ hkB => r3.block k hk (by simp only [Value.ownBlock, ne_eq, Option.some.injEq]; exact fun e => hkB (by omega))⟩
  have hfreeB : ∀ c o C', hget (hset h b none) c = some o → ρ c = some (B, C', 0) → False := fun c o C' e1 e2 => by
    by_cases hcb : c = b
    · subst hcb; rw [hget_set_same (hget_lt hg)] at e1; cases e1
    · rw [hget_set_other (hget_lt hg) hcb] at e1
      exact hcb (r.inj c b o _ B C' C e1 hg e2 hb)
  have hfreeg : ∀ c o C', hget (hset h b none) c = some o → ρ c = some (g, C', 0) → False := fun c o C' e1 e2 => by
    rcases hgB with rfl | rfl
    · exact hfreeB c o C' e1 e2
    · exact (r.drop (hget_lt hg)).noSize c o C' e1 e2
  have hg0 : w0.heap.size ≤ g := by
    rcases hgB with rfl | rfl
    · exact hB0
    · exact r.keep.size
  have hrow := rvs_append g1 hNS
  have hll : (CS ++ NS).length = (n + (m + 1)) * s := by rw [List.length_append, hlen, hown.1, ← Nat.add_mul]
  have hfit : (n + (m + 1)) * s ≤ cap * s := Nat.mul_le_mul_right _ k2
  have hle := ext_le (x := (g, cap, 0)) hf.free
  have hobj' : ObjOk (ext ρ b0 (g, cap, 0)) cap (.row (cs ++ xs) el s) w'.heap[g]? :=
    ⟨CS ++ NS, cur, rvs_mono hle hrow, k1, k4, k3, by rw [hll, k4]; exact hfit, by rw [hll]; exact k5⟩
  refine ⟨_, _, w', hle, ext_other, ?_, (r.drop (hget_lt hg)).put2 hf rfl fr hg0 hB0 hfreeB hfreeg hobj', r1⟩
  have := rv_slice_mku (ρ := ext ρ b0 (g, cap, 0)) (b := b0) (o := 0) (n := n + (m + 1)) (c := capU) ext_same (Nat.le_refl _) (by rw [Nat.sub_self]; omega)
  rw [this]
  simp
set_option maxHeartbeats 1000000 in
theorem eappend_sound {b0 nx' : Nat} (r : Rel w0 ρ h nx w) (hf : Fresh ρ nx b0 nx') {t : TypeId} {x y : Operand} {u v : Value} {f : Eff} (hu : rv ρ u = some (a.eval x)) (hv : rv ρ v = some (a.eval y)) (e : eappend P h b0 nx nx' t u v = some f) :
    Does P w0 ρ h b0 a w ⟨ds, .call { callee := .builtin .append, args := #[x, y], argTypes := #[t, t] }, ty, pos, af, gd⟩ f := by
  have call : ∀ {V' w'}, (Builtin.append_ #[t, t] ty #[a.eval x, a.eval y]).run P w = .ok V' w' → (execOp a.eval ⟨ds, .call { callee := .builtin .append, args := #[x, y], argTypes := #[t, t] }, ty, pos, af, gd⟩).run P w = .ok (.value V') w' :=
    fun hr => run_append_call rfl rfl hr
  unfold eappend at e
  split at e
  · rename_i el hT
    split at e
    · rename_i s hs
      split at e
      · rename_i xs0 hsrc
        obtain ⟨A, c2, NS, hV, _⟩ := srcM_sound r.ok hv hsrc
        split at e
        · cases e
          have hU := rv_nil hu rfl
          refine ⟨ρ, _, w, ELe.refl _, fun _ _ => rfl, Pr.refl _, hu, r, call ?_⟩
          rw [hV, hU]
          exact run_append_zero hT hs (Nat.le_refl _)
        · rename_i b o n c
          split at e
          · rename_i hnc
            cases e
            refine ⟨ρ, _, w, ELe.refl _, fun _ _ => rfl, Pr.refl _, hu, r, call ?_⟩
            obtain ⟨B, C, O, hb, h1⟩ := rv_slice hu
            rcases h1 with ⟨_, h1⟩ | ⟨_, h2, h1⟩
            · rw [hV, h1]; exact run_append_zero hT hs (ble_t hnc)
            · rw [hV, h1]; exact run_append_zero hT hs (by omega)
          · cases e
        · cases e
      · rename_i m xs hsrc
        obtain ⟨A, c2, NS, hV, hA0, hNS, hlen, hone, hcell⟩ := srcM_sound r.ok hv hsrc
        have hA : ∃ ad, A = some ad := by
          cases A with
          | none => exact absurd (hA0 rfl).1 (by omega)
          | some ad => exact ⟨ad, rfl⟩
        obtain ⟨ad, rfl⟩ := hA
        have hcell := hcell ad rfl
        have hbs : b0 < 1048576 := Nat.lt_of_lt_of_le hf.lt hf.small
        by_cases hdummy : True
        · split at e
          · rename_i z hz
            split at e
            · rename_i hzs
              have hzs := Nat.eq_of_beq_eq_true hzs
              split at e
              · rename_i bytes hby
                split at e
                · rename_i hpos
                  have hpos := blt_t hpos
                  have hinfo : ∃ i, P.info? el = some i ∧ i.zero = some z ∧ i.size = s ∧ i.bytes = bytes := by
                    unfold sizeT at hs
                    unfold zeroT at hz
                    unfold bytesT at hby
                    cases hi : P.info? el with
                    | none => simp [hi] at hs
                    | some i =>
                      simp [hi, nat16_eq] at hs
                      simp [hi] at hz
                      simp [hi, natB_eq] at hby
                      exact ⟨i, rfl, hz, hs, hby⟩
                  obtain ⟨i, hi, hiz, his, hib⟩ := hinfo
                  split at e
                  · -- onto nothing
                    split at e
                    · rename_i hb1
                      have hb1 := ble_t hb1
                      split at e
                      · rename_i hb2
                        have hb2 := ble_t hb2
                        cases e
                        have hU := rv_nil hu rfl
                        have hr := Go.run_append_nil (P := P) w t ty el i z hT hi hiz ad (m + 1) c2 NS (by rw [his]; exact hlen) hcell (by omega) (by omega) (by rw [hib]; omega)
                        have hC1 := grownCap_ge w (m + 1) 0 el
                        have hC2 := grownCap_le_maxLen w (m + 1) 0 el (by simp only [maxLen]; omega)
                        obtain ⟨q1, q2, q3⟩ := row_new hzs hlen hC1
                        refine ⟨_, _, _, ext_le hf.free, ext_other, Pr.set hbs _, ?_, r.row hf hNS el q1 hC2 q2 q3, call (by rw [hV, hU]; exact hr)⟩
                        have := rv_slice_mku (ρ := ext ρ b0 (w.heap.size, grownCap w (m + 1) 0 el, 0)) (b := b0) (o := 0) (n := m + 1) (c := capU) ext_same (Nat.le_refl _) (by rw [Nat.sub_self]; omega)
                        rw [this]
                        simp
                      · cases e
                    · cases e
                  · rename_i b o n c
                    obtain ⟨B, C, O, hb, hU⟩ := rv_slice hu
                    split at e
                    · rename_i hb1
                      have hb1 := ble_t hb1
                      split at e
                      · rename_i hb2
                        have hb2 := ble_t hb2
                        split at e
                        · rename_i hc
                          have hc := Nat.eq_of_beq_eq_true hc
                          subst hc
                          split at e
                          · rename_i cs t' s' hg
                            split at e
                            · rename_i ho
                              split at e
                              · rename_i ht'
                                split at e
                                · rename_i hs'
                                  split at e
                                  · rename_i hcl
                                    have ho := Nat.eq_of_beq_eq_true ho
                                    have ht' := Nat.eq_of_beq_eq_true ht'
                                    have hs' := Nat.eq_of_beq_eq_true hs'
                                    have hcl := Nat.eq_of_beq_eq_true hcl
                                    subst ho
                                    subst ht'
                                    subst hs'
                                    cases e
                                    rcases hU with ⟨hlt, _⟩ | ⟨_, hnC, hU⟩
                                    · exact absurd hlt (Nat.lt_irrefl _)
                                    rw [Nat.sub_self, Nat.add_zero] at hnC
                                    rw [Nat.sub_self, Nat.sub_zero, Nat.add_zero] at hU
                                    obtain ⟨B', C', hB', hobj⟩ := r.ok b _ hg
                                    rw [hb] at hB'
                                    cases hB'
                                    obtain ⟨ρ', V', w', q1, q0, q2, q3, q4⟩ := append_own (P := P) (ty := ty) r hf hT hs hz hzs hby hpos hg hb hobj hcl hnC hNS hlen hcell hone hb1 hb2 (c2 := c2)
                                    exact ⟨ρ', V', w', q1, q0, (Pr.set (hget_lt hg) _).trans (Pr.set hbs _), q2, q3, call (by rw [hV, hU]; exact q4)⟩
                                  · cases e
                                · cases e
                              · cases e
                            · cases e
                          · cases e
                        · rename_i hcne
                          have hcne := Nat.ne_of_beq_eq_false hcne
                          split at e
                          · rename_i hcl
                            have hcl := blt_t hcl
                            have hclU : c < capU ∧ a.eval x = .slice (some ⟨B, O + o, none⟩) n c := by
                              rcases hU with hU | ⟨hcu, _⟩
                              · exact hU
                              · exact absurd hcl (by have := capU_big; omega)
                            have fin : ∀ (ys YS : List Value), rvs ρ ys = some YS → YS.length = n * s → (∀ j V, YS[j]? = some V → w.cell? ((⟨B, O + o, none⟩ : Addr).add j) = some V) →
                                Does P w0 ρ h b0 a w ⟨ds, .call { callee := .builtin .append, args := #[x, y], argTypes := #[t, t] }, ty, pos, af, gd⟩ (.val (.slice (some ⟨b0, 0, none⟩) (n + (m + 1)) capU) (hset h b0 (some (.row (ys ++ xs) el s))) nx') := fun ys YS hys hyl hyc => by
                              have hr := Go.run_append_grow (P := P) w t ty el i z hT hi hiz ⟨B, O + o, none⟩ n c YS (by rw [his]; exact hyl) hyc ad (m + 1) c2 NS (by rw [his]; exact hlen) hcell hcl (by omega) (growslice_fits hcl (by rw [hib]; omega))
                              have hC1 := grownCap_ge w (n + (m + 1)) c el
                              have hC2 := grownCap_le_maxLen w (n + (m + 1)) c el (by simp only [maxLen]; omega)
                              have hl2 : (YS ++ NS).length = (n + (m + 1)) * s := by rw [List.length_append, hlen, hyl, ← Nat.add_mul]
                              obtain ⟨q1, q2, q3⟩ := row_new hzs hl2 hC1
                              have eA : YS.toArray ++ NS.toArray = (YS ++ NS).toArray := by simp
                              rw [eA] at hr
                              refine ⟨_, _, _, ext_le hf.free, ext_other, Pr.set hbs _, ?_, r.row hf (rvs_append hys hNS) el q1 hC2 q2 q3, call (by rw [hV, hclU.2]; exact hr)⟩
                              have := rv_slice_mku (ρ := ext ρ b0 (w.heap.size, grownCap w (n + (m + 1)) c el, 0)) (b := b0) (o := 0) (n := n + (m + 1)) (c := capU) ext_same (Nat.le_refl _) (by rw [Nat.sub_self]; omega)
                              rw [this]
                              simp
                            split at e
                            · rename_i hn0
                              have hn0 := Nat.eq_of_beq_eq_true hn0
                              subst hn0
                              cases e
                              exact fin [] [] (by simp [rvs]) (by simp) (by simp)
                            · split at e
                              · rename_i cs hc'
                                split at e
                                · rename_i ys hy
                                  cases e
                                  obtain ⟨B', C', CS, g1, g2, g3⟩ := hcells_sound r.ok hc'
                                  rw [hb] at g1
                                  cases g1
                                  obtain ⟨YS, k1, k2, k3⟩ := rvs_takeD g2 hy
                                  exact fin ys YS k1 k2 (fun j V hj => by rw [add_lit, Nat.zero_add]; exact g3 _ _ (k3 j V hj))
                                · cases e
                              · cases e
                          · cases e
                      · cases e
                    · cases e
                  · cases e
                · cases e
              · cases e
            · cases e
          · cases e
        · exact absurd trivial hdummy
      · cases e
    · cases e
  · cases e
end
end
end Go.Rex
namespace Go.Vcg
open Go.RowKit Go.MapKept
section
variable {P : Program} {w : World}
theorem run_checkKey_scalar {f : Field} {x : Value} (e : Bool) (n : Nat) (hc : fcode P f = codeOf x) : (Instr.checkKey e (n + 1) f.type x).run P w = .ok () w := by
  unfold fcode at hc
  unfold Instr.checkKey
  cases hu : P.underlying f.type with
  | none => rw [hu] at hc; cases x <;> simp [codeOf] at hc
  | some d =>
    rw [hu] at hc
    simp only [Sem.run_bind, run_underlying hu, Result.andThen_ok]
    cases d <;> cases x <;> simp [codeOf] at hc <;> simp
theorem run_checkFields (e : Bool) (n : Nat) (XS : Array Value) : ∀ (fs : List Field) (k : Nat) (xs : List Value), fieldsOk P k fs (xs.map codeOf) = true → (∀ j v, xs[j]? = some v → XS[k + j]? = some v) →
    (forIn fs PUnit.unit fun (f : Field) (_ : PUnit) => (if f.name ≠ "_" then (do let y ← part f.type XS f.offset; Instr.checkKey e (n + 1) f.type y; pure (ForInStep.yield PUnit.unit)) else (do pure PUnit.unit; pure (ForInStep.yield PUnit.unit)) : Sem (ForInStep PUnit))).run P w = .ok PUnit.unit w
  | [], _, _, _, _ => by simp
  | f :: fs, k, [], h, _ => by simp [fieldsOk] at h
  | f :: fs, k, x :: xs, h1, hX => by
    simp only [List.map_cons, fieldsOk, Bool.and_eq_true, Bool.not_eq_true'] at h1
    obtain ⟨⟨⟨hn, ho⟩, hc⟩, hr⟩ := h1
    have hoff : f.offset = k := Nat.eq_of_beq_eq_true ho
    have hcode : fcode P f = codeOf x := Nat.eq_of_beq_eq_true hc
    have hname : f.name ≠ "_" := by simpa using hn
    have hx0 := hX 0 x rfl
    simp only [Nat.add_zero] at hx0
    have hag : aggOf P f.type = some false := by
      unfold fcode at hcode
      unfold aggOf
      cases hu : P.underlying f.type with
      | none => rw [hu] at hcode; cases x <;> simp [codeOf] at hcode
      | some de => rw [hu] at hcode; cases de <;> first | rfl | (cases x <;> simp [codeOf] at hcode)
    have ih := run_checkFields e n XS fs (k + 1) xs hr (fun j v hj => by rw [show k + 1 + j = k + (j + 1) by omega]; exact hX (j + 1) v (by simpa using hj))
    simp only [List.forIn_cons, hname, ne_eq, not_false_eq_true, if_true, Sem.run_bind, hoff, run_partScalar hag hx0, Result.andThen_ok, run_checkKey_scalar e n hcode, Sem.run_pure]
    exact ih
def keyS (P : Program) (t : TypeId) (xs : List Value) : Bool := match P.underlying t with
  | some (.struct fs) => fieldsOk P 0 fs.toList (xs.map codeOf) && !(P.stoodInHeld t)
  | _ => false
theorem run_checkKey_agg {t : TypeId} {xs : List Value} (e : Bool) (h : keyS P t xs = true) : (Instr.checkKey e 10000 t (.agg xs.toArray)).run P w = .ok () w := by
  unfold keyS at h
  split at h
  · rename_i fs hu
    simp only [Bool.and_eq_true] at h
    unfold Instr.checkKey
    simp only [Sem.run_bind, run_underlying hu, Result.andThen_ok]
    rw [← Array.forIn_toList]
    have := run_checkFields (P := P) (w := w) e 9998 xs.toArray fs.toList 0 xs h.1 (fun j v hj => by simpa using hj)
    simp at this ⊢
    rw [this]
    rfl
  · cases h
theorem keyS_equal {t : TypeId} {xs ys : List Value} (h : keyS P t xs = true) (hv : okVs xs ys = true) : (Op.equal t (.agg xs.toArray) (.agg ys.toArray)).run P w = .ok (eqVs xs ys) w := by
  unfold keyS at h
  split at h
  · rename_i fs hu
    simp only [Bool.and_eq_true, Bool.not_eq_true'] at h
    have hf : P.fieldsOf t = fs := by unfold Program.fieldsOf; rw [hu]
    have hu2 : P.underlying t = some (.struct (P.fieldsOf t)) := by rw [hf]; exact hu
    exact run_equal_agg hu2 h.2 (by rw [hf]; exact h.1) hv w
  · cases h
def findS (xs : List Value) : List MapEntry → Nat → Option (Option (Nat × Value))
  | [], _ => some none
  | e :: es, i => match e.key with
    | .agg ⟨ys⟩ => match okVs xs ys with
      | true => match eqVs xs ys with
        | true => some (some (i, e.val))
        | false => findS xs es (i + 1)
      | false => none
    | _ => none
theorem findAsking_sound {t : TypeId} {xs : List Value} (h : keyS P t xs = true) : ∀ {es : List MapEntry} {i : Nat} {r : Option (Nat × Value)}, findS xs es i = some r → (Instr.findAsking t (.agg xs.toArray) es i).run P w = .ok r w
  | [], i, r, e => by
    unfold findS at e; cases e
    simp [Instr.findAsking]
  | ⟨k, v, b⟩ :: es, i, r, e => by
    unfold findS at e
    split at e
    · rename_i ys hk
      dsimp only at hk
      subst hk
      split at e
      · rename_i hok
        have he := keyS_equal (w := w) h hok
        split at e
        · rename_i heq
          cases e
          rw [heq] at he
          have he' : (Op.equal t (.agg xs.toArray) (.agg { toList := ys })).run P w = .ok true w := he
          simp [Instr.findAsking, he']
        · rename_i heq
          rw [heq] at he
          have he' : (Op.equal t (.agg xs.toArray) (.agg { toList := ys })).run P w = .ok false w := he
          have ih := findAsking_sound h e
          simp [Instr.findAsking, he', ih]
      · cases e
    · cases e
theorem findKeyS_sound {t : TypeId} {xs : List Value} (h : keyS P t xs = true) {es : List MapEntry} {r : Option (Nat × Value)} (e : findS xs es 0 = some r) : (Instr.findKey t (.agg xs.toArray) es).run P w = .ok r w := by
  have hk := h
  unfold keyS at hk
  split at hk
  · rename_i fs hu
    cases es with
    | nil =>
      unfold findS at e; cases e
      simp [Instr.findKey, run_underlying hu, Instr.findNow]
    | cons x es =>
      have := findAsking_sound (w := w) h e
      have hn : Instr.findNow (.struct fs) (.agg xs.toArray) (x :: es) 0 = none := by unfold Instr.findNow Instr.sameNow; rfl
      simp [Instr.findKey, run_underlying hu, hn, this]
  · cases hk
theorem run_lookup_ownS {t kt et : TypeId} {b ck : Nat} {es : List MapEntry} {xs : List Value} {v : Value} {ok c : Bool} (ht : P.underlying t = some (.map kt et)) (hkey : keyS P kt xs = true)
    (hb : w.heap[b]? = some (.map es.toArray ck)) (hf : lookV P et (findS xs es 0) = some (v, ok)) : (Instr.lookup t (.map (some b)) (.agg xs.toArray) c).run P w = .ok (if c then .tuple #[v, .bool ok] else v) w := by
  cases hr : findS xs es 0 with
  | none => simp [hr, lookV] at hf
  | some r =>
    have h1 := findKeyS_sound (w := w) hkey hr
    have h2 := fun e => run_checkKey_agg (w := w) e hkey
    cases r with
    | none =>
      simp only [hr, lookV] at hf
      split at hf
      · rename_i z hz
        simp only [Option.some.injEq, Prod.mk.injEq] at hf
        obtain ⟨rfl, rfl⟩ := hf
        simp [Instr.lookup, run_underlying ht, MapKept.run_getObj_map hb, h1, h2, run_zeroValue hz]
      · cases hf
    | some p =>
      obtain ⟨n, x⟩ := p
      simp only [hr, lookV, Option.some.injEq, Prod.mk.injEq] at hf
      obtain ⟨rfl, rfl⟩ := hf
      simp [Instr.lookup, run_underlying ht, MapKept.run_getObj_map hb, h1, h2]
theorem run_mapUpdate_newS {t kt et : TypeId} {b ck : Nat} {es : List MapEntry} {xs : List Value} {v : Value} (ht : P.underlying t = some (.map kt et)) (hkey : keyS P kt xs = true)
    (hb : w.heap[b]? = some (.map es.toArray ck)) (hf : findS xs es 0 = some none) : (Instr.mapUpdate t (.map (some b)) (.agg xs.toArray) v).run P w = .ok () { w with heap := w.heap.setIfInBounds b (.map (es ++ [MapEntry.mk (.agg xs.toArray) v ck]).toArray (ck + 1)) } := by
  have h1 := findKeyS_sound (w := w) hkey hf
  have h2 := fun e => run_checkKey_agg (w := w) e hkey
  simp [Instr.mapUpdate, run_underlying ht, MapKept.run_getObj_map hb, h1, h2, MapKept.run_setObj_map _ hb]
end
end Go.Vcg
namespace Go.Proofs.YtoclmkdfcafhfaaGreatDoor
end Go.Proofs.YtoclmkdfcafhfaaGreatDoor
