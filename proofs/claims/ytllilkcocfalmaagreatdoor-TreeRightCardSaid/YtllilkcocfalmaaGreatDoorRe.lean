/- A machine for closed runs: the operations that change the world. No statement of the seat is proved here. -/
import Derived.Test.YtllilkcocfalmaaGreatDoorRd
set_option maxRecDepth 20000
namespace Go.Rex
open Go.RowKit Go.MapKept
open Go.Vcg (Keep beq_ne aggOf sizeT zeroT bytesT add_lit callable run_zeroValue run_append_row run_append_call run_buildSlice BP nat16_eq natB_eq)

theorem setRow_fr (w : World) (B : Nat) (cs : Array Value) : Fr B w (w.setRow B cs) := ⟨rfl, rfl, rfl, by simp, fun b _ hb => setRow_other w B b cs hb⟩

theorem splice_get {xs vs : List Value} {off i : Nat} (h : off + vs.length ≤ xs.length) : (xs.take off ++ vs ++ xs.drop (off + vs.length))[i]? = if i < off then xs[i]? else if i < off + vs.length then vs[i - off]? else xs[i]? := by
  have e1 : (xs.take off).length = off := by simp; omega
  by_cases h1 : i < off
  · rw [if_pos h1, List.append_assoc, List.getElem?_append_left (by omega), List.getElem?_take, if_pos h1]
  · rw [if_neg h1, List.append_assoc, List.getElem?_append_right (by omega), e1]
    by_cases h2 : i < off + vs.length
    · rw [if_pos h2, List.getElem?_append_left (by omega)]
    · rw [if_neg h2, List.getElem?_append_right (by omega), List.getElem?_drop]
      congr 1
      omega
section
variable {P : Program} {N : Nat} {w0 : World} {ρ : Env} {h : Heap} {l : Sls} {a : Act} {w : World} {nx : Nat}
variable {ds : Option Nat} {ty : TypeId} {pos : String} {af : Array Edge} {gd : Option (Nat × Bool)}

/-! stores -/
def hstore (h : Heap) (b off : Nat) (vs : List Value) : Option Heap := match hget h b with
  | some (.cells cs t false) => match layD off vs cs with
    | some cs' => some (hset h b (some (.cells cs' t false)))
    | none => none
  | some (.row cs t sz) => match layD off vs cs with
    | some cs' => some (hset h b (some (.row cs' t sz)))
    | none => none
  | _ => none
theorem hstore_sound (r : Rel w0 ρ h nx w) {b off : Nat} {vs VS : List Value} {h' : Heap} (e : hstore h b off vs = some h') (hv : rvs ρ vs = some VS) (h1 : ∀ u ∈ VS, u.oneCell' = true) :
    ∃ B C w', ρ b = some (B, C, 0) ∧ Pr h h' ∧ Rel w0 ρ h' nx w' ∧ ∀ t V, V.cells.toList = VS → sizeT P t = some VS.length → (Instr.storeAt t (.pointer (some ⟨B, off, none⟩)) V).run P w = .ok () w' := by
  have run : ∀ B (arr : Array Value) et t V, w.heap[B]? = some (.cells arr et (0, 0)) → off + VS.length ≤ arr.size → V.cells.toList = VS → sizeT P t = some VS.length →
      (Instr.storeAt t (.pointer (some ⟨B, off, none⟩)) V).run P w = .ok () (w.setRow B (arr.toList.take off ++ VS ++ arr.toList.drop (off + VS.length)).toArray) := fun B arr et t V hh hfit hV hsz => by
    have hrow := run_storeCells_at (P := P) B off et VS 0 arr w hh (by omega) h1
    have hl : V.cells.size = VS.length := by rw [← hV]; simp
    have hl' : ¬ V.cells.size ≠ VS.length := by simpa using hl
    simp only [Instr.storeAt, Instr.sureAddr, storeVar, Sem.run_bind, Sem.run_pure, Result.andThen_ok, Go.Vcg.run_sizeOf hsz, if_neg hl', hV]
    simpa using hrow
  unfold hstore at e
  split at e
  · rename_i cs t hg
    split at e
    · rename_i cs' hl
      cases e
      obtain ⟨B, C, hB, CS, g1, g2⟩ := r.ok b _ hg
      obtain ⟨k1, k2⟩ := rvs_layD g1 hv hl
      refine ⟨B, C, _, hB, Pr.set (hget_lt hg) _, r.upd hg rfl rfl hB (setRow_fr w B _) ⟨_, k2, ?_⟩, fun t' V hV hsz => run B CS.toArray t t' V g2 (by simpa using k1) hV hsz⟩
      exact setRow_heap w B CS.toArray _ t (0, 0) g2
    · cases e
  · rename_i cs t sz hg
    split at e
    · rename_i cs' hl
      cases e
      obtain ⟨B, C, hB, CS, arr, g1, g2, g3, g4, g5, g6⟩ := r.ok b _ hg
      obtain ⟨k1, k2⟩ := rvs_layD g1 hv hl
      have hlen : (CS.take off ++ VS ++ CS.drop (off + VS.length)).length = CS.length := by simp; omega
      refine ⟨B, C, _, hB, Pr.set (hget_lt hg) _, r.upd hg rfl rfl hB (setRow_fr w B _) ⟨_, _, k2, setRow_heap w B arr (arr.toList.take off ++ VS ++ arr.toList.drop (off + VS.length)).toArray t (0, 0) g2, ?_, g4, ?_, ?_⟩, fun t' V hV hsz => run B arr t t' V g2 (by omega) hV hsz⟩
      · rw [← g3]; simp; omega
      · rw [hlen]; simp; omega
      · rw [hlen]
        apply List.ext_getElem?
        intro i
        have hcs : ∀ i, i < CS.length → CS[i]? = arr[i]? := fun i hi => by rw [← g6, List.getElem?_take, if_pos hi]; simp
        rw [List.getElem?_take]
        by_cases hi : i < CS.length
        · rw [if_pos hi]
          have q1 := splice_get (xs := arr.toList) (vs := VS) (off := off) (i := i) (by simp; omega)
          have q2 := splice_get (xs := CS) (vs := VS) (off := off) (i := i) k1
          have q3 := hcs i hi
          rw [q1, q2]
          simp [q3]
        · rw [if_neg hi, List.getElem?_eq_none (by omega)]
    · cases e
  · cases e

inductive Eff where
  | val (v : Value) (h : Heap) (nx : Nat)
  | skip (h : Heap) (nx : Nat)
/-- what an effect of the machine says of the real one: 'b0' is the number that may come to stand for something -/
def Does (P : Program) (w0 : World) (ρ : Env) (h : Heap) (b0 : Nat) (a : Act) (w : World) (o : Oper) : Eff → Prop
  | .val v h' nx' => ∃ ρ' V w', ELe ρ ρ' ∧ (∀ c, c ≠ b0 → ρ' c = ρ c) ∧ Pr h h' ∧ rv ρ' v = some V ∧ Rel w0 ρ' h' nx' w' ∧ (execOp a.eval o).run P w = .ok (.value V) w'
  | .skip h' nx' => ∃ w', Pr h h' ∧ Rel w0 ρ h' nx' w' ∧ (execOp a.eval o).run P w = .ok .skip w'
theorem ext_other {ρ : Env} {b : Nat} {x : Nat × Nat × Nat} : ∀ c, c ≠ b → ext ρ b x c = ρ c := fun _ hc => ext_ne hc

def estore (P : Program) (h : Heap) (nx : Nat) (t : TypeId) (u v : Value) : Option Eff := match u with
  | .pointer (some ⟨b, o, none⟩) => match sizeT P t with
    | some n => match Nat.beq (cellsOf v).length n with
      | true => match (cellsOf v).all (·.oneCell') with
        | true => match hstore h b o (cellsOf v) with
          | some h' => some (.skip h' nx)
          | none => none
        | false => none
      | false => none
    | none => none
  | _ => none
theorem estore_sound (r : Rel w0 ρ h nx w) {t : TypeId} {x y : Operand} {u v : Value} {f : Eff} (hu : rv ρ u = some (a.eval x)) (hv : rv ρ v = some (a.eval y)) {b0 : Nat} (e : estore P h nx t u v = some f) : Does P w0 ρ h b0 a w ⟨ds, .store t x y, ty, pos, af, gd⟩ f := by
  unfold estore at e
  split at e
  · rename_i b o
    split at e
    · rename_i n hn
      split at e
      · rename_i hl
        split at e
        · rename_i h1
          split at e
          · rename_i h' hs
            cases e
            have hc := rv_cells hv h1
            obtain ⟨B, C, w', g1, gp, g2, g3⟩ := hstore_sound (P := P) r hs hc (rvs_one hc h1)
            obtain ⟨B', C', O', g4, g5⟩ := rv_ptr' hu
            rw [g1] at g4
            cases g4
            have hlen := rvs_length hc
            have hl' := Nat.eq_of_beq_eq_true hl
            have hr := g3 t (a.eval y) rfl (by rw [hn]; congr 1; omega)
            refine ⟨w', gp, g2, ?_⟩
            rw [Nat.zero_add] at g5
            generalize a.eval = ev at g5 hr
            simp [execOp, g5, hr]
          · cases e
        · cases e
      · cases e
    · cases e
  · cases e

/-! new blocks -/
def ebox (h : Heap) (b0 nx : Nat) (t : TypeId) (v : Value) : Option Eff := match (cellsOf v).all (·.oneCell') with
  | true => some (.val (.pointer (some ⟨b0, 0, none⟩)) (hset h b0 (some (.cells (cellsOf v) t false))) nx)
  | false => none
theorem rv_newptr {B C : Nat} {b : Nat} : rv (ext ρ b (B, C, 0)) (.pointer (some ⟨b, 0, none⟩)) = some (.pointer (some ⟨B, 0, none⟩)) := by simp [rv, ext_same]
theorem ebox_sound {b0 nx' : Nat} (r : Rel w0 ρ h nx w) (hf : Fresh ρ nx b0 nx') {t : TypeId} {x : Operand} {v : Value} {f : Eff} (hv : rv ρ v = some (a.eval x)) (e : ebox h b0 nx' t v = some f) : Does P w0 ρ h b0 a w ⟨ds, .box t x, ty, pos, af, gd⟩ f := by
  unfold ebox at e
  split at e
  · rename_i h1
    cases e
    have hc := rv_cells hv h1
    refine ⟨_, _, _, ext_le hf.free, ext_other, Pr.set (Nat.lt_of_lt_of_le hf.lt hf.small) _, rv_newptr, r.cells hf hc t, ?_⟩
    generalize a.eval = ev
    simp [execOp, Instr.box, newVar, newRow]
  · cases e
def ealloc (P : Program) (h : Heap) (b0 nx : Nat) (t : TypeId) : Option Eff := match zeroT P t with
  | some z => match flat2 z with
    | true => match (cellsOf z).all (·.oneCell') with
      | true => some (.val (.pointer (some ⟨b0, 0, none⟩)) (hset h b0 (some (.cells (cellsOf z) t false))) nx)
      | false => none
    | false => none
  | none => none
theorem ealloc_sound {b0 nx' : Nat} (r : Rel w0 ρ h nx w) (hf : Fresh ρ nx b0 nx') {t : TypeId} {f : Eff} (e : ealloc P h b0 nx' t = some f) : Does P w0 ρ h b0 a w ⟨ds, .alloc t, ty, pos, af, gd⟩ f := by
  unfold ealloc at e
  split at e
  · rename_i z hz
    split at e
    · rename_i hfl
      split at e
      · rename_i h1
        cases e
        have hc := rv_cells (rv_flat2 (ρ := ρ) hfl) h1
        refine ⟨_, _, _, ext_le hf.free, ext_other, Pr.set (Nat.lt_of_lt_of_le hf.lt hf.small) _, rv_newptr, r.cells hf hc t, ?_⟩
        generalize a.eval = ev
        simp [execOp, Instr.alloc, run_zeroValue hz, newVar, newRow]
      · cases e
    · cases e
  · cases e

/-! slice literals, all parts in order -/
def partsM (N : Nat) (l : Sls) (s : Nat) : Nat → List (Nat × Operand) → Option (List Value)
  | _, [] => some []
  | i, (j, x) :: ps => match Nat.beq j i with
    | true => match aev N l x with
      | some v => match (cellsOf v).all (·.oneCell') with
        | true => match Nat.beq (cellsOf v).length s with
          | true => match partsM N l s (i + 1) ps with
            | some r => some (cellsOf v ++ r)
            | none => none
          | false => none
        | false => none
      | none => none
    | false => none
theorem partsM_sound (hs : Sl N ρ l a) {s : Nat} : ∀ {ps : List (Nat × Operand)} {i : Nat} {cs : List Value}, partsM N l s i ps = some cs →
    ∃ VS : List Value, (ps.map fun (i, x) => (i, a.eval x)) = (VS.zipIdx i).map (fun p => (p.2, p.1)) ∧ rvs ρ cs = some (Go.Vcg.flat VS) ∧ (∀ v ∈ VS, v.cells.size = s) ∧ VS.length = ps.length
  | [], i, cs, e => by unfold partsM at e; cases e; exact ⟨[], by simp, by simp [rvs, Go.Vcg.flat], by simp, rfl⟩
  | (j, x) :: ps, i, cs, e => by
    unfold partsM at e
    split at e
    · rename_i hj
      split at e
      · rename_i v hv
        split at e
        · rename_i h1
          split at e
          · rename_i hl
            split at e
            · rename_i r hr
              cases e
              obtain ⟨VS, g1, g2, g3, g4⟩ := partsM_sound hs hr
              have hx := aev_sound hs hv
              have hc := rv_cells hx h1
              have hji := Nat.eq_of_beq_eq_true hj
              subst hji
              refine ⟨a.eval x :: VS, by simp [g1], ?_, ?_, by simp [g4]⟩
              · have : Go.Vcg.flat (a.eval x :: VS) = (a.eval x).cells.toList ++ Go.Vcg.flat VS := by simp [Go.Vcg.flat]
                rw [this]
                exact rvs_append hc g2
              · intro u hu
                rcases List.mem_cons.1 hu with rfl | hu
                · have := rvs_length hc
                  have h2 := Nat.eq_of_beq_eq_true hl
                  rw [← h2, ← this]; simp
                · exact g3 u hu
            · cases e
          · cases e
        · cases e
      · cases e
    · cases e
def ebuild (P : Program) (N : Nat) (h : Heap) (b0 nx : Nat) (l : Sls) (t : TypeId) (n : Nat) (ps : List (Nat × Operand)) : Option Eff := match P.underlying t with
  | some (.slice el) => match sizeT P el with
    | some s => match zeroT P el with
      | some _ => match Nat.beq ps.length n with
        | true => match Nat.ble (n * s) 16777216 with
          | true => match Nat.blt n capU with
            | true => match partsM N l s 0 ps with
              | some cs => some (.val (.slice (some ⟨b0, 0, none⟩) n n) (hset h b0 (some (.cells cs el false))) nx)
              | none => none
            | false => none
          | false => none
        | false => none
      | none => none
    | none => none
  | _ => none
theorem ebuild_sound {b0 nx' : Nat} (r : Rel w0 ρ h nx w) (hf : Fresh ρ nx b0 nx') (hs : Sl N ρ l a) {t : TypeId} {n : Nat} {ps : List (Nat × Operand)} {f : Eff} (e : ebuild P N h b0 nx' l t n ps = some f) : Does P w0 ρ h b0 a w ⟨ds, .buildSlice t n ps.toArray, ty, pos, af, gd⟩ f := by
  unfold ebuild at e
  split at e
  · rename_i el hT
    split at e
    · rename_i s hsz
      split at e
      · rename_i z hz
        split at e
        · rename_i hl
          split at e
          · rename_i hb
            split at e
            · rename_i hu
              split at e
              · rename_i cs hp
                cases e
                obtain ⟨VS, g1, g2, g3, g4⟩ := partsM_sound hs hp
                have hl' := Nat.eq_of_beq_eq_true hl
                refine ⟨_, .slice (some ⟨w.heap.size, 0 + 0, none⟩) n n, _, ext_le hf.free, ext_other, Pr.set (Nat.lt_of_lt_of_le hf.lt hf.small) _, rv_slice_mk ext_same (blt_t hu), r.cells hf g2 el, ?_⟩
                have hr := run_buildSlice (P := P) VS hT hsz hz g3 (by rw [g4, hl']; exact ble_t hb) w
                generalize a.eval = ev at g1
                rw [g4, hl', ← g1] at hr
                simp [execOp, hr]
              · cases e
            · cases e
          · cases e
        · cases e
      · cases e
    · cases e
  · cases e
end
end Go.Rex
