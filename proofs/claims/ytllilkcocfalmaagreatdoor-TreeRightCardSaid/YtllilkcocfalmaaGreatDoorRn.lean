/- A machine for closed runs: calls that are answered by a contract that reads or writes memory. No statement of the seat is proved here. -/
import Derived.Test.YtllilkcocfalmaaGreatDoorRm
import Derived.Lib.Join
set_option maxRecDepth 20000
namespace Go.Rex
open Go.RowKit
open Go.Vcg (Keep add_lit)
attribute [local irreducible] capU
def orCall (p q : CallF) : CallF := fun f vs h nx => match p f vs h nx with
  | some r => some r
  | none => q f vs h nx
def memoC (memo : Memo) : CallF := fun f vs h nx => match memo f vs with
  | some v => some (v, h, nx)
  | none => none
section
variable {P : Program} {qs : List FuncId} {N : Nat} {w0 : World} {ρ ρ' : Env} {h h' : Heap} {l : Sls} {a : Act} {w w' : World} {nx nx' : Nat}
theorem orCall_ok {p q : CallF} (hp : CallOk P w0 N p) (hq : CallOk P w0 N q) : CallOk P w0 N (orCall p q) := by
  intro ρ h nx f vs VS w v h' nx' e r hg hvs R' hR
  unfold orCall at e
  split at e
  · rename_i x hx
    cases e
    exact hp ρ h nx f vs VS w v h' nx' hx r hg hvs R' hR
  · exact hq ρ h nx f vs VS w v h' nx' e r hg hvs R' hR
theorem memoC_ok {memo : Memo} (hme : MemoOk P w0 memo) : CallOk P w0 N (memoC memo) := by
  intro ρ h nx f vs VS w v h2 nx2 e r hg hvs R' hR
  unfold memoC at e
  split at e
  · rename_i u hu
    cases e
    obtain ⟨h1, h3, h4⟩ := hme f vs v hu
    have hVS := rvs_flats_eq h1 hvs
    subst hVS
    refine (h4 w r.keep).mono fun e w' he => ?_
    obtain ⟨rfl, hb⟩ := he
    exact hR ρ v w' (Ev.refl _ _ _) (rv_flat2 h3) (r.after ⟨hb.os, hb.tape, hb.output, hb.size, fun b hb' _ => hb.block b hb'⟩)
  · cases e
def noMemo0 : Memo := fun _ _ => none
theorem noMemo0_ok : MemoOk P w0 noMemo0 := fun f vs v e => by cases e
def exP (P : Program) (N : Nat) (qs : List FuncId) (pr : CallF) (n : Nat) : CodeF :=
  Nat.rec (motive := fun _ => CodeF) (fun _ _ _ _ => none) (fun k ih => stepC P N qs (orCall pr (callB P noMemo0 ih)) ih k) n
theorem exP_ok (hm : P.follows .mixedOrders = true) (hq : ∀ f ∈ qs, QuietF P f) {pr : CallF} (hp : CallOk P w0 N pr) : ∀ n, ExOk P qs w0 N (exP P N qs pr n)
  | 0 => by intro c h nx l e h' nx' l' he; cases he
  | n + 1 => stepC_ok hm hq (orCall_ok hp (callB_ok noMemo0_ok (exP_ok hm hq hp n))) (exP_ok hm hq hp n) n
def runP (P : Program) (N : Nat) (qs : List FuncId) (pr : CallF) (ts : List (Nat × List Value)) (n : Nat) (f : FuncId) (vs : List Value) : Option Value := match orCall pr (callB P noMemo0 (exP P N qs pr n)) f vs (tabs ts) N with
  | some (v, _, _) => match flat2 v with
    | true => match flats vs with
      | true => some v
      | false => none
    | false => none
  | none => none
theorem runP_sound (hm : P.follows .mixedOrders = true) (hq : ∀ f ∈ qs, QuietF P f) {pr : CallF} (hp : CallOk P w N pr) (hN : N ≤ 1048576) {ts : List (Nat × List Value)} (ht : TabsOk N w ts) {n : Nat} {f : FuncId} {vs : List Value} {v : Value} (e : runP P N qs pr ts n f vs = some v) :
    Calls P f vs.toArray w fun e w' => e = .returned v ∧ Below w.heap.size w w' := by
  unfold runP at e
  split at e
  · rename_i u h2 nx2 hu
    split at e
    · rename_i hf
      split at e
      · rename_i hfs
        cases e
        obtain ⟨hr, hg⟩ := rel_start hN ht
        refine orCall_ok hp (callB_ok noMemo0_ok (exP_ok hm hq hp n)) _ _ _ f vs vs w v h2 nx2 hu hr hg (rvs_flats hfs) _ fun ρ' V w' hev hV hr' => ?_
        have := rv_flat2_eq hf hV
        subst this
        exact ⟨rfl, hr'.keep.below⟩
      · cases e
    · cases e
  · cases e

/-! strings.Builder's copyCheck -/
def primCC (f : FuncId) (T : TypeId) : CallF := fun g vs h nx => match Nat.beq g f with
  | true => match vs with
    | [.pointer (some ⟨b, o, none⟩)] => match Nat.beq o 0 with
      | true => match hget h b with
        | some (.cells [p, v] t false) => match Nat.beq t T with
          | true => match p with
            | .pointer none => some (.tuple ⟨[]⟩, hset h b (some (.cells [.pointer (some ⟨b, 0, none⟩), v] t false)), nx)
            | .pointer (some ⟨c, i, none⟩) => match Nat.beq c b with
              | true => match Nat.beq i 0 with
                | true => some (.tuple ⟨[]⟩, h, nx)
                | false => none
              | false => none
            | _ => none
          | false => none
        | _ => none
      | false => none
    | _ => none
  | false => none
theorem primCC_ok {f : FuncId} {T : TypeId}
    (c1 : ∀ (b : Nat) (w : World), w.cell? ⟨b, 0, none⟩ = some (.pointer none) → w.shape? b = some (T, 2) → w.frozen? ⟨b, 0, none⟩ = false → Calls P f #[.pointer (some ⟨b, 0, none⟩)] w fun e w' => e = .returned (.tuple #[]) ∧ w' = w.setCell ⟨b, 0, none⟩ (.pointer (some ⟨b, 0, none⟩)))
    (c2 : ∀ (b : Nat) (w : World), w.cell? ⟨b, 0, none⟩ = some (.pointer (some ⟨b, 0, none⟩)) → Calls P f #[.pointer (some ⟨b, 0, none⟩)] w fun e w' => e = .returned (.tuple #[]) ∧ w' = w) : CallOk P w0 N (primCC f T) := by
  intro ρ h nx g vs VS w v h2 nx2 e r hg hvs R' hR
  unfold primCC at e
  split at e
  · rename_i hgf
    have hgf := Nat.eq_of_beq_eq_true hgf
    subst hgf
    split at e
    · rename_i b o
      split at e
      · rename_i ho
        have ho := Nat.eq_of_beq_eq_true ho
        subst ho
        split at e
        · rename_i p vb t hgb
          split at e
          · rename_i ht
            have ht := Nat.eq_of_beq_eq_true ht
            subst ht
            obtain ⟨B, C, hB, CS, g1, g2⟩ := r.ok b _ hgb
            obtain ⟨VP, rfl, hVP⟩ : ∃ VP, VS = [VP] ∧ rv ρ (.pointer (some ⟨b, 0, none⟩)) = some VP := by
              unfold rvs at hvs
              split at hvs
              · rename_i V R h1 h2
                simp [rvs] at h2
                subst h2
                cases hvs
                exact ⟨V, rfl, h1⟩
              · cases hvs
            obtain ⟨B', C', O', k1, k2⟩ := rv_ptr' hVP
            rw [hB] at k1
            cases k1
            subst k2
            obtain ⟨P1, V1, rfl, hP1, hV1⟩ : ∃ P1 V1, CS = [P1, V1] ∧ rv ρ p = some P1 ∧ rv ρ vb = some V1 := by
              unfold rvs at g1
              split at g1
              · rename_i V R q1 q2
                unfold rvs at q2
                split at q2
                · rename_i V' R' q3 q4
                  simp [rvs] at q4
                  subst q4
                  cases q2
                  cases g1
                  exact ⟨V, V', rfl, q1, q3⟩
                · cases q2
              · cases g1
            split at e
            · cases e
              have hp0 := rv_nil hP1 rfl
              subst hp0
              refine (c1 B w (by simp [World.cell?, g2]) (by simp [World.shape?, g2]) (by simp [World.frozen?, g2])).mono fun e w' he => ?_
              obtain ⟨rfl, rfl⟩ := he
              have hlt : B < w.heap.size := (Array.getElem?_eq_some_iff.1 g2).1
              refine hR ρ _ _ ⟨fun _ _ => rfl, Nat.le_refl _, Pr.set (hget_lt hgb) _⟩ rfl (r.upd hgb rfl rfl hB ⟨rfl, rfl, rfl, by simp, fun k _ hk => Below.heap_setCell w ⟨B, 0, none⟩ _ k hk⟩ ?_)
              refine ⟨[.pointer (some ⟨B, 0, none⟩), V1], ?_, ?_⟩
              · simp [rvs, rv, hB, hV1]
              · have hh : (w.setCell ⟨B, 0, none⟩ (.pointer (some ⟨B, 0, none⟩))).heap[B]? = some (Obj.cells #[.pointer (some ⟨B, 0, none⟩), V1] t (0, 0)) := by
                  simp [World.setCell, Array.getElem?_modify, g2]
                exact hh
            · rename_i c i
              split at e
              · rename_i hc
                have hc := Nat.eq_of_beq_eq_true hc
                subst hc
                split at e
                · rename_i hi
                  have hi := Nat.eq_of_beq_eq_true hi
                  subst hi
                  cases e
                  obtain ⟨B1, C1, O1, q1, q2⟩ := rv_ptr' hP1
                  rw [hB] at q1
                  cases q1
                  subst q2
                  refine (c2 B w (by simp [World.cell?, g2])).mono fun e w' he => ?_
                  obtain ⟨rfl, rfl⟩ := he
                  exact hR ρ _ _ (Ev.refl _ _ _) rfl r
                · cases e
              · cases e
            · cases e
          · cases e
        · cases e
      · cases e
    · cases e
  · cases e

/-! strings.Join -/
def strsOf : List Value → Option (List ByteArray)
  | [] => some []
  | .string s :: r => match strsOf r with
    | some l => some (s :: l)
    | none => none
  | _ :: _ => none
theorem strsOf_sound : ∀ {cs : List Value} {xs : List ByteArray}, strsOf cs = some xs → cs = xs.map Value.string
  | [], xs, e => by simp [strsOf] at e; simp [e]
  | v :: r, xs, e => by
    unfold strsOf at e
    split at e
    · rename_i h; cases h
    · rename_i s r' h
      cases h
      split at e
      · rename_i l hl
        cases e
        rw [List.map_cons, ← strsOf_sound hl]
      · cases e
    · cases e
def primJoin (f : FuncId) : CallF := fun g vs h nx => match Nat.beq g f with
  | true => match vs with
    | [.slice (some ⟨b, o, none⟩) n c, .string sep] => match hcells h b with
      | some cs => match takeD o n cs with
        | some xs => match strsOf xs with
          | some ys => match Nat.blt 0 n with
            | true => match Nat.ble n c with
              | true => match Nat.ble n 65536 with
                | true => match Nat.ble (Lib.join (ys.map (·.data.toList)) sep.data.toList).length 16777216 with
                  | true => some (.string ⟨⟨Lib.join (ys.map (·.data.toList)) sep.data.toList⟩⟩, h, nx)
                  | false => none
                | false => none
              | false => none
            | false => none
          | none => none
        | none => none
      | none => none
    | _ => none
  | false => none
theorem primJoin_ok {f : FuncId}
    (c1 : ∀ (bk o c : Nat) (xs : List ByteArray) (sep : ByteArray) (w : World), (∀ (j : Nat) x, xs[j]? = some x → w.cell? ⟨bk, o + j, none⟩ = some (.string x)) → bk < w.heap.size → xs.length ≤ 140737488355328 → xs.length ≤ c →
      (Lib.join (xs.map (·.data.toList)) sep.data.toList).length ≤ 140737488355328 →
      Calls P f #[.slice (some ⟨bk, o, none⟩) xs.length c, .string sep] w fun e w' => e = .returned (.string ⟨(Lib.join (xs.map (·.data.toList)) sep.data.toList).toArray⟩) ∧ Below w.heap.size w w') : CallOk P w0 N (primJoin f) := by
  intro ρ h nx g vs VS w v h2 nx2 e r hg hvs R' hR
  unfold primJoin at e
  split at e
  · rename_i hgf
    have hgf := Nat.eq_of_beq_eq_true hgf
    subst hgf
    split at e
    · rename_i b o n c sep
      split at e
      · rename_i cs hcs
        split at e
        · rename_i xs hxs
          split at e
          · rename_i ys hys
            split at e
            · rename_i hn
              have hn := blt_t hn
              split at e
              · rename_i hnc
                have hnc := ble_t hnc
                split at e
                · rename_i hn2
                  have hn2 := ble_t hn2
                  split at e
                  · rename_i hl
                    have hl := ble_t hl
                    cases e
                    have hxe := strsOf_sound hys
                    subst hxe
                    obtain ⟨B, C, CS, q1, q2, q3⟩ := hcells_sound r.ok hcs
                    obtain ⟨XS, k1, k2, k3⟩ := rvs_takeD q2 hxs
                    have hfl : ∀ l : List ByteArray, flats (l.map Value.string) = true := fun l => by
                      induction l with
                      | nil => rfl
                      | cons x l ih => simp only [List.map_cons, flats, flat, ih, Bool.and_self]
                    have hXS := rvs_flats_eq (hfl ys) k1
                    subst hXS
                    obtain ⟨V1, V2, rfl, hV1, hV2⟩ : ∃ V1 V2, VS = [V1, V2] ∧ rv ρ (.slice (some ⟨b, o, none⟩) n c) = some V1 ∧ rv ρ (.string sep) = some V2 := by
                      unfold rvs at hvs
                      split at hvs
                      · rename_i V R q1 q2
                        unfold rvs at q2
                        split at q2
                        · rename_i V' R' q3 q4
                          simp [rvs] at q4
                          subst q4
                          cases q2
                          cases hvs
                          exact ⟨V, V', rfl, q1, q3⟩
                        · cases q2
                      · cases hvs
                    have := rv_nil hV2 rfl
                    subst this
                    have hyl : ys.length = n := by have := k2; simpa using this
                    obtain ⟨B', C', O', p1, p2⟩ := rv_slice hV1
                    rw [q1] at p1
                    cases p1
                    obtain ⟨c', rfl, hc'⟩ : ∃ c', V1 = .slice (some ⟨B, o, none⟩) n c' ∧ n ≤ c' := by
                      rcases p2 with ⟨_, rfl⟩ | ⟨_, h3, rfl⟩
                      · exact ⟨c, by rw [Nat.zero_add], hnc⟩
                      · exact ⟨_, by rw [Nat.zero_add], by omega⟩
                    have hcell : ∀ (j : Nat) x, ys[j]? = some x → w.cell? ⟨B, o + j, none⟩ = some (.string x) := fun j x hx => by
                      have h1 : (ys.map Value.string)[j]? = some (.string x) := by rw [List.getElem?_map, hx]; rfl
                      exact q3 _ _ (k3 j _ h1)
                    have hBlt : B < w.heap.size := by
                      obtain ⟨x, hx⟩ : ∃ x, ys[0]? = some x := ⟨ys[0], List.getElem?_eq_getElem (by omega)⟩
                      have := hcell 0 x hx
                      unfold World.cell? at this
                      cases hh : w.heap[B]? with
                      | none => simp [hh] at this
                      | some _ => exact (Array.getElem?_eq_some_iff.1 hh).1
                    have := c1 B o c' ys sep w hcell hBlt (by omega) (by omega) (by omega)
                    rw [hyl] at this
                    refine this.mono fun e w' he => ?_
                    obtain ⟨rfl, hb⟩ := he
                    exact hR ρ _ w' (Ev.refl _ _ _) (rv_flat2 rfl) (r.after ⟨hb.os, hb.tape, hb.output, hb.size, fun b hb' _ => hb.block b hb'⟩)
                  · cases e
                · cases e
              · cases e
            · cases e
          · cases e
        · cases e
      · cases e
    · cases e
  · cases e
end
end Go.Rex
