/- A machine for closed runs: calls that are answered by a contract that reads or writes memory. -/
import Derived.Test.YtoclmkdfcafhfaaGreatDoorQan
import Derived.Test.YtoclmkdfcafhfaaGreatDoorShelf
import Derived.KernelRfl
import Derived.ProofKit
import Derived.OpenShut
import Derived.ShutString
import Derived.ChangeOld
import Derived.Deep.Slices
import Derived.Deep.Fields
import Derived.Test.YtoclmkdfcafhfaaGreatDoorQah
set_option maxRecDepth 20000
set_option maxHeartbeats 2000000
namespace Go.Rex
open Go.RowKit
open Go.Vcg (Keep add_lit)
attribute [local irreducible] capU
def orCall (p q : CallF) : CallF := fun f vs h nx => match p f vs h nx with
  | some r => some r
  | none => q f vs h nx
def memoC (memo : Memo) : CallF := fun f vs h nx => match memo f vs with
  | some v => some (v, h, nx)
  | none => none
section
variable {P : Program} {qs : List FuncId} {N : Nat} {w0 : World} {ρ ρ' : Env} {h h' : Heap} {l : Sls} {a : Act} {w w' : World} {nx nx' : Nat}
theorem orCall_ok {p q : CallF} (hp : CallOk P w0 N p) (hq : CallOk P w0 N q) : CallOk P w0 N (orCall p q) := by
  intro ρ h nx f vs VS w v h' nx' e r hg hvs R' hR
  unfold orCall at e
  split at e
  · rename_i x hx
    cases e
    exact hp ρ h nx f vs VS w v h' nx' hx r hg hvs R' hR
  · exact hq ρ h nx f vs VS w v h' nx' e r hg hvs R' hR
theorem memoC_ok {memo : Memo} (hme : MemoOk P w0 memo) : CallOk P w0 N (memoC memo) := by
  intro ρ h nx f vs VS w v h2 nx2 e r hg hvs R' hR
  unfold memoC at e
  split at e
  · rename_i u hu
    cases e
    obtain ⟨h1, h3, h4⟩ := hme f vs v hu
    have hVS := rvs_flats_eq h1 hvs
    subst hVS
    refine (h4 w r.keep).mono fun e w' he => ?_
    obtain ⟨rfl, hb⟩ := he
    exact hR ρ v w' (Ev.refl _ _ _) (rv_flat2 h3) (r.after ⟨hb.os, hb.tape, hb.output, hb.size, fun b hb' _ => hb.block b hb'⟩)
  · cases e
def noMemo0 : Memo := fun _ _ => none
theorem noMemo0_ok : MemoOk P w0 noMemo0 := fun f vs v e => by cases e
def exP (P : Program) (N : Nat) (qs : List FuncId) (pr : CallF) (n : Nat) : CodeF :=
  Nat.rec (motive := fun _ => CodeF) (fun _ _ _ _ => none) (fun k ih => stepC P N qs (orCall pr (callB P noMemo0 ih)) ih k) n
theorem exP_ok (hm : P.follows .mixedOrders = true) (hq : ∀ f ∈ qs, QuietF P f) {pr : CallF} (hp : CallOk P w0 N pr) : ∀ n, ExOk P qs w0 N (exP P N qs pr n)
  | 0 => by intro c h nx l e h' nx' l' he; cases he
  | n + 1 => stepC_ok hm hq (orCall_ok hp (callB_ok noMemo0_ok (exP_ok hm hq hp n))) (exP_ok hm hq hp n) n
def runP (P : Program) (N : Nat) (qs : List FuncId) (pr : CallF) (ts : List (Nat × List Value)) (n : Nat) (f : FuncId) (vs : List Value) : Option Value := match orCall pr (callB P noMemo0 (exP P N qs pr n)) f vs (tabs ts) N with
  | some (v, _, _) => match flat2 v with
    | true => match flats vs with
      | true => some v
      | false => none
    | false => none
  | none => none
theorem runP_sound (hm : P.follows .mixedOrders = true) (hq : ∀ f ∈ qs, QuietF P f) {pr : CallF} (hp : CallOk P w N pr) (hN : N ≤ 1048576) {ts : List (Nat × List Value)} (ht : TabsOk N w ts) {n : Nat} {f : FuncId} {vs : List Value} {v : Value} (e : runP P N qs pr ts n f vs = some v) :
    Calls P f vs.toArray w fun e w' => e = .returned v ∧ Below w.heap.size w w' := by
  unfold runP at e
  split at e
  · rename_i u h2 nx2 hu
    split at e
    · rename_i hf
      split at e
      · rename_i hfs
        cases e
        obtain ⟨hr, hg⟩ := rel_start hN ht
        refine orCall_ok hp (callB_ok noMemo0_ok (exP_ok hm hq hp n)) _ _ _ f vs vs w v h2 nx2 hu hr hg (rvs_flats hfs) _ fun ρ' V w' hev hV hr' => ?_
        have := rv_flat2_eq hf hV
        subst this
        exact ⟨rfl, hr'.keep.below⟩
      · cases e
    · cases e
  · cases e
def primCC (f : FuncId) (T : TypeId) : CallF := fun g vs h nx => match Nat.beq g f with
  | true => match vs with
    | [.pointer (some ⟨b, o, none⟩)] => match Nat.beq o 0 with
      | true => match hget h b with
        | some (.cells [p, v] t false) => match Nat.beq t T with
          | true => match p with
            | .pointer none => some (.tuple ⟨[]⟩, hset h b (some (.cells [.pointer (some ⟨b, 0, none⟩), v] t false)), nx)
            | .pointer (some ⟨c, i, none⟩) => match Nat.beq c b with
              | true => match Nat.beq i 0 with
                | true => some (.tuple ⟨[]⟩, h, nx)
                | false => none
              | false => none
            | _ => none
          | false => none
        | _ => none
      | false => none
    | _ => none
  | false => none
theorem primCC_ok {f : FuncId} {T : TypeId}
    (c1 : ∀ (b : Nat) (w : World), w.cell? ⟨b, 0, none⟩ = some (.pointer none) → w.shape? b = some (T, 2) → w.frozen? ⟨b, 0, none⟩ = false → Calls P f #[.pointer (some ⟨b, 0, none⟩)] w fun e w' => e = .returned (.tuple #[]) ∧ w' = w.setCell ⟨b, 0, none⟩ (.pointer (some ⟨b, 0, none⟩)))
    (c2 : ∀ (b : Nat) (w : World), w.cell? ⟨b, 0, none⟩ = some (.pointer (some ⟨b, 0, none⟩)) → Calls P f #[.pointer (some ⟨b, 0, none⟩)] w fun e w' => e = .returned (.tuple #[]) ∧ w' = w) : CallOk P w0 N (primCC f T) := by
  intro ρ h nx g vs VS w v h2 nx2 e r hg hvs R' hR
  unfold primCC at e
  split at e
  · rename_i hgf
    have hgf := Nat.eq_of_beq_eq_true hgf
    subst hgf
    split at e
    · rename_i b o
      split at e
      · rename_i ho
        have ho := Nat.eq_of_beq_eq_true ho
        subst ho
        split at e
        · rename_i p vb t hgb
          split at e
          · rename_i ht
            have ht := Nat.eq_of_beq_eq_true ht
            subst ht
            obtain ⟨B, C, hB, CS, g1, g2⟩ := r.ok b _ hgb
            obtain ⟨VP, rfl, hVP⟩ : ∃ VP, VS = [VP] ∧ rv ρ (.pointer (some ⟨b, 0, none⟩)) = some VP := by
              unfold rvs at hvs
              split at hvs
              · rename_i V R h1 h2
                simp [rvs] at h2
                subst h2
                cases hvs
                exact ⟨V, rfl, h1⟩
              · cases hvs
            obtain ⟨B', C', O', k1, k2⟩ := rv_ptr' hVP
            rw [hB] at k1
            cases k1
            subst k2
            obtain ⟨P1, V1, rfl, hP1, hV1⟩ : ∃ P1 V1, CS = [P1, V1] ∧ rv ρ p = some P1 ∧ rv ρ vb = some V1 := by
              unfold rvs at g1
              split at g1
              · rename_i V R q1 q2
                unfold rvs at q2
                split at q2
                · rename_i V' R' q3 q4
                  simp [rvs] at q4
                  subst q4
                  cases q2
                  cases g1
                  exact ⟨V, V', rfl, q1, q3⟩
                · cases q2
              · cases g1
            split at e
            · cases e
              have hp0 := rv_nil hP1 rfl
              subst hp0
              refine (c1 B w (by simp [World.cell?, g2]) (by simp [World.shape?, g2]) (by simp [World.frozen?, g2])).mono fun e w' he => ?_
              obtain ⟨rfl, rfl⟩ := he
              have hlt : B < w.heap.size := (Array.getElem?_eq_some_iff.1 g2).1
              refine hR ρ _ _ ⟨fun _ _ => rfl, Nat.le_refl _, Pr.set (hget_lt hgb) _⟩ rfl (r.upd hgb rfl rfl hB ⟨rfl, rfl, rfl, by simp, fun k _ hk => Below.heap_setCell w ⟨B, 0, none⟩ _ k hk⟩ ?_)
              refine ⟨[.pointer (some ⟨B, 0, none⟩), V1], ?_, ?_⟩
              · simp [rvs, rv, hB, hV1]
              · have hh : (w.setCell ⟨B, 0, none⟩ (.pointer (some ⟨B, 0, none⟩))).heap[B]? = some (Obj.cells #[.pointer (some ⟨B, 0, none⟩), V1] t (0, 0)) := by
                  simp [World.setCell, Array.getElem?_modify, g2]
                exact hh
            · rename_i c i
              split at e
              · rename_i hc
                have hc := Nat.eq_of_beq_eq_true hc
                subst hc
                split at e
                · rename_i hi
                  have hi := Nat.eq_of_beq_eq_true hi
                  subst hi
                  cases e
                  obtain ⟨B1, C1, O1, q1, q2⟩ := rv_ptr' hP1
                  rw [hB] at q1
                  cases q1
                  subst q2
                  refine (c2 B w (by simp [World.cell?, g2])).mono fun e w' he => ?_
                  obtain ⟨rfl, rfl⟩ := he
                  exact hR ρ _ _ (Ev.refl _ _ _) rfl r
                · cases e
              · cases e
            · cases e
          · cases e
        · cases e
      · cases e
    · cases e
  · cases e
def strsOf : List Value → Option (List ByteArray)
  | [] => some []
  | .string s :: r => match strsOf r with
    | some l => some (s :: l)
    | none => none
  | _ :: _ => none
theorem strsOf_sound : ∀ {cs : List Value} {xs : List ByteArray}, strsOf cs = some xs → cs = xs.map Value.string
  | [], xs, e => by simp [strsOf] at e; simp [e]
  | v :: r, xs, e => by
    unfold strsOf at e
    split at e
    · rename_i h; cases h
    · rename_i s r' h
      cases h
      split at e
      · rename_i l hl
        cases e
        rw [List.map_cons, ← strsOf_sound hl]
      · cases e
    · cases e
def primJoin (f : FuncId) : CallF := fun g vs h nx => match Nat.beq g f with
  | true => match vs with
    | [.slice (some ⟨b, o, none⟩) n c, .string sep] => match hcells h b with
      | some cs => match takeD o n cs with
        | some xs => match strsOf xs with
          | some ys => match Nat.blt 0 n with
            | true => match Nat.ble n c with
              | true => match Nat.ble n 65536 with
                | true => match Nat.ble (Lib.join (ys.map (·.data.toList)) sep.data.toList).length 16777216 with
                  | true => some (.string ⟨⟨Lib.join (ys.map (·.data.toList)) sep.data.toList⟩⟩, h, nx)
                  | false => none
                | false => none
              | false => none
            | false => none
          | none => none
        | none => none
      | none => none
    | _ => none
  | false => none
theorem primJoin_ok {f : FuncId}
    (c1 : ∀ (bk o c : Nat) (xs : List ByteArray) (sep : ByteArray) (w : World), (∀ (j : Nat) x, xs[j]? = some x → w.cell? ⟨bk, o + j, none⟩ = some (.string x)) → bk < w.heap.size → xs.length ≤ 140737488355328 → xs.length ≤ c →
      (Lib.join (xs.map (·.data.toList)) sep.data.toList).length ≤ 140737488355328 →
      Calls P f #[.slice (some ⟨bk, o, none⟩) xs.length c, .string sep] w fun e w' => e = .returned (.string ⟨(Lib.join (xs.map (·.data.toList)) sep.data.toList).toArray⟩) ∧ Below w.heap.size w w') : CallOk P w0 N (primJoin f) := by
  intro ρ h nx g vs VS w v h2 nx2 e r hg hvs R' hR
  unfold primJoin at e
  split at e
  · rename_i hgf
    have hgf := Nat.eq_of_beq_eq_true hgf
    subst hgf
    split at e
    · rename_i b o n c sep
      split at e
      · rename_i cs hcs
        split at e
        · rename_i xs hxs
          split at e
          · rename_i ys hys
            split at e
            · rename_i hn
              have hn := blt_t hn
              split at e
              · rename_i hnc
                have hnc := ble_t hnc
                split at e
                · rename_i hn2
                  have hn2 := ble_t hn2
                  split at e
                  · rename_i hl
                    have hl := ble_t hl
                    cases e
                    have hxe := strsOf_sound hys
                    subst hxe
                    obtain ⟨B, C, CS, q1, q2, q3⟩ := hcells_sound r.ok hcs
                    obtain ⟨XS, k1, k2, k3⟩ := rvs_takeD q2 hxs
                    have hfl : ∀ l : List ByteArray, flats (l.map Value.string) = true := fun l => by
                      induction l with
                      | nil => rfl
                      | cons x l ih => simp only [List.map_cons, flats, flat, ih, Bool.and_self]
                    have hXS := rvs_flats_eq (hfl ys) k1
                    subst hXS
                    obtain ⟨V1, V2, rfl, hV1, hV2⟩ : ∃ V1 V2, VS = [V1, V2] ∧ rv ρ (.slice (some ⟨b, o, none⟩) n c) = some V1 ∧ rv ρ (.string sep) = some V2 := by
                      unfold rvs at hvs
                      split at hvs
                      · rename_i V R q1 q2
                        unfold rvs at q2
                        split at q2
                        · rename_i V' R' q3 q4
                          simp [rvs] at q4
                          subst q4
                          cases q2
                          cases hvs
                          exact ⟨V, V', rfl, q1, q3⟩
                        · cases q2
                      · cases hvs
                    have := rv_nil hV2 rfl
                    subst this
                    have hyl : ys.length = n := by have := k2; simpa using this
                    obtain ⟨B', C', O', p1, p2⟩ := rv_slice hV1
                    rw [q1] at p1
                    cases p1
                    obtain ⟨c', rfl, hc'⟩ : ∃ c', V1 = .slice (some ⟨B, o, none⟩) n c' ∧ n ≤ c' := by
                      rcases p2 with ⟨_, rfl⟩ | ⟨_, h3, rfl⟩
                      · exact ⟨c, by rw [Nat.zero_add], hnc⟩
                      · exact ⟨_, by rw [Nat.zero_add], by omega⟩
                    have hcell : ∀ (j : Nat) x, ys[j]? = some x → w.cell? ⟨B, o + j, none⟩ = some (.string x) := fun j x hx => by
                      have h1 : (ys.map Value.string)[j]? = some (.string x) := by rw [List.getElem?_map, hx]; rfl
                      exact q3 _ _ (k3 j _ h1)
                    have hBlt : B < w.heap.size := by
                      obtain ⟨x, hx⟩ : ∃ x, ys[0]? = some x := ⟨ys[0], List.getElem?_eq_getElem (by omega)⟩
                      have := hcell 0 x hx
                      unfold World.cell? at this
                      cases hh : w.heap[B]? with
                      | none => simp [hh] at this
                      | some _ => exact (Array.getElem?_eq_some_iff.1 hh).1
                    have := c1 B o c' ys sep w hcell hBlt (by omega) (by omega) (by omega)
                    rw [hyl] at this
                    refine this.mono fun e w' he => ?_
                    obtain ⟨rfl, hb⟩ := he
                    exact hR ρ _ w' (Ev.refl _ _ _) (rv_flat2 rfl) (r.after ⟨hb.os, hb.tape, hb.output, hb.size, fun b hb' _ => hb.block b hb'⟩)
                  · cases e
                · cases e
              · cases e
            · cases e
          · cases e
        · cases e
      · cases e
    · cases e
  · cases e
end
end Go.Rex
namespace Go.Proofs.YtoclmkdfcafhfaaGreatDoor
section
open Go.Rex Go.RowKit Go.Vcg Go.Shelf
theorem mixed : Tryz.prog.follows .mixedOrders = true := by kernel_rfl
def MaxAt (w : World) : Prop := ∃ m, w.cell? ⟨Tryz.lays145_ren.g 1, 0, none⟩ = some (.int .i64 m)
theorem MaxAt.keep {w w' : World} (h : MaxAt w) (hk : Keep [] w w') : MaxAt w' := by
  obtain ⟨m, hm⟩ := h
  refine ⟨m, ?_⟩
  have hlt : (Tryz.lays145_ren.g 1) < w.heap.size := by
    unfold World.cell? at hm
    split at hm
    · rename_i h1; exact (Array.getElem?_eq_some_iff.1 h1).1
    · cases hm
  unfold World.cell? at hm ⊢
  rw [hk.block _ hlt (by simp)]
  exact hm
def cutF (c : UInt8) : List UInt8 → List UInt8 → Option (List UInt8 × List UInt8)
  | [], _ => none
  | b :: l, acc => match Nat.beq b.toNat c.toNat with
    | true => some (acc.reverse, l)
    | false => cutF c l (b :: acc)
theorem u8_beq {b c : UInt8} (h : Nat.beq b.toNat c.toNat = true) : b = c := UInt8.toNat_inj.1 (Nat.eq_of_beq_eq_true h)
theorem u8_bne {b c : UInt8} (h : Nat.beq b.toNat c.toNat = false) : (c == b) = false := by
  rw [beq_eq_false_iff_ne]
  rintro rfl
  rw [Nat.beq_refl] at h
  cases h
theorem cutF_spec (c : UInt8) : ∀ (l acc : List UInt8), match cutF c l acc with
    | some (x, y) => 0 ≤ Lib.index l [c] ∧ x = acc.reverse ++ l.take (Lib.index l [c]).toNat ∧ y = l.drop ((Lib.index l [c]).toNat + 1)
    | none => Lib.index l [c] = -1
  | [], acc => by simp [cutF, Lib.index]
  | b :: l, acc => by
    unfold cutF
    cases hb : Nat.beq b.toNat c.toNat
    · have h1 : [c].isPrefixOf (b :: l) = false := by simp [List.isPrefixOf, u8_bne hb]
      have ih := cutF_spec c l (b :: acc)
      have hge := Lib.index_ge l [c]
      unfold Lib.index
      rw [h1]
      simp only [Bool.false_eq_true, if_false]
      split at ih
      · rename_i x y he
        obtain ⟨h2, h3, h4⟩ := ih
        have hne : (Lib.index l [c] == -1) = false := by rw [beq_eq_false_iff_ne]; omega
        simp only [hne, Bool.false_eq_true, if_false]
        have ht : (Lib.index l [c] + 1).toNat = (Lib.index l [c]).toNat + 1 := by omega
        refine ⟨by omega, ?_, ?_⟩
        · rw [h3, ht]; simp
        · rw [h4, ht]; simp
      · rename_i he
        simp [ih]
    · have hbc := u8_beq hb
      subst hbc
      have h1 : [b].isPrefixOf (b :: l) = true := by simp [List.isPrefixOf]
      unfold Lib.index
      simp [h1]
def cutV (c : UInt8) (l : List UInt8) : Value := match cutF c l [] with
  | some (x, y) => .tuple ⟨[.string ⟨⟨x⟩⟩, .string ⟨⟨y⟩⟩, .bool true]⟩
  | none => .tuple ⟨[.string ⟨⟨l⟩⟩, .string ⟨⟨[]⟩⟩, .bool false]⟩
theorem cutV_eq (c : UInt8) (l : List UInt8) : cutV c l = .tuple #[.string ⟨(Lib.cut l [c]).1.toArray⟩, .string ⟨(Lib.cut l [c]).2.1.toArray⟩, .bool (Lib.cut l [c]).2.2] := by
  have h := cutF_spec c l []
  unfold cutV Lib.cut
  split at h
  · rename_i x y he
    obtain ⟨h1, rfl, rfl⟩ := h
    simp [h1]
  · rename_i he
    simp [h]
theorem cutV_flat (c : UInt8) (l : List UInt8) : flat2 (cutV c l) = true := by
  unfold cutV
  split <;> rfl
def cntF (c : UInt8) : List UInt8 → Nat
  | [] => 0
  | b :: l => match Nat.beq b.toNat c.toNat with
    | true => Nat.succ (cntF c l)
    | false => cntF c l
theorem cntF_eq (c : UInt8) : ∀ l : List UInt8, Lib.countByte l c = cntF c l
  | [] => rfl
  | b :: l => by
    have ih := cntF_eq c l
    unfold Lib.countByte at ih ⊢
    unfold cntF
    rw [List.count_cons, ih]
    cases hb : Nat.beq b.toNat c.toNat
    · have := u8_bne hb
      rw [beq_eq_false_iff_ne] at this
      simp [Ne.symm this]
    · have := u8_beq hb
      simp [this]
def idxF (c : UInt8) : List UInt8 → Nat → Int
  | [], _ => -1
  | b :: l, n => match Nat.beq b.toNat c.toNat with
    | true => .ofNat n
    | false => idxF c l (n + 1)
theorem idxF_ge (c : UInt8) : ∀ (l : List UInt8) (n : Nat), (Lib.index l [c] = -1 → idxF c l n = -1) ∧ (Lib.index l [c] ≠ -1 → idxF c l n = n + Lib.index l [c])
  | [], n => by simp [idxF, Lib.index]
  | b :: l, n => by
    have ih := idxF_ge c l (n + 1)
    have hge := Lib.index_ge l [c]
    unfold idxF Lib.index
    cases hb : Nat.beq b.toNat c.toNat
    · have h1 : [c].isPrefixOf (b :: l) = false := by simp [List.isPrefixOf, u8_bne hb]
      rw [h1]
      simp only [Bool.false_eq_true, if_false]
      by_cases h : Lib.index l [c] = -1
      · simp [h, ih.1 h]
      · have hne : (Lib.index l [c] == -1) = false := by rw [beq_eq_false_iff_ne]; exact h
        simp only [hne, Bool.false_eq_true, if_false]
        rw [ih.2 h]
        constructor
        · intro h2; omega
        · intro _; omega
    · have hbc := u8_beq hb
      subst hbc
      have h1 : [b].isPrefixOf (b :: l) = true := by simp [List.isPrefixOf]
      simp [h1]
theorem idxF_eq (c : UInt8) (l : List UInt8) : Lib.index l [c] = idxF c l 0 := by
  have h := idxF_ge c l 0
  by_cases h1 : Lib.index l [c] = -1
  · rw [h.1 h1, h1]
  · rw [h.2 h1]; omega
theorem idxB_eq (c : UInt8) : ∀ l : List UInt8, Lib.indexByte l c = Lib.index l [c]
  | [] => by simp [Lib.indexByte, Lib.index]
  | b :: l => by
    have ih := idxB_eq c l
    unfold Lib.indexByte Lib.index
    rw [ih]
    cases hb : Nat.beq b.toNat c.toNat
    · have h1 : [c].isPrefixOf (b :: l) = false := by simp [List.isPrefixOf, u8_bne hb]
      have h2 : (b == c) = false := by
        have := u8_bne hb
        rw [beq_eq_false_iff_ne] at this ⊢
        exact Ne.symm this
      rw [h1, h2]
    · have hbc := u8_beq hb
      subst hbc
      have h1 : [b].isPrefixOf (b :: l) = true := by simp [List.isPrefixOf]
      simp [h1]
theorem u8of_sound {v : Value} {c : UInt8} (h : Rex.byteOf v = some c) : v = .int .u8 c.toNat := by
  have := Rex.bytesOf_sound (cs := [v]) (l := [c]) (by simp [Rex.bytesOf, h])
  simpa using this
def ble64 (l : List UInt8) : Bool := Nat.ble l.length 65536
def memoS : Memo := fun f vs => match Nat.beq f 55 with
  | true => match vs with
    | [.string ⟨⟨l⟩⟩, .string ⟨⟨[c]⟩⟩] => match ble64 l with
      | true => some (cutV c l)
      | false => none
    | _ => none
  | false => match Nat.beq f 54 with
    | true => match vs with
      | [.string ⟨⟨l⟩⟩, .string ⟨⟨[c]⟩⟩] => some (.int .i64 (.ofNat (cntF c l)))
      | _ => none
    | false => match Nat.beq f 82 with
      | true => match vs with
        | [.string ⟨⟨l⟩⟩, .string ⟨⟨[c]⟩⟩] => match ble64 l with
          | true => some (.int .i64 (idxF c l 0))
          | false => none
        | _ => none
      | false => match Nat.beq f 59 with
        | true => match vs with
          | [.string ⟨⟨l⟩⟩, v] => match Rex.byteOf v with
            | some c => some (.int .i64 (idxF c l 0))
            | none => none
          | _ => none
        | false => match Nat.beq f 62 with
          | true => match vs with
            | [.string s, v] => match Rex.byteOf v with
              | some c => match Nat.ble s.size 65536 with
                | true => some (.int .i64 (Lib.lastIndexByte s c.toNat))
                | false => none
              | none => none
            | _ => none
          | false => match Nat.beq f 86 with
            | true => match vs with
              | [.string s, .string ⟨⟨[9, 10, 13, 32]⟩⟩] => match Nat.ble s.size 65536 with
                | true => some (.string ⟨⟨Lib.trimS (bl s) [9, 10, 13, 32]⟩⟩)
                | false => none
              | _ => none
            | false => none
theorem belowN (w : World) (n : Nat) : Below w.heap.size w (w.drewN n) := ⟨rfl, rfl, rfl, Nat.le_refl _, fun _ _ => rfl⟩
theorem memoS_ok {w : World} (h : MaxAt w) : MemoOk Tryz.prog w memoS := fun f vs v e => by
  unfold memoS at e
  split at e
  · rename_i hf
    have hf := Nat.eq_of_beq_eq_true hf
    subst hf
    split at e
    · rename_i l c
      split at e
      · rename_i hl
        have hl : l.length ≤ 65536 := ble_t hl
        cases e
        refine ⟨rfl, cutV_flat c l, fun w' hk => ?_⟩
        obtain ⟨m, hm⟩ := h.keep hk
        refine (Any.strings_Cut Tryz.lays145 ⟨⟨l⟩⟩ ⟨⟨[c]⟩⟩ m w' (show l.length < _ by omega) hm).mono fun e w'' ⟨h1, n, h2⟩ => ⟨?_, h2 ▸ belowN w' n⟩
        rw [h1, cutV_eq]
      · cases e
    · cases e
  · split at e
    · rename_i hf
      have hf := Nat.eq_of_beq_eq_true hf
      subst hf
      split at e
      · rename_i l c
        cases e
        refine ⟨rfl, rfl, fun w' hk => ?_⟩
        refine (Any.strings_Count_one Tryz.lays138 ⟨⟨l⟩⟩ c w').mono fun e w'' ⟨h1, h2⟩ => ⟨?_, h2 ▸ Below.refl _ _⟩
        rw [h1, ← cntF_eq]
        rfl
      · cases e
    · split at e
      · rename_i hf
        have hf := Nat.eq_of_beq_eq_true hf
        subst hf
        split at e
        · rename_i l c
          split at e
          · rename_i hl
            have hl : l.length ≤ 65536 := ble_t hl
            cases e
            refine ⟨rfl, rfl, fun w' hk => ?_⟩
            obtain ⟨m, hm⟩ := h.keep hk
            refine (Any.strings_Index Tryz.lays143 ⟨⟨l⟩⟩ ⟨⟨[c]⟩⟩ m w' (show l.length < _ by omega) hm).mono fun e w'' ⟨h1, h2⟩ => ⟨?_, h2 ▸ Below.refl _ _⟩
            rw [h1, ← idxF_eq]
          · cases e
        · cases e
      · split at e
        · rename_i hf
          have hf := Nat.eq_of_beq_eq_true hf
          subst hf
          split at e
          · rename_i l v
            split at e
            · rename_i c hc
              cases e
              have hv := u8of_sound hc
              subst hv
              refine ⟨rfl, rfl, fun w' hk => ?_⟩
              refine (Any.strings_IndexByte Tryz.lays137 ⟨⟨l⟩⟩ c.toNat w').mono fun e w'' ⟨h1, h2⟩ => ⟨?_, h2 ▸ Below.refl _ _⟩
              have hcc : ((c.toNat : Int)).toNat.toUInt8 = c := by simp
              rw [h1, hcc, idxB_eq, ← idxF_eq]
            · cases e
          · cases e
        · split at e
          · rename_i hf
            have hf := Nat.eq_of_beq_eq_true hf
            subst hf
            split at e
            · rename_i s v
              split at e
              · rename_i c hc
                split at e
                · rename_i hl
                  have hl : s.size ≤ 65536 := ble_t hl
                  cases e
                  have hv := u8of_sound hc
                  subst hv
                  refine ⟨rfl, rfl, fun w' hk => ?_⟩
                  exact (Any.strings_LastIndexByte Tryz.lays149 s c.toNat (by omega) w').mono fun e w'' ⟨h1, h2⟩ => ⟨h1, h2 ▸ Below.refl _ _⟩
                · cases e
              · cases e
            · cases e
          · split at e
            · rename_i hf
              have hf := Nat.eq_of_beq_eq_true hf
              subst hf
              split at e
              · rename_i s
                split at e
                · rename_i hl
                  have hl : s.size ≤ 65536 := ble_t hl
                  cases e
                  refine ⟨rfl, rfl, fun w' hk => ?_⟩
                  exact Any.strings_Trim_laid Tryz.lays160 (by kernel_rfl) s ⟨#[9, 10, 13, 32]⟩ w' (by omega) (by decide) (ascii_of_all (by decide))
                · cases e
              · cases e
            · cases e
abbrev Row := Nat × List UInt8 × List UInt8
def rowT0 : List Row := [(100, [85, 110, 100, 101, 102], []), (101, [78, 117, 108, 108], []), (102, [66, 111, 111, 108], []), (103, [78, 117, 109], []), (104, [78, 97, 78], []), (105, [84, 101, 120, 116], []), (106, [72, 111, 108, 101], []), (107, [76, 111, 99, 97, 108], []), (108, [83, 101, 116, 76, 111, 99, 97, 108], [101]), (109, [72, 101, 108, 100], []), (110, [83, 101, 116, 72, 101, 108, 100], [101]), (111, [67, 104, 101, 99, 107], [101]), (112, [67, 111, 110, 115, 116], [101]), (113, [71, 108, 111, 98, 97, 108], []), (114, [83, 101, 116, 71, 108, 111, 98, 97, 108], [101]), (115, [84, 121, 112, 101, 79, 102], [101])]
def rowT1 : List Row := [(116, [84, 104, 105, 115], []), (117, [65, 114, 103], []), (118, [82, 101, 115, 116], []), (119, [70, 117, 110, 99], []), (120, [79, 98, 106, 101, 99, 116], [112, 42]), (121, [80, 117, 116], [101, 101]), (122, [67, 111, 112, 121], [101]), (123, [65, 114, 114, 97, 121], [97, 42]), (124, [83, 112, 114, 101, 97, 100], [101]), (125, [71, 101, 116], [101, 101]), (126, [83, 101, 116], [101, 101, 101]), (127, [68, 101, 108, 101, 116, 101], [101, 101])]
def rowT2 : List Row := [(128, [73, 110], [101, 101]), (129, [67, 97, 108, 108], [101, 97, 42]), (130, [67, 97, 108, 108, 79, 110], [101, 101, 97, 42]), (131, [78, 101, 119], [101, 97, 42]), (132, [85, 110, 97, 114, 121], [101]), (133, [66, 105, 110, 97, 114, 121], [101, 101]), (134, [76, 111, 103, 105, 99], [101, 101]), (135, [67, 111, 110, 100], [101, 101, 101]), (136, [83, 101, 113], [98, 42, 101]), (137, [89, 105, 101, 108, 100], [101])]
def rowT3 : List Row := [(138, [68, 101, 108, 101, 103, 97, 116, 101], [101]), (139, [75, 101, 121], [101]), (140, [84, 111, 84, 101, 120, 116], [101]), (141, [84, 111, 78, 117, 109], [101]), (142, [73, 116, 101, 114], [101]), (143, [78, 101, 120, 116], [101]), (144, [67, 108, 111, 115, 101], [101]), (145, [75, 101, 121, 115], [101]), (146, [79, 116, 104, 101, 114, 115], [101, 101, 42]), (147, [78, 101, 101, 100], [101])]
def rowT4 : List Row := [(160, [68, 111], [101]), (161, [66, 108, 111, 99, 107], [115, 42]), (162, [73, 102], [101, 115, 115]), (163, [76, 111, 111, 112], [101, 115, 115]), (164, [76, 97, 98, 101, 108], [115]), (165, [66, 114, 101, 97, 107], []), (166, [65, 103, 97, 105, 110], []), (167, [82, 101, 116, 117, 114, 110], [101]), (168, [84, 104, 114, 111, 119], [101]), (169, [84, 114, 121], [115, 115, 115]), (170, [83, 99, 111, 112, 101], [115]), (171, [70, 114, 101, 115, 104], []), (172, [78, 111, 110, 101], [])]
def rowT : List Row := rowT0 ++ (rowT1 ++ (rowT2 ++ (rowT3 ++ (rowT4))))
def findR (k : Nat) : List Row → Option (List UInt8 × List UInt8)
  | [] => none
  | (j, x) :: r => match Nat.beq j k with
    | true => some x
    | false => findR k r
def rowAt (k : Nat) : List UInt8 × List UInt8 := match findR k rowT with
  | some x => x
  | none => ([], [])
def strV (l : List UInt8) : Value := .string ⟨⟨l⟩⟩
def rowV (x : List UInt8 × List UInt8) : Value := .tuple ⟨[.string ⟨⟨x.1⟩⟩, .string ⟨⟨x.2⟩⟩]⟩
def pr0 : CallF := memoC memoS
theorem pr0_ok {w : World} (h : MaxAt w) : CallOk Tryz.prog w 1000 pr0 := memoC_ok (memoS_ok h)
theorem noQ : ∀ f ∈ ([] : List FuncId), QuietF Tryz.prog f := fun f h => by cases h
def runs (f : FuncId) (g : List UInt8 × List UInt8 → Value) : List Row → Prop
  | [] => True
  | (k, x) :: r => runP Tryz.prog 1000 [] pr0 [] 400 f [.int .i64 (.ofNat k)] = some (g x) ∧ runs f g r
theorem runs_find {f : FuncId} {g : List UInt8 × List UInt8 → Value} {k : Nat} {x : List UInt8 × List UInt8} : ∀ {l : List Row}, runs f g l → findR k l = some x → runP Tryz.prog 1000 [] pr0 [] 400 f [.int .i64 (.ofNat k)] = some (g x)
  | [], _, h => by cases h
  | (j, y) :: r, hr, h => by
    unfold findR at h
    split at h
    · rename_i hj
      cases h
      rw [← Nat.eq_of_beq_eq_true hj]
      exact hr.1
    · exact runs_find hr.2 h
theorem runs_app {f : FuncId} {g : List UInt8 × List UInt8 → Value} : ∀ {l m : List Row}, runs f g l → runs f g m → runs f g (l ++ m)
  | [], _, _, h => h
  | (_, _) :: _, _, h, h' => ⟨h.1, runs_app h.2 h'⟩
end
section
open Go.Rex
theorem runs_row0 : runs 24 rowV rowT0 := by
  unfold rowT0
  repeat (first | exact trivial | refine ⟨by kernel_rfl, ?_⟩)
theorem runs_row1 : runs 24 rowV rowT1 := by
  unfold rowT1
  repeat (first | exact trivial | refine ⟨by kernel_rfl, ?_⟩)
theorem runs_row2 : runs 24 rowV rowT2 := by
  unfold rowT2
  repeat (first | exact trivial | refine ⟨by kernel_rfl, ?_⟩)
theorem runs_row3 : runs 24 rowV rowT3 := by
  unfold rowT3
  repeat (first | exact trivial | refine ⟨by kernel_rfl, ?_⟩)
theorem runs_row4 : runs 24 rowV rowT4 := by
  unfold rowT4
  repeat (first | exact trivial | refine ⟨by kernel_rfl, ?_⟩)
end
end Go.Proofs.YtoclmkdfcafhfaaGreatDoor
namespace Go.Vcg
open Go.RowKit
def subW (x y : Int) : Int := IntKind.i64.wrap (x - y)
section
variable {P : Program} {μ : Mem} {l : Slots} {L : List Bk}
variable {ty : TypeId} {pos : String} {af : Array Edge} {gd : Option (Nat × Bool)} {ds : Option Nat}
theorem v_subw {p q : Operand} {t t2 : TypeId} {x y : Int} (hx0 : ev l p = some (.int .i64 x)) (hx1 : ev l q = some (.int .i64 y)) : Val P μ l L ⟨ds, .binOp .sub t p q t2, ty, pos, af, gd⟩ (.int .i64 (subW x y)) := v_sub hx0 hx1
end
theorem subW_out {x y n : Int} (hx : -9223372036854775808 ≤ x ∧ x ≤ 9223372036854775807) (hy : 0 ≤ y ∧ y ≤ 200) (hn : n ≤ 200) (h : x < y ∨ y + n < x) : subW x y < 0 ∨ n < subW x y := by
  simp only [subW, IntKind.wrap]
  simp [IntKind.signed, IntKind.bits]
  split <;> omega
end Go.Vcg
namespace Go.Proofs.YtoclmkdfcafhfaaGreatDoor
open Go.Rex Go.RowKit Go.Vcg Go.Shelf
def MaxM (μ : Mem) : Prop := ∀ w, MOk μ w → MaxAt w
theorem MaxM.mono {μ μ' : Mem} (h : MaxM μ) (hle : MLe μ μ') : MaxM μ' := fun w hw => h w (fun b o e => hw b o (hle b o e))
theorem row_runs : runs 24 rowV rowT := runs_app runs_row0 (runs_app runs_row1 (runs_app runs_row2 (runs_app runs_row3 runs_row4)))
theorem out_all : (List.range 173).all (fun k => (findR k rowT).isSome || (Nat.blt k 100 || (Nat.ble 148 k && Nat.blt k 160))) = true := by kernel_rfl
theorem in_all : rowT.all (fun x => Nat.ble 100 x.1 && Nat.ble x.1 172) = true := by kernel_rfl
theorem out_of {k : Nat} (h : findR k rowT = none) : k < 100 ∨ (148 ≤ k ∧ k < 160) ∨ 172 < k := by
  by_cases hk : k < 173
  · have := List.all_eq_true.1 out_all k (List.mem_range.2 hk)
    rw [h] at this
    simp [Nat.blt, Nat.ble_eq] at this
    omega
  · omega
def rowI (op : Int) : List UInt8 × List UInt8 := rowAt op.toNat
theorem kinds (op : Int) : (∃ k x, op = Int.ofNat k ∧ findR k rowT = some x ∧ rowI op = x) ∨ ((op < 100 ∨ (148 ≤ op ∧ op < 160) ∨ 172 < op) ∧ rowI op = ([], [])) := by
  cases h : findR op.toNat rowT with
  | none =>
    have h1 := out_of h
    refine .inr ⟨by omega, ?_⟩
    unfold rowI rowAt
    rw [h]
  | some x =>
    by_cases hp : 0 ≤ op
    · refine .inl ⟨op.toNat, x, by simp; omega, h, ?_⟩
      unfold rowI rowAt
      rw [h]
    · exfalso
      rw [show op.toNat = 0 by omega, show findR 0 rowT = none by kernel_rfl] at h
      cases h
attribute [local irreducible] rowI G GC GQ GA GAop Calls IntKind.wrap Int.decLt Int.decLe
theorem count_spec (s : ByteArray) (n : Nat) (hn : cntF 124 (bl s) = n) (w : World) (μ : Mem) (hμ : MOk μ w) : Calls Tryz.prog 54 #[.string s, .string ⟨#[124]⟩] w fun e w' => e = .returned (.int .i64 n) ∧ Below w.heap.size w w' := by
  refine (Any.strings_Count_one Tryz.lays138 s 124 w).mono fun e w'' ⟨h1, h2⟩ => ⟨?_, h2 ▸ Below.refl _ _⟩
  rw [h1, cntF_eq]
  unfold bl at hn
  rw [hn]
theorem row_spec (w : World) (μ : Mem) (hμ : MOk μ w) (hm : MaxM μ) (op : Int) (ho : -9223372036854775808 ≤ op ∧ op ≤ 9223372036854775807) :
    Calls Tryz.prog 24 #[.int .i64 op] w fun e w' => e = .returned (rowV (rowI op)) ∧ Below w.heap.size w w' := by
  rcases kinds op with ⟨k, x, rfl, h1, h2⟩ | ⟨h1, h2⟩
  · rw [h2]
    exact runP_sound mixed noQ (pr0_ok (hm w hμ)) (by decide) (fun g cs h => by cases h) (runs_find row_runs h1)
  · rw [h2]
    refine call_intro Tryz.func24 rfl Tryz.ntmps24 (by simp) hμ ?_
    by_cases h160 : 160 ≤ op
    · have hs := subW_out (n := 12) ho (y := 160) (by omega) (by omega) (by omega)
      repeat' (first | refine KO ?_ | ((with_reducible apply F1 54); exact rfl; exact EN; exact fun w μc hw' hse => count_spec _ 12 (by kernel_rfl) w μc hw') | (refine KV (b := by first | ((with_reducible apply v_subw); exact rfl; exact rfl)) (c := ?_)) | refine KI ?_ | (refine KB ?_ ?_ <;> intro hp) | refine KG ?_ | fail)
      all_goals first | (exfalso; omega) | exact ret_v2 rfl (by first | exact rv_tmp rfl | exact (RG 0 rfl rfl rfl rfl rfl) | exact (RG 1 rfl rfl rfl rfl rfl) | exact (RG 2 rfl rfl rfl rfl rfl) | exact (RG 3 rfl rfl rfl rfl rfl)) (by first | exact rv_tmp rfl | exact (RG 0 rfl rfl rfl rfl rfl) | exact (RG 1 rfl rfl rfl rfl rfl) | exact (RG 2 rfl rfl rfl rfl rfl) | exact (RG 3 rfl rfl rfl rfl rfl)) rfl rfl
    · have hs := subW_out (n := 47) ho (y := 100) (by omega) (by omega) (by omega)
      repeat' (first | refine KO ?_ | ((with_reducible apply F1 54); exact rfl; exact EN; exact fun w μc hw' hse => count_spec _ 47 (by kernel_rfl) w μc hw') | (refine KV (b := by first | ((with_reducible apply v_subw); exact rfl; exact rfl)) (c := ?_)) | refine KI ?_ | (refine KB ?_ ?_ <;> intro hp) | refine KG ?_ | fail)
      all_goals first | (exfalso; omega) | exact ret_v2 rfl (by first | exact rv_tmp rfl | exact (RG 0 rfl rfl rfl rfl rfl) | exact (RG 1 rfl rfl rfl rfl rfl) | exact (RG 2 rfl rfl rfl rfl rfl) | exact (RG 3 rfl rfl rfl rfl rfl)) (by first | exact rv_tmp rfl | exact (RG 0 rfl rfl rfl rfl rfl) | exact (RG 1 rfl rfl rfl rfl rfl) | exact (RG 2 rfl rfl rfl rfl rfl) | exact (RG 3 rfl rfl rfl rfl rfl)) rfl rfl
theorem name_spec (w : World) (μ : Mem) (hμ : MOk μ w) (hm : MaxM μ) (op : Int) (ho : -9223372036854775808 ≤ op ∧ op ≤ 9223372036854775807) :
    Calls Tryz.prog 8 #[.int .i64 op] w fun e w' => e = .returned (strV (rowI op).1) ∧ Below w.heap.size w w' := by
  refine call_intro Tryz.func8 rfl Tryz.ntmps8 (by simp) hμ ?_
  repeat' (first | refine KO ?_ | ((with_reducible apply C1); exact rfl; exact EN; exact fun w μc hw' hse => row_spec w μc hw' (hm.mono hse.le) op ho) | refine KI ?_ | (refine KB ?_ ?_ <;> intro hp) | refine KG ?_ | fail)
  exact ret_v1 rfl (by first | exact rv_tmp rfl | exact (RG 0 rfl rfl rfl rfl rfl) | exact (RG 1 rfl rfl rfl rfl rfl) | exact (RG 2 rfl rfl rfl rfl rfl) | exact (RG 3 rfl rfl rfl rfl rfl)) rfl
end Go.Proofs.YtoclmkdfcafhfaaGreatDoor
namespace Go.Vcg
open Go.ChangeShapes Go.WideShapes Go.ChangeAt Go.RowKit Go.Deep
def memOf (w : World) : Mem := fun b => w.heap[b]?
theorem memOf_ok (w : World) : MOk (memOf w) w := fun _ _ h => h
theorem MCell.of_cell {w : World} {A : Addr} {v : Value} (h : w.cell? A = some v) : MCell (memOf w) A v := by
  unfold World.cell? at h
  split at h
  · rename_i c t f hh
    by_cases hs : A.spot.isSome
    · simp [hs] at h
    · simp [hs] at h
      exact ⟨c, t, f, hh, by simpa using hs, h⟩
  · cases h
theorem exists_list {α : Type} {R : Nat → α → Prop} : ∀ (n : Nat), (∀ i, i < n → ∃ x, R i x) → ∃ l : List α, l.length = n ∧ ∀ i x, l[i]? = some x → R i x
  | 0, _ => ⟨[], rfl, fun i x h => by simp at h⟩
  | n + 1, h => by
    obtain ⟨l, hl, hr⟩ := exists_list n (fun i hi => h i (by omega))
    obtain ⟨x, hx⟩ := h n (by omega)
    refine ⟨l ++ [x], by simp [hl], fun i y hy => ?_⟩
    by_cases hi : i < n
    · rw [List.getElem?_append_left (by omega)] at hy
      exact hr i y hy
    · rw [List.getElem?_append_right (by omega)] at hy
      have : i - l.length = 0 := by
        have := (List.getElem?_eq_some_iff.1 hy).1
        simp at this; omega
      rw [this] at hy
      simp at hy
      subst hy
      have : i = n := by omega
      subst this; exact hx
section
variable {H : Type} {enc : TypeId × Value → H} {P : Program} {W : World} {base : Nat} {spare : Nat → Bool} {held : Bool}
theorem field_at' {t : TypeId} {fs : Array Field} {cs : List Value} {xs : List (DataW H × List MemPlace)} {n : Nat} (hone : oneCellFields P fs = true) (hlen : cs.length = fs.size) (hxl : xs.length = fs.size)
    (hf : ∀ (i : Nat) (f : Field), fs[i]? = some f → DataW.trod enc P W base spare held n f.type ((cs.drop f.offset).take (P.cellsOf f.type)) = xs[i]?) (i : Nat) (f : Field) (hi : fs[i]? = some f) :
    ∃ c y, cs[i]? = some c ∧ DataW.trod enc P W base spare held n f.type [c] = some y ∧ xs[i]? = some y := by
  have hlt : i < fs.size := (Array.getElem?_eq_some_iff.1 hi).1
  obtain ⟨ho, hc⟩ := hone_of hone i f hi
  have h := hf i f hi
  rw [ho, hc] at h
  have hi1 : i < cs.length := by omega
  have hi2 : i < xs.length := by omega
  refine ⟨cs[i], xs[i], List.getElem?_eq_getElem hi1, ?_, List.getElem?_eq_getElem hi2⟩
  rw [List.drop_eq_getElem_cons hi1] at h
  rw [← List.getElem?_eq_getElem hi2, ← h]
  rfl
end
end Go.Vcg
namespace Go.Proofs.YtoclmkdfcafhfaaGreatDoor
section
open Go.Rex Go.RowKit Go.Vcg Go.Shelf
theorem maxM_of {w : World} (h : MaxAt w) : MaxM (memOf w) := fun w' hw => by
  obtain ⟨m, hm⟩ := h
  refine ⟨m, ?_⟩
  unfold World.cell? at hm ⊢
  split at hm
  · rename_i cs t f h1
    rw [hw _ _ h1]
    exact hm
  · cases hm
def memoR : Memo := fun f vs => match Nat.beq f 24 with
  | true => match vs with
    | [.int .i64 (.ofNat k)] => match Nat.ble k 1000 with
      | true => match rowAt k with
        | (a, b) => some (.tuple ⟨[.string ⟨⟨a⟩⟩, .string ⟨⟨b⟩⟩]⟩)
      | false => none
    | _ => none
  | false => none
theorem memoR_ok {w : World} (h : MaxAt w) : MemoOk Tryz.prog w memoR := fun f vs v e => by
  unfold memoR at e
  split at e
  · rename_i hf
    have hf := Nat.eq_of_beq_eq_true hf
    subst hf
    split at e
    · rename_i k
      split at e
      · rename_i hk
        have hk : k ≤ 1000 := ble_t hk
        split at e
        rename_i a b hab
        cases e
        refine ⟨rfl, rfl, fun w' hk' => ?_⟩
        have := row_spec w' (memOf w') (memOf_ok w') (maxM_of (h.keep hk')) (Int.ofNat k) (by simp; omega)
        have hr : rowI (Int.ofNat k) = (a, b) := hab
        rw [hr] at this
        exact this
      · cases e
    · cases e
  · cases e
theorem bExtra : Builder.Extra Tryz.prog Tryz.lays156_ren := {
  sizeBuilder := by kernel_rfl
  liesBuilder := by kernel_rfl
  t5 := by kernel_rfl
  a5 := Go.Vcg.run_isAgg (by kernel_rfl)
  z5 := Go.Vcg.run_sizeOf (by kernel_rfl)
  v5 := Go.Vcg.run_zeroValue (by kernel_rfl)
  infoByte := by kernel_rfl
  cellsByte := by kernel_rfl
  sizeByte := by kernel_rfl
  neB5 := by decide }
theorem lays240 : Lays.n240 Tryz.prog Tryz.lays156_ren := { Tryz.lays156 with }
def pr1 : CallF := orCall (memoC memoR) (orCall (memoC memoS) (orCall (primCC 103 75) (primJoin 71)))
theorem pr1_ok {w : World} (h : MaxAt w) : CallOk Tryz.prog w 1000 pr1 :=
  orCall_ok (memoC_ok (memoR_ok h)) (orCall_ok (memoC_ok (memoS_ok h)) (orCall_ok
    (primCC_ok (fun b w h0 h1 h2 => Any.Builder_copyCheck_fresh lays240 bExtra.toX72 b w h0 h1 h2) (fun b w h0 => Any.Builder_copyCheck_used lays240 bExtra.toX72 b w h0))
    (primJoin_ok fun bk o c xs sep w h1 h2 h3 h4 h5 => Any.strings_Join Tryz.lays156 bExtra bk o c xs sep w h1 h2 h3 h4 h5)))
end
section
open Go.Rex Go.RowKit Go.Vcg
theorem lives_run : runP Tryz.prog 1000 [] pr1 [] 400 12 [] = some (.bool true) := by kernel_rfl
theorem lives_spec (w : World) (μ : Mem) (hμ : MOk μ w) (hm : MaxM μ) : Calls Tryz.prog 12 #[] w fun e w' => e = .returned (.bool true) ∧ Below w.heap.size w w' :=
  runP_sound mixed noQ (pr1_ok (hm w hμ)) (by decide) (fun g cs h => by cases h) lives_run
end
section
open Go.RowKit Go.Vcg
def isE (op : Int) : Bool := decide (100 ≤ op) && (decide (op < 148) && (decide (op ≠ 121) && (decide (op ≠ 122) && decide (op ≠ 124))))
theorem isE_t {op : Int} (h : 100 ≤ op ∧ op < 148 ∧ op ≠ 121 ∧ op ≠ 122 ∧ op ≠ 124) : isE op = true := by simp [isE, h]
theorem isE_f {op : Int} (h : ¬(100 ≤ op ∧ op < 148 ∧ op ≠ 121 ∧ op ≠ 122 ∧ op ≠ 124)) : isE op = false := by
  cases e : isE op with
  | false => rfl
  | true =>
    exfalso
    simp [isE] at e
    omega
attribute [local irreducible] isE rowI G GC GQ GA GAop Calls IntKind.wrap Int.decLt Int.decLe
theorem isE_spec (w : World) (μ : Mem) (hμ : MOk μ w) (op : Int) :
    Calls Tryz.prog 10 #[.int .i64 op] w fun e w' => e = .returned (.bool (isE op)) ∧ Below w.heap.size w w' := by
  refine call_intro Tryz.func10 rfl Tryz.ntmps10 (by simp) hμ ?_
  by_cases h : 100 ≤ op ∧ op < 148 ∧ op ≠ 121 ∧ op ≠ 122 ∧ op ≠ 124
  · rw [isE_t h]
    repeat' (first | refine KK ?_ | (refine KB ?_ ?_ <;> intro hp) | refine KG ?_ | fail)
    all_goals first | (exfalso; omega) | exact ret_v1 rfl (by first | exact rv_tmp rfl | exact (RG 0 rfl rfl rfl rfl rfl) | exact (RG 1 rfl rfl rfl rfl rfl) | exact (RG 2 rfl rfl rfl rfl rfl) | exact (RG 3 rfl rfl rfl rfl rfl)) rfl | exact ret_v1 rfl (by first | exact rv_tmp rfl | exact (RG 0 rfl rfl rfl rfl rfl) | exact (RG 1 rfl rfl rfl rfl rfl) | exact (RG 2 rfl rfl rfl rfl rfl) | exact (RG 3 rfl rfl rfl rfl rfl)) (congrArg _ (decide_eq_true (by omega)))
  · rw [isE_f h]
    repeat' (first | refine KK ?_ | (refine KB ?_ ?_ <;> intro hp) | refine KG ?_ | fail)
    all_goals first | (exfalso; omega) | exact ret_v1 rfl (by first | exact rv_tmp rfl | exact (RG 0 rfl rfl rfl rfl rfl) | exact (RG 1 rfl rfl rfl rfl rfl) | exact (RG 2 rfl rfl rfl rfl rfl) | exact (RG 3 rfl rfl rfl rfl rfl)) rfl | exact ret_v1 rfl (by first | exact rv_tmp rfl | exact (RG 0 rfl rfl rfl rfl rfl) | exact (RG 1 rfl rfl rfl rfl rfl) | exact (RG 2 rfl rfl rfl rfl rfl) | exact (RG 3 rfl rfl rfl rfl rfl)) (congrArg _ (decide_eq_false (by omega)))
end
section
open Go.RowKit Go.Vcg
theorem inI_d (n lo hi : Int) : Iq.inI n lo hi = decide (lo ≤ n ∧ n ≤ hi) := by
  unfold Iq.inI
  rw [Bool.eq_iff_iff]
  simp
theorem isS_d (op : Int) : Iq.isS op = decide (160 ≤ op ∧ op < 173) := by
  unfold Iq.isS
  rw [Bool.eq_iff_iff]
  simp
attribute [local irreducible] G GC GQ GA GAop Calls IntKind.wrap Int.decLt Int.decLe
theorem pin_spec (n lo hi : Int) (w : World) (μ : Mem) (hμ : MOk μ w) : Calls Tryz.prog 47 #[.int .i64 n, .int .i64 lo, .int .i64 hi] w fun e w' => e = .returned (.bool (Iq.inI n lo hi)) ∧ Below w.heap.size w w' := by
  refine call_intro (args := [.int .i64 n, .int .i64 lo, .int .i64 hi]) Tryz.func47 rfl Tryz.ntmps47 (by simp) hμ ?_
  rw [inI_d]
  repeat' (first | refine KK ?_ | (refine KB ?_ ?_ <;> intro hp) | refine KG ?_ | fail)
  all_goals first | (exfalso; first | omega | contradiction | exact absurd ‹_› ‹¬ _›) | exact ret_s rfl rfl rfl | (refine ret_s rfl rfl ?_; congr 1; first | (rw [decide_eq_true (by omega)]; done) | (rw [decide_eq_false (by omega)]; done) | (rw [Bool.eq_iff_iff]; simp; omega) | (simp [*]; done))
theorem pdeed_spec (op : Int) (w : World) (μ : Mem) (hμ : MOk μ w) : Calls Tryz.prog 75 #[.int .i64 op] w fun e w' => e = .returned (.bool (Iq.isS op)) ∧ Below w.heap.size w w' := by
  refine call_intro (args := [.int .i64 op]) Tryz.func75 rfl Tryz.ntmps75 (by simp) hμ ?_
  rw [isS_d]
  repeat' (first | refine KK ?_ | (refine KB ?_ ?_ <;> intro hp) | refine KG ?_ | fail)
  all_goals first | (exfalso; first | omega | contradiction | exact absurd ‹_› ‹¬ _›) | exact ret_s rfl rfl rfl | (refine ret_s rfl rfl ?_; congr 1; first | (rw [decide_eq_true (by omega)]; done) | (rw [decide_eq_false (by omega)]; done) | (rw [Bool.eq_iff_iff]; simp; omega) | (simp [*]; done))
theorem pmore_spec (t : T) (u : Value) (hu : u.oneCell' = true)  (w : World) (μ : Mem) (hμ : MOk μ w) : Calls Tryz.prog 108 #[.agg (encT t u).toArray] w fun e w' => e = .returned (.bool (Iq.moreB t.op t.m)) ∧ Below w.heap.size w w' := by
  refine call_intro (args := [.agg (encT t u).toArray]) Tryz.func108 rfl Tryz.ntmps108 (by simp) hμ ?_
  by_cases h0 : t.op = 109 ∨ t.op = 110
  · have e : Iq.moreB t.op t.m = true := by
      unfold Iq.moreB
      rw [if_pos h0]
    rw [e]
    rcases h0 with h0 | h0
    all_goals repeat' (first | refine KO ?_ | ((with_reducible apply F1 47); exact rfl; exact EN; (exact fun w μc hw hse => pin_spec _ _ _ w μc hw)) | refine KI ?_ | refine NB fun b => ?_ | (refine KB ?_ ?_ <;> intro hp) | refine KG ?_ | fail)
    all_goals first | (exfalso; first | omega | contradiction | exact absurd ‹_› ‹¬ _›) | exact ret_s rfl rfl rfl | (refine ret_s rfl rfl ?_; congr 1; first | (rw [decide_eq_true (by omega)]; done) | (rw [decide_eq_false (by omega)]; done) | (rw [Bool.eq_iff_iff]; simp; omega) | (simp [*]; done))
  by_cases h1 : t.op = 129
  · have e : Iq.moreB t.op t.m = Iq.inI t.m 0 1 := by
      unfold Iq.moreB
      rw [if_neg h0, if_pos h1]
    rw [e]
    repeat' (first | refine KO ?_ | ((with_reducible apply F1 47); exact rfl; exact EN; (exact fun w μc hw hse => pin_spec _ _ _ w μc hw)) | refine KI ?_ | refine NB fun b => ?_ | (refine KB ?_ ?_ <;> intro hp) | refine KG ?_ | fail)
    all_goals first | (exfalso; first | omega | contradiction | exact absurd ‹_› ‹¬ _›) | exact ret_s rfl rfl rfl | (refine ret_s rfl rfl ?_; congr 1; first | (rw [decide_eq_true (by omega)]; done) | (rw [decide_eq_false (by omega)]; done) | (rw [Bool.eq_iff_iff]; simp; omega) | (simp [*]; done))
  by_cases h2 : t.op = 163
  · have e : Iq.moreB t.op t.m = Iq.inI t.m 0 4096 := by
      unfold Iq.moreB
      rw [if_neg h0, if_neg h1, if_pos h2]
    rw [e]
    repeat' (first | refine KO ?_ | ((with_reducible apply F1 47); exact rfl; exact EN; (exact fun w μc hw hse => pin_spec _ _ _ w μc hw)) | refine KI ?_ | refine NB fun b => ?_ | (refine KB ?_ ?_ <;> intro hp) | refine KG ?_ | fail)
    all_goals first | (exfalso; first | omega | contradiction | exact absurd ‹_› ‹¬ _›) | exact ret_s rfl rfl rfl | (refine ret_s rfl rfl ?_; congr 1; first | (rw [decide_eq_true (by omega)]; done) | (rw [decide_eq_false (by omega)]; done) | (rw [Bool.eq_iff_iff]; simp; omega) | (simp [*]; done))
  have e : Iq.moreB t.op t.m = decide (t.m = 0) := by
    unfold Iq.moreB
    rw [if_neg h0, if_neg h1, if_neg h2]
  rw [e]
  repeat' (first | refine KK ?_ | refine NB fun b => ?_ | (refine KB ?_ ?_ <;> intro hp) | refine KG ?_ | fail)
  all_goals first | (exfalso; first | omega | contradiction | exact absurd ‹_› ‹¬ _›) | exact ret_s rfl rfl rfl | (refine ret_s rfl rfl ?_; congr 1; first | (rw [decide_eq_true (by omega)]; done) | (rw [decide_eq_false (by omega)]; done) | (rw [Bool.eq_iff_iff]; simp; omega) | (simp [*]; done))
end
end Go.Proofs.YtoclmkdfcafhfaaGreatDoor
