/- A machine for closed runs: calls that are answered by a contract that reads or writes memory. -/
import Derived.Test.YtoclmkdfcafhfaaGreatDoorZam
import Derived.Test.YtoclmkdfcafhfaaGreatDoorShelf
import Derived.KernelRfl
import Derived.ProofKit
import Derived.OpenShut
import Derived.ShutString
import Derived.ChangeOld
import Derived.Deep.Slices
import Derived.Deep.Fields
import Derived.Test.YtoclmkdfcafhfaaGreatDoorZag
set_option maxRecDepth 20000
set_option maxHeartbeats 2000000
namespace Go.Rex
open Go.RowKit
open Go.Vcg (jP add_lit)
attribute [local irreducible] dX
def rB (p q : gJ) : gJ := fun f vs h nx => match p f vs h nx with
  | some r => some r
  | none => q f vs h nx
def JX (memo : AL) : gJ := fun f vs h nx => match memo f vs with
  | some v => some (v, h, nx)
  | none => none
section
variable {P : Program} {qs : List FuncId} {N : Nat} {w0 : World} {ρ ρ' : Env} {h h' : Heap} {l : Sls} {a : Act} {w w' : World} {nx nx' : Nat}
theorem mU {p q : gJ} (hp : iH P w0 N p) (hq : iH P w0 N q) : iH P w0 N (rB p q) := by
  intro ρ h nx f vs VS w v h' nx' e r hg hvs R' hR
  unfold rB at e
  split at e
  · rename_i x hx
    cases e
    exact hp ρ h nx f vs VS w v h' nx' hx r hg hvs R' hR
  · exact hq ρ h nx f vs VS w v h' nx' e r hg hvs R' hR
theorem yG {memo : AL} (hme : zU P w0 memo) : iH P w0 N (JX memo) := by
  intro ρ h nx f vs VS w v h2 nx2 e r hg hvs R' hR
  unfold JX at e
  split at e
  · rename_i u hu
    cases e
    obtain ⟨h1, h3, h4⟩ := hme f vs v hu
    have hVS := kQ h1 hvs
    subst hVS
    refine (h4 w r.aT).mono fun e w' he => ?_
    obtain ⟨rfl, hb⟩ := he
    exact hR ρ v w' (Ev.refl _ _ _) (eB h3) (r.after ⟨hb.os, hb.tape, hb.output, hb.size, fun b hb' _ => hb.block b hb'⟩)
  · cases e
def FU : AL := fun _ _ => none
theorem yD : zU P w0 FU := fun f vs v e => by cases e
def exP (P : Program) (N : Nat) (qs : List FuncId) (pr : gJ) (n : Nat) : nJ :=
  Nat.rec (motive := fun _ => nJ) (fun _ _ _ _ => none) (fun k ih => RO P N qs (rB pr (ME P FU ih)) ih k) n
theorem QB (hm : P.follows .mixedOrders = true) (hq : ∀ f ∈ qs, rO P f) {pr : gJ} (hp : iH P w0 N pr) : ∀ n, aBd P qs w0 N (exP P N qs pr n)
  | 0 => by intro c h nx l e h' nx' l' he; cases he
  | n + 1 => XX hm hq (mU hp (MD yD (QB hm hq hp n))) (QB hm hq hp n) n
def VA (P : Program) (N : Nat) (qs : List FuncId) (pr : gJ) (ts : List (Nat × List Value)) (n : Nat) (f : FuncId) (vs : List Value) : Option Value := match rB pr (ME P FU (exP P N qs pr n)) f vs (MY ts) N with
  | some (v, _, _) => match gW v with
    | true => match gV vs with
      | true => some v
      | false => none
    | false => none
  | none => none
theorem kX (hm : P.follows .mixedOrders = true) (hq : ∀ f ∈ qs, rO P f) {pr : gJ} (hp : iH P w N pr) (hN : N ≤ 1048576) {ts : List (Nat × List Value)} (ht : zR N w ts) {n : Nat} {f : FuncId} {vs : List Value} {v : Value} (e : VA P N qs pr ts n f vs = some v) :
    Calls P f vs.toArray w fun e w' => e = .returned v ∧ Below w.heap.size w w' := by
  unfold VA at e
  split at e
  · rename_i u h2 nx2 hu
    split at e
    · rename_i hf
      split at e
      · rename_i hfs
        cases e
        obtain ⟨hr, hg⟩ := VR hN ht
        refine mU hp (MD yD (QB hm hq hp n)) _ _ _ f vs vs w v h2 nx2 hu hr hg (fO hfs) _ fun ρ' V w' hev hV hr' => ?_
        have := eP hf hV
        subst this
        exact ⟨rfl, hr'.aT.below⟩
      · cases e
    · cases e
  · cases e
def OT (f : FuncId) (T : TypeId) : gJ := fun g vs h nx => match Nat.beq g f with
  | true => match vs with
    | [.pointer (some ⟨b, o, none⟩)] => match Nat.beq o 0 with
      | true => match cL h b with
        | some (.cells [p, v] t false) => match Nat.beq t T with
          | true => match p with
            | .pointer none => some (.tuple ⟨[]⟩, eL h b (some (.cells [.pointer (some ⟨b, 0, none⟩), v] t false)), nx)
            | .pointer (some ⟨c, i, none⟩) => match Nat.beq c b with
              | true => match Nat.beq i 0 with
                | true => some (.tuple ⟨[]⟩, h, nx)
                | false => none
              | false => none
            | _ => none
          | false => none
        | _ => none
      | false => none
    | _ => none
  | false => none
theorem VU {f : FuncId} {T : TypeId}
    (c1 : ∀ (b : Nat) (w : World), w.cell? ⟨b, 0, none⟩ = some (.pointer none) → w.shape? b = some (T, 2) → w.frozen? ⟨b, 0, none⟩ = false → Calls P f #[.pointer (some ⟨b, 0, none⟩)] w fun e w' => e = .returned (.tuple #[]) ∧ w' = w.setCell ⟨b, 0, none⟩ (.pointer (some ⟨b, 0, none⟩)))
    (c2 : ∀ (b : Nat) (w : World), w.cell? ⟨b, 0, none⟩ = some (.pointer (some ⟨b, 0, none⟩)) → Calls P f #[.pointer (some ⟨b, 0, none⟩)] w fun e w' => e = .returned (.tuple #[]) ∧ w' = w) : iH P w0 N (OT f T) := by
  intro ρ h nx g vs VS w v h2 nx2 e r hg hvs R' hR
  unfold OT at e
  split at e
  · rename_i hgf
    have hgf := Nat.eq_of_beq_eq_true hgf
    subst hgf
    split at e
    · rename_i b o
      split at e
      · rename_i ho
        have ho := Nat.eq_of_beq_eq_true ho
        subst ho
        split at e
        · rename_i p vb t hgb
          split at e
          · rename_i ht
            have ht := Nat.eq_of_beq_eq_true ht
            subst ht
            obtain ⟨B, C, hB, CS, g1, g2⟩ := r.ok b _ hgb
            obtain ⟨VP, rfl, hVP⟩ : ∃ VP, VS = [VP] ∧ rv ρ (.pointer (some ⟨b, 0, none⟩)) = some VP := by
              unfold rvs at hvs
              split at hvs
              · rename_i V R h1 h2
                simp [rvs] at h2
                subst h2
                cases hvs
                exact ⟨V, rfl, h1⟩
              · cases hvs
            obtain ⟨B', C', O', k1, k2⟩ := pP hVP
            rw [hB] at k1
            cases k1
            subst k2
            obtain ⟨P1, V1, rfl, hP1, hV1⟩ : ∃ P1 V1, CS = [P1, V1] ∧ rv ρ p = some P1 ∧ rv ρ vb = some V1 := by
              unfold rvs at g1
              split at g1
              · rename_i V R q1 q2
                unfold rvs at q2
                split at q2
                · rename_i V' R' q3 q4
                  simp [rvs] at q4
                  subst q4
                  cases q2
                  cases g1
                  exact ⟨V, V', rfl, q1, q3⟩
                · cases q2
              · cases g1
            split at e
            · cases e
              have hp0 := bU hP1 rfl
              subst hp0
              refine (c1 B w (by simp [World.cell?, g2]) (by simp [World.shape?, g2]) (by simp [World.frozen?, g2])).mono fun e w' he => ?_
              obtain ⟨rfl, rfl⟩ := he
              have hlt : B < w.heap.size := (Array.getElem?_eq_some_iff.1 g2).1
              refine hR ρ _ _ ⟨fun _ _ => rfl, Nat.le_refl _, Pr.set (cJ hgb) _⟩ rfl (r.upd hgb rfl rfl hB ⟨rfl, rfl, rfl, by simp, fun k _ hk => Below.heap_setCell w ⟨B, 0, none⟩ _ k hk⟩ ?_)
              refine ⟨[.pointer (some ⟨B, 0, none⟩), V1], ?_, ?_⟩
              · simp [rvs, rv, hB, hV1]
              · have hh : (w.setCell ⟨B, 0, none⟩ (.pointer (some ⟨B, 0, none⟩))).heap[B]? = some (Obj.cells #[.pointer (some ⟨B, 0, none⟩), V1] t (0, 0)) := by
                  simp [World.setCell, Array.getElem?_modify, g2]
                exact hh
            · rename_i c i
              split at e
              · rename_i hc
                have hc := Nat.eq_of_beq_eq_true hc
                subst hc
                split at e
                · rename_i hi
                  have hi := Nat.eq_of_beq_eq_true hi
                  subst hi
                  cases e
                  obtain ⟨B1, C1, O1, q1, q2⟩ := pP hP1
                  rw [hB] at q1
                  cases q1
                  subst q2
                  refine (c2 B w (by simp [World.cell?, g2])).mono fun e w' he => ?_
                  obtain ⟨rfl, rfl⟩ := he
                  exact hR ρ _ _ (Ev.refl _ _ _) rfl r
                · cases e
              · cases e
            · cases e
          · cases e
        · cases e
      · cases e
    · cases e
  · cases e
def wH : List Value → Option (List ByteArray)
  | [] => some []
  | .string s :: r => match wH r with
    | some l => some (s :: l)
    | none => none
  | _ :: _ => none
theorem rQ : ∀ {cs : List Value} {xs : List ByteArray}, wH cs = some xs → cs = xs.map Value.string
  | [], xs, e => by simp [wH] at e; simp [e]
  | v :: r, xs, e => by
    unfold wH at e
    split at e
    · rename_i h; cases h
    · rename_i s r' h
      cases h
      split at e
      · rename_i l hl
        cases e
        rw [List.map_cons, ← rQ hl]
      · cases e
    · cases e
def xO (f : FuncId) : gJ := fun g vs h nx => match Nat.beq g f with
  | true => match vs with
    | [.slice (some ⟨b, o, none⟩) n c, .string sep] => match tS h b with
      | some cs => match lK o n cs with
        | some xs => match wH xs with
          | some ys => match Nat.blt 0 n with
            | true => match Nat.ble n c with
              | true => match Nat.ble n 65536 with
                | true => match Nat.ble (Lib.join (ys.map (·.data.toList)) sep.data.toList).length 16777216 with
                  | true => some (.string ⟨⟨Lib.join (ys.map (·.data.toList)) sep.data.toList⟩⟩, h, nx)
                  | false => none
                | false => none
              | false => none
            | false => none
          | none => none
        | none => none
      | none => none
    | _ => none
  | false => none
theorem IX {f : FuncId}
    (c1 : ∀ (bk o c : Nat) (xs : List ByteArray) (sep : ByteArray) (w : World), (∀ (j : Nat) x, xs[j]? = some x → w.cell? ⟨bk, o + j, none⟩ = some (.string x)) → bk < w.heap.size → xs.length ≤ 140737488355328 → xs.length ≤ c →
      (Lib.join (xs.map (·.data.toList)) sep.data.toList).length ≤ 140737488355328 →
      Calls P f #[.slice (some ⟨bk, o, none⟩) xs.length c, .string sep] w fun e w' => e = .returned (.string ⟨(Lib.join (xs.map (·.data.toList)) sep.data.toList).toArray⟩) ∧ Below w.heap.size w w') : iH P w0 N (xO f) := by
  intro ρ h nx g vs VS w v h2 nx2 e r hg hvs R' hR
  unfold xO at e
  split at e
  · rename_i hgf
    have hgf := Nat.eq_of_beq_eq_true hgf
    subst hgf
    split at e
    · rename_i b o n c sep
      split at e
      · rename_i cs hcs
        split at e
        · rename_i xs hxs
          split at e
          · rename_i ys hys
            split at e
            · rename_i hn
              have hn := gR hn
              split at e
              · rename_i hnc
                have hnc := eC hnc
                split at e
                · rename_i hn2
                  have hn2 := eC hn2
                  split at e
                  · rename_i hl
                    have hl := eC hl
                    cases e
                    have hxe := rQ hys
                    subst hxe
                    obtain ⟨B, C, CS, q1, q2, q3⟩ := kS r.ok hcs
                    obtain ⟨XS, k1, k2, k3⟩ := mN q2 hxs
                    have hfl : ∀ l : List ByteArray, gV (l.map Value.string) = true := fun l => by
                      induction l with
                      | nil => rfl
                      | cons x l ih => simp only [List.map_cons, gV, flat, ih, Bool.and_self]
                    have hXS := kQ (hfl ys) k1
                    subst hXS
                    obtain ⟨V1, V2, rfl, hV1, hV2⟩ : ∃ V1 V2, VS = [V1, V2] ∧ rv ρ (.slice (some ⟨b, o, none⟩) n c) = some V1 ∧ rv ρ (.string sep) = some V2 := by
                      unfold rvs at hvs
                      split at hvs
                      · rename_i V R q1 q2
                        unfold rvs at q2
                        split at q2
                        · rename_i V' R' q3 q4
                          simp [rvs] at q4
                          subst q4
                          cases q2
                          cases hvs
                          exact ⟨V, V', rfl, q1, q3⟩
                        · cases q2
                      · cases hvs
                    have := bU hV2 rfl
                    subst this
                    have hyl : ys.length = n := by have := k2; simpa using this
                    obtain ⟨B', C', O', p1, p2⟩ := iT hV1
                    rw [q1] at p1
                    cases p1
                    obtain ⟨c', rfl, hc'⟩ : ∃ c', V1 = .slice (some ⟨B, o, none⟩) n c' ∧ n ≤ c' := by
                      rcases p2 with ⟨_, rfl⟩ | ⟨_, h3, rfl⟩
                      · exact ⟨c, by rw [Nat.zero_add], hnc⟩
                      · exact ⟨_, by rw [Nat.zero_add], by omega⟩
                    have hcell : ∀ (j : Nat) x, ys[j]? = some x → w.cell? ⟨B, o + j, none⟩ = some (.string x) := fun j x hx => by
                      have h1 : (ys.map Value.string)[j]? = some (.string x) := by rw [List.getElem?_map, hx]; rfl
                      exact q3 _ _ (k3 j _ h1)
                    have hBlt : B < w.heap.size := by
                      obtain ⟨x, hx⟩ : ∃ x, ys[0]? = some x := ⟨ys[0], List.getElem?_eq_getElem (by omega)⟩
                      have := hcell 0 x hx
                      unfold World.cell? at this
                      cases hh : w.heap[B]? with
                      | none => simp [hh] at this
                      | some _ => exact (Array.getElem?_eq_some_iff.1 hh).1
                    have := c1 B o c' ys sep w hcell hBlt (by omega) (by omega) (by omega)
                    rw [hyl] at this
                    refine this.mono fun e w' he => ?_
                    obtain ⟨rfl, hb⟩ := he
                    exact hR ρ _ w' (Ev.refl _ _ _) (eB rfl) (r.after ⟨hb.os, hb.tape, hb.output, hb.size, fun b hb' _ => hb.block b hb'⟩)
                  · cases e
                · cases e
              · cases e
            · cases e
          · cases e
        · cases e
      · cases e
    · cases e
  · cases e
end
end Go.Rex
namespace Go.Proofs.YtoclmkdfcafhfaaGreatDoor
section
open Go.Rex Go.RowKit Go.Vcg Go.Shelf
theorem mixed : Tryz.prog.follows .mixedOrders = true := by kernel_rfl
def tF (w : World) : Prop := ∃ m, w.cell? ⟨Tryz.lays145_ren.g 1, 0, none⟩ = some (.int .i64 m)
theorem tF.aT {w w' : World} (h : tF w) (hk : jP [] w w') : tF w' := by
  obtain ⟨m, hm⟩ := h
  refine ⟨m, ?_⟩
  have hlt : (Tryz.lays145_ren.g 1) < w.heap.size := by
    unfold World.cell? at hm
    split at hm
    · rename_i h1; exact (Array.getElem?_eq_some_iff.1 h1).1
    · cases hm
  unfold World.cell? at hm ⊢
  rw [hk.block _ hlt (by simp)]
  exact hm
def aA1 (c : UInt8) : List UInt8 → List UInt8 → Option (List UInt8 × List UInt8)
  | [], _ => none
  | b :: l, acc => match Nat.beq b.toNat c.toNat with
    | true => some (acc.reverse, l)
    | false => aA1 c l (b :: acc)
theorem EB {b c : UInt8} (h : Nat.beq b.toNat c.toNat = true) : b = c := UInt8.toNat_inj.1 (Nat.eq_of_beq_eq_true h)
theorem wC {b c : UInt8} (h : Nat.beq b.toNat c.toNat = false) : (c == b) = false := by
  rw [beq_eq_false_iff_ne]
  rintro rfl
  rw [Nat.beq_refl] at h
  cases h
theorem DQ (c : UInt8) : ∀ (l acc : List UInt8), match aA1 c l acc with
    | some (x, y) => 0 ≤ Lib.index l [c] ∧ x = acc.reverse ++ l.take (Lib.index l [c]).toNat ∧ y = l.drop ((Lib.index l [c]).toNat + 1)
    | none => Lib.index l [c] = -1
  | [], acc => by simp [aA1, Lib.index]
  | b :: l, acc => by
    unfold aA1
    cases hb : Nat.beq b.toNat c.toNat
    · have h1 : [c].isPrefixOf (b :: l) = false := by simp [List.isPrefixOf, wC hb]
      have ih := DQ c l (b :: acc)
      have hge := Lib.index_ge l [c]
      unfold Lib.index
      rw [h1]
      simp only [Bool.false_eq_true, if_false]
      split at ih
      · rename_i x y he
        obtain ⟨h2, h3, h4⟩ := ih
        have hne : (Lib.index l [c] == -1) = false := by rw [beq_eq_false_iff_ne]; omega
        simp only [hne, Bool.false_eq_true, if_false]
        have ht : (Lib.index l [c] + 1).toNat = (Lib.index l [c]).toNat + 1 := by omega
        refine ⟨by omega, ?_, ?_⟩
        · rw [h3, ht]; simp
        · rw [h4, ht]; simp
      · rename_i he
        simp [ih]
    · have hbc := EB hb
      subst hbc
      have h1 : [b].isPrefixOf (b :: l) = true := by simp [List.isPrefixOf]
      unfold Lib.index
      simp [h1]
def aA0 (c : UInt8) (l : List UInt8) : Value := match aA1 c l [] with
  | some (x, y) => .tuple ⟨[.string ⟨⟨x⟩⟩, .string ⟨⟨y⟩⟩, .bool true]⟩
  | none => .tuple ⟨[.string ⟨⟨l⟩⟩, .string ⟨⟨[]⟩⟩, .bool false]⟩
theorem aC8 (c : UInt8) (l : List UInt8) : aA0 c l = .tuple #[.string ⟨(Lib.cut l [c]).1.toArray⟩, .string ⟨(Lib.cut l [c]).2.1.toArray⟩, .bool (Lib.cut l [c]).2.2] := by
  have h := DQ c l []
  unfold aA0 Lib.cut
  split at h
  · rename_i x y he
    obtain ⟨h1, rfl, rfl⟩ := h
    simp [h1]
  · rename_i he
    simp [h]
theorem WY (c : UInt8) (l : List UInt8) : gW (aA0 c l) = true := by
  unfold aA0
  split <;> rfl
def cntF (c : UInt8) : List UInt8 → Nat
  | [] => 0
  | b :: l => match Nat.beq b.toNat c.toNat with
    | true => Nat.succ (cntF c l)
    | false => cntF c l
theorem GS (c : UInt8) : ∀ l : List UInt8, Lib.countByte l c = cntF c l
  | [] => rfl
  | b :: l => by
    have ih := GS c l
    unfold Lib.countByte at ih ⊢
    unfold cntF
    rw [List.count_cons, ih]
    cases hb : Nat.beq b.toNat c.toNat
    · have := wC hb
      rw [beq_eq_false_iff_ne] at this
      simp [Ne.symm this]
    · have := EB hb
      simp [this]
def KT (c : UInt8) : List UInt8 → Nat → Int
  | [], _ => -1
  | b :: l, n => match Nat.beq b.toNat c.toNat with
    | true => .ofNat n
    | false => KT c l (n + 1)
theorem TJ (c : UInt8) : ∀ (l : List UInt8) (n : Nat), (Lib.index l [c] = -1 → KT c l n = -1) ∧ (Lib.index l [c] ≠ -1 → KT c l n = n + Lib.index l [c])
  | [], n => by simp [KT, Lib.index]
  | b :: l, n => by
    have ih := TJ c l (n + 1)
    have hge := Lib.index_ge l [c]
    unfold KT Lib.index
    cases hb : Nat.beq b.toNat c.toNat
    · have h1 : [c].isPrefixOf (b :: l) = false := by simp [List.isPrefixOf, wC hb]
      rw [h1]
      simp only [Bool.false_eq_true, if_false]
      by_cases h : Lib.index l [c] = -1
      · simp [h, ih.1 h]
      · have hne : (Lib.index l [c] == -1) = false := by rw [beq_eq_false_iff_ne]; exact h
        simp only [hne, Bool.false_eq_true, if_false]
        rw [ih.2 h]
        constructor
        · intro h2; omega
        · intro _; omega
    · have hbc := EB hb
      subst hbc
      have h1 : [b].isPrefixOf (b :: l) = true := by simp [List.isPrefixOf]
      simp [h1]
theorem TK (c : UInt8) (l : List UInt8) : Lib.index l [c] = KT c l 0 := by
  have h := TJ c l 0
  by_cases h1 : Lib.index l [c] = -1
  · rw [h.1 h1, h1]
  · rw [h.2 h1]; omega
theorem TL (c : UInt8) : ∀ l : List UInt8, Lib.indexByte l c = Lib.index l [c]
  | [] => by simp [Lib.indexByte, Lib.index]
  | b :: l => by
    have ih := TL c l
    unfold Lib.indexByte Lib.index
    rw [ih]
    cases hb : Nat.beq b.toNat c.toNat
    · have h1 : [c].isPrefixOf (b :: l) = false := by simp [List.isPrefixOf, wC hb]
      have h2 : (b == c) = false := by
        have := wC hb
        rw [beq_eq_false_iff_ne] at this ⊢
        exact Ne.symm this
      rw [h1, h2]
    · have hbc := EB hb
      subst hbc
      have h1 : [b].isPrefixOf (b :: l) = true := by simp [List.isPrefixOf]
      simp [h1]
theorem wB {v : Value} {c : UInt8} (h : Rex.byteOf v = some c) : v = .int .u8 c.toNat := by
  have := Rex.mI (cs := [v]) (l := [c]) (by simp [Rex.bytesOf, h])
  simpa using this
def aD0 (l : List UInt8) : Bool := Nat.ble l.length 65536
def TB : AL := fun f vs => match Nat.beq f 55 with
  | true => match vs with
    | [.string ⟨⟨l⟩⟩, .string ⟨⟨[c]⟩⟩] => match aD0 l with
      | true => some (aA0 c l)
      | false => none
    | _ => none
  | false => match Nat.beq f 54 with
    | true => match vs with
      | [.string ⟨⟨l⟩⟩, .string ⟨⟨[c]⟩⟩] => some (.int .i64 (.ofNat (cntF c l)))
      | _ => none
    | false => match Nat.beq f 82 with
      | true => match vs with
        | [.string ⟨⟨l⟩⟩, .string ⟨⟨[c]⟩⟩] => match aD0 l with
          | true => some (.int .i64 (KT c l 0))
          | false => none
        | _ => none
      | false => match Nat.beq f 59 with
        | true => match vs with
          | [.string ⟨⟨l⟩⟩, v] => match Rex.byteOf v with
            | some c => some (.int .i64 (KT c l 0))
            | none => none
          | _ => none
        | false => match Nat.beq f 62 with
          | true => match vs with
            | [.string s, v] => match Rex.byteOf v with
              | some c => match Nat.ble s.size 65536 with
                | true => some (.int .i64 (Lib.lastIndexByte s c.toNat))
                | false => none
              | none => none
            | _ => none
          | false => match Nat.beq f 86 with
            | true => match vs with
              | [.string s, .string ⟨⟨[9, 10, 13, 32]⟩⟩] => match Nat.ble s.size 65536 with
                | true => some (.string ⟨⟨Lib.trimS (bl s) [9, 10, 13, 32]⟩⟩)
                | false => none
              | _ => none
            | false => none
theorem aFp (w : World) (n : Nat) : Below w.heap.size w (w.drewN n) := ⟨rfl, rfl, rfl, Nat.le_refl _, fun _ _ => rfl⟩
theorem JW {w : World} (h : tF w) : zU Tryz.prog w TB := fun f vs v e => by
  unfold TB at e
  split at e
  · rename_i hf
    have hf := Nat.eq_of_beq_eq_true hf
    subst hf
    split at e
    · rename_i l c
      split at e
      · rename_i hl
        have hl : l.length ≤ 65536 := eC hl
        cases e
        refine ⟨rfl, WY c l, fun w' hk => ?_⟩
        obtain ⟨m, hm⟩ := h.aT hk
        refine (Any.strings_Cut Tryz.lays145 ⟨⟨l⟩⟩ ⟨⟨[c]⟩⟩ m w' (show l.length < _ by omega) hm).mono fun e w'' ⟨h1, n, h2⟩ => ⟨?_, h2 ▸ aFp w' n⟩
        rw [h1, aC8]
      · cases e
    · cases e
  · split at e
    · rename_i hf
      have hf := Nat.eq_of_beq_eq_true hf
      subst hf
      split at e
      · rename_i l c
        cases e
        refine ⟨rfl, rfl, fun w' hk => ?_⟩
        refine (Any.strings_Count_one Tryz.lays138 ⟨⟨l⟩⟩ c w').mono fun e w'' ⟨h1, h2⟩ => ⟨?_, h2 ▸ Below.refl _ _⟩
        rw [h1, ← GS]
        rfl
      · cases e
    · split at e
      · rename_i hf
        have hf := Nat.eq_of_beq_eq_true hf
        subst hf
        split at e
        · rename_i l c
          split at e
          · rename_i hl
            have hl : l.length ≤ 65536 := eC hl
            cases e
            refine ⟨rfl, rfl, fun w' hk => ?_⟩
            obtain ⟨m, hm⟩ := h.aT hk
            refine (Any.strings_Index Tryz.lays143 ⟨⟨l⟩⟩ ⟨⟨[c]⟩⟩ m w' (show l.length < _ by omega) hm).mono fun e w'' ⟨h1, h2⟩ => ⟨?_, h2 ▸ Below.refl _ _⟩
            rw [h1, ← TK]
          · cases e
        · cases e
      · split at e
        · rename_i hf
          have hf := Nat.eq_of_beq_eq_true hf
          subst hf
          split at e
          · rename_i l v
            split at e
            · rename_i c hc
              cases e
              have hv := wB hc
              subst hv
              refine ⟨rfl, rfl, fun w' hk => ?_⟩
              refine (Any.strings_IndexByte Tryz.lays137 ⟨⟨l⟩⟩ c.toNat w').mono fun e w'' ⟨h1, h2⟩ => ⟨?_, h2 ▸ Below.refl _ _⟩
              have hcc : ((c.toNat : Int)).toNat.toUInt8 = c := by simp
              rw [h1, hcc, TL, ← TK]
            · cases e
          · cases e
        · split at e
          · rename_i hf
            have hf := Nat.eq_of_beq_eq_true hf
            subst hf
            split at e
            · rename_i s v
              split at e
              · rename_i c hc
                split at e
                · rename_i hl
                  have hl : s.size ≤ 65536 := eC hl
                  cases e
                  have hv := wB hc
                  subst hv
                  refine ⟨rfl, rfl, fun w' hk => ?_⟩
                  exact (Any.strings_LastIndexByte Tryz.lays149 s c.toNat (by omega) w').mono fun e w'' ⟨h1, h2⟩ => ⟨h1, h2 ▸ Below.refl _ _⟩
                · cases e
              · cases e
            · cases e
          · split at e
            · rename_i hf
              have hf := Nat.eq_of_beq_eq_true hf
              subst hf
              split at e
              · rename_i s
                split at e
                · rename_i hl
                  have hl : s.size ≤ 65536 := eC hl
                  cases e
                  refine ⟨rfl, rfl, fun w' hk => ?_⟩
                  exact Any.strings_Trim_laid Tryz.lays160 (by kernel_rfl) s ⟨#[9, 10, 13, 32]⟩ w' (by omega) (by decide) (ascii_of_all (by decide))
                · cases e
              · cases e
            · cases e
abbrev Row := Nat × List UInt8 × List UInt8
def xA : List Row := [(100, [85, 110, 100, 101, 102], []), (101, [78, 117, 108, 108], []), (102, [66, 111, 111, 108], []), (103, [78, 117, 109], []), (104, [78, 97, 78], []), (105, [84, 101, 120, 116], []), (106, [72, 111, 108, 101], []), (107, [76, 111, 99, 97, 108], []), (108, [83, 101, 116, 76, 111, 99, 97, 108], [101]), (109, [72, 101, 108, 100], []), (110, [83, 101, 116, 72, 101, 108, 100], [101]), (111, [67, 104, 101, 99, 107], [101]), (112, [67, 111, 110, 115, 116], [101]), (113, [71, 108, 111, 98, 97, 108], []), (114, [83, 101, 116, 71, 108, 111, 98, 97, 108], [101]), (115, [84, 121, 112, 101, 79, 102], [101])]
def wZ : List Row := [(116, [84, 104, 105, 115], []), (117, [65, 114, 103], []), (118, [82, 101, 115, 116], []), (119, [70, 117, 110, 99], []), (120, [79, 98, 106, 101, 99, 116], [112, 42]), (121, [80, 117, 116], [101, 101]), (122, [67, 111, 112, 121], [101]), (123, [65, 114, 114, 97, 121], [97, 42]), (124, [83, 112, 114, 101, 97, 100], [101]), (125, [71, 101, 116], [101, 101]), (126, [83, 101, 116], [101, 101, 101]), (127, [68, 101, 108, 101, 116, 101], [101, 101])]
def wY : List Row := [(128, [73, 110], [101, 101]), (129, [67, 97, 108, 108], [101, 97, 42]), (130, [67, 97, 108, 108, 79, 110], [101, 101, 97, 42]), (131, [78, 101, 119], [101, 97, 42]), (132, [85, 110, 97, 114, 121], [101]), (133, [66, 105, 110, 97, 114, 121], [101, 101]), (134, [76, 111, 103, 105, 99], [101, 101]), (135, [67, 111, 110, 100], [101, 101, 101]), (136, [83, 101, 113], [98, 42, 101]), (137, [89, 105, 101, 108, 100], [101])]
def wX : List Row := [(138, [68, 101, 108, 101, 103, 97, 116, 101], [101]), (139, [75, 101, 121], [101]), (140, [84, 111, 84, 101, 120, 116], [101]), (141, [84, 111, 78, 117, 109], [101]), (142, [73, 116, 101, 114], [101]), (143, [78, 101, 120, 116], [101]), (144, [67, 108, 111, 115, 101], [101]), (145, [75, 101, 121, 115], [101]), (146, [79, 116, 104, 101, 114, 115], [101, 101, 42]), (147, [78, 101, 101, 100], [101])]
def wW : List Row := [(160, [68, 111], [101]), (161, [66, 108, 111, 99, 107], [115, 42]), (162, [73, 102], [101, 115, 115]), (163, [76, 111, 111, 112], [101, 115, 115]), (164, [76, 97, 98, 101, 108], [115]), (165, [66, 114, 101, 97, 107], []), (166, [65, 103, 97, 105, 110], []), (167, [82, 101, 116, 117, 114, 110], [101]), (168, [84, 104, 114, 111, 119], [101]), (169, [84, 114, 121], [115, 115, 115]), (170, [83, 99, 111, 112, 101], [115]), (171, [70, 114, 101, 115, 104], []), (172, [78, 111, 110, 101], [])]
def uV : List Row := xA ++ (wZ ++ (wY ++ (wX ++ (wW))))
def lU (k : Nat) : List Row → Option (List UInt8 × List UInt8)
  | [] => none
  | (j, x) :: r => match Nat.beq j k with
    | true => some x
    | false => lU k r
def rowAt (k : Nat) : List UInt8 × List UInt8 := match lU k uV with
  | some x => x
  | none => ([], [])
def qS (l : List UInt8) : Value := .string ⟨⟨l⟩⟩
def NU (x : List UInt8 × List UInt8) : Value := .tuple ⟨[.string ⟨⟨x.1⟩⟩, .string ⟨⟨x.2⟩⟩]⟩
def pr0 : gJ := JX TB
theorem FM {w : World} (h : tF w) : iH Tryz.prog w 1000 pr0 := yG (JW h)
theorem noQ : ∀ f ∈ ([] : List FuncId), rO Tryz.prog f := fun f h => by cases h
def runs (f : FuncId) (g : List UInt8 × List UInt8 → Value) : List Row → Prop
  | [] => True
  | (k, x) :: r => VA Tryz.prog 1000 [] pr0 [] 400 f [.int .i64 (.ofNat k)] = some (g x) ∧ runs f g r
theorem pQ {f : FuncId} {g : List UInt8 × List UInt8 → Value} {k : Nat} {x : List UInt8 × List UInt8} : ∀ {l : List Row}, runs f g l → lU k l = some x → VA Tryz.prog 1000 [] pr0 [] 400 f [.int .i64 (.ofNat k)] = some (g x)
  | [], _, h => by cases h
  | (j, y) :: r, hr, h => by
    unfold lU at h
    split at h
    · rename_i hj
      cases h
      rw [← Nat.eq_of_beq_eq_true hj]
      exact hr.1
    · exact pQ hr.2 h
theorem fA {f : FuncId} {g : List UInt8 × List UInt8 → Value} : ∀ {l m : List Row}, runs f g l → runs f g m → runs f g (l ++ m)
  | [], _, _, h => h
  | (_, _) :: _, _, h, h' => ⟨h.1, fA h.2 h'⟩
end
section
open Go.Rex
theorem UT : runs 24 NU xA := by
  unfold xA
  repeat (first | exact trivial | refine ⟨by kernel_rfl, ?_⟩)
theorem UZ : runs 9 (fun x => qS x.1) xA := by
  unfold xA
  repeat (first | exact trivial | refine ⟨by kernel_rfl, ?_⟩)
theorem UR : runs 24 NU wZ := by
  unfold wZ
  repeat (first | exact trivial | refine ⟨by kernel_rfl, ?_⟩)
theorem UY : runs 9 (fun x => qS x.1) wZ := by
  unfold wZ
  repeat (first | exact trivial | refine ⟨by kernel_rfl, ?_⟩)
theorem UQ : runs 24 NU wY := by
  unfold wY
  repeat (first | exact trivial | refine ⟨by kernel_rfl, ?_⟩)
theorem UX : runs 9 (fun x => qS x.1) wY := by
  unfold wY
  repeat (first | exact trivial | refine ⟨by kernel_rfl, ?_⟩)
theorem UP : runs 24 NU wX := by
  unfold wX
  repeat (first | exact trivial | refine ⟨by kernel_rfl, ?_⟩)
theorem UW : runs 9 (fun x => qS x.1) wX := by
  unfold wX
  repeat (first | exact trivial | refine ⟨by kernel_rfl, ?_⟩)
theorem UO : runs 24 NU wW := by
  unfold wW
  repeat (first | exact trivial | refine ⟨by kernel_rfl, ?_⟩)
theorem UU : runs 9 (fun x => qS x.1) wW := by
  unfold wW
  repeat (first | exact trivial | refine ⟨by kernel_rfl, ?_⟩)
end
end Go.Proofs.YtoclmkdfcafhfaaGreatDoor
namespace Go.Vcg
open Go.RowKit
def aBs (x y : Int) : Int := IntKind.i64.wrap (x - y)
section
variable {P : Program} {μ : Mem} {l : aF} {L : List Bk}
variable {ty : TypeId} {pos : String} {af : Array Edge} {gd : Option (Nat × Bool)} {ds : Option Nat}
theorem XE {p q : Operand} {t t2 : TypeId} {x y : Int} (hx0 : ev l p = some (.int .i64 x)) (hx1 : ev l q = some (.int .i64 y)) : Val P μ l L ⟨ds, .binOp .sub t p q t2, ty, pos, af, gd⟩ (.int .i64 (aBs x y)) := XF hx0 hx1
end
theorem HM {x y n : Int} (hx : -9223372036854775808 ≤ x ∧ x ≤ 9223372036854775807) (hy : 0 ≤ y ∧ y ≤ 200) (hn : n ≤ 200) (h : x < y ∨ y + n < x) : aBs x y < 0 ∨ n < aBs x y := by
  simp only [aBs, IntKind.wrap]
  simp [IntKind.signed, IntKind.bits]
  split <;> omega
end Go.Vcg
namespace Go.Proofs.YtoclmkdfcafhfaaGreatDoor
open Go.Rex Go.RowKit Go.Vcg Go.Shelf
def rP (μ : Mem) : Prop := ∀ w, MOk μ w → tF w
theorem rP.mono {μ μ' : Mem} (h : rP μ) (hle : MLe μ μ') : rP μ' := fun w hw => h w (fun b o e => hw b o (hle b o e))
theorem YN : runs 24 NU uV := fA UT (fA UR (fA UQ (fA UP UO)))
theorem YU : runs 9 (fun x => qS x.1) uV := fA UZ (fA UY (fA UX (fA UW UU)))
theorem aB8 : (List.range 173).all (fun k => (lU k uV).isSome || (Nat.blt k 100 || (Nat.ble 148 k && Nat.blt k 160))) = true := by kernel_rfl
theorem aE6 : uV.all (fun x => Nat.ble 100 x.1 && Nat.ble x.1 172) = true := by kernel_rfl
theorem aEv {k : Nat} (h : lU k uV = none) : k < 100 ∨ (148 ≤ k ∧ k < 160) ∨ 172 < k := by
  by_cases hk : k < 173
  · have := List.all_eq_true.1 aB8 k (List.mem_range.2 hk)
    rw [h] at this
    simp [Nat.blt, Nat.ble_eq] at this
    omega
  · omega
def aH (op : Int) : List UInt8 × List UInt8 := rowAt op.toNat
theorem kinds (op : Int) : (∃ k x, op = Int.ofNat k ∧ lU k uV = some x ∧ aH op = x) ∨ ((op < 100 ∨ (148 ≤ op ∧ op < 160) ∨ 172 < op) ∧ aH op = ([], [])) := by
  cases h : lU op.toNat uV with
  | none =>
    have h1 := aEv h
    refine .inr ⟨by omega, ?_⟩
    unfold aH rowAt
    rw [h]
  | some x =>
    by_cases hp : 0 ≤ op
    · refine .inl ⟨op.toNat, x, by simp; omega, h, ?_⟩
      unfold aH rowAt
      rw [h]
    · exfalso
      rw [show op.toNat = 0 by omega, show lU 0 uV = none by kernel_rfl] at h
      cases h
attribute [local irreducible] aH G GC GQ GA bO Calls IntKind.wrap Int.decLt Int.decLe
theorem zK (s : ByteArray) (n : Nat) (hn : cntF 124 (bl s) = n) (w : World) (μ : Mem) (hμ : MOk μ w) : Calls Tryz.prog 54 #[.string s, .string ⟨#[124]⟩] w fun e w' => e = .returned (.int .i64 n) ∧ Below w.heap.size w w' := by
  refine (Any.strings_Count_one Tryz.lays138 s 124 w).mono fun e w'' ⟨h1, h2⟩ => ⟨?_, h2 ▸ Below.refl _ _⟩
  rw [h1, GS]
  unfold bl at hn
  rw [hn]
theorem wV (w : World) (μ : Mem) (hμ : MOk μ w) (hm : rP μ) (op : Int) (ho : -9223372036854775808 ≤ op ∧ op ≤ 9223372036854775807) :
    Calls Tryz.prog 24 #[.int .i64 op] w fun e w' => e = .returned (NU (aH op)) ∧ Below w.heap.size w w' := by
  rcases kinds op with ⟨k, x, rfl, h1, h2⟩ | ⟨h1, h2⟩
  · rw [h2]
    exact kX mixed noQ (FM (hm w hμ)) (by decide) (fun g cs h => by cases h) (pQ YN h1)
  · rw [h2]
    refine aC Tryz.func24 rfl Tryz.ntmps24 (by simp) hμ ?_
    by_cases h160 : 160 ≤ op
    · have hs := HM (n := 12) ho (y := 160) (by omega) (by omega) (by omega)
      repeat' (first | refine KO ?_ | ((with_reducible apply F1 54); exact rfl; exact EN; exact fun w μc hw' hse => zK _ 12 (by kernel_rfl) w μc hw') | (refine KV (b := by ((with_reducible apply XE); exact rfl; exact rfl)) (c := ?_)) | (refine KB ?_ ?_ <;> intro hp) | refine KG ?_ | fail)
      all_goals exact kJ rfl (by exact aB rfl) (by exact aB rfl) rfl rfl
    · have hs := HM (n := 47) ho (y := 100) (by omega) (by omega) (by omega)
      repeat' (first | refine KO ?_ | ((with_reducible apply F1 54); exact rfl; exact EN; exact fun w μc hw' hse => zK _ 47 (by kernel_rfl) w μc hw') | (refine KV (b := by ((with_reducible apply XE); exact rfl; exact rfl)) (c := ?_)) | (refine KB ?_ ?_ <;> intro hp) | refine KG ?_ | fail)
      all_goals exact kJ rfl (by exact aB rfl) (by exact aB rfl) rfl rfl
theorem WB (w : World) (μ : Mem) (hμ : MOk μ w) (hm : rP μ) (op : Int) (ho : -9223372036854775808 ≤ op ∧ op ≤ 9223372036854775807) :
    Calls Tryz.prog 8 #[.int .i64 op] w fun e w' => e = .returned (qS (aH op).1) ∧ Below w.heap.size w w' := by
  refine aC Tryz.func8 rfl Tryz.ntmps8 (by simp) hμ ?_
  repeat' (first | refine KO ?_ | ((with_reducible apply C1); exact rfl; exact EN; exact fun w μc hw' hse => wV w μc hw' (hm.mono hse.le) op ho) | fail)
  exact bL rfl (by exact aB rfl) rfl
theorem YV : VA Tryz.prog 1000 [] pr0 [] 400 25 [.string ⟨⟨[]⟩⟩] = some (.tuple ⟨[.string ⟨⟨[]⟩⟩, .string ⟨⟨[]⟩⟩]⟩) := by kernel_rfl
theorem BT (w : World) (μ : Mem) (hμ : MOk μ w) (op : Int) (h1 : op < 100 ∨ (148 ≤ op ∧ op < 160) ∨ 172 < op) :
    Calls Tryz.prog 26 #[.int .i64 op] w fun e w' => e = .returned (.string ⟨#[]⟩) ∧ Below w.heap.size w w' := by
  refine aC Tryz.func26 rfl Tryz.ntmps26 (by simp) hμ ?_
  repeat' (first | refine KK ?_ | (refine KB ?_ ?_ <;> intro hp) | refine KG ?_ | fail)
  all_goals exact bL rfl (by exact aB rfl) rfl
theorem NX (w : World) (μ : Mem) (hμ : MOk μ w) (hm : rP μ) (op : Int) :
    Calls Tryz.prog 9 #[.int .i64 op] w fun e w' => e = .returned (qS (aH op).1) ∧ Below w.heap.size w w' := by
  rcases kinds op with ⟨k, x, rfl, h1, h2⟩ | ⟨h1, h2⟩
  · rw [h2]
    exact kX mixed noQ (FM (hm w hμ)) (by decide) (fun g cs h => by cases h) (pQ YU h1)
  · rw [h2]
    refine aC Tryz.func9 rfl Tryz.ntmps9 (by simp) hμ ?_
    repeat' (first | refine KO ?_ | ((with_reducible apply F1 26); exact rfl; exact EN; exact fun w μc hw' hse => BT w μc hw' op h1) | ((with_reducible apply F1 25); exact rfl; exact EN; exact fun w μc hw' hse => kX mixed noQ (FM (hm.mono hse.le w hw')) (by decide) (fun g cs h => by cases h) YV) | fail)
    exact bL rfl (by exact aB rfl) rfl
end Go.Proofs.YtoclmkdfcafhfaaGreatDoor
namespace Go.Vcg
open Go.ChangeShapes Go.WideShapes Go.ChangeAt Go.RowKit Go.Deep
def yH (w : World) : Mem := fun b => w.heap[b]?
theorem JY (w : World) : MOk (yH w) w := fun _ _ h => h
theorem oD.aCb {w : World} {A : Addr} {v : Value} (h : w.cell? A = some v) : oD (yH w) A v := by
  unfold World.cell? at h
  split at h
  · rename_i c t f hh
    by_cases hs : A.spot.isSome
    · simp [hs] at h
    · simp [hs] at h
      exact ⟨c, t, f, hh, by simpa using hs, h⟩
  · cases h
section
variable {H : Type} {enc : TypeId × Value → H} {P : Program} {W : World} {base : Nat} {spare : Nat → Bool} {held : Bool}
end
end Go.Vcg
namespace Go.Proofs.YtoclmkdfcafhfaaGreatDoor
section
open Go.Rex Go.RowKit Go.Vcg Go.Shelf
theorem aCj {w : World} (h : tF w) : rP (yH w) := fun w' hw => by
  obtain ⟨m, hm⟩ := h
  refine ⟨m, ?_⟩
  unfold World.cell? at hm ⊢
  split at hm
  · rename_i cs t f h1
    rw [hw _ _ h1]
    exact hm
  · cases hm
def ZQ : AL := fun f vs => match Nat.beq f 24 with
  | true => match vs with
    | [.int .i64 (.ofNat k)] => match Nat.ble k 1000 with
      | true => match rowAt k with
        | (a, b) => some (.tuple ⟨[.string ⟨⟨a⟩⟩, .string ⟨⟨b⟩⟩]⟩)
      | false => none
    | _ => none
  | false => none
theorem ZP {w : World} (h : tF w) : zU Tryz.prog w ZQ := fun f vs v e => by
  unfold ZQ at e
  split at e
  · rename_i hf
    have hf := Nat.eq_of_beq_eq_true hf
    subst hf
    split at e
    · rename_i k
      split at e
      · rename_i hk
        have hk : k ≤ 1000 := eC hk
        split at e
        rename_i a b hab
        cases e
        refine ⟨rfl, rfl, fun w' hk' => ?_⟩
        have := wV w' (yH w') (JY w') (aCj (h.aT hk')) (Int.ofNat k) (by simp; omega)
        have hr : aH (Int.ofNat k) = (a, b) := hab
        rw [hr] at this
        exact this
      · cases e
    · cases e
  · cases e
theorem QV : Builder.Extra Tryz.prog Tryz.lays156_ren := {
  sizeBuilder := by kernel_rfl
  liesBuilder := by kernel_rfl
  t5 := by kernel_rfl
  a5 := Go.Vcg.cI (by kernel_rfl)
  z5 := Go.Vcg.run_sizeOf (by kernel_rfl)
  v5 := Go.Vcg.aK (by kernel_rfl)
  infoByte := by kernel_rfl
  cellsByte := by kernel_rfl
  sizeByte := by kernel_rfl
  neB5 := by decide }
theorem TD : Lays.n240 Tryz.prog Tryz.lays156_ren := { Tryz.lays156 with }
def pr1 : gJ := rB (JX ZQ) (rB (JX TB) (rB (OT 103 75) (xO 71)))
theorem aEr {w : World} (h : tF w) : iH Tryz.prog w 1000 pr1 :=
  mU (yG (ZP h)) (mU (yG (JW h)) (mU
    (VU (fun b w h0 h1 h2 => Any.Builder_copyCheck_fresh TD QV.toX72 b w h0 h1 h2) (fun b w h0 => Any.Builder_copyCheck_used TD QV.toX72 b w h0))
    (IX fun bk o c xs sep w h1 h2 h3 h4 h5 => Any.strings_Join Tryz.lays156 QV bk o c xs sep w h1 h2 h3 h4 h5)))
end
section
open Go.Rex Go.RowKit Go.Vcg
theorem WE : VA Tryz.prog 1000 [] pr1 [] 400 12 [] = some (.bool true) := by kernel_rfl
theorem yK (w : World) (μ : Mem) (hμ : MOk μ w) (hm : rP μ) : Calls Tryz.prog 12 #[] w fun e w' => e = .returned (.bool true) ∧ Below w.heap.size w w' :=
  kX mixed noQ (aEr (hm w hμ)) (by decide) (fun g cs h => by cases h) WE
end
section
open Go.RowKit Go.Vcg
def isE (op : Int) : Bool := decide (100 ≤ op) && (decide (op < 148) && (decide (op ≠ 121) && (decide (op ≠ 122) && decide (op ≠ 124))))
theorem aDw {op : Int} (h : 100 ≤ op ∧ op < 148 ∧ op ≠ 121 ∧ op ≠ 122 ∧ op ≠ 124) : isE op = true := by simp [isE, h]
theorem aDx {op : Int} (h : ¬(100 ≤ op ∧ op < 148 ∧ op ≠ 121 ∧ op ≠ 122 ∧ op ≠ 124)) : isE op = false := by
  cases e : isE op with
  | false => rfl
  | true =>
    exfalso
    simp [isE] at e
    omega
attribute [local irreducible] isE aH G GC GQ GA bO Calls IntKind.wrap Int.decLt Int.decLe
theorem ZZ (w : World) (μ : Mem) (hμ : MOk μ w) (op : Int) :
    Calls Tryz.prog 10 #[.int .i64 op] w fun e w' => e = .returned (.bool (isE op)) ∧ Below w.heap.size w w' := by
  refine aC Tryz.func10 rfl Tryz.ntmps10 (by simp) hμ ?_
  by_cases h : 100 ≤ op ∧ op < 148 ∧ op ≠ 121 ∧ op ≠ 122 ∧ op ≠ 124
  · rw [aDw h]
    repeat' (first | refine KK ?_ | refine KG ?_ | fail)
    all_goals exact bL rfl (by exact aB rfl) (congrArg _ (decide_eq_true (by omega)))
  · rw [aDx h]
    repeat' (first | refine KK ?_ | (refine KB ?_ ?_ <;> intro hp) | refine KG ?_ | fail)
    all_goals first | exact bL rfl (by exact aB rfl) rfl | exact bL rfl (by exact aB rfl) (congrArg _ (decide_eq_false (by omega)))
theorem VF (w : World) (μ : Mem) (hμ : MOk μ w) (op : Int) :
    Calls Tryz.prog 11 #[.int .i64 op] w fun e w' => e = .returned (.bool (isE op)) ∧ Below w.heap.size w w' := by
  refine aC Tryz.func11 rfl Tryz.ntmps11 (by simp) hμ ?_
  by_cases h : 100 ≤ op ∧ op < 148 ∧ op ≠ 121 ∧ op ≠ 122 ∧ op ≠ 124
  · rw [aDw h]
    repeat' (first | refine KK ?_ | refine KG ?_ | fail)
    all_goals exact bL rfl (by exact aB rfl) (congrArg _ (decide_eq_true (by omega)))
  · rw [aDx h]
    repeat' (first | refine KK ?_ | (refine KB ?_ ?_ <;> intro hp) | refine KG ?_ | fail)
    all_goals first | exact bL rfl (by exact aB rfl) rfl | exact bL rfl (by exact aB rfl) (congrArg _ (decide_eq_false (by omega)))
end
section
open Go.RowKit Go.Vcg
theorem kB (n lo hi : Int) : Iq.inI n lo hi = decide (lo ≤ n ∧ n ≤ hi) := by
  unfold Iq.inI
  rw [Bool.eq_iff_iff]
  simp
theorem aDv (op : Int) : Iq.isS op = decide (160 ≤ op ∧ op < 173) := by
  unfold Iq.isS
  rw [Bool.eq_iff_iff]
  simp
attribute [local irreducible] G GC GQ GA bO Calls IntKind.wrap Int.decLt Int.decLe
theorem fF (n lo hi : Int) (w : World) (μ : Mem) (hμ : MOk μ w) : Calls Tryz.prog 47 #[.int .i64 n, .int .i64 lo, .int .i64 hi] w fun e w' => e = .returned (.bool (Iq.inI n lo hi)) ∧ Below w.heap.size w w' := by
  refine aC (args := [.int .i64 n, .int .i64 lo, .int .i64 hi]) Tryz.func47 rfl Tryz.ntmps47 (by simp) hμ ?_
  rw [kB]
  repeat' (first | refine KK ?_ | (refine KB ?_ ?_ <;> intro hp) | refine KG ?_ | fail)
  all_goals (refine aD rfl rfl ?_; congr 1; first | (rw [decide_eq_false (by omega)]; done) | (rw [Bool.eq_iff_iff]; simp; omega))
theorem fD (n lo hi : Int) (w : World) (μ : Mem) (hμ : MOk μ w) : Calls Tryz.prog 49 #[.int .i64 n, .int .i64 lo, .int .i64 hi] w fun e w' => e = .returned (.bool (Iq.inI n lo hi)) ∧ Below w.heap.size w w' := by
  refine aC (args := [.int .i64 n, .int .i64 lo, .int .i64 hi]) Tryz.func49 rfl Tryz.ntmps49 (by simp) hμ ?_
  rw [kB]
  repeat' (first | refine KK ?_ | (refine KB ?_ ?_ <;> intro hp) | refine KG ?_ | fail)
  all_goals (refine aD rfl rfl ?_; congr 1; first | (rw [decide_eq_false (by omega)]; done) | (rw [Bool.eq_iff_iff]; simp; omega))
theorem PD (op : Int) (w : World) (μ : Mem) (hμ : MOk μ w) : Calls Tryz.prog 75 #[.int .i64 op] w fun e w' => e = .returned (.bool (Iq.isS op)) ∧ Below w.heap.size w w' := by
  refine aC (args := [.int .i64 op]) Tryz.func75 rfl Tryz.ntmps75 (by simp) hμ ?_
  rw [aDv]
  repeat' (first | refine KK ?_ | (refine KB ?_ ?_ <;> intro hp) | refine KG ?_ | fail)
  all_goals (refine aD rfl rfl ?_; congr 1; first | (rw [decide_eq_false (by omega)]; done) | (rw [Bool.eq_iff_iff]; simp; omega))
theorem NO (op : Int) (w : World) (μ : Mem) (hμ : MOk μ w) : Calls Tryz.prog 77 #[.int .i64 op] w fun e w' => e = .returned (.bool (Iq.isS op)) ∧ Below w.heap.size w w' := by
  refine aC (args := [.int .i64 op]) Tryz.func77 rfl Tryz.ntmps77 (by simp) hμ ?_
  rw [aDv]
  repeat' (first | refine KK ?_ | (refine KB ?_ ?_ <;> intro hp) | refine KG ?_ | fail)
  all_goals (refine aD rfl rfl ?_; congr 1; first | (rw [decide_eq_false (by omega)]; done) | (rw [Bool.eq_iff_iff]; simp; omega))
theorem OW (t : T) (u : Value) (hu : u.oneCell' = true)  (w : World) (μ : Mem) (hμ : MOk μ w) : Calls Tryz.prog 108 #[.agg (aR t u).toArray] w fun e w' => e = .returned (.bool (Iq.cG t.op t.m)) ∧ Below w.heap.size w w' := by
  refine aC (args := [.agg (aR t u).toArray]) Tryz.func108 rfl Tryz.ntmps108 (by simp) hμ ?_
  by_cases h0 : t.op = 109 ∨ t.op = 110
  · have e : Iq.cG t.op t.m = true := by
      unfold Iq.cG
      rw [if_pos h0]
    rw [e]
    rcases h0 with h0 | h0
    all_goals repeat' (first | refine KO ?_ | refine KI ?_ | refine NB fun b => ?_ | fail)
    all_goals exact aD rfl rfl rfl
  by_cases h1 : t.op = 129
  · have e : Iq.cG t.op t.m = Iq.inI t.m 0 1 := by
      unfold Iq.cG
      rw [if_neg h0, if_pos h1]
    rw [e]
    repeat' (first | refine KO ?_ | ((with_reducible apply F1 47); exact rfl; exact EN; (exact fun w μc hw hse => fF _ _ _ w μc hw)) | refine KI ?_ | refine NB fun b => ?_ | fail)
    all_goals exact aD rfl rfl rfl
  by_cases h2 : t.op = 163
  · have e : Iq.cG t.op t.m = Iq.inI t.m 0 4096 := by
      unfold Iq.cG
      rw [if_neg h0, if_neg h1, if_pos h2]
    rw [e]
    repeat' (first | refine KO ?_ | ((with_reducible apply F1 47); exact rfl; exact EN; (exact fun w μc hw hse => fF _ _ _ w μc hw)) | refine KI ?_ | refine NB fun b => ?_ | fail)
    all_goals exact aD rfl rfl rfl
  have e : Iq.cG t.op t.m = decide (t.m = 0) := by
    unfold Iq.cG
    rw [if_neg h0, if_neg h1, if_neg h2]
  rw [e]
  repeat' (first | refine KK ?_ | refine NB fun b => ?_ | fail)
  all_goals exact aD rfl rfl rfl
end
section
open Go.RowKit Go.Vcg
attribute [local irreducible] G GC GQ GA bO Calls IntKind.wrap Int.decLt Int.decLe
theorem PE (t : T) (u : Value) (w : World) (μ : Mem) (hμ : MOk μ w) (hu : KR μ t.kids u) (hk : t.kids.length ≤ 100000) (hm : t.op = 129 → 0 ≤ t.m ∧ t.m ≤ 1) : Calls Tryz.prog 110 #[.agg (aR t u).toArray] w fun e w' => e = .returned (.bool (Iq.eW t.op t.m (t.kids.map T.op))) ∧ Below w.heap.size w w' := by
  obtain ⟨A, c, rfl, hc, cL⟩ := hu.form
  refine aC (args := [.agg (aR t (.slice A t.kids.length c)).toArray]) Tryz.func110 rfl Tryz.ntmps110 (by simp) hμ ?_
  unfold Iq.eW
  rw [List.length_map]
  by_cases h0 : t.op = 129
  · rw [if_pos h0]
    obtain ⟨m0, m1⟩ := hm h0
    by_cases h1 : t.m = 1
    · by_cases h2 : t.kids.length < 2
      · rw [decide_eq_true h1, decide_eq_true h2]
        repeat' (first | refine KK ?_ | refine NB fun b => ?_ | refine KG ?_ | fail)
        all_goals exact aD rfl rfl rfl
      · obtain ⟨ad, x, rfl, hm1, ho, hkr⟩ := cL 1 _ (List.getElem?_eq_getElem (by omega))
        have hka : t.kids[1]? = some t.kids[1] := List.getElem?_eq_getElem (by omega)
        rw [decide_eq_true h1, decide_eq_false h2, List.getElem?_map, hka]
        generalize t.kids[1] = y at hm1 ⊢
        by_cases h3 : y.op = 124
        · have e : (decide (Option.map T.op (some y) = some 124)) = true := by simp [h3]
          rw [e]
          repeat' (first | refine KO ?_ | (refine KV (b := by first | exact U1 1 | exact U4 hm1) (c := ?_)) | refine KI ?_ | refine NB fun b => ?_ | refine KG ?_ | fail)
          all_goals exact aD rfl rfl rfl
        · have e : (decide (Option.map T.op (some y) = some 124)) = false := by simp [h3]
          rw [e, h1]
          repeat' (first | refine KO ?_ | (refine KV (b := by first | exact U1 1 | exact U4 hm1) (c := ?_)) | refine KI ?_ | refine NB fun b => ?_ | refine KG ?_ | fail)
          all_goals (refine aD rfl rfl ?_; congr 1; (rw [Bool.eq_iff_iff]; simp; omega))
    · have h2 : t.m = 0 := by omega
      rw [decide_eq_false h1]
      repeat' (first | refine KK ?_ | refine NB fun b => ?_ | refine KG ?_ | fail)
      all_goals exact aD rfl rfl rfl
  · rw [if_neg h0]
    by_cases h1 : t.op = 131
    · rw [if_pos h1]
      repeat' (first | refine KK ?_ | refine NB fun b => ?_ | fail)
      all_goals exact aD rfl rfl rfl
    · rw [if_neg h1]
      by_cases h2 : t.op = 130
      · rw [if_pos h2]
        repeat' (first | refine KK ?_ | refine NB fun b => ?_ | fail)
        all_goals exact aD rfl rfl rfl
      · rw [if_neg h2]
        repeat' (first | refine KK ?_ | refine NB fun b => ?_ | fail)
        all_goals exact aD rfl rfl rfl
end
end Go.Proofs.YtoclmkdfcafhfaaGreatDoor
