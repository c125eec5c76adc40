/- Package ir: names at the front of a text. -/
import Derived.Test.YtoclmkdfcafhfaaGreatDoorZan
set_option maxRecDepth 20000
set_option maxHeartbeats 2000000
namespace Go.Vcg
open Go.RowKit
section
variable {P : Program} {μ : Mem} {l : aF} {L : List Bk} {ty : TypeId} {pos : String} {af : Array Edge} {gd : Option (Nat × Bool)} {ds : Option Nat}
theorem lJ {p q r : Operand} {t : TypeId} {b b' : ByteArray} {j i : Int} (k m : Nat) (he : b.extract k m = b') (ht : P.underlying t = some .string) (hx : ev l p = some (.string b)) (hq : ev l q = some (.int .i64 j)) (hj : j = (k : Int)) (hr' : ev l r = some (.int .i64 i)) (hi : i = (m : Int)) (hk : k ≤ m) (hm : m ≤ b.size) :
    Val P μ l L ⟨ds, .slice t p (some q) (some r) none, ty, pos, af, gd⟩ (.string b') := by
  rw [← he]
  exact jH k m ht hx hq hj hr' hi hk hm
end
end Go.Vcg
namespace Go.Proofs.YtoclmkdfcafhfaaGreatDoor
section
open Go.RowKit Go.Vcg Ou
theorem iW (l : List UInt8) : (ofB l).size = l.length := by simp [ofB, ByteArray.size]
theorem gS (l : List UInt8) : bl (ofB l) = l := by simp [bl, ofB]
theorem mJ {s : ByteArray} {i : Nat} (h : i < s.size) : ∃ b, (bl s)[i]? = some b ∧ bAt s i = b.toNat := by
  have : i < (bl s).length := by rw [aZ]; exact h
  exact ⟨(bl s)[i], List.getElem?_eq_getElem this, jT (List.getElem?_eq_getElem this)⟩
theorem mY (x : Int) (c : UInt8) (b : Bool) (hx : x = c.toNat) (hb : Iq.cR c = b) (w : World) (μ : Mem) (hμ : MOk μ w) : Calls Tryz.prog 169 #[.int .u8 x] w fun e w' => e = .returned (.bool b) ∧ Below w.heap.size w w' := by
  subst hb
  exact KM x c hx w μ hμ
theorem kY (x : Int) (c : UInt8) (b : Bool) (hx : x = c.toNat) (hb : Iq.cR c = b) (w : World) (μ : Mem) (hμ : MOk μ w) : Calls Tryz.prog 170 #[.int .u8 x] w fun e w' => e = .returned (.bool b) ∧ Below w.heap.size w w' := by
  subst hb
  exact EP x c hx w μ hμ
theorem fL (c : UInt8) : Iq.gD c = true ↔ Iq.cR c = true ∨ (48 ≤ (c.toNat : Int) ∧ (c.toNat : Int) ≤ 57) := by
  unfold Iq.gD
  rw [Bool.or_eq_true, Bool.and_eq_true, decide_eq_true_eq, decide_eq_true_eq]
  exact or_congr Iff.rfl (by omega)
theorem pW {l : List UInt8} {j : Nat} {c : UInt8} (hj : j ≤ (cX l).length) (h0 : j = 0 → Iq.cR c = true) (hc : l[j]? = some c) (h : Iq.gD c = true) (hs : cX l ≠ [] ∨ j = 0) : j + 1 ≤ (cX l).length := by
  cases l with
  | nil => simp at hc
  | cons x r =>
    unfold cX at hj hs ⊢
    dsimp only at hj hs ⊢
    cases j with
    | zero =>
      simp at hc
      subst hc
      rw [if_pos (h0 rfl)]
      simp
    | succ j =>
      by_cases hx : Iq.cR x = true
      · rw [if_pos hx] at hj ⊢
        rw [List.getElem?_cons_succ] at hc
        simp only [List.length_cons] at hj ⊢
        rcases Nat.lt_or_ge j (r.takeWhile Iq.gD).length with h1 | h1
        · omega
        · have e : j = (r.takeWhile Iq.gD).length := by omega
          rw [e] at hc
          have := XR _ _ hc
          rw [h] at this
          cases this
      · rw [if_neg hx] at hs
        rcases hs with hs | hs
        · exact absurd rfl hs
        · omega
theorem CM {l : List UInt8} {j : Nat} (hj : j ≤ (cX l).length) (h : l.length ≤ j ∨ ∃ c, l[j]? = some c ∧ Iq.gD c = false) : (cX l).length = j := by
  cases l with
  | nil => simp [cX] at hj ⊢; omega
  | cons x r =>
    unfold cX at hj ⊢
    dsimp only at hj ⊢
    by_cases hx : Iq.cR x = true
    · rw [if_pos hx] at hj ⊢
      simp only [List.length_cons] at hj ⊢
      have hle := (List.takeWhile_prefix (l := r) Iq.gD).length_le
      rcases h with h | ⟨c, hc, h⟩
      · simp at h
        omega
      · cases j with
        | zero =>
          simp at hc
          subst hc
          have : Iq.gD x = true := (fL x).2 (.inl hx)
          rw [this] at h
          cases h
        | succ j =>
          rw [List.getElem?_cons_succ] at hc
          rcases Nat.lt_or_ge j (r.takeWhile Iq.gD).length with h1 | h1
          · obtain ⟨d, h2, h3⟩ := XQ _ _ h1
            rw [h2] at hc
            cases hc
            rw [h3] at h
            cases h
          · omega
    · rw [if_neg hx] at hj ⊢
      simp at hj ⊢
      omega
theorem JS {l : List UInt8} : (ofB l).extract 0 (cX l).length = ofB (cX l) := by
  apply lF
  rw [bX, gS, gS, Nat.sub_zero, List.drop_zero]
  cases l with
  | nil => rfl
  | cons x r =>
    unfold cX
    dsimp only
    by_cases hx : Iq.cR x = true
    · rw [if_pos hx, List.length_cons, List.take_succ_cons, ← List.prefix_iff_eq_take.1 (List.takeWhile_prefix _)]
    · rw [if_neg hx]
      rfl
theorem vM (l : List UInt8) : (cX l).length ≤ l.length := by
  cases l with
  | nil => simp [cX]
  | cons x r =>
    unfold cX
    dsimp only
    have hle := (List.takeWhile_prefix (l := r) Iq.gD).length_le
    split <;> simp <;> omega
attribute [local irreducible] G GC GQ GA bO Calls IntKind.wrap Int.decLt Int.decLe
theorem PM (l : List UInt8) (hl : l.length ≤ 1000000) (w : World) (μ : Mem) (hμ : MOk μ w) : Calls Tryz.prog 155 #[.string (ofB l), .int .i64 0] w fun e w' => e = .returned (.tuple #[.string (ofB (cX l)), .int .i64 (cX l).length]) ∧ Below w.heap.size w w' := by
  refine aC (args := [.string (ofB l), .int .i64 0]) Tryz.func155 rfl Tryz.ntmps155 (by simp) hμ ?_
  have hsz := iW l
  by_cases h0 : l = []
  · subst h0
    have hz : (ofB ([] : List UInt8)).size = 0 := rfl
    repeat' (first | refine KK ?_ | refine KG ?_ | fail)
    all_goals first | skip
    all_goals exact kJ rfl (aB rfl) (aB rfl) rfl rfl
  obtain ⟨c, r, rfl⟩ : ∃ c r, l = c :: r := by
    cases l with
    | nil => exact absurd rfl h0
    | cons c r => exact ⟨c, r, rfl⟩
  have hpos : 0 < (c :: r).length := by simp
  obtain ⟨c0, hb1, hb2⟩ := mJ (s := ofB (c :: r)) (i := 0) (by omega)
  rw [gS] at hb1
  cases hb1
  cases hc : Iq.cR c with
  | false =>
    have hn : cX (c :: r) = [] := by
      unfold cX
      simp [hc]
    rw [hn]
    repeat' (first | refine KO ?_ | ((with_reducible apply F1 169); exact rfl; exact EN; (exact fun w μc hw hse => mY _ c false (by omega) hc w μc hw)) | (refine KV (b := by exact U2 0) (c := ?_)) | refine KG ?_ | fail)
    all_goals first | skip
    all_goals exact kJ rfl (aB rfl) (aB rfl) rfl rfl
  | true =>
    have hle := vM (c :: r)
    have hext := JS (l := c :: r)
    have hne : 1 ≤ (cX (c :: r)).length := pW (Nat.zero_le _) (fun _ => hc) rfl ((fL c).2 (.inl hc)) (.inr rfl)
    have hmore := fun (j : Nat) (d : UInt8) (hj : j ≤ (cX (c :: r)).length) (h1 : j = 0 → Iq.cR d = true) (h2 : (c :: r)[j]? = some d) (h3 : Iq.gD d = true) => pW hj h1 h2 h3 (.inl (by intro h; rw [h] at hne; simp at hne))
    have hstop := fun (j : Nat) => CM (l := c :: r) (j := j)
    have hcl : (c :: r)[0]? = some c := rfl
    generalize cX (c :: r) = u at hle hext hne hmore hstop ⊢
    generalize hlg : c :: r = l at *
    repeat' (first | refine KO ?_ | ((with_reducible apply F1 169); exact rfl; exact EN; (exact fun w μc hw hse => mY _ c true (by omega) hc w μc hw)) | (refine KV (b := by exact U2 0) (c := ?_)) | refine KI ?_ | refine KG ?_ | fail)
    all_goals first | skip
    all_goals refine aX (ι := Nat) (fun j => 1 ≤ j ∧ j ≤ u.length) (fun j => l.length - j) (fun _ => μ) (fun j => [(6, .int .i64 (j : Int)), (1, .int .i64 0), (0, .string (ofB l)), (4, .string ⟨#[]⟩), (5, .int .i64 0)]) (fun _ => []) 1 ⟨by omega, by omega⟩ (fun a w hs => hs.sel PU PS) ?_
    intro j ⟨hj0, hj⟩
    clear hb2
    by_cases hlt : j < l.length
    · obtain ⟨d, hb1, hb2⟩ := mJ (s := ofB l) (i := j) (by omega)
      rw [gS] at hb1
      have hd0 : j = 0 → d = c := by
        intro h
        rw [h, hcl] at hb1
        exact (Option.some.inj hb1).symm
      cases hds : Iq.cR d with
      | true =>
        have hw := hmore j d hj (fun _ => hds) hb1 ((fL d).2 (.inl hds))
        repeat' (first | refine KO ?_ | ((with_reducible apply F1 169); exact rfl; exact EN; (exact fun w μc hw hse => mY _ d true (by omega) hds w μc hw)) | (refine KV (b := by exact U2 j) (c := ?_)) | refine KI ?_ | refine KG ?_ | fail)
        all_goals first | skip
        all_goals refine eS (j + 1) ⟨by omega, hw⟩ (by omega) rfl PU PS
      | false =>
        by_cases hdg : 48 ≤ (d.toNat : Int) ∧ (d.toNat : Int) ≤ 57
        · have hw := hmore j d hj (fun h => by rw [hd0 h]; exact hc) hb1 ((fL d).2 (.inr hdg))
          repeat' (first | refine KO ?_ | ((with_reducible apply F1 169); exact rfl; exact EN; (exact fun w μc hw hse => mY _ d false (by omega) hds w μc hw)) | (refine KV (b := by exact U2 j) (c := ?_)) | refine KI ?_ | refine KG ?_ | fail)
          all_goals first | skip
          all_goals refine eS (j + 1) ⟨by omega, hw⟩ (by omega) rfl PU PS
        · have hw := hstop j hj (.inr ⟨d, hb1, by
            cases hp : Iq.gD d with
            | false => rfl
            | true => rcases (fL d).1 hp with h | h
                      · rw [hds] at h; cases h
                      · exact absurd h hdg⟩)
          subst hw
          repeat' (first | refine KO ?_ | ((with_reducible apply F1 169); exact rfl; exact EN; (exact fun w μc hw hse => mY _ d false (by omega) hds w μc hw)) | (refine KV (b := by first | exact U2 u.length | ((with_reducible apply lJ 0 u.length hext); (iterate 3 exact rfl); rfl; exact rfl; rfl; omega; (rw [iW]; omega))) (c := ?_)) | (refine KB ?_ ?_ <;> intro hp) | refine KG ?_ | fail)
          all_goals first | skip
          all_goals exact kJ rfl (aB rfl) (aB rfl) rfl rfl
    · have hw := hstop j hj (.inl (by omega))
      subst hw
      repeat' (first | refine KO ?_ | (refine KV (b := by ((with_reducible apply lJ 0 u.length hext); (iterate 3 exact rfl); rfl; exact rfl; rfl; omega; (rw [iW]; omega))) (c := ?_)) | refine KG ?_ | fail)
      all_goals first | skip
      all_goals exact kJ rfl (aB rfl) (aB rfl) rfl rfl
theorem IC (l : List UInt8) (hl : l.length ≤ 1000000) (w : World) (μ : Mem) (hμ : MOk μ w) : Calls Tryz.prog 159 #[.string (ofB l), .int .i64 0] w fun e w' => e = .returned (.tuple #[.string (ofB (cX l)), .int .i64 (cX l).length]) ∧ Below w.heap.size w w' := by
  refine aC (args := [.string (ofB l), .int .i64 0]) Tryz.func159 rfl Tryz.ntmps159 (by simp) hμ ?_
  have hsz := iW l
  by_cases h0 : l = []
  · subst h0
    have hz : (ofB ([] : List UInt8)).size = 0 := rfl
    repeat' (first | refine KK ?_ | refine KG ?_ | fail)
    all_goals first | skip
    all_goals exact kJ rfl (aB rfl) (aB rfl) rfl rfl
  obtain ⟨c, r, rfl⟩ : ∃ c r, l = c :: r := by
    cases l with
    | nil => exact absurd rfl h0
    | cons c r => exact ⟨c, r, rfl⟩
  have hpos : 0 < (c :: r).length := by simp
  obtain ⟨c0, hb1, hb2⟩ := mJ (s := ofB (c :: r)) (i := 0) (by omega)
  rw [gS] at hb1
  cases hb1
  cases hc : Iq.cR c with
  | false =>
    have hn : cX (c :: r) = [] := by
      unfold cX
      simp [hc]
    rw [hn]
    repeat' (first | refine KO ?_ | ((with_reducible apply F1 170); exact rfl; exact EN; (exact fun w μc hw hse => kY _ c false (by omega) hc w μc hw)) | (refine KV (b := by exact U2 0) (c := ?_)) | refine KG ?_ | fail)
    all_goals first | skip
    all_goals exact kJ rfl (aB rfl) (aB rfl) rfl rfl
  | true =>
    have hle := vM (c :: r)
    have hext := JS (l := c :: r)
    have hne : 1 ≤ (cX (c :: r)).length := pW (Nat.zero_le _) (fun _ => hc) rfl ((fL c).2 (.inl hc)) (.inr rfl)
    have hmore := fun (j : Nat) (d : UInt8) (hj : j ≤ (cX (c :: r)).length) (h1 : j = 0 → Iq.cR d = true) (h2 : (c :: r)[j]? = some d) (h3 : Iq.gD d = true) => pW hj h1 h2 h3 (.inl (by intro h; rw [h] at hne; simp at hne))
    have hstop := fun (j : Nat) => CM (l := c :: r) (j := j)
    have hcl : (c :: r)[0]? = some c := rfl
    generalize cX (c :: r) = u at hle hext hne hmore hstop ⊢
    generalize hlg : c :: r = l at *
    repeat' (first | refine KO ?_ | ((with_reducible apply F1 170); exact rfl; exact EN; (exact fun w μc hw hse => kY _ c true (by omega) hc w μc hw)) | (refine KV (b := by exact U2 0) (c := ?_)) | refine KG ?_ | fail)
    all_goals first | skip
    all_goals refine aX (ι := Nat) (fun j => 0 ≤ j ∧ j ≤ u.length) (fun j => l.length - j) (fun _ => μ) (fun j => [(6, .int .i64 (j : Int)), (1, .int .i64 0), (0, .string (ofB l)), (4, .string ⟨#[]⟩), (5, .int .i64 0)]) (fun _ => []) 0 ⟨by omega, by omega⟩ (fun a w hs => hs.sel PU PS) ?_
    intro j ⟨hj0, hj⟩
    clear hb2
    by_cases hlt : j < l.length
    · obtain ⟨d, hb1, hb2⟩ := mJ (s := ofB l) (i := j) (by omega)
      rw [gS] at hb1
      have hd0 : j = 0 → d = c := by
        intro h
        rw [h, hcl] at hb1
        exact (Option.some.inj hb1).symm
      cases hds : Iq.cR d with
      | true =>
        have hw := hmore j d hj (fun _ => hds) hb1 ((fL d).2 (.inl hds))
        repeat' (first | refine KO ?_ | ((with_reducible apply F1 170); exact rfl; exact EN; (exact fun w μc hw hse => kY _ d true (by omega) hds w μc hw)) | (refine KV (b := by exact U2 j) (c := ?_)) | refine KI ?_ | refine KG ?_ | fail)
        all_goals first | skip
        all_goals refine eS (j + 1) ⟨by omega, hw⟩ (by omega) rfl PU PS
      | false =>
        by_cases hdg : 48 ≤ (d.toNat : Int) ∧ (d.toNat : Int) ≤ 57
        · have hw := hmore j d hj (fun h => by rw [hd0 h]; exact hc) hb1 ((fL d).2 (.inr hdg))
          repeat' (first | refine KO ?_ | ((with_reducible apply F1 170); exact rfl; exact EN; (exact fun w μc hw hse => kY _ d false (by omega) hds w μc hw)) | (refine KV (b := by exact U2 j) (c := ?_)) | refine KI ?_ | refine KG ?_ | fail)
          all_goals first | skip
          all_goals refine eS (j + 1) ⟨by omega, hw⟩ (by omega) rfl PU PS
        · have hw := hstop j hj (.inr ⟨d, hb1, by
            cases hp : Iq.gD d with
            | false => rfl
            | true => rcases (fL d).1 hp with h | h
                      · rw [hds] at h; cases h
                      · exact absurd h hdg⟩)
          subst hw
          repeat' (first | refine KO ?_ | ((with_reducible apply F1 170); exact rfl; exact EN; (exact fun w μc hw hse => kY _ d false (by omega) hds w μc hw)) | (refine KV (b := by first | exact U2 u.length | ((with_reducible apply lJ 0 u.length hext); (iterate 3 exact rfl); rfl; exact rfl; rfl; omega; (rw [iW]; omega))) (c := ?_)) | (refine KB ?_ ?_ <;> intro hp) | refine KG ?_ | fail)
          all_goals first | skip
          all_goals exact kJ rfl (aB rfl) (aB rfl) rfl rfl
    · have hw := hstop j hj (.inl (by omega))
      subst hw
      repeat' (first | refine KO ?_ | (refine KV (b := by ((with_reducible apply lJ 0 u.length hext); (iterate 3 exact rfl); rfl; exact rfl; rfl; omega; (rw [iW]; omega))) (c := ?_)) | refine KG ?_ | fail)
      all_goals first | skip
      all_goals exact kJ rfl (aB rfl) (aB rfl) rfl rfl
end
section
open Go.RowKit Go.Vcg Ou
theorem FQ {a b : List UInt8} : (ofB a = ofB b) = (a = b) := by
  apply propext
  constructor
  · intro h
    have := congrArg bl h
    rwa [gS, gS] at this
  · intro h
    rw [h]
theorem of_nil {a : List UInt8} : (ofB a = ⟨#[]⟩) = (a = []) := FQ (a := a) (b := [])
theorem ZK (l : List UInt8) : cX l <+: l := by
  cases l with
  | nil => exact List.prefix_refl _
  | cons c r =>
    unfold cX
    dsimp only
    split
    · exact (List.cons_prefix_cons).2 ⟨rfl, List.takeWhile_prefix _⟩
    · exact List.nil_prefix
theorem JT (l : List UInt8) : (cX l = l) ↔ (cX l).length = l.length := by
  constructor
  · intro h; rw [h]
  · intro h; exact (ZK l).eq_of_length h
attribute [local irreducible] G GC GQ GA bO Calls IntKind.wrap Int.decLt Int.decLe
theorem PA (l : List UInt8) (hl : l.length ≤ 1000000) (w : World) (μ : Mem) (hμ : MOk μ w) : Calls Tryz.prog 135 #[.string (ofB l)] w fun e w' => e = .returned (.bool (Iq.oB l)) ∧ Below w.heap.size w w' := by
  refine aC (args := [.string (ofB l)]) Tryz.func135 rfl Tryz.ntmps135 (by simp) hμ ?_
  have hsz := iW l
  have hall := JT l
  rw [DK]
  have hlen : (cX l).length ≤ l.length := vM l
  have hc := fun w μc hw => PM l hl w μc hw
  generalize cX l = u at hall hlen hc ⊢
  have hu : (ofB u = ⟨#[]⟩) = (u = []) := of_nil
  have hul : (ofB u = ofB l) = (u = l) := FQ
  by_cases a : u = []
  · have a' : ofB u = ⟨#[]⟩ := hu.mpr a
    repeat' (first | refine KO ?_ | ((with_reducible apply F1 155); exact rfl; exact EN; (exact fun w μc hw hse => hc w μc hw)) | (refine KB ?_ ?_ <;> intro hp) | refine KG ?_ | fail)
    all_goals first | (exfalso; contradiction) | (refine aD rfl rfl ?_; congr 1; simp [a', a, hu, hul]; done)
  · have a' : ¬ ofB u = ⟨#[]⟩ := by rw [hu]; exact a
    by_cases b : u = l
    · have b' : ofB u = ofB l := hul.mpr b
      have b2 := hall.1 b
      repeat' (first | refine KO ?_ | ((with_reducible apply F1 155); exact rfl; exact EN; (exact fun w μc hw hse => hc w μc hw)) | refine KG ?_ | fail)
      all_goals (refine aD rfl rfl ?_; congr 1; simp_all; done)
    · have b' : ¬ ofB u = ofB l := by rw [hul]; exact b
      have b2 : ¬ u.length = l.length := fun h => b (hall.2 h)
      repeat' (first | refine KO ?_ | ((with_reducible apply F1 155); exact rfl; exact EN; (exact fun w μc hw hse => hc w μc hw)) | refine KG ?_ | fail)
      all_goals (refine aD rfl rfl ?_; congr 1; simp_all; done)
theorem OC (l : List UInt8) (hl : l.length ≤ 1000000) (w : World) (μ : Mem) (hμ : MOk μ w) : Calls Tryz.prog 140 #[.string (ofB l)] w fun e w' => e = .returned (.bool (Iq.oB l)) ∧ Below w.heap.size w w' := by
  refine aC (args := [.string (ofB l)]) Tryz.func140 rfl Tryz.ntmps140 (by simp) hμ ?_
  have hsz := iW l
  have hall := JT l
  rw [DK]
  have hlen : (cX l).length ≤ l.length := vM l
  have hc := fun w μc hw => IC l hl w μc hw
  generalize cX l = u at hall hlen hc ⊢
  have hu : (ofB u = ⟨#[]⟩) = (u = []) := of_nil
  have hul : (ofB u = ofB l) = (u = l) := FQ
  by_cases a : u = []
  · have a' : ofB u = ⟨#[]⟩ := hu.mpr a
    repeat' (first | refine KO ?_ | ((with_reducible apply F1 159); exact rfl; exact EN; (exact fun w μc hw hse => hc w μc hw)) | (refine KB ?_ ?_ <;> intro hp) | refine KG ?_ | fail)
    all_goals first | (exfalso; contradiction) | (refine aD rfl rfl ?_; congr 1; simp [a', a, hu, hul]; done)
  · have a' : ¬ ofB u = ⟨#[]⟩ := by rw [hu]; exact a
    by_cases b : u = l
    · have b' : ofB u = ofB l := hul.mpr b
      have b2 := hall.1 b
      repeat' (first | refine KO ?_ | ((with_reducible apply F1 159); exact rfl; exact EN; (exact fun w μc hw hse => hc w μc hw)) | refine KG ?_ | fail)
      all_goals (refine aD rfl rfl ?_; congr 1; simp_all; done)
    · have b' : ¬ ofB u = ofB l := by rw [hul]; exact b
      have b2 : ¬ u.length = l.length := fun h => b (hall.2 h)
      repeat' (first | refine KO ?_ | ((with_reducible apply F1 159); exact rfl; exact EN; (exact fun w μc hw hse => hc w μc hw)) | refine KG ?_ | fail)
      all_goals (refine aD rfl rfl ?_; congr 1; simp [a, b, a', b', hsz]; omega)
end
end Go.Proofs.YtoclmkdfcafhfaaGreatDoor
namespace Go.Vcg
open Go.RowKit
section
variable {P : Program} {μ : Mem} {l : aF} {L : List Bk} {ty : TypeId} {pos : String} {af : Array Edge} {gd : Option (Nat × Bool)} {ds : Option Nat}
theorem AO {p q : Operand} {t : TypeId} {b b' : ByteArray} {j : Int} (k : Nat) (he : b.extract 0 k = b') (ht : P.underlying t = some .string) (hx : ev l p = some (.string b)) (hq : ev l q = some (.int .i64 j)) (hj : j = (k : Int)) (hk : k ≤ b.size) :
    Val P μ l L ⟨ds, .slice t p none (some q) none, ty, pos, af, gd⟩ (.string b') := by
  rw [← he]
  exact oG k ht hx hq hj hk
theorem AN {p q : Operand} {t : TypeId} {b b' : ByteArray} {j : Int} (k : Nat) (he : b.extract k b.size = b') (ht : P.underlying t = some .string) (hx : ev l p = some (.string b)) (hq : ev l q = some (.int .i64 j)) (hj : j = (k : Int)) (hk : k ≤ b.size) :
    Val P μ l L ⟨ds, .slice t p (some q) none none, ty, pos, af, gd⟩ (.string b') := by
  rw [← he]
  exact iP k ht hx hq hj hk
end
end Go.Vcg
namespace Go.Proofs.YtoclmkdfcafhfaaGreatDoor
open Go.RowKit Go.Vcg Ou
def dM : List (List UInt8) → List UInt8
  | [] => []
  | [w] => w
  | w :: v :: r => w ++ 32 :: dM (v :: r)
def HL : List (List UInt8) → List UInt8
  | [] => []
  | [_] => []
  | _ :: v :: r => 32 :: dM (v :: r)
theorem nQ (w : List UInt8) (r : List (List UInt8)) : dM (w :: r) = w ++ HL (w :: r) := by
  cases r with
  | nil => simp [dM, HL]
  | cons v r => rfl
theorem BA (w : List UInt8) (r : List (List UInt8)) : (HL (w :: r) = [] ∧ dM r = []) ∨ HL (w :: r) = 32 :: dM r := by
  cases r with
  | nil => exact .inl ⟨rfl, rfl⟩
  | cons v r => exact .inr rfl
attribute [local irreducible] G GC GQ GA bO Calls IntKind.wrap Int.decLt Int.decLe
theorem mR (x t r : List UInt8) (hx : ∀ c ∈ x, c ≠ 32) (ht : (t = [] ∧ r = []) ∨ t = 32 :: r) (hl : (x ++ t).length ≤ 1000000) (w : World) (μ : Mem) (hμ : MOk μ w) : Calls Tryz.prog 25 #[.string (ofB (x ++ t))] w fun e w' => e = .returned (.tuple #[.string (ofB x), .string (ofB r)]) ∧ Below w.heap.size w w' := by
  refine aC (args := [.string (ofB (x ++ t))]) Tryz.func25 rfl Tryz.ntmps25 (by simp) hμ ?_
  have hsz := iW (x ++ t)
  have hlen : (x ++ t).length = x.length + t.length := by simp
  have e1 : (ofB (x ++ t)).extract 0 x.length = ofB x := by
    apply lF
    rw [bX, gS, gS]
    simp
  have e2 : t = 32 :: r → (ofB (x ++ t)).extract (x.length + 1) (ofB (x ++ t)).size = ofB r := by
    intro h
    apply lF
    rw [bX, gS, gS, hsz, h]
    rw [← List.drop_drop, List.drop_left, List.drop_succ_cons, List.drop_zero]
    apply List.take_of_length_le
    simp
    omega
  have hat : ∀ j (h : j < x.length), (x ++ t)[j]? = some x[j] := fun j h => by rw [List.getElem?_append_left h, List.getElem?_eq_getElem h]
  have hat2 : t = 32 :: r → (x ++ t)[x.length]? = some 32 := fun h => by rw [h, List.getElem?_append_right (Nat.le_refl _)]; simp
  have hfull : t = [] → x ++ t = x := fun h => by rw [h, List.append_nil]
  have htl : t = 32 :: r → t.length = r.length + 1 := fun h => by rw [h]; rfl
  generalize hL : x ++ t = l at *
  repeat' (first | refine KK ?_ | fail)
  all_goals first | skip
  refine aX (ι := Nat) (fun j => j ≤ x.length) (fun j => l.length - j) (fun _ => μ) (fun j => [(4, .int .i64 (j : Int)), (0, .string (ofB l)), (2, .string ⟨#[]⟩), (3, .string ⟨#[]⟩)]) (fun _ => []) 0 (Nat.zero_le _) (fun a w hs => hs.sel PU PS) ?_
  intro j hj
  by_cases hlt : j < x.length
  · obtain ⟨d, hb1, hb2⟩ := mJ (s := ofB l) (i := j) (by omega)
    rw [gS, hat j hlt] at hb1
    have hb3 : ¬ bAt (ofB l) j = 32 := by
      rw [hb2]
      intro h
      refine hx _ (List.getElem_mem hlt) ?_
      rw [Option.some.inj hb1]
      exact UInt8.toNat_inj.1 (by have h2 : d.toNat = 32 := (by omega); exact h2)
    repeat' (first | refine KO ?_ | (refine KV (b := by exact U2 j) (c := ?_)) | refine KI ?_ | fail)
    all_goals first | skip
    all_goals refine eS (j + 1) (by omega) (by omega) rfl PU PS
  · have hjx : j = x.length := by omega
    subst hjx
    rcases ht with ⟨h1, h2⟩ | h1
    · subst h2
      have hf := hfull h1
      have h0 : t.length = 0 := by rw [h1]; rfl
      repeat' (first | refine KK ?_ | fail)
      all_goals first | skip
      all_goals exact kJ rfl (aB rfl) (aB rfl) (by rw [hf]) rfl
    · have hl1 := htl h1
      have e3 := e2 h1
      obtain ⟨d, hb1, hb2⟩ := mJ (s := ofB l) (i := x.length) (by omega)
      rw [gS, hat2 h1] at hb1
      have hb3 : bAt (ofB l) x.length = 32 := by
        rw [hb2, ← Option.some.inj hb1]
        rfl
      repeat' (first | refine KO ?_ | (refine KV (b := by exact U2 x.length) (c := ?_)) | fail)
      all_goals first | skip
      refine aN 9 ([]) (by kernel_rfl) rfl (by exact List.Sublist.refl _) ?_
      all_goals refine DD 0 ?_
      all_goals refine DD 1 ?_
      all_goals (first | (refine DV (k := 2) (b := by ((with_reducible apply AO x.length e1); (iterate 3 exact rfl); (rfl); omega)) (c := ?_)) | fail)
      all_goals refine DD 3 ?_
      all_goals refine DD 4 ?_
      all_goals (first | refine DD 5 ?_ | fail)
      all_goals (first | (refine DV (k := 6) (b := by ((with_reducible apply AN (x.length + 1) e3); (iterate 3 exact rfl); (rfl); omega)) (c := ?_)) | fail)
      all_goals refine DD 7 ?_
      all_goals refine DD 8 ?_
      all_goals refine D8 ?_
      repeat' (first | refine KK ?_ | fail)
      all_goals first | skip
      all_goals exact kJ rfl (aB rfl) (aB rfl) rfl rfl
theorem oR (x : List UInt8) (ws : List (List UInt8)) (hw : ∀ y ∈ ws, y ≠ [] ∧ ∀ c ∈ y, c ≠ 32) (hl : (dM ws).length ≤ 1000000) (w : World) (μ : Mem) (hμ : MOk μ w) : Calls Tryz.prog 141 #[.string (ofB x), .string (ofB (dM ws))] w fun e w' => e = .returned (.bool (ws.contains x)) ∧ Below w.heap.size w w' := by
  refine aC (args := [.string (ofB x), .string (ofB (dM ws))]) Tryz.func141 rfl Tryz.ntmps141 (by simp) hμ ?_
  have hdl : ∀ n, (dM (ws.drop n)).length ≤ (dM ws).length := by
    intro n
    induction n with
    | zero => simp
    | succ n ih =>
      refine Nat.le_trans ?_ ih
      cases hn : ws.drop n with
      | nil =>
        have : ws.drop (n + 1) = [] := by rw [← List.drop_drop, hn]; rfl
        rw [this]
        simp
      | cons y r =>
        have : ws.drop (n + 1) = r := by rw [← List.drop_drop, hn]; rfl
        rw [this, nQ]
        rcases BA y r with ⟨h1, h2⟩ | h1
        · rw [h2]; simp
        · rw [h1]; simp; omega
  repeat' (first | refine KK ?_ | fail)
  all_goals first | skip
  refine aX (ι := Nat) (fun n => n ≤ ws.length ∧ x ∉ ws.take n) (fun n => ws.length - n) (fun _ => μ) (fun n => [(1, .string (ofB (dM (ws.drop n)))), (0, .string (ofB x)), (4, .bool false)]) (fun _ => []) 0 ⟨Nat.zero_le _, by simp⟩ (fun a w hs => hs.sel PU PS) ?_
  intro n ⟨hn, hnot⟩
  cases hd : ws.drop n with
  | nil =>
    have hz : ofB (dM []) = ⟨#[]⟩ := rfl
    have hr : ws.contains x = false := by
      have h1 : ws.length ≤ n := List.drop_eq_nil_iff.1 hd
      rw [List.take_of_length_le h1] at hnot
      simpa using hnot
    rw [hr, hz]
    repeat' (first | refine KK ?_ | fail)
    all_goals first | skip
    all_goals exact aD rfl rfl rfl
  | cons y r =>
    have hlt : n < ws.length := by
      rcases Nat.lt_or_ge n ws.length with h | h
      · exact h
      · rw [List.drop_of_length_le h] at hd; cases hd
    have hyw : ws[n] = y := by
      have := List.drop_eq_getElem_cons hlt
      rw [hd] at this
      exact (List.cons.inj this).1.symm
    have hr : ws.drop (n + 1) = r := by rw [← List.drop_drop, hd]; rfl
    have hym : y ∈ ws := by rw [← hyw]; exact List.getElem_mem hlt
    obtain ⟨hy0, hy1⟩ := hw y hym
    have hne : ¬ ofB (dM (y :: r)) = ⟨#[]⟩ := by
      rw [of_nil, nQ]
      intro h
      exact hy0 (List.append_eq_nil_iff.1 h).1
    have hlen := hdl n
    rw [hd, nQ] at hlen
    have hc : ∀ w μc, MOk μc w → Calls Tryz.prog 25 #[.string (ofB (dM (y :: r)))] w fun e w' => e = .returned (.tuple #[.string (ofB y), .string (ofB (dM r))]) ∧ Below w.heap.size w w' := by
      intro w μc hwc
      rw [nQ]
      refine mR y (HL (y :: r)) (dM r) hy1 ?_ (by omega) w μc hwc
      exact BA y r
    generalize dM (y :: r) = z at hne hc ⊢
    by_cases hyx : y = x
    · have e1 : ofB y = ofB x := by rw [hyx]
      have hr2 : ws.contains x = true := by rw [List.contains_iff_mem, ← hyx]; exact hym
      rw [hr2]
      repeat' (first | refine KO ?_ | ((with_reducible apply F1 25); exact rfl; exact EN; (exact fun w μc hw hse => hc w μc hw)) | fail)
      all_goals first | skip
      all_goals exact aD rfl rfl rfl
    · have e1 : ¬ ofB y = ofB x := by rw [FQ]; exact hyx
      repeat' (first | refine KO ?_ | ((with_reducible apply F1 25); exact rfl; exact EN; (exact fun w μc hw hse => hc w μc hw)) | fail)
      all_goals first | skip
      all_goals refine eS (n + 1) ⟨by omega, ?_⟩ (by omega) rfl (by rw [hr]; exact PU) PS
      rw [List.take_succ_eq_append_getElem hlt, List.mem_append, hyw]
      rintro (h | h)
      · exact hnot h
      · exact hyx (List.mem_singleton.1 h).symm
end Go.Proofs.YtoclmkdfcafhfaaGreatDoor
namespace Go.Vcg
open Go.RowKit Go.Proofs.YtoclmkdfcafhfaaGreatDoor Go.Proofs.YtoclmkdfcafhfaaGreatDoor.Ou
section
variable {P : Program} {μ : Mem} {l : aF} {L : List Bk} {ty : TypeId} {pos : String} {af : Array Edge} {gd : Option (Nat × Bool)} {ds : Option Nat}
theorem aD8 {p q : Operand} {t t2 : TypeId} {a b : List UInt8} (h0 : ev l p = some (.string (ofB a))) (h1 : ev l q = some (.string (ofB b))) (hb : a.length + b.length ≤ 9000000000000000000) :
    Val P μ l L ⟨ds, .binOp .add t p q t2, ty, pos, af, gd⟩ (.string (ofB (a ++ b))) := by
  have h := DX (P := P) (μ := μ) (L := L) (ds := ds) (ty := ty) (pos := pos) (af := af) (gd := gd) (t := t) (t2 := t2) h0 h1 (by
    have e : ∀ l : List UInt8, (ofB l).size = l.length := fun l => by simp [ofB, ByteArray.size]
    rw [e, e]; omega)
  have e : ofB a ++ ofB b = ofB (a ++ b) := by
    apply GU
    rw [dG]
    show ((ofB a) ++ (ofB b)).data.toList = _
    rw [ByteArray.data_append]
    simp [ofB]
  rw [← e]
  exact h
end
end Go.Vcg
namespace Go.Proofs.YtoclmkdfcafhfaaGreatDoor
section
open Go.RowKit Go.Vcg Go.Shelf Ou
def fY (μ : Mem) : Prop := ∃ m : Int, oD μ ⟨0, 0, none⟩ (.int .i64 m)
theorem fY.mono {μ μ' : Mem} (h : fY μ) (hle : MLe μ μ') : fY μ' := by
  obtain ⟨m, hm⟩ := h
  exact ⟨m, hm.mono hle⟩
theorem index_spec (s t : List UInt8) (hs : s.length ≤ 3000000) (w : World) (μ : Mem) (hμ : MOk μ w) (hm : fY μ) : Calls Tryz.prog 82 #[.string (ofB s), .string (ofB t)] w fun e w' => e = .returned (.int .i64 (Lib.index s t)) ∧ Below w.heap.size w w' := by
  obtain ⟨m, a, t', f, h1, h2, h3⟩ := hm
  have hc : w.cell? ⟨0, 0, none⟩ = some (.int .i64 m) := by
    have hw := hμ _ _ h1
    simp only at hw
    simp [World.cell?, hw, h3]
  refine (Any.strings_Index Tryz.lays143 (ofB s) (ofB t) m w (show s.toArray.size < _ by simp; omega) hc).mono fun e w' he => ?_
  obtain ⟨rfl, rfl⟩ := he
  refine ⟨?_, rfl, rfl, rfl, Nat.le_refl _, fun _ _ => rfl⟩
  simp [ofB]
theorem yT : ∀ {ws : List (List UInt8)}, ws ≠ [] → dM ws ++ [32] = ws.flatMap (· ++ [32])
  | [], h => absurd rfl h
  | [y], _ => by simp [dM]
  | y :: v :: r, _ => by
    have := yT (ws := v :: r) (by simp)
    rw [List.flatMap_cons, ← this]
    simp [dM]
attribute [local irreducible] G GC GQ GA bO Calls IntKind.wrap Int.decLt Int.decLe
theorem qQ (s t : List UInt8) (hs : s.length ≤ 3000000) (w : World) (μ : Mem) (hμ : MOk μ w) (hm : fY μ) : Calls Tryz.prog 156 #[.string (ofB s), .string (ofB t)] w fun e w' => e = .returned (.bool (Lib.contains s t)) ∧ Below w.heap.size w w' := by
  refine aC (args := [.string (ofB s), .string (ofB t)]) Tryz.func156 rfl Tryz.ntmps156 (by simp) hμ ?_
  unfold Lib.contains
  have hi := fun w μc hw hm => index_spec s t hs w μc hw hm
  generalize Lib.index s t = k at hi ⊢
  repeat' (first | refine KO ?_ | ((with_reducible apply F1 82); exact rfl; exact EN; (exact fun w μc hw hse => hi w μc hw (hm.mono hse.le))) | fail)
  all_goals first | skip
  all_goals exact aD rfl rfl rfl
theorem oW (x : List UInt8) (ws : List (List UInt8)) (hw : ∀ y ∈ ws, Fr 32 y) (h0 : [] ∉ ws) (h1 : ws ≠ []) (hx : x.length ≤ 1000000) (hl : (dM ws).length ≤ 1000000) (w : World) (μ : Mem) (hμ : MOk μ w) (hm : fY μ) : Calls Tryz.prog 136 #[.string (ofB x), .string (ofB (dM ws))] w fun e w' => e = .returned (.bool (ws.contains x)) ∧ Below w.heap.size w w' := by
  refine aC (args := [.string (ofB x), .string (ofB (dM ws))]) Tryz.func136 rfl Tryz.ntmps136 (by simp) hμ ?_
  have hx0 : (ofB x = ⟨#[]⟩) = (x = []) := of_nil
  have he := Iq.aBa hw h0 x
  rw [← yT h1, ← Iq.pI] at he
  have h32 : ((32 : UInt8) ∉ x) ↔ ¬ Lib.contains x [32] = true := by
    rw [Iq.pI]
    refine not_congr ⟨fun h => ?_, fun ⟨a, b, h⟩ => by rw [← h]; simp⟩
    obtain ⟨a, b, h⟩ := List.append_of_mem h
    exact ⟨a, b, by rw [h]; simp⟩
  rw [h32] at he
  have hc1 : ∀ w μc, MOk μc w → fY μc → Calls Tryz.prog 156 #[.string (ofB x), .string ⟨#[32]⟩] w fun e w' => e = .returned (.bool (Lib.contains x [32])) ∧ Below w.heap.size w w' := fun w μc hw hm => qQ x [32] (by omega) w μc hw hm
  have hc2 : ∀ w μc, MOk μc w → fY μc → Calls Tryz.prog 156 #[.string (ofB ([32] ++ dM ws ++ [32])), .string (ofB ([32] ++ x ++ [32]))] w fun e w' => e = .returned (.bool (Lib.contains (32 :: (dM ws ++ [32])) (32 :: (x ++ [32])))) ∧ Below w.heap.size w w' := fun w μc hw hm => qQ _ _ (by simp; omega) w μc hw hm
  generalize Lib.contains x [32] = c1 at he hc1
  generalize Lib.contains (32 :: (dM ws ++ [32])) (32 :: (x ++ [32])) = c2 at he hc2
  generalize ws.contains x = r at he ⊢
  by_cases hxe : x = []
  · have hr : r = false := by
      cases r with
      | false => rfl
      | true => exact absurd hxe (he.2 rfl).1
    have hx1 := hx0.mpr hxe
    rw [hr]
    repeat' (first | refine KK ?_ | (refine KB ?_ ?_ <;> intro hp) | refine KG ?_ | fail)
    all_goals first | (exfalso; contradiction) | skip
    all_goals exact aD rfl rfl rfl
  · have hx1 : ¬ ofB x = ⟨#[]⟩ := by rw [hx0]; exact hxe
    cases c1 with
    | true =>
      have hr : r = false := by
        cases r with
        | false => rfl
        | true => exact absurd rfl (he.2 rfl).2.1
      rw [hr]
      repeat' (first | refine KO ?_ | ((with_reducible apply F1 156); exact rfl; exact EN; (exact fun w μc hw hse => hc1 w μc hw (hm.mono hse.le))) | refine KG ?_ | fail)
      all_goals first | skip
      all_goals exact aD rfl rfl rfl
    | false =>
      have hr : r = c2 := by
        rw [Bool.eq_iff_iff, ← he]
        simp [hxe]
      rw [hr]
      repeat' (first | refine KO ?_ | ((with_reducible apply F1 156); exact rfl; exact EN; (first | exact fun w μc hw hse => hc1 w μc hw (hm.mono hse.le) | exact fun w μc hw hse => hc2 w μc hw (hm.mono hse.le))) | (refine KV (b := by ((with_reducible apply aD8); exact rfl; exact rfl; (simp only [List.length_append, List.length_cons, List.length_nil]; omega))) (c := ?_)) | refine KG ?_ | fail)
      all_goals first | skip
      all_goals exact aD rfl rfl rfl
end
section
open Go.RowKit Go.Vcg Ou
theorem lP (s : ByteArray) : ofB s.data.toList = s := rfl
theorem mZ (s : ByteArray) : s.data.toList.length = s.size := Array.length_toList
theorem HJ : ofB (dM Iq.unW) = ⟨#[45, 32, 43, 32, 33, 32, 126, 32, 118, 111, 105, 100]⟩ := by decide +kernel
theorem aEa : (∀ y ∈ Iq.unW, Fr 32 y) ∧ [] ∉ Iq.unW ∧ Iq.unW ≠ [] ∧ (dM Iq.unW).length ≤ 1000000 := by unfold Fr; decide +kernel
theorem DT : ofB (dM Iq.rM) = ⟨#[124, 32, 94, 32, 38, 32, 61, 61, 32, 33, 61, 32, 61, 61, 61, 32, 33, 61, 61, 32, 60, 32, 62, 32, 60, 61, 32, 62, 61, 32, 105, 110, 115, 116, 97, 110, 99, 101, 111, 102, 32, 105, 110, 32, 60, 60, 32, 62, 62, 32, 43, 32, 45, 32, 42, 32, 47, 32, 37]⟩ := by decide +kernel
theorem aDc : (∀ y ∈ Iq.rM, Fr 32 y) ∧ [] ∉ Iq.rM ∧ Iq.rM ≠ [] ∧ (dM Iq.rM).length ≤ 1000000 := by unfold Fr; decide +kernel
theorem CP : ofB (dM Iq.rF) = ⟨#[38, 38, 32, 124, 124, 32, 63, 63]⟩ := by decide +kernel
theorem aCk : (∀ y ∈ Iq.rF, Fr 32 y) ∧ [] ∉ Iq.rF ∧ Iq.rF ≠ [] ∧ (dM Iq.rF).length ≤ 1000000 := by unfold Fr; decide +kernel
attribute [local irreducible] G GC GQ GA bO Calls IntKind.wrap Int.decLt Int.decLe
theorem aB7 (s : ByteArray) (hs : s.size ≤ 1000000) (w : World) (μ : Mem) (hμ : MOk μ w) : Calls Tryz.prog 135 #[.string s] w fun e w' => e = .returned (.bool (Iq.oB s.data.toList)) ∧ Below w.heap.size w w' := by
  have h := PA s.data.toList (by rw [mZ]; exact hs) w μ hμ
  rw [lP] at h
  exact h
theorem PF (s : ByteArray) (hs : s.size ≤ 1000000) (w : World) (μ : Mem) (hμ : MOk μ w) (hm : fY μ) : Calls Tryz.prog 136 #[.string s, .string ⟨#[45, 32, 43, 32, 33, 32, 126, 32, 118, 111, 105, 100]⟩] w fun e w' => e = .returned (.bool (Iq.unW.contains s.data.toList)) ∧ Below w.heap.size w w' := by
  obtain ⟨h1, h2, h3, h4⟩ := aEa
  have h := oW s.data.toList Iq.unW h1 h2 h3 (by rw [mZ]; exact hs) h4 w μ hμ hm
  rw [lP, HJ] at h
  exact h
theorem JJ (s : ByteArray) (hs : s.size ≤ 1000000) (w : World) (μ : Mem) (hμ : MOk μ w) (hm : fY μ) : Calls Tryz.prog 136 #[.string s, .string ⟨#[124, 32, 94, 32, 38, 32, 61, 61, 32, 33, 61, 32, 61, 61, 61, 32, 33, 61, 61, 32, 60, 32, 62, 32, 60, 61, 32, 62, 61, 32, 105, 110, 115, 116, 97, 110, 99, 101, 111, 102, 32, 105, 110, 32, 60, 60, 32, 62, 62, 32, 43, 32, 45, 32, 42, 32, 47, 32, 37]⟩] w fun e w' => e = .returned (.bool (Iq.rM.contains s.data.toList)) ∧ Below w.heap.size w w' := by
  obtain ⟨h1, h2, h3, h4⟩ := aDc
  have h := oW s.data.toList Iq.rM h1 h2 h3 (by rw [mZ]; exact hs) h4 w μ hμ hm
  rw [lP, DT] at h
  exact h
theorem JI (s : ByteArray) (hs : s.size ≤ 1000000) (w : World) (μ : Mem) (hμ : MOk μ w) (hm : fY μ) : Calls Tryz.prog 136 #[.string s, .string ⟨#[38, 38, 32, 124, 124, 32, 63, 63]⟩] w fun e w' => e = .returned (.bool (Iq.rF.contains s.data.toList)) ∧ Below w.heap.size w w' := by
  obtain ⟨h1, h2, h3, h4⟩ := aCk
  have h := oW s.data.toList Iq.rF h1 h2 h3 (by rw [mZ]; exact hs) h4 w μ hμ hm
  rw [lP, CP] at h
  exact h
theorem OS (t : T) (u : Value) (hu : u.oneCell' = true) (hs : t.s.size ≤ 1000000) (w : World) (μ : Mem) (hμ : MOk μ w) (hm : fY μ) : Calls Tryz.prog 107 #[.agg (aR t u).toArray] w fun e w' => e = .returned (.bool (Iq.cT t.op t.s.data.toList)) ∧ Below w.heap.size w w' := by
  refine aC (args := [.agg (aR t u).toArray]) Tryz.func107 rfl Tryz.ntmps107 (by simp) hμ ?_
  by_cases h0 : t.op = 105
  · have e : Iq.cT t.op t.s.data.toList = decide (t.s.data.toList.length ≤ 65536) := by
      unfold Iq.cT
      rw [if_pos h0]
    rw [e]
    repeat' (first | refine KK ?_ | refine NB fun b => ?_ | fail)
    all_goals (refine aD rfl rfl ?_; congr 1; (rw [Bool.eq_iff_iff]; simp; omega))
  by_cases h1 : t.op = 111 ∨ t.op = 112 ∨ t.op = 113 ∨ t.op = 114
  · have e : Iq.cT t.op t.s.data.toList = Iq.oB t.s.data.toList := by
      unfold Iq.cT
      rw [if_neg h0, if_pos h1]
    rw [e]
    rcases h1 with h1 | h1 | h1 | h1
    all_goals repeat' (first | refine KO ?_ | ((with_reducible apply F1 135); exact rfl; exact EN; (exact fun w μc hw hse => aB7 _ hs w μc hw)) | refine KI ?_ | refine NB fun b => ?_ | fail)
    all_goals exact aD rfl rfl rfl
  by_cases h2 : t.op = 132
  · have e : Iq.cT t.op t.s.data.toList = Iq.unW.contains t.s.data.toList := by
      unfold Iq.cT
      rw [if_neg h0, if_neg h1, if_pos h2]
    rw [e]
    repeat' (first | refine KO ?_ | ((with_reducible apply F1 136); exact rfl; exact EN; (exact fun w μc hw hse => PF _ hs w μc hw (hm.mono hse.le))) | refine KI ?_ | refine NB fun b => ?_ | fail)
    all_goals exact aD rfl rfl rfl
  by_cases h3 : t.op = 133
  · have e : Iq.cT t.op t.s.data.toList = Iq.rM.contains t.s.data.toList := by
      unfold Iq.cT
      rw [if_neg h0, if_neg h1, if_neg h2, if_pos h3]
    rw [e]
    repeat' (first | refine KO ?_ | ((with_reducible apply F1 136); exact rfl; exact EN; (exact fun w μc hw hse => JJ _ hs w μc hw (hm.mono hse.le))) | refine KI ?_ | refine NB fun b => ?_ | fail)
    all_goals exact aD rfl rfl rfl
  by_cases h4 : t.op = 134
  · have e : Iq.cT t.op t.s.data.toList = Iq.rF.contains t.s.data.toList := by
      unfold Iq.cT
      rw [if_neg h0, if_neg h1, if_neg h2, if_neg h3, if_pos h4]
    rw [e]
    repeat' (first | refine KO ?_ | ((with_reducible apply F1 136); exact rfl; exact EN; (exact fun w μc hw hse => JI _ hs w μc hw (hm.mono hse.le))) | refine KI ?_ | refine NB fun b => ?_ | fail)
    all_goals exact aD rfl rfl rfl
  have e : Iq.cT t.op t.s.data.toList = t.s.data.toList.isEmpty := by
    unfold Iq.cT
    rw [if_neg h0, if_neg h1, if_neg h2, if_neg h3, if_neg h4]
  rw [e]
  have e1 : (t.s = ⟨#[]⟩) = (t.s.data.toList = []) := of_nil (a := t.s.data.toList)
  by_cases h9 : t.s.data.toList = []
  · have e2 := e1.mpr h9
    rw [h9]
    repeat' (first | refine KK ?_ | refine NB fun b => ?_ | fail)
    all_goals (refine aD rfl rfl ?_; congr 1; (rw [Bool.eq_iff_iff]; simp; omega))
  · have e2 : ¬ t.s = ⟨#[]⟩ := by rw [e1]; exact h9
    have e3 : t.s.data.toList.isEmpty = false := by simpa using h9
    rw [e3]
    repeat' (first | refine KK ?_ | refine NB fun b => ?_ | fail)
    all_goals (refine aD rfl rfl ?_; congr 1; (rw [decide_eq_false (by omega)]; done))
end
section
open Go.RowKit Go.Vcg
attribute [local irreducible] G GC GQ GA bO Calls IntKind.wrap Int.decLt Int.decLe
theorem OU (t : T) (u : Value) (hu : u.oneCell' = true) (f : F) (v : Value) (hv : v.oneCell' = true) (k : Int) (hL : 0 ≤ f.loc ∧ f.loc ≤ 100000) (hk : 0 ≤ k ∧ k ≤ 100000) (w : World) (μ : Mem) (hμ : MOk μ w) : Calls Tryz.prog 109 #[.agg (aR t u).toArray, .agg (dS f v).toArray, .int .i64 k] w fun e w' => e = .returned (.bool (Iq.bB t.op t.n f.loc k)) ∧ Below w.heap.size w w' := by
  have w1 : IntKind.i64.wrap (f.loc - 1) = f.loc - 1 := wrap_i64 ⟨by omega, by omega⟩
  have w2 : IntKind.i64.wrap (k - 1) = k - 1 := wrap_i64 ⟨by omega, by omega⟩
  refine aC (args := [.agg (aR t u).toArray, .agg (dS f v).toArray, .int .i64 k]) Tryz.func109 rfl Tryz.ntmps109 (by simp) hμ ?_
  by_cases h0 : t.op = 102 ∨ t.op = 126 ∨ t.op = 127 ∨ t.op = 144 ∨ t.op = 114
  · have e : Iq.bB t.op t.n f.loc k = Iq.inI t.n 0 1 := by
      unfold Iq.bB
      rw [if_pos h0]
    rw [e]
    rcases h0 with h0 | h0 | h0 | h0 | h0
    all_goals repeat' (first | refine KO ?_ | ((with_reducible apply F1 47); exact rfl; exact EN; (exact fun w μc hw hse => fF _ _ _ w μc hw)) | refine KI ?_ | refine NB fun b => ?_ | fail)
    all_goals exact aD rfl rfl rfl
  by_cases h1 : t.op = 103
  · have e : Iq.bB t.op t.n f.loc k = Iq.inI t.n (-9007199254740992) 9007199254740992 := by
      unfold Iq.bB
      rw [if_neg h0, if_pos h1]
    rw [e]
    repeat' (first | refine KO ?_ | ((with_reducible apply F1 47); exact rfl; exact EN; (exact fun w μc hw hse => fF _ _ _ w μc hw)) | refine KI ?_ | refine NB fun b => ?_ | fail)
    all_goals exact aD rfl rfl rfl
  by_cases h2 : t.op = 107 ∨ t.op = 108 ∨ t.op = 169
  · have e : Iq.bB t.op t.n f.loc k = Iq.inI t.n 0 (f.loc - 1) := by
      unfold Iq.bB
      rw [if_neg h0, if_neg h1, if_pos h2]
    rw [e]
    rcases h2 with h2 | h2 | h2
    all_goals repeat' (first | refine KO ?_ | ((with_reducible apply F1 47); exact rfl; exact EN; (exact fun w μc hw hse => fF _ _ _ w μc hw)) | refine KI ?_ | refine NB fun b => ?_ | fail)
    all_goals exact aD rfl rfl rfl
  by_cases h3 : t.op = 109 ∨ t.op = 110 ∨ t.op = 165 ∨ t.op = 166
  · have e : Iq.bB t.op t.n f.loc k = true := by
      unfold Iq.bB
      rw [if_neg h0, if_neg h1, if_neg h2, if_pos h3]
    rw [e]
    rcases h3 with h3 | h3 | h3 | h3
    all_goals repeat' (first | refine KO ?_ | refine KI ?_ | refine NB fun b => ?_ | fail)
    all_goals exact aD rfl rfl rfl
  by_cases h4 : t.op = 117
  · have e : Iq.bB t.op t.n f.loc k = Iq.inI t.n (-1) 1024 := by
      unfold Iq.bB
      rw [if_neg h0, if_neg h1, if_neg h2, if_neg h3, if_pos h4]
    rw [e]
    repeat' (first | refine KO ?_ | ((with_reducible apply F1 47); exact rfl; exact EN; (exact fun w μc hw hse => fF _ _ _ w μc hw)) | refine KI ?_ | refine NB fun b => ?_ | fail)
    all_goals exact aD rfl rfl rfl
  by_cases h5 : t.op = 118
  · have e : Iq.bB t.op t.n f.loc k = Iq.inI t.n 0 1024 := by
      unfold Iq.bB
      rw [if_neg h0, if_neg h1, if_neg h2, if_neg h3, if_neg h4, if_pos h5]
    rw [e]
    repeat' (first | refine KO ?_ | ((with_reducible apply F1 47); exact rfl; exact EN; (exact fun w μc hw hse => fF _ _ _ w μc hw)) | refine KI ?_ | refine NB fun b => ?_ | fail)
    all_goals exact aD rfl rfl rfl
  by_cases h6 : t.op = 119
  · have e : Iq.bB t.op t.n f.loc k = Iq.inI t.n 1 (k - 1) := by
      unfold Iq.bB
      rw [if_neg h0, if_neg h1, if_neg h2, if_neg h3, if_neg h4, if_neg h5, if_pos h6]
    rw [e]
    repeat' (first | refine KO ?_ | ((with_reducible apply F1 47); exact rfl; exact EN; (exact fun w μc hw hse => fF _ _ _ w μc hw)) | refine KI ?_ | refine NB fun b => ?_ | fail)
    all_goals exact aD rfl rfl rfl
  by_cases h7 : t.op = 121
  · have e : Iq.bB t.op t.n f.loc k = Iq.inI t.n 0 2 := by
      unfold Iq.bB
      rw [if_neg h0, if_neg h1, if_neg h2, if_neg h3, if_neg h4, if_neg h5, if_neg h6, if_pos h7]
    rw [e]
    repeat' (first | refine KO ?_ | ((with_reducible apply F1 47); exact rfl; exact EN; (exact fun w μc hw hse => fF _ _ _ w μc hw)) | refine KI ?_ | refine NB fun b => ?_ | fail)
    all_goals exact aD rfl rfl rfl
  by_cases h8 : t.op = 163 ∨ t.op = 164 ∨ t.op = 170
  · have e : Iq.bB t.op t.n f.loc k = Iq.inI t.n 0 4096 := by
      unfold Iq.bB
      rw [if_neg h0, if_neg h1, if_neg h2, if_neg h3, if_neg h4, if_neg h5, if_neg h6, if_neg h7, if_pos h8]
    rw [e]
    rcases h8 with h8 | h8 | h8
    all_goals repeat' (first | refine KO ?_ | ((with_reducible apply F1 47); exact rfl; exact EN; (exact fun w μc hw hse => fF _ _ _ w μc hw)) | refine KI ?_ | refine NB fun b => ?_ | fail)
    all_goals exact aD rfl rfl rfl
  have e : Iq.bB t.op t.n f.loc k = decide (t.n = 0) := by
    unfold Iq.bB
    rw [if_neg h0, if_neg h1, if_neg h2, if_neg h3, if_neg h4, if_neg h5, if_neg h6, if_neg h7, if_neg h8]
  rw [e]
  repeat' (first | refine KK ?_ | refine NB fun b => ?_ | fail)
  all_goals exact aD rfl rfl rfl
end
end Go.Proofs.YtoclmkdfcafhfaaGreatDoor
