/- Package ir: names at the front of a text. -/
import Derived.Test.YtoclmkdfcafhfaaGreatDoorQaj
import Derived.Test.YtoclmkdfcafhfaaGreatDoorShelf
set_option maxRecDepth 20000
set_option maxHeartbeats 2000000
namespace Go.Vcg
open Go.RowKit
section
variable {P : Program} {μ : Mem} {l : Slots} {L : List Bk} {ty : TypeId} {pos : String} {af : Array Edge} {gd : Option (Nat × Bool)} {ds : Option Nat}
theorem v_str_bothE {p q r : Operand} {t : TypeId} {b b' : ByteArray} {j i : Int} (k m : Nat) (he : b.extract k m = b') (ht : P.underlying t = some .string) (hx : ev l p = some (.string b)) (hq : ev l q = some (.int .i64 j)) (hj : j = (k : Int)) (hr' : ev l r = some (.int .i64 i)) (hi : i = (m : Int)) (hk : k ≤ m) (hm : m ≤ b.size) :
    Val P μ l L ⟨ds, .slice t p (some q) (some r) none, ty, pos, af, gd⟩ (.string b') := by
  rw [← he]
  exact v_str_both k m ht hx hq hj hr' hi hk hm
end
end Go.Vcg
namespace Go.Proofs.YtoclmkdfcafhfaaGreatDoor
section
open Go.RowKit Go.Vcg Ou
theorem of_size (l : List UInt8) : (ofB l).size = l.length := by simp [ofB, ByteArray.size]
theorem bl_of (l : List UInt8) : bl (ofB l) = l := by simp [bl, ofB]
theorem bl_get {s : ByteArray} {i : Nat} (h : i < s.size) : ∃ b, (bl s)[i]? = some b ∧ bAt s i = b.toNat := by
  have : i < (bl s).length := by rw [bl_len]; exact h
  exact ⟨(bl s)[i], List.getElem?_eq_getElem this, bAt_get (List.getElem?_eq_getElem this)⟩
theorem letter_is (x : Int) (c : UInt8) (b : Bool) (hx : x = c.toNat) (hb : Iq.idStart c = b) (w : World) (μ : Mem) (hμ : MOk μ w) : Calls Tryz.prog 169 #[.int .u8 x] w fun e w' => e = .returned (.bool b) ∧ Below w.heap.size w w' := by
  subst hb
  exact letter_spec x c hx w μ hμ
theorem rletter_is (x : Int) (c : UInt8) (b : Bool) (hx : x = c.toNat) (hb : Iq.idStart c = b) (w : World) (μ : Mem) (hμ : MOk μ w) : Calls Tryz.prog 170 #[.int .u8 x] w fun e w' => e = .returned (.bool b) ∧ Below w.heap.size w w' := by
  subst hb
  exact rletter_spec x c hx w μ hμ
theorem part_split (c : UInt8) : Iq.idPart c = true ↔ Iq.idStart c = true ∨ (48 ≤ (c.toNat : Int) ∧ (c.toNat : Int) ≤ 57) := by
  unfold Iq.idPart
  rw [Bool.or_eq_true, Bool.and_eq_true, decide_eq_true_eq, decide_eq_true_eq]
  exact or_congr Iff.rfl (by omega)
theorem name_more {l : List UInt8} {j : Nat} {c : UInt8} (hj : j ≤ (nameF l).length) (h0 : j = 0 → Iq.idStart c = true) (hc : l[j]? = some c) (h : Iq.idPart c = true) (hs : nameF l ≠ [] ∨ j = 0) : j + 1 ≤ (nameF l).length := by
  cases l with
  | nil => simp at hc
  | cons x r =>
    unfold nameF at hj hs ⊢
    dsimp only at hj hs ⊢
    cases j with
    | zero =>
      simp at hc
      subst hc
      rw [if_pos (h0 rfl)]
      simp
    | succ j =>
      by_cases hx : Iq.idStart x = true
      · rw [if_pos hx] at hj ⊢
        rw [List.getElem?_cons_succ] at hc
        simp only [List.length_cons] at hj ⊢
        rcases Nat.lt_or_ge j (r.takeWhile Iq.idPart).length with h1 | h1
        · omega
        · have e : j = (r.takeWhile Iq.idPart).length := by omega
          rw [e] at hc
          have := tw_end _ _ hc
          rw [h] at this
          cases this
      · rw [if_neg hx] at hs
        rcases hs with hs | hs
        · exact absurd rfl hs
        · omega
theorem name_stop {l : List UInt8} {j : Nat} (hj : j ≤ (nameF l).length) (h : l.length ≤ j ∨ ∃ c, l[j]? = some c ∧ Iq.idPart c = false) : (nameF l).length = j := by
  cases l with
  | nil => simp [nameF] at hj ⊢; omega
  | cons x r =>
    unfold nameF at hj ⊢
    dsimp only at hj ⊢
    by_cases hx : Iq.idStart x = true
    · rw [if_pos hx] at hj ⊢
      simp only [List.length_cons] at hj ⊢
      have hle := (List.takeWhile_prefix (l := r) Iq.idPart).length_le
      rcases h with h | ⟨c, hc, h⟩
      · simp at h
        omega
      · cases j with
        | zero =>
          simp at hc
          subst hc
          have : Iq.idPart x = true := (part_split x).2 (.inl hx)
          rw [this] at h
          cases h
        | succ j =>
          rw [List.getElem?_cons_succ] at hc
          rcases Nat.lt_or_ge j (r.takeWhile Iq.idPart).length with h1 | h1
          · obtain ⟨d, h2, h3⟩ := tw_get _ _ h1
            rw [h2] at hc
            cases hc
            rw [h3] at h
            cases h
          · omega
    · rw [if_neg hx] at hj ⊢
      simp at hj ⊢
      omega
theorem name_ext {l : List UInt8} : (ofB l).extract 0 (nameF l).length = ofB (nameF l) := by
  apply bl_inj
  rw [bl_extract, bl_of, bl_of, Nat.sub_zero, List.drop_zero]
  cases l with
  | nil => rfl
  | cons x r =>
    unfold nameF
    dsimp only
    by_cases hx : Iq.idStart x = true
    · rw [if_pos hx, List.length_cons, List.take_succ_cons, ← List.prefix_iff_eq_take.1 (List.takeWhile_prefix _)]
    · rw [if_neg hx]
      rfl
theorem name_le (l : List UInt8) : (nameF l).length ≤ l.length := by
  cases l with
  | nil => simp [nameF]
  | cons x r =>
    unfold nameF
    dsimp only
    have hle := (List.takeWhile_prefix (l := r) Iq.idPart).length_le
    split <;> simp <;> omega
attribute [local irreducible] G GC GQ GA GAop Calls IntKind.wrap Int.decLt Int.decLe
theorem named_spec (l : List UInt8) (hl : l.length ≤ 1000000) (w : World) (μ : Mem) (hμ : MOk μ w) : Calls Tryz.prog 155 #[.string (ofB l), .int .i64 0] w fun e w' => e = .returned (.tuple #[.string (ofB (nameF l)), .int .i64 (nameF l).length]) ∧ Below w.heap.size w w' := by
  refine call_intro (args := [.string (ofB l), .int .i64 0]) Tryz.func155 rfl Tryz.ntmps155 (by simp) hμ ?_
  have hsz := of_size l
  by_cases h0 : l = []
  · subst h0
    have hz : (ofB ([] : List UInt8)).size = 0 := rfl
    repeat' (first | refine KK ?_ | (refine KB ?_ ?_ <;> intro hp) | refine KG ?_ | fail)
    all_goals first | (exfalso; first | omega | contradiction | exact absurd ‹_› ‹¬ _›) | skip
    all_goals exact ret_v2 rfl (rv_tmp rfl) (rv_tmp rfl) rfl rfl
  obtain ⟨c, r, rfl⟩ : ∃ c r, l = c :: r := by
    cases l with
    | nil => exact absurd rfl h0
    | cons c r => exact ⟨c, r, rfl⟩
  have hpos : 0 < (c :: r).length := by simp
  obtain ⟨c0, hb1, hb2⟩ := bl_get (s := ofB (c :: r)) (i := 0) (by omega)
  rw [bl_of] at hb1
  cases hb1
  cases hc : Iq.idStart c with
  | false =>
    have hn : nameF (c :: r) = [] := by
      unfold nameF
      simp [hc]
    rw [hn]
    repeat' (first | refine KO ?_ | ((with_reducible apply F1 169); exact rfl; exact EN; (exact fun w μc hw hse => letter_is _ c false (by first | omega | exact hb2 | (simp; omega)) hc w μc hw)) | (refine KV (b := by first | exact U2 0) (c := ?_)) | refine KI ?_ | (refine KB ?_ ?_ <;> intro hp) | refine KG ?_ | fail)
    all_goals first | (exfalso; first | omega | contradiction | exact absurd ‹_› ‹¬ _›) | skip
    all_goals exact ret_v2 rfl (rv_tmp rfl) (rv_tmp rfl) rfl rfl
  | true =>
    have hle := name_le (c :: r)
    have hext := name_ext (l := c :: r)
    have hne : 1 ≤ (nameF (c :: r)).length := name_more (Nat.zero_le _) (fun _ => hc) rfl ((part_split c).2 (.inl hc)) (.inr rfl)
    have hmore := fun (j : Nat) (d : UInt8) (hj : j ≤ (nameF (c :: r)).length) (h1 : j = 0 → Iq.idStart d = true) (h2 : (c :: r)[j]? = some d) (h3 : Iq.idPart d = true) => name_more hj h1 h2 h3 (.inl (by intro h; rw [h] at hne; simp at hne))
    have hstop := fun (j : Nat) => name_stop (l := c :: r) (j := j)
    have hcl : (c :: r)[0]? = some c := rfl
    generalize nameF (c :: r) = u at hle hext hne hmore hstop ⊢
    generalize hlg : c :: r = l at *
    repeat' (first | refine KO ?_ | ((with_reducible apply F1 169); exact rfl; exact EN; (exact fun w μc hw hse => letter_is _ c true (by first | omega | exact hb2 | (simp; omega)) hc w μc hw)) | (refine KV (b := by first | exact U2 0) (c := ?_)) | refine KI ?_ | (refine KB ?_ ?_ <;> intro hp) | refine KG ?_ | fail)
    all_goals first | (exfalso; first | omega | contradiction | exact absurd ‹_› ‹¬ _›) | skip
    all_goals refine gc_loop (ι := Nat) (fun j => 1 ≤ j ∧ j ≤ u.length) (fun j => l.length - j) (fun _ => μ) (fun j => [(6, .int .i64 (j : Int)), (1, .int .i64 0), (0, .string (ofB l)), (4, .string ⟨#[]⟩), (5, .int .i64 0)]) (fun _ => []) 1 ⟨by omega, by omega⟩ (fun a w hs => hs.sel PU PS) ?_
    intro j ⟨hj0, hj⟩
    clear hb2
    by_cases hlt : j < l.length
    · obtain ⟨d, hb1, hb2⟩ := bl_get (s := ofB l) (i := j) (by omega)
      rw [bl_of] at hb1
      have hd0 : j = 0 → d = c := by
        intro h
        rw [h, hcl] at hb1
        exact (Option.some.inj hb1).symm
      cases hds : Iq.idStart d with
      | true =>
        have hw := hmore j d hj (fun _ => hds) hb1 ((part_split d).2 (.inl hds))
        repeat' (first | refine KO ?_ | ((with_reducible apply F1 169); exact rfl; exact EN; (exact fun w μc hw hse => letter_is _ d true (by first | omega | exact hb2 | (simp; omega)) hds w μc hw)) | (refine KV (b := by first | exact U2 j) (c := ?_)) | refine KI ?_ | (refine KB ?_ ?_ <;> intro hp) | refine KG ?_ | fail)
        all_goals first | (exfalso; first | omega | contradiction | exact absurd ‹_› ‹¬ _›) | skip
        all_goals refine gq_backS (j + 1) ⟨by omega, hw⟩ (by omega) rfl PU PS
      | false =>
        by_cases hdg : 48 ≤ (d.toNat : Int) ∧ (d.toNat : Int) ≤ 57
        · have hw := hmore j d hj (fun h => by rw [hd0 h]; exact hc) hb1 ((part_split d).2 (.inr hdg))
          repeat' (first | refine KO ?_ | ((with_reducible apply F1 169); exact rfl; exact EN; (exact fun w μc hw hse => letter_is _ d false (by first | omega | exact hb2 | (simp; omega)) hds w μc hw)) | (refine KV (b := by first | exact U2 j) (c := ?_)) | refine KI ?_ | (refine KB ?_ ?_ <;> intro hp) | refine KG ?_ | fail)
          all_goals first | (exfalso; first | omega | contradiction | exact absurd ‹_› ‹¬ _›) | skip
          all_goals refine gq_backS (j + 1) ⟨by omega, hw⟩ (by omega) rfl PU PS
        · have hw := hstop j hj (.inr ⟨d, hb1, by
            cases hp : Iq.idPart d with
            | false => rfl
            | true => rcases (part_split d).1 hp with h | h
                      · rw [hds] at h; cases h
                      · exact absurd h hdg⟩)
          subst hw
          repeat' (first | refine KO ?_ | ((with_reducible apply F1 169); exact rfl; exact EN; (exact fun w μc hw hse => letter_is _ d false (by first | omega | exact hb2 | (simp; omega)) hds w μc hw)) | (refine KV (b := by first | exact U2 u.length | ((with_reducible apply v_str_bothE 0 u.length hext); exact rfl; exact rfl; exact rfl; rfl; exact rfl; rfl; omega; (rw [of_size]; omega))) (c := ?_)) | refine KI ?_ | (refine KB ?_ ?_ <;> intro hp) | refine KG ?_ | fail)
          all_goals first | (exfalso; first | omega | contradiction | exact absurd ‹_› ‹¬ _›) | skip
          all_goals exact ret_v2 rfl (rv_tmp rfl) (rv_tmp rfl) rfl rfl
    · have hw := hstop j hj (.inl (by omega))
      subst hw
      repeat' (first | refine KO ?_ | (refine KV (b := by first | ((with_reducible apply v_str_bothE 0 u.length hext); exact rfl; exact rfl; exact rfl; rfl; exact rfl; rfl; omega; (rw [of_size]; omega))) (c := ?_)) | refine KI ?_ | (refine KB ?_ ?_ <;> intro hp) | refine KG ?_ | fail)
      all_goals first | (exfalso; first | omega | contradiction | exact absurd ‹_› ‹¬ _›) | skip
      all_goals exact ret_v2 rfl (rv_tmp rfl) (rv_tmp rfl) rfl rfl
theorem rnamed_spec (l : List UInt8) (hl : l.length ≤ 1000000) (w : World) (μ : Mem) (hμ : MOk μ w) : Calls Tryz.prog 159 #[.string (ofB l), .int .i64 0] w fun e w' => e = .returned (.tuple #[.string (ofB (nameF l)), .int .i64 (nameF l).length]) ∧ Below w.heap.size w w' := by
  refine call_intro (args := [.string (ofB l), .int .i64 0]) Tryz.func159 rfl Tryz.ntmps159 (by simp) hμ ?_
  have hsz := of_size l
  by_cases h0 : l = []
  · subst h0
    have hz : (ofB ([] : List UInt8)).size = 0 := rfl
    repeat' (first | refine KK ?_ | (refine KB ?_ ?_ <;> intro hp) | refine KG ?_ | fail)
    all_goals first | (exfalso; first | omega | contradiction | exact absurd ‹_› ‹¬ _›) | skip
    all_goals exact ret_v2 rfl (rv_tmp rfl) (rv_tmp rfl) rfl rfl
  obtain ⟨c, r, rfl⟩ : ∃ c r, l = c :: r := by
    cases l with
    | nil => exact absurd rfl h0
    | cons c r => exact ⟨c, r, rfl⟩
  have hpos : 0 < (c :: r).length := by simp
  obtain ⟨c0, hb1, hb2⟩ := bl_get (s := ofB (c :: r)) (i := 0) (by omega)
  rw [bl_of] at hb1
  cases hb1
  cases hc : Iq.idStart c with
  | false =>
    have hn : nameF (c :: r) = [] := by
      unfold nameF
      simp [hc]
    rw [hn]
    repeat' (first | refine KO ?_ | ((with_reducible apply F1 170); exact rfl; exact EN; (exact fun w μc hw hse => rletter_is _ c false (by first | omega | exact hb2 | (simp; omega)) hc w μc hw)) | (refine KV (b := by first | exact U2 0) (c := ?_)) | refine KI ?_ | (refine KB ?_ ?_ <;> intro hp) | refine KG ?_ | fail)
    all_goals first | (exfalso; first | omega | contradiction | exact absurd ‹_› ‹¬ _›) | skip
    all_goals exact ret_v2 rfl (rv_tmp rfl) (rv_tmp rfl) rfl rfl
  | true =>
    have hle := name_le (c :: r)
    have hext := name_ext (l := c :: r)
    have hne : 1 ≤ (nameF (c :: r)).length := name_more (Nat.zero_le _) (fun _ => hc) rfl ((part_split c).2 (.inl hc)) (.inr rfl)
    have hmore := fun (j : Nat) (d : UInt8) (hj : j ≤ (nameF (c :: r)).length) (h1 : j = 0 → Iq.idStart d = true) (h2 : (c :: r)[j]? = some d) (h3 : Iq.idPart d = true) => name_more hj h1 h2 h3 (.inl (by intro h; rw [h] at hne; simp at hne))
    have hstop := fun (j : Nat) => name_stop (l := c :: r) (j := j)
    have hcl : (c :: r)[0]? = some c := rfl
    generalize nameF (c :: r) = u at hle hext hne hmore hstop ⊢
    generalize hlg : c :: r = l at *
    repeat' (first | refine KO ?_ | ((with_reducible apply F1 170); exact rfl; exact EN; (exact fun w μc hw hse => rletter_is _ c true (by first | omega | exact hb2 | (simp; omega)) hc w μc hw)) | (refine KV (b := by first | exact U2 0) (c := ?_)) | refine KI ?_ | (refine KB ?_ ?_ <;> intro hp) | refine KG ?_ | fail)
    all_goals first | (exfalso; first | omega | contradiction | exact absurd ‹_› ‹¬ _›) | skip
    all_goals refine gc_loop (ι := Nat) (fun j => 0 ≤ j ∧ j ≤ u.length) (fun j => l.length - j) (fun _ => μ) (fun j => [(6, .int .i64 (j : Int)), (1, .int .i64 0), (0, .string (ofB l)), (4, .string ⟨#[]⟩), (5, .int .i64 0)]) (fun _ => []) 0 ⟨by omega, by omega⟩ (fun a w hs => hs.sel PU PS) ?_
    intro j ⟨hj0, hj⟩
    clear hb2
    by_cases hlt : j < l.length
    · obtain ⟨d, hb1, hb2⟩ := bl_get (s := ofB l) (i := j) (by omega)
      rw [bl_of] at hb1
      have hd0 : j = 0 → d = c := by
        intro h
        rw [h, hcl] at hb1
        exact (Option.some.inj hb1).symm
      cases hds : Iq.idStart d with
      | true =>
        have hw := hmore j d hj (fun _ => hds) hb1 ((part_split d).2 (.inl hds))
        repeat' (first | refine KO ?_ | ((with_reducible apply F1 170); exact rfl; exact EN; (exact fun w μc hw hse => rletter_is _ d true (by first | omega | exact hb2 | (simp; omega)) hds w μc hw)) | (refine KV (b := by first | exact U2 j) (c := ?_)) | refine KI ?_ | (refine KB ?_ ?_ <;> intro hp) | refine KG ?_ | fail)
        all_goals first | (exfalso; first | omega | contradiction | exact absurd ‹_› ‹¬ _›) | skip
        all_goals refine gq_backS (j + 1) ⟨by omega, hw⟩ (by omega) rfl PU PS
      | false =>
        by_cases hdg : 48 ≤ (d.toNat : Int) ∧ (d.toNat : Int) ≤ 57
        · have hw := hmore j d hj (fun h => by rw [hd0 h]; exact hc) hb1 ((part_split d).2 (.inr hdg))
          repeat' (first | refine KO ?_ | ((with_reducible apply F1 170); exact rfl; exact EN; (exact fun w μc hw hse => rletter_is _ d false (by first | omega | exact hb2 | (simp; omega)) hds w μc hw)) | (refine KV (b := by first | exact U2 j) (c := ?_)) | refine KI ?_ | (refine KB ?_ ?_ <;> intro hp) | refine KG ?_ | fail)
          all_goals first | (exfalso; first | omega | contradiction | exact absurd ‹_› ‹¬ _›) | skip
          all_goals refine gq_backS (j + 1) ⟨by omega, hw⟩ (by omega) rfl PU PS
        · have hw := hstop j hj (.inr ⟨d, hb1, by
            cases hp : Iq.idPart d with
            | false => rfl
            | true => rcases (part_split d).1 hp with h | h
                      · rw [hds] at h; cases h
                      · exact absurd h hdg⟩)
          subst hw
          repeat' (first | refine KO ?_ | ((with_reducible apply F1 170); exact rfl; exact EN; (exact fun w μc hw hse => rletter_is _ d false (by first | omega | exact hb2 | (simp; omega)) hds w μc hw)) | (refine KV (b := by first | exact U2 u.length | ((with_reducible apply v_str_bothE 0 u.length hext); exact rfl; exact rfl; exact rfl; rfl; exact rfl; rfl; omega; (rw [of_size]; omega))) (c := ?_)) | refine KI ?_ | (refine KB ?_ ?_ <;> intro hp) | refine KG ?_ | fail)
          all_goals first | (exfalso; first | omega | contradiction | exact absurd ‹_› ‹¬ _›) | skip
          all_goals exact ret_v2 rfl (rv_tmp rfl) (rv_tmp rfl) rfl rfl
    · have hw := hstop j hj (.inl (by omega))
      subst hw
      repeat' (first | refine KO ?_ | (refine KV (b := by first | ((with_reducible apply v_str_bothE 0 u.length hext); exact rfl; exact rfl; exact rfl; rfl; exact rfl; rfl; omega; (rw [of_size]; omega))) (c := ?_)) | refine KI ?_ | (refine KB ?_ ?_ <;> intro hp) | refine KG ?_ | fail)
      all_goals first | (exfalso; first | omega | contradiction | exact absurd ‹_› ‹¬ _›) | skip
      all_goals exact ret_v2 rfl (rv_tmp rfl) (rv_tmp rfl) rfl rfl
end
section
open Go.RowKit Go.Vcg Ou
theorem of_inj {a b : List UInt8} : (ofB a = ofB b) = (a = b) := by
  apply propext
  constructor
  · intro h
    have := congrArg bl h
    rwa [bl_of, bl_of] at this
  · intro h
    rw [h]
theorem of_nil {a : List UInt8} : (ofB a = ⟨#[]⟩) = (a = []) := of_inj (a := a) (b := [])
theorem name_pre (l : List UInt8) : nameF l <+: l := by
  cases l with
  | nil => exact List.prefix_refl _
  | cons c r =>
    unfold nameF
    dsimp only
    split
    · exact (List.cons_prefix_cons).2 ⟨rfl, List.takeWhile_prefix _⟩
    · exact List.nil_prefix
theorem name_all (l : List UInt8) : (nameF l = l) ↔ (nameF l).length = l.length := by
  constructor
  · intro h; rw [h]
  · intro h; exact (name_pre l).eq_of_length h
attribute [local irreducible] G GC GQ GA GAop Calls IntKind.wrap Int.decLt Int.decLe
theorem pform_spec (l : List UInt8) (hl : l.length ≤ 1000000) (w : World) (μ : Mem) (hμ : MOk μ w) : Calls Tryz.prog 135 #[.string (ofB l)] w fun e w' => e = .returned (.bool (Iq.formB l)) ∧ Below w.heap.size w w' := by
  refine call_intro (args := [.string (ofB l)]) Tryz.func135 rfl Tryz.ntmps135 (by simp) hμ ?_
  have hsz := of_size l
  have hall := name_all l
  rw [form_name]
  have hlen : (nameF l).length ≤ l.length := name_le l
  have hc := fun w μc hw => named_spec l hl w μc hw
  generalize nameF l = u at hall hlen hc ⊢
  have hu : (ofB u = ⟨#[]⟩) = (u = []) := of_nil
  have hul : (ofB u = ofB l) = (u = l) := of_inj
  by_cases a : u = []
  · have a' : ofB u = ⟨#[]⟩ := hu.mpr a
    repeat' (first | refine KO ?_ | ((with_reducible apply F1 155); exact rfl; exact EN; (exact fun w μc hw hse => hc w μc hw)) | refine KI ?_ | (refine KB ?_ ?_ <;> intro hp) | refine KG ?_ | fail)
    all_goals first | (exfalso; first | omega | contradiction | exact absurd ‹_› ‹¬ _›) | (refine ret_s rfl rfl ?_; congr 1; simp [a', a, hu, hul]; done) | (refine ret_s rfl rfl ?_; congr 1; simp_all; done)
  · have a' : ¬ ofB u = ⟨#[]⟩ := by rw [hu]; exact a
    by_cases b : u = l
    · have b' : ofB u = ofB l := hul.mpr b
      have b2 := hall.1 b
      repeat' (first | refine KO ?_ | ((with_reducible apply F1 155); exact rfl; exact EN; (exact fun w μc hw hse => hc w μc hw)) | refine KI ?_ | (refine KB ?_ ?_ <;> intro hp) | refine KG ?_ | fail)
      all_goals first | (exfalso; first | omega | contradiction | exact absurd ‹_› ‹¬ _›) | (refine ret_s rfl rfl ?_; congr 1; simp_all; done) | (refine ret_s rfl rfl ?_; congr 1; rw [Bool.eq_iff_iff]; simp; omega)
    · have b' : ¬ ofB u = ofB l := by rw [hul]; exact b
      have b2 : ¬ u.length = l.length := fun h => b (hall.2 h)
      repeat' (first | refine KO ?_ | ((with_reducible apply F1 155); exact rfl; exact EN; (exact fun w μc hw hse => hc w μc hw)) | refine KI ?_ | (refine KB ?_ ?_ <;> intro hp) | refine KG ?_ | fail)
      all_goals first | (exfalso; first | omega | contradiction | exact absurd ‹_› ‹¬ _›) | (refine ret_s rfl rfl ?_; congr 1; simp_all; done) | (refine ret_s rfl rfl ?_; congr 1; simp [a, b, a', b', hsz]; omega)
theorem rform_spec (l : List UInt8) (hl : l.length ≤ 1000000) (w : World) (μ : Mem) (hμ : MOk μ w) : Calls Tryz.prog 140 #[.string (ofB l)] w fun e w' => e = .returned (.bool (Iq.formB l)) ∧ Below w.heap.size w w' := by
  refine call_intro (args := [.string (ofB l)]) Tryz.func140 rfl Tryz.ntmps140 (by simp) hμ ?_
  have hsz := of_size l
  have hall := name_all l
  rw [form_name]
  have hlen : (nameF l).length ≤ l.length := name_le l
  have hc := fun w μc hw => rnamed_spec l hl w μc hw
  generalize nameF l = u at hall hlen hc ⊢
  have hu : (ofB u = ⟨#[]⟩) = (u = []) := of_nil
  have hul : (ofB u = ofB l) = (u = l) := of_inj
  by_cases a : u = []
  · have a' : ofB u = ⟨#[]⟩ := hu.mpr a
    repeat' (first | refine KO ?_ | ((with_reducible apply F1 159); exact rfl; exact EN; (exact fun w μc hw hse => hc w μc hw)) | refine KI ?_ | (refine KB ?_ ?_ <;> intro hp) | refine KG ?_ | fail)
    all_goals first | (exfalso; first | omega | contradiction | exact absurd ‹_› ‹¬ _›) | (refine ret_s rfl rfl ?_; congr 1; simp [a', a, hu, hul]; done) | (refine ret_s rfl rfl ?_; congr 1; simp_all; done)
  · have a' : ¬ ofB u = ⟨#[]⟩ := by rw [hu]; exact a
    by_cases b : u = l
    · have b' : ofB u = ofB l := hul.mpr b
      have b2 := hall.1 b
      repeat' (first | refine KO ?_ | ((with_reducible apply F1 159); exact rfl; exact EN; (exact fun w μc hw hse => hc w μc hw)) | refine KI ?_ | (refine KB ?_ ?_ <;> intro hp) | refine KG ?_ | fail)
      all_goals first | (exfalso; first | omega | contradiction | exact absurd ‹_› ‹¬ _›) | (refine ret_s rfl rfl ?_; congr 1; simp_all; done) | (refine ret_s rfl rfl ?_; congr 1; rw [Bool.eq_iff_iff]; simp; omega)
    · have b' : ¬ ofB u = ofB l := by rw [hul]; exact b
      have b2 : ¬ u.length = l.length := fun h => b (hall.2 h)
      repeat' (first | refine KO ?_ | ((with_reducible apply F1 159); exact rfl; exact EN; (exact fun w μc hw hse => hc w μc hw)) | refine KI ?_ | (refine KB ?_ ?_ <;> intro hp) | refine KG ?_ | fail)
      all_goals first | (exfalso; first | omega | contradiction | exact absurd ‹_› ‹¬ _›) | (refine ret_s rfl rfl ?_; congr 1; simp_all; done) | (refine ret_s rfl rfl ?_; congr 1; simp [a, b, a', b', hsz]; omega)
end
end Go.Proofs.YtoclmkdfcafhfaaGreatDoor
namespace Go.Vcg
open Go.RowKit
section
variable {P : Program} {μ : Mem} {l : Slots} {L : List Bk} {ty : TypeId} {pos : String} {af : Array Edge} {gd : Option (Nat × Bool)} {ds : Option Nat}
theorem v_str_hiE {p q : Operand} {t : TypeId} {b b' : ByteArray} {j : Int} (k : Nat) (he : b.extract 0 k = b') (ht : P.underlying t = some .string) (hx : ev l p = some (.string b)) (hq : ev l q = some (.int .i64 j)) (hj : j = (k : Int)) (hk : k ≤ b.size) :
    Val P μ l L ⟨ds, .slice t p none (some q) none, ty, pos, af, gd⟩ (.string b') := by
  rw [← he]
  exact v_str_hi k ht hx hq hj hk
theorem v_str_loE {p q : Operand} {t : TypeId} {b b' : ByteArray} {j : Int} (k : Nat) (he : b.extract k b.size = b') (ht : P.underlying t = some .string) (hx : ev l p = some (.string b)) (hq : ev l q = some (.int .i64 j)) (hj : j = (k : Int)) (hk : k ≤ b.size) :
    Val P μ l L ⟨ds, .slice t p (some q) none none, ty, pos, af, gd⟩ (.string b') := by
  rw [← he]
  exact v_str_lo k ht hx hq hj hk
end
end Go.Vcg
namespace Go.Proofs.YtoclmkdfcafhfaaGreatDoor
open Go.RowKit Go.Vcg Ou
def joinS : List (List UInt8) → List UInt8
  | [] => []
  | [w] => w
  | w :: v :: r => w ++ 32 :: joinS (v :: r)
def tailS : List (List UInt8) → List UInt8
  | [] => []
  | [_] => []
  | _ :: v :: r => 32 :: joinS (v :: r)
theorem joinS_cons (w : List UInt8) (r : List (List UInt8)) : joinS (w :: r) = w ++ tailS (w :: r) := by
  cases r with
  | nil => simp [joinS, tailS]
  | cons v r => rfl
theorem tailS_len (w : List UInt8) (r : List (List UInt8)) : (tailS (w :: r) = [] ∧ joinS r = []) ∨ tailS (w :: r) = 32 :: joinS r := by
  cases r with
  | nil => exact .inl ⟨rfl, rfl⟩
  | cons v r => exact .inr rfl
attribute [local irreducible] G GC GQ GA GAop Calls IntKind.wrap Int.decLt Int.decLe
theorem rcut_spec (x t r : List UInt8) (hx : ∀ c ∈ x, c ≠ 32) (ht : (t = [] ∧ r = []) ∨ t = 32 :: r) (hl : (x ++ t).length ≤ 1000000) (w : World) (μ : Mem) (hμ : MOk μ w) : Calls Tryz.prog 25 #[.string (ofB (x ++ t))] w fun e w' => e = .returned (.tuple #[.string (ofB x), .string (ofB r)]) ∧ Below w.heap.size w w' := by
  refine call_intro (args := [.string (ofB (x ++ t))]) Tryz.func25 rfl Tryz.ntmps25 (by simp) hμ ?_
  have hsz := of_size (x ++ t)
  have hlen : (x ++ t).length = x.length + t.length := by simp
  have e1 : (ofB (x ++ t)).extract 0 x.length = ofB x := by
    apply bl_inj
    rw [bl_extract, bl_of, bl_of]
    simp
  have e2 : t = 32 :: r → (ofB (x ++ t)).extract (x.length + 1) (ofB (x ++ t)).size = ofB r := by
    intro h
    apply bl_inj
    rw [bl_extract, bl_of, bl_of, hsz, h]
    rw [← List.drop_drop, List.drop_left, List.drop_succ_cons, List.drop_zero]
    apply List.take_of_length_le
    simp
    omega
  have hat : ∀ j (h : j < x.length), (x ++ t)[j]? = some x[j] := fun j h => by rw [List.getElem?_append_left h, List.getElem?_eq_getElem h]
  have hat2 : t = 32 :: r → (x ++ t)[x.length]? = some 32 := fun h => by rw [h, List.getElem?_append_right (Nat.le_refl _)]; simp
  have hfull : t = [] → x ++ t = x := fun h => by rw [h, List.append_nil]
  have htl : t = 32 :: r → t.length = r.length + 1 := fun h => by rw [h]; rfl
  generalize hL : x ++ t = l at *
  repeat' (first | refine KK ?_ | (refine KB ?_ ?_ <;> intro hp) | refine KG ?_ | fail)
  all_goals first | (exfalso; first | omega | contradiction | exact absurd ‹_› ‹¬ _›) | skip
  refine gc_loop (ι := Nat) (fun j => j ≤ x.length) (fun j => l.length - j) (fun _ => μ) (fun j => [(4, .int .i64 (j : Int)), (0, .string (ofB l)), (2, .string ⟨#[]⟩), (3, .string ⟨#[]⟩)]) (fun _ => []) 0 (Nat.zero_le _) (fun a w hs => hs.sel PU PS) ?_
  intro j hj
  by_cases hlt : j < x.length
  · obtain ⟨d, hb1, hb2⟩ := bl_get (s := ofB l) (i := j) (by omega)
    rw [bl_of, hat j hlt] at hb1
    have hb3 : ¬ bAt (ofB l) j = 32 := by
      rw [hb2]
      intro h
      refine hx _ (List.getElem_mem hlt) ?_
      rw [Option.some.inj hb1]
      exact UInt8.toNat_inj.1 (by have h2 : d.toNat = 32 := (by omega); exact h2)
    repeat' (first | refine KO ?_ | (refine KV (b := by first | exact U2 j) (c := ?_)) | refine KI ?_ | (refine KB ?_ ?_ <;> intro hp) | refine KG ?_ | fail)
    all_goals first | (exfalso; first | omega | contradiction | exact absurd ‹_› ‹¬ _›) | skip
    all_goals refine gq_backS (j + 1) (by omega) (by omega) rfl PU PS
  · have hjx : j = x.length := by omega
    subst hjx
    rcases ht with ⟨h1, h2⟩ | h1
    · subst h2
      have hf := hfull h1
      have h0 : t.length = 0 := by rw [h1]; rfl
      repeat' (first | refine KK ?_ | (refine KB ?_ ?_ <;> intro hp) | refine KG ?_ | fail)
      all_goals first | (exfalso; first | omega | contradiction | exact absurd ‹_› ‹¬ _›) | skip
      all_goals exact ret_v2 rfl (rv_tmp rfl) (rv_tmp rfl) (by rw [hf]) rfl
    · have hl1 := htl h1
      have e3 := e2 h1
      obtain ⟨d, hb1, hb2⟩ := bl_get (s := ofB l) (i := x.length) (by omega)
      rw [bl_of, hat2 h1] at hb1
      have hb3 : bAt (ofB l) x.length = 32 := by
        rw [hb2, ← Option.some.inj hb1]
        rfl
      repeat' (first | refine KO ?_ | (refine KV (b := by first | exact U2 x.length) (c := ?_)) | refine KI ?_ | (refine KB ?_ ?_ <;> intro hp) | refine KG ?_ | fail)
      all_goals first | (exfalso; first | omega | contradiction | exact absurd ‹_› ‹¬ _›) | skip
      refine gc_draw 9 ([]) (by kernel_rfl) rfl (by first | exact List.Sublist.refl _ | simp) ?_
      all_goals refine DD 0 ?_
      all_goals refine DD 1 ?_
      all_goals (first | refine D1 2 ?_ | (refine DV (k := 2) (b := by first | ((with_reducible apply v_str_hiE x.length e1); exact rfl; exact rfl; exact rfl; (first | rfl | omega); omega) | ((with_reducible apply v_str_loE (x.length + 1) e3); exact rfl; exact rfl; exact rfl; (first | rfl | omega); omega)) (c := ?_)) | refine DD 2 ?_ | fail)
      all_goals refine DD 3 ?_
      all_goals refine DD 4 ?_
      all_goals (first | refine D1 5 ?_ | (refine DV (k := 5) (b := by first | ((with_reducible apply v_str_hiE x.length e1); exact rfl; exact rfl; exact rfl; (first | rfl | omega); omega) | ((with_reducible apply v_str_loE (x.length + 1) e3); exact rfl; exact rfl; exact rfl; (first | rfl | omega); omega)) (c := ?_)) | refine DD 5 ?_ | fail)
      all_goals (first | refine D1 6 ?_ | (refine DV (k := 6) (b := by first | ((with_reducible apply v_str_hiE x.length e1); exact rfl; exact rfl; exact rfl; (first | rfl | omega); omega) | ((with_reducible apply v_str_loE (x.length + 1) e3); exact rfl; exact rfl; exact rfl; (first | rfl | omega); omega)) (c := ?_)) | refine DD 6 ?_ | fail)
      all_goals refine DD 7 ?_
      all_goals refine DD 8 ?_
      all_goals refine D8 ?_
      repeat' (first | refine KK ?_ | (refine KB ?_ ?_ <;> intro hp) | refine KG ?_ | fail)
      all_goals first | (exfalso; first | omega | contradiction | exact absurd ‹_› ‹¬ _›) | skip
      all_goals exact ret_v2 rfl (rv_tmp rfl) (rv_tmp rfl) rfl rfl
theorem ramong_spec (x : List UInt8) (ws : List (List UInt8)) (hw : ∀ y ∈ ws, y ≠ [] ∧ ∀ c ∈ y, c ≠ 32) (hl : (joinS ws).length ≤ 1000000) (w : World) (μ : Mem) (hμ : MOk μ w) : Calls Tryz.prog 141 #[.string (ofB x), .string (ofB (joinS ws))] w fun e w' => e = .returned (.bool (ws.contains x)) ∧ Below w.heap.size w w' := by
  refine call_intro (args := [.string (ofB x), .string (ofB (joinS ws))]) Tryz.func141 rfl Tryz.ntmps141 (by simp) hμ ?_
  have hdl : ∀ n, (joinS (ws.drop n)).length ≤ (joinS ws).length := by
    intro n
    induction n with
    | zero => simp
    | succ n ih =>
      refine Nat.le_trans ?_ ih
      cases hn : ws.drop n with
      | nil =>
        have : ws.drop (n + 1) = [] := by rw [← List.drop_drop, hn]; rfl
        rw [this]
        simp
      | cons y r =>
        have : ws.drop (n + 1) = r := by rw [← List.drop_drop, hn]; rfl
        rw [this, joinS_cons]
        rcases tailS_len y r with ⟨h1, h2⟩ | h1
        · rw [h2]; simp
        · rw [h1]; simp; omega
  repeat' (first | refine KK ?_ | (refine KB ?_ ?_ <;> intro hp) | refine KG ?_ | fail)
  all_goals first | (exfalso; first | omega | contradiction | exact absurd ‹_› ‹¬ _›) | skip
  refine gc_loop (ι := Nat) (fun n => n ≤ ws.length ∧ x ∉ ws.take n) (fun n => ws.length - n) (fun _ => μ) (fun n => [(1, .string (ofB (joinS (ws.drop n)))), (0, .string (ofB x)), (4, .bool false)]) (fun _ => []) 0 ⟨Nat.zero_le _, by simp⟩ (fun a w hs => hs.sel PU PS) ?_
  intro n ⟨hn, hnot⟩
  cases hd : ws.drop n with
  | nil =>
    have hz : ofB (joinS []) = ⟨#[]⟩ := rfl
    have hr : ws.contains x = false := by
      have h1 : ws.length ≤ n := List.drop_eq_nil_iff.1 hd
      rw [List.take_of_length_le h1] at hnot
      simpa using hnot
    rw [hr, hz]
    repeat' (first | refine KK ?_ | (refine KB ?_ ?_ <;> intro hp) | refine KG ?_ | fail)
    all_goals first | (exfalso; first | omega | contradiction | exact absurd ‹_› ‹¬ _›) | skip
    all_goals exact ret_s rfl rfl rfl
  | cons y r =>
    have hlt : n < ws.length := by
      rcases Nat.lt_or_ge n ws.length with h | h
      · exact h
      · rw [List.drop_of_length_le h] at hd; cases hd
    have hyw : ws[n] = y := by
      have := List.drop_eq_getElem_cons hlt
      rw [hd] at this
      exact (List.cons.inj this).1.symm
    have hr : ws.drop (n + 1) = r := by rw [← List.drop_drop, hd]; rfl
    have hym : y ∈ ws := by rw [← hyw]; exact List.getElem_mem hlt
    obtain ⟨hy0, hy1⟩ := hw y hym
    have hne : ¬ ofB (joinS (y :: r)) = ⟨#[]⟩ := by
      rw [of_nil, joinS_cons]
      intro h
      exact hy0 (List.append_eq_nil_iff.1 h).1
    have hlen := hdl n
    rw [hd, joinS_cons] at hlen
    have hc : ∀ w μc, MOk μc w → Calls Tryz.prog 25 #[.string (ofB (joinS (y :: r)))] w fun e w' => e = .returned (.tuple #[.string (ofB y), .string (ofB (joinS r))]) ∧ Below w.heap.size w w' := by
      intro w μc hwc
      rw [joinS_cons]
      refine rcut_spec y (tailS (y :: r)) (joinS r) hy1 ?_ (by omega) w μc hwc
      exact tailS_len y r
    generalize joinS (y :: r) = z at hne hc ⊢
    by_cases hyx : y = x
    · have e1 : ofB y = ofB x := by rw [hyx]
      have hr2 : ws.contains x = true := by rw [List.contains_iff_mem, ← hyx]; exact hym
      rw [hr2]
      repeat' (first | refine KO ?_ | ((with_reducible apply F1 25); exact rfl; exact EN; (exact fun w μc hw hse => hc w μc hw)) | refine KI ?_ | (refine KB ?_ ?_ <;> intro hp) | refine KG ?_ | fail)
      all_goals first | (exfalso; first | omega | contradiction | exact absurd ‹_› ‹¬ _›) | skip
      all_goals exact ret_s rfl rfl rfl
    · have e1 : ¬ ofB y = ofB x := by rw [of_inj]; exact hyx
      repeat' (first | refine KO ?_ | ((with_reducible apply F1 25); exact rfl; exact EN; (exact fun w μc hw hse => hc w μc hw)) | refine KI ?_ | (refine KB ?_ ?_ <;> intro hp) | refine KG ?_ | fail)
      all_goals first | (exfalso; first | omega | contradiction | exact absurd ‹_› ‹¬ _›) | skip
      all_goals refine gq_backS (n + 1) ⟨by omega, ?_⟩ (by omega) rfl (by rw [hr]; exact PU) PS
      rw [List.take_succ_eq_append_getElem hlt, List.mem_append, hyw]
      rintro (h | h)
      · exact hnot h
      · exact hyx (List.mem_singleton.1 h).symm
end Go.Proofs.YtoclmkdfcafhfaaGreatDoor
namespace Go.Vcg
open Go.RowKit Go.Proofs.YtoclmkdfcafhfaaGreatDoor Go.Proofs.YtoclmkdfcafhfaaGreatDoor.Ou
section
variable {P : Program} {μ : Mem} {l : Slots} {L : List Bk} {ty : TypeId} {pos : String} {af : Array Edge} {gd : Option (Nat × Bool)} {ds : Option Nat}
theorem v_addQ {p q : Operand} {t t2 : TypeId} {a b : List UInt8} (h0 : ev l p = some (.string (ofB a))) (h1 : ev l q = some (.string (ofB b))) (hb : a.length + b.length ≤ 9000000000000000000) :
    Val P μ l L ⟨ds, .binOp .add t p q t2, ty, pos, af, gd⟩ (.string (ofB (a ++ b))) := by
  have h := v_sadd (P := P) (μ := μ) (L := L) (ds := ds) (ty := ty) (pos := pos) (af := af) (gd := gd) (t := t) (t2 := t2) h0 h1 (by
    have e : ∀ l : List UInt8, (ofB l).size = l.length := fun l => by simp [ofB, ByteArray.size]
    rw [e, e]; omega)
  have e : ofB a ++ ofB b = ofB (a ++ b) := by
    apply byS_inj
    rw [byS_ofB]
    show ((ofB a) ++ (ofB b)).data.toList = _
    rw [ByteArray.data_append]
    simp [ofB]
  rw [← e]
  exact h
end
end Go.Vcg
namespace Go.Proofs.YtoclmkdfcafhfaaGreatDoor
open Go.RowKit Go.Vcg Go.Shelf Ou
def MaxQ (μ : Mem) : Prop := ∃ m : Int, MCell μ ⟨0, 0, none⟩ (.int .i64 m)
theorem MaxQ.mono {μ μ' : Mem} (h : MaxQ μ) (hle : MLe μ μ') : MaxQ μ' := by
  obtain ⟨m, hm⟩ := h
  exact ⟨m, hm.mono hle⟩
theorem index_spec (s t : List UInt8) (hs : s.length ≤ 3000000) (w : World) (μ : Mem) (hμ : MOk μ w) (hm : MaxQ μ) : Calls Tryz.prog 82 #[.string (ofB s), .string (ofB t)] w fun e w' => e = .returned (.int .i64 (Lib.index s t)) ∧ Below w.heap.size w w' := by
  obtain ⟨m, a, t', f, h1, h2, h3⟩ := hm
  have hc : w.cell? ⟨0, 0, none⟩ = some (.int .i64 m) := by
    have hw := hμ _ _ h1
    simp only at hw
    simp [World.cell?, hw, h3]
  refine (Any.strings_Index Tryz.lays143 (ofB s) (ofB t) m w (show s.toArray.size < _ by simp; omega) hc).mono fun e w' he => ?_
  obtain ⟨rfl, rfl⟩ := he
  refine ⟨?_, rfl, rfl, rfl, Nat.le_refl _, fun _ _ => rfl⟩
  simp [ofB]
theorem joinS_flat : ∀ {ws : List (List UInt8)}, ws ≠ [] → joinS ws ++ [32] = ws.flatMap (· ++ [32])
  | [], h => absurd rfl h
  | [y], _ => by simp [joinS]
  | y :: v :: r, _ => by
    have := joinS_flat (ws := v :: r) (by simp)
    rw [List.flatMap_cons, ← this]
    simp [joinS]
attribute [local irreducible] G GC GQ GA GAop Calls IntKind.wrap Int.decLt Int.decLe
theorem contains_spec (s t : List UInt8) (hs : s.length ≤ 3000000) (w : World) (μ : Mem) (hμ : MOk μ w) (hm : MaxQ μ) : Calls Tryz.prog 156 #[.string (ofB s), .string (ofB t)] w fun e w' => e = .returned (.bool (Lib.contains s t)) ∧ Below w.heap.size w w' := by
  refine call_intro (args := [.string (ofB s), .string (ofB t)]) Tryz.func156 rfl Tryz.ntmps156 (by simp) hμ ?_
  unfold Lib.contains
  have hi := fun w μc hw hm => index_spec s t hs w μc hw hm
  generalize Lib.index s t = k at hi ⊢
  repeat' (first | refine KO ?_ | ((with_reducible apply F1 82); exact rfl; exact EN; (exact fun w μc hw hse => hi w μc hw (hm.mono hse.le))) | refine KI ?_ | (refine KB ?_ ?_ <;> intro hp) | refine KG ?_ | fail)
  all_goals first | (exfalso; first | omega | contradiction | exact absurd ‹_› ‹¬ _›) | skip
  all_goals exact ret_s rfl rfl rfl
theorem pamong_spec (x : List UInt8) (ws : List (List UInt8)) (hw : ∀ y ∈ ws, Fr 32 y) (h0 : [] ∉ ws) (h1 : ws ≠ []) (hx : x.length ≤ 1000000) (hl : (joinS ws).length ≤ 1000000) (w : World) (μ : Mem) (hμ : MOk μ w) (hm : MaxQ μ) : Calls Tryz.prog 136 #[.string (ofB x), .string (ofB (joinS ws))] w fun e w' => e = .returned (.bool (ws.contains x)) ∧ Below w.heap.size w w' := by
  refine call_intro (args := [.string (ofB x), .string (ofB (joinS ws))]) Tryz.func136 rfl Tryz.ntmps136 (by simp) hμ ?_
  have hx0 : (ofB x = ⟨#[]⟩) = (x = []) := of_nil
  have he := Iq.among_eq hw h0 x
  rw [← joinS_flat h1, ← Iq.contains_infix] at he
  have h32 : ((32 : UInt8) ∉ x) ↔ ¬ Lib.contains x [32] = true := by
    rw [Iq.contains_infix]
    refine not_congr ⟨fun h => ?_, fun ⟨a, b, h⟩ => by rw [← h]; simp⟩
    obtain ⟨a, b, h⟩ := List.append_of_mem h
    exact ⟨a, b, by rw [h]; simp⟩
  rw [h32] at he
  have hc1 : ∀ w μc, MOk μc w → MaxQ μc → Calls Tryz.prog 156 #[.string (ofB x), .string ⟨#[32]⟩] w fun e w' => e = .returned (.bool (Lib.contains x [32])) ∧ Below w.heap.size w w' := fun w μc hw hm => contains_spec x [32] (by omega) w μc hw hm
  have hc2 : ∀ w μc, MOk μc w → MaxQ μc → Calls Tryz.prog 156 #[.string (ofB ([32] ++ joinS ws ++ [32])), .string (ofB ([32] ++ x ++ [32]))] w fun e w' => e = .returned (.bool (Lib.contains (32 :: (joinS ws ++ [32])) (32 :: (x ++ [32])))) ∧ Below w.heap.size w w' := fun w μc hw hm => contains_spec _ _ (by simp; omega) w μc hw hm
  generalize Lib.contains x [32] = c1 at he hc1
  generalize Lib.contains (32 :: (joinS ws ++ [32])) (32 :: (x ++ [32])) = c2 at he hc2
  generalize ws.contains x = r at he ⊢
  by_cases hxe : x = []
  · have hr : r = false := by
      cases r with
      | false => rfl
      | true => exact absurd hxe (he.2 rfl).1
    have hx1 := hx0.mpr hxe
    rw [hr]
    repeat' (first | refine KK ?_ | (refine KB ?_ ?_ <;> intro hp) | refine KG ?_ | fail)
    all_goals first | (exfalso; first | omega | contradiction | exact absurd ‹_› ‹¬ _›) | skip
    all_goals exact ret_s rfl rfl rfl
  · have hx1 : ¬ ofB x = ⟨#[]⟩ := by rw [hx0]; exact hxe
    cases c1 with
    | true =>
      have hr : r = false := by
        cases r with
        | false => rfl
        | true => exact absurd rfl (he.2 rfl).2.1
      rw [hr]
      repeat' (first | refine KO ?_ | ((with_reducible apply F1 156); exact rfl; exact EN; (exact fun w μc hw hse => hc1 w μc hw (hm.mono hse.le))) | refine KI ?_ | (refine KB ?_ ?_ <;> intro hp) | refine KG ?_ | fail)
      all_goals first | (exfalso; first | omega | contradiction | exact absurd ‹_› ‹¬ _›) | skip
      all_goals exact ret_s rfl rfl rfl
    | false =>
      have hr : r = c2 := by
        rw [Bool.eq_iff_iff, ← he]
        simp [hxe]
      rw [hr]
      repeat' (first | refine KO ?_ | ((with_reducible apply F1 156); exact rfl; exact EN; (first | exact fun w μc hw hse => hc1 w μc hw (hm.mono hse.le) | exact fun w μc hw hse => hc2 w μc hw (hm.mono hse.le))) | (refine KV (b := by first | ((with_reducible apply v_addQ); exact rfl; exact rfl; (simp only [List.length_append, List.length_cons, List.length_nil]; omega))) (c := ?_)) | refine KI ?_ | (refine KB ?_ ?_ <;> intro hp) | refine KG ?_ | fail)
      all_goals first | (exfalso; first | omega | contradiction | exact absurd ‹_› ‹¬ _›) | skip
      all_goals exact ret_s rfl rfl rfl
end Go.Proofs.YtoclmkdfcafhfaaGreatDoor
