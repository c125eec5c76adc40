/- Package ir: the operands of calls. -/
import Derived.Test.YtoclmkdfcafhfaaGreatDoorQao
set_option maxRecDepth 20000
set_option maxHeartbeats 2000000
namespace Go.Proofs.YtoclmkdfcafhfaaGreatDoor
open Go.RowKit Go.Vcg
attribute [local irreducible] G GC GQ GA GAop Calls IntKind.wrap Int.decLt Int.decLe
theorem pargs_spec (t : T) (u : Value) (w : World) (μ : Mem) (hμ : MOk μ w) (hu : KR μ t.kids u) (hk : t.kids.length ≤ 100000) (hm : t.op = 129 → 0 ≤ t.m ∧ t.m ≤ 1) : Calls Tryz.prog 110 #[.agg (encT t u).toArray] w fun e w' => e = .returned (.bool (Iq.argsB t.op t.m (t.kids.map T.op))) ∧ Below w.heap.size w w' := by
  obtain ⟨A, c, rfl, hc, hget⟩ := hu.form
  refine call_intro (args := [.agg (encT t (.slice A t.kids.length c)).toArray]) Tryz.func110 rfl Tryz.ntmps110 (by simp) hμ ?_
  unfold Iq.argsB
  rw [List.length_map]
  by_cases h0 : t.op = 129
  · rw [if_pos h0]
    obtain ⟨m0, m1⟩ := hm h0
    by_cases h1 : t.m = 1
    · by_cases h2 : t.kids.length < 2
      · rw [decide_eq_true h1, decide_eq_true h2]
        repeat' (first | refine KK ?_ | refine NB fun b => ?_ | (refine KB ?_ ?_ <;> intro hp) | refine KG ?_ | fail)
        all_goals first | (exfalso; first | omega | contradiction | exact absurd ‹_› ‹¬ _›) | exact ret_s rfl rfl rfl | (refine ret_s rfl rfl ?_; congr 1; first | (rw [decide_eq_true (by omega)]; done) | (rw [decide_eq_false (by omega)]; done) | (rw [Bool.eq_iff_iff]; simp; omega) | (rw [Bool.eq_iff_iff]; simp; done))
      · obtain ⟨ad, x, rfl, hm1, ho, hkr⟩ := hget 1 _ (List.getElem?_eq_getElem (by omega))
        have hka : t.kids[1]? = some t.kids[1] := List.getElem?_eq_getElem (by omega)
        rw [decide_eq_true h1, decide_eq_false h2, List.getElem?_map, hka]
        generalize t.kids[1] = y at hm1 ⊢
        by_cases h3 : y.op = 124
        · have e : (decide (Option.map T.op (some y) = some 124)) = true := by simp [h3]
          rw [e]
          repeat' (first | refine KO ?_ | (refine KV (b := by first | exact U1 1 | exact U4 hm1) (c := ?_)) | refine KI ?_ | refine NB fun b => ?_ | (refine KB ?_ ?_ <;> intro hp) | refine KG ?_ | fail)
          all_goals first | (exfalso; first | omega | contradiction | exact absurd ‹_› ‹¬ _›) | exact ret_s rfl rfl rfl | (refine ret_s rfl rfl ?_; congr 1; first | (rw [decide_eq_true (by omega)]; done) | (rw [decide_eq_false (by omega)]; done) | (rw [Bool.eq_iff_iff]; simp; omega) | (rw [Bool.eq_iff_iff]; simp; done))
        · have e : (decide (Option.map T.op (some y) = some 124)) = false := by simp [h3]
          rw [e, h1]
          repeat' (first | refine KO ?_ | (refine KV (b := by first | exact U1 1 | exact U4 hm1) (c := ?_)) | refine KI ?_ | refine NB fun b => ?_ | (refine KB ?_ ?_ <;> intro hp) | refine KG ?_ | fail)
          all_goals first | (exfalso; first | omega | contradiction | exact absurd ‹_› ‹¬ _›) | exact ret_s rfl rfl rfl | (refine ret_s rfl rfl ?_; congr 1; first | (rw [decide_eq_true (by omega)]; done) | (rw [decide_eq_false (by omega)]; done) | (rw [Bool.eq_iff_iff]; simp; omega) | (rw [Bool.eq_iff_iff]; simp; done))
    · have h2 : t.m = 0 := by omega
      rw [decide_eq_false h1]
      repeat' (first | refine KK ?_ | refine NB fun b => ?_ | (refine KB ?_ ?_ <;> intro hp) | refine KG ?_ | fail)
      all_goals first | (exfalso; first | omega | contradiction | exact absurd ‹_› ‹¬ _›) | exact ret_s rfl rfl rfl | (refine ret_s rfl rfl ?_; congr 1; first | (rw [decide_eq_true (by omega)]; done) | (rw [decide_eq_false (by omega)]; done) | (rw [Bool.eq_iff_iff]; simp; omega) | (rw [Bool.eq_iff_iff]; simp; done))
  · rw [if_neg h0]
    by_cases h1 : t.op = 131
    · rw [if_pos h1]
      repeat' (first | refine KK ?_ | refine NB fun b => ?_ | (refine KB ?_ ?_ <;> intro hp) | refine KG ?_ | fail)
      all_goals first | (exfalso; first | omega | contradiction | exact absurd ‹_› ‹¬ _›) | exact ret_s rfl rfl rfl | (refine ret_s rfl rfl ?_; congr 1; first | (rw [decide_eq_true (by omega)]; done) | (rw [decide_eq_false (by omega)]; done) | (rw [Bool.eq_iff_iff]; simp; omega) | (rw [Bool.eq_iff_iff]; simp; done))
    · rw [if_neg h1]
      by_cases h2 : t.op = 130
      · rw [if_pos h2]
        repeat' (first | refine KK ?_ | refine NB fun b => ?_ | (refine KB ?_ ?_ <;> intro hp) | refine KG ?_ | fail)
        all_goals first | (exfalso; first | omega | contradiction | exact absurd ‹_› ‹¬ _›) | exact ret_s rfl rfl rfl | (refine ret_s rfl rfl ?_; congr 1; first | (rw [decide_eq_true (by omega)]; done) | (rw [decide_eq_false (by omega)]; done) | (rw [Bool.eq_iff_iff]; simp; omega) | (rw [Bool.eq_iff_iff]; simp; done))
      · rw [if_neg h2]
        repeat' (first | refine KK ?_ | refine NB fun b => ?_ | (refine KB ?_ ?_ <;> intro hp) | refine KG ?_ | fail)
        all_goals first | (exfalso; first | omega | contradiction | exact absurd ‹_› ‹¬ _›) | exact ret_s rfl rfl rfl | (refine ret_s rfl rfl ?_; congr 1; first | (rw [decide_eq_true (by omega)]; done) | (rw [decide_eq_false (by omega)]; done) | (rw [Bool.eq_iff_iff]; simp; omega) | (rw [Bool.eq_iff_iff]; simp; done))
end Go.Proofs.YtoclmkdfcafhfaaGreatDoor
namespace Go.Vcg
open Go.RowKit
section
variable {P : Program} {μ : Mem} {l : Slots} {L : List Bk} {ty : TypeId} {pos : String} {af : Array Edge} {gd : Option (Nat × Bool)} {ds : Option Nat}
theorem v_str_bothE {p q r : Operand} {t : TypeId} {b b' : ByteArray} {j i : Int} (k m : Nat) (he : b.extract k m = b') (ht : P.underlying t = some .string) (hx : ev l p = some (.string b)) (hq : ev l q = some (.int .i64 j)) (hj : j = (k : Int)) (hr' : ev l r = some (.int .i64 i)) (hi : i = (m : Int)) (hk : k ≤ m) (hm : m ≤ b.size) :
    Val P μ l L ⟨ds, .slice t p (some q) (some r) none, ty, pos, af, gd⟩ (.string b') := by
  rw [← he]
  exact v_str_both k m ht hx hq hj hr' hi hk hm
end
end Go.Vcg
namespace Go.Proofs.YtoclmkdfcafhfaaGreatDoor
section
open Go.RowKit Go.Vcg Ou
theorem of_size (l : List UInt8) : (ofB l).size = l.length := by simp [ofB, ByteArray.size]
theorem bl_of (l : List UInt8) : bl (ofB l) = l := by simp [bl, ofB]
theorem bl_get {s : ByteArray} {i : Nat} (h : i < s.size) : ∃ b, (bl s)[i]? = some b ∧ bAt s i = b.toNat := by
  have : i < (bl s).length := by rw [bl_len]; exact h
  exact ⟨(bl s)[i], List.getElem?_eq_getElem this, bAt_get (List.getElem?_eq_getElem this)⟩
theorem letter_is (x : Int) (c : UInt8) (b : Bool) (hx : x = c.toNat) (hb : Iq.idStart c = b) (w : World) (μ : Mem) (hμ : MOk μ w) : Calls Tryz.prog 169 #[.int .u8 x] w fun e w' => e = .returned (.bool b) ∧ Below w.heap.size w w' := by
  subst hb
  exact letter_spec x c hx w μ hμ
theorem part_split (c : UInt8) : Iq.idPart c = true ↔ Iq.idStart c = true ∨ (48 ≤ (c.toNat : Int) ∧ (c.toNat : Int) ≤ 57) := by
  unfold Iq.idPart
  rw [Bool.or_eq_true, Bool.and_eq_true, decide_eq_true_eq, decide_eq_true_eq]
  exact or_congr Iff.rfl (by omega)
theorem name_more {l : List UInt8} {j : Nat} {c : UInt8} (hj : j ≤ (nameF l).length) (h0 : j = 0 → Iq.idStart c = true) (hc : l[j]? = some c) (h : Iq.idPart c = true) (hs : nameF l ≠ [] ∨ j = 0) : j + 1 ≤ (nameF l).length := by
  cases l with
  | nil => simp at hc
  | cons x r =>
    unfold nameF at hj hs ⊢
    dsimp only at hj hs ⊢
    cases j with
    | zero =>
      simp at hc
      subst hc
      rw [if_pos (h0 rfl)]
      simp
    | succ j =>
      by_cases hx : Iq.idStart x = true
      · rw [if_pos hx] at hj ⊢
        rw [List.getElem?_cons_succ] at hc
        simp only [List.length_cons] at hj ⊢
        rcases Nat.lt_or_ge j (r.takeWhile Iq.idPart).length with h1 | h1
        · omega
        · have e : j = (r.takeWhile Iq.idPart).length := by omega
          rw [e] at hc
          have := tw_end _ _ hc
          rw [h] at this
          cases this
      · rw [if_neg hx] at hs
        rcases hs with hs | hs
        · exact absurd rfl hs
        · omega
theorem name_stop {l : List UInt8} {j : Nat} (hj : j ≤ (nameF l).length) (h : l.length ≤ j ∨ ∃ c, l[j]? = some c ∧ Iq.idPart c = false) : (nameF l).length = j := by
  cases l with
  | nil => simp [nameF] at hj ⊢; omega
  | cons x r =>
    unfold nameF at hj ⊢
    dsimp only at hj ⊢
    by_cases hx : Iq.idStart x = true
    · rw [if_pos hx] at hj ⊢
      simp only [List.length_cons] at hj ⊢
      have hle := (List.takeWhile_prefix (l := r) Iq.idPart).length_le
      rcases h with h | ⟨c, hc, h⟩
      · simp at h
        omega
      · cases j with
        | zero =>
          simp at hc
          subst hc
          have : Iq.idPart x = true := (part_split x).2 (.inl hx)
          rw [this] at h
          cases h
        | succ j =>
          rw [List.getElem?_cons_succ] at hc
          rcases Nat.lt_or_ge j (r.takeWhile Iq.idPart).length with h1 | h1
          · obtain ⟨d, h2, h3⟩ := tw_get _ _ h1
            rw [h2] at hc
            cases hc
            rw [h3] at h
            cases h
          · omega
    · rw [if_neg hx] at hj ⊢
      simp at hj ⊢
      omega
theorem name_ext {l : List UInt8} : (ofB l).extract 0 (nameF l).length = ofB (nameF l) := by
  apply bl_inj
  rw [bl_extract, bl_of, bl_of, Nat.sub_zero, List.drop_zero]
  cases l with
  | nil => rfl
  | cons x r =>
    unfold nameF
    dsimp only
    by_cases hx : Iq.idStart x = true
    · rw [if_pos hx, List.length_cons, List.take_succ_cons, ← List.prefix_iff_eq_take.1 (List.takeWhile_prefix _)]
    · rw [if_neg hx]
      rfl
theorem name_le (l : List UInt8) : (nameF l).length ≤ l.length := by
  cases l with
  | nil => simp [nameF]
  | cons x r =>
    unfold nameF
    dsimp only
    have hle := (List.takeWhile_prefix (l := r) Iq.idPart).length_le
    split <;> simp <;> omega
attribute [local irreducible] G GC GQ GA GAop Calls IntKind.wrap Int.decLt Int.decLe
theorem named_spec (l : List UInt8) (hl : l.length ≤ 1000000) (w : World) (μ : Mem) (hμ : MOk μ w) : Calls Tryz.prog 155 #[.string (ofB l), .int .i64 0] w fun e w' => e = .returned (.tuple #[.string (ofB (nameF l)), .int .i64 (nameF l).length]) ∧ Below w.heap.size w w' := by
  refine call_intro (args := [.string (ofB l), .int .i64 0]) Tryz.func155 rfl Tryz.ntmps155 (by simp) hμ ?_
  have hsz := of_size l
  by_cases h0 : l = []
  · subst h0
    have hz : (ofB ([] : List UInt8)).size = 0 := rfl
    repeat' (first | refine KK ?_ | (refine KB ?_ ?_ <;> intro hp) | refine KG ?_ | fail)
    all_goals first | (exfalso; first | omega | contradiction | exact absurd ‹_› ‹¬ _›) | skip
    all_goals exact ret_v2 rfl (rv_tmp rfl) (rv_tmp rfl) rfl rfl
  obtain ⟨c, r, rfl⟩ : ∃ c r, l = c :: r := by
    cases l with
    | nil => exact absurd rfl h0
    | cons c r => exact ⟨c, r, rfl⟩
  have hpos : 0 < (c :: r).length := by simp
  obtain ⟨c0, hb1, hb2⟩ := bl_get (s := ofB (c :: r)) (i := 0) (by omega)
  rw [bl_of] at hb1
  cases hb1
  cases hc : Iq.idStart c with
  | false =>
    have hn : nameF (c :: r) = [] := by
      unfold nameF
      simp [hc]
    rw [hn]
    repeat' (first | refine KO ?_ | ((with_reducible apply F1 169); exact rfl; exact EN; (exact fun w μc hw hse => letter_is _ c false (by first | omega | exact hb2 | (simp; omega)) hc w μc hw)) | (refine KV (b := by first | exact U2 0) (c := ?_)) | refine KI ?_ | (refine KB ?_ ?_ <;> intro hp) | refine KG ?_ | fail)
    all_goals first | (exfalso; first | omega | contradiction | exact absurd ‹_› ‹¬ _›) | skip
    all_goals exact ret_v2 rfl (rv_tmp rfl) (rv_tmp rfl) rfl rfl
  | true =>
    have hle := name_le (c :: r)
    have hext := name_ext (l := c :: r)
    have hne : 1 ≤ (nameF (c :: r)).length := name_more (Nat.zero_le _) (fun _ => hc) rfl ((part_split c).2 (.inl hc)) (.inr rfl)
    have hmore := fun (j : Nat) (d : UInt8) (hj : j ≤ (nameF (c :: r)).length) (h1 : j = 0 → Iq.idStart d = true) (h2 : (c :: r)[j]? = some d) (h3 : Iq.idPart d = true) => name_more hj h1 h2 h3 (.inl (by intro h; rw [h] at hne; simp at hne))
    have hstop := fun (j : Nat) => name_stop (l := c :: r) (j := j)
    have hcl : (c :: r)[0]? = some c := rfl
    generalize nameF (c :: r) = u at hle hext hne hmore hstop ⊢
    generalize hlg : c :: r = l at *
    repeat' (first | refine KO ?_ | ((with_reducible apply F1 169); exact rfl; exact EN; (exact fun w μc hw hse => letter_is _ c true (by first | omega | exact hb2 | (simp; omega)) hc w μc hw)) | (refine KV (b := by first | exact U2 0) (c := ?_)) | refine KI ?_ | (refine KB ?_ ?_ <;> intro hp) | refine KG ?_ | fail)
    all_goals first | (exfalso; first | omega | contradiction | exact absurd ‹_› ‹¬ _›) | skip
    all_goals refine gc_loop (ι := Nat) (fun j => 1 ≤ j ∧ j ≤ u.length) (fun j => l.length - j) (fun _ => μ) (fun j => [(6, .int .i64 (j : Int)), (1, .int .i64 0), (0, .string (ofB l)), (4, .string ⟨#[]⟩), (5, .int .i64 0)]) (fun _ => []) 1 ⟨by omega, by omega⟩ (fun a w hs => hs.sel PU PS) ?_
    intro j ⟨hj0, hj⟩
    clear hb2
    by_cases hlt : j < l.length
    · obtain ⟨d, hb1, hb2⟩ := bl_get (s := ofB l) (i := j) (by omega)
      rw [bl_of] at hb1
      have hd0 : j = 0 → d = c := by
        intro h
        rw [h, hcl] at hb1
        exact (Option.some.inj hb1).symm
      cases hds : Iq.idStart d with
      | true =>
        have hw := hmore j d hj (fun _ => hds) hb1 ((part_split d).2 (.inl hds))
        repeat' (first | refine KO ?_ | ((with_reducible apply F1 169); exact rfl; exact EN; (exact fun w μc hw hse => letter_is _ d true (by first | omega | exact hb2 | (simp; omega)) hds w μc hw)) | (refine KV (b := by first | exact U2 j) (c := ?_)) | refine KI ?_ | (refine KB ?_ ?_ <;> intro hp) | refine KG ?_ | fail)
        all_goals first | (exfalso; first | omega | contradiction | exact absurd ‹_› ‹¬ _›) | skip
        all_goals refine gq_backS (j + 1) ⟨by omega, hw⟩ (by omega) rfl PU PS
      | false =>
        by_cases hdg : 48 ≤ (d.toNat : Int) ∧ (d.toNat : Int) ≤ 57
        · have hw := hmore j d hj (fun h => by rw [hd0 h]; exact hc) hb1 ((part_split d).2 (.inr hdg))
          repeat' (first | refine KO ?_ | ((with_reducible apply F1 169); exact rfl; exact EN; (exact fun w μc hw hse => letter_is _ d false (by first | omega | exact hb2 | (simp; omega)) hds w μc hw)) | (refine KV (b := by first | exact U2 j) (c := ?_)) | refine KI ?_ | (refine KB ?_ ?_ <;> intro hp) | refine KG ?_ | fail)
          all_goals first | (exfalso; first | omega | contradiction | exact absurd ‹_› ‹¬ _›) | skip
          all_goals refine gq_backS (j + 1) ⟨by omega, hw⟩ (by omega) rfl PU PS
        · have hw := hstop j hj (.inr ⟨d, hb1, by
            cases hp : Iq.idPart d with
            | false => rfl
            | true => rcases (part_split d).1 hp with h | h
                      · rw [hds] at h; cases h
                      · exact absurd h hdg⟩)
          subst hw
          repeat' (first | refine KO ?_ | ((with_reducible apply F1 169); exact rfl; exact EN; (exact fun w μc hw hse => letter_is _ d false (by first | omega | exact hb2 | (simp; omega)) hds w μc hw)) | (refine KV (b := by first | exact U2 u.length | ((with_reducible apply v_str_bothE 0 u.length hext); exact rfl; exact rfl; exact rfl; rfl; exact rfl; rfl; omega; (rw [of_size]; omega))) (c := ?_)) | refine KI ?_ | (refine KB ?_ ?_ <;> intro hp) | refine KG ?_ | fail)
          all_goals first | (exfalso; first | omega | contradiction | exact absurd ‹_› ‹¬ _›) | skip
          all_goals exact ret_v2 rfl (rv_tmp rfl) (rv_tmp rfl) rfl rfl
    · have hw := hstop j hj (.inl (by omega))
      subst hw
      repeat' (first | refine KO ?_ | (refine KV (b := by first | ((with_reducible apply v_str_bothE 0 u.length hext); exact rfl; exact rfl; exact rfl; rfl; exact rfl; rfl; omega; (rw [of_size]; omega))) (c := ?_)) | refine KI ?_ | (refine KB ?_ ?_ <;> intro hp) | refine KG ?_ | fail)
      all_goals first | (exfalso; first | omega | contradiction | exact absurd ‹_› ‹¬ _›) | skip
      all_goals exact ret_v2 rfl (rv_tmp rfl) (rv_tmp rfl) rfl rfl
end
section
open Go.RowKit Go.Vcg Ou
theorem of_inj {a b : List UInt8} : (ofB a = ofB b) = (a = b) := by
  apply propext
  constructor
  · intro h
    have := congrArg bl h
    rwa [bl_of, bl_of] at this
  · intro h
    rw [h]
theorem of_nil {a : List UInt8} : (ofB a = ⟨#[]⟩) = (a = []) := of_inj (a := a) (b := [])
theorem name_pre (l : List UInt8) : nameF l <+: l := by
  cases l with
  | nil => exact List.prefix_refl _
  | cons c r =>
    unfold nameF
    dsimp only
    split
    · exact (List.cons_prefix_cons).2 ⟨rfl, List.takeWhile_prefix _⟩
    · exact List.nil_prefix
theorem name_all (l : List UInt8) : (nameF l = l) ↔ (nameF l).length = l.length := by
  constructor
  · intro h; rw [h]
  · intro h; exact (name_pre l).eq_of_length h
attribute [local irreducible] G GC GQ GA GAop Calls IntKind.wrap Int.decLt Int.decLe
theorem pform_spec (l : List UInt8) (hl : l.length ≤ 1000000) (w : World) (μ : Mem) (hμ : MOk μ w) : Calls Tryz.prog 135 #[.string (ofB l)] w fun e w' => e = .returned (.bool (Iq.formB l)) ∧ Below w.heap.size w w' := by
  refine call_intro (args := [.string (ofB l)]) Tryz.func135 rfl Tryz.ntmps135 (by simp) hμ ?_
  have hsz := of_size l
  have hall := name_all l
  rw [form_name]
  have hlen : (nameF l).length ≤ l.length := name_le l
  have hc := fun w μc hw => named_spec l hl w μc hw
  generalize nameF l = u at hall hlen hc ⊢
  have hu : (ofB u = ⟨#[]⟩) = (u = []) := of_nil
  have hul : (ofB u = ofB l) = (u = l) := of_inj
  by_cases a : u = []
  · have a' : ofB u = ⟨#[]⟩ := hu.mpr a
    repeat' (first | refine KO ?_ | ((with_reducible apply F1 155); exact rfl; exact EN; (exact fun w μc hw hse => hc w μc hw)) | refine KI ?_ | (refine KB ?_ ?_ <;> intro hp) | refine KG ?_ | fail)
    all_goals first | (exfalso; first | omega | contradiction | exact absurd ‹_› ‹¬ _›) | (refine ret_s rfl rfl ?_; congr 1; simp [a', a, hu, hul]; done) | (refine ret_s rfl rfl ?_; congr 1; simp_all; done)
  · have a' : ¬ ofB u = ⟨#[]⟩ := by rw [hu]; exact a
    by_cases b : u = l
    · have b' : ofB u = ofB l := hul.mpr b
      have b2 := hall.1 b
      repeat' (first | refine KO ?_ | ((with_reducible apply F1 155); exact rfl; exact EN; (exact fun w μc hw hse => hc w μc hw)) | refine KI ?_ | (refine KB ?_ ?_ <;> intro hp) | refine KG ?_ | fail)
      all_goals first | (exfalso; first | omega | contradiction | exact absurd ‹_› ‹¬ _›) | (refine ret_s rfl rfl ?_; congr 1; simp_all; done) | (refine ret_s rfl rfl ?_; congr 1; rw [Bool.eq_iff_iff]; simp; omega)
    · have b' : ¬ ofB u = ofB l := by rw [hul]; exact b
      have b2 : ¬ u.length = l.length := fun h => b (hall.2 h)
      repeat' (first | refine KO ?_ | ((with_reducible apply F1 155); exact rfl; exact EN; (exact fun w μc hw hse => hc w μc hw)) | refine KI ?_ | (refine KB ?_ ?_ <;> intro hp) | refine KG ?_ | fail)
      all_goals first | (exfalso; first | omega | contradiction | exact absurd ‹_› ‹¬ _›) | (refine ret_s rfl rfl ?_; congr 1; simp_all; done) | (refine ret_s rfl rfl ?_; congr 1; simp [a, b, a', b', hsz]; omega)
end
end Go.Proofs.YtoclmkdfcafhfaaGreatDoor
namespace Go.Vcg
open Go.RowKit
section
variable {P : Program} {μ : Mem} {l : Slots} {L : List Bk} {ty : TypeId} {pos : String} {af : Array Edge} {gd : Option (Nat × Bool)} {ds : Option Nat}
end
end Go.Vcg
namespace Go.Proofs.YtoclmkdfcafhfaaGreatDoor
open Go.RowKit Go.Vcg Ou
def joinS : List (List UInt8) → List UInt8
  | [] => []
  | [w] => w
  | w :: v :: r => w ++ 32 :: joinS (v :: r)
attribute [local irreducible] G GC GQ GA GAop Calls IntKind.wrap Int.decLt Int.decLe
end Go.Proofs.YtoclmkdfcafhfaaGreatDoor
namespace Go.Vcg
open Go.RowKit Go.Proofs.YtoclmkdfcafhfaaGreatDoor Go.Proofs.YtoclmkdfcafhfaaGreatDoor.Ou
section
variable {P : Program} {μ : Mem} {l : Slots} {L : List Bk} {ty : TypeId} {pos : String} {af : Array Edge} {gd : Option (Nat × Bool)} {ds : Option Nat}
theorem v_addQ {p q : Operand} {t t2 : TypeId} {a b : List UInt8} (h0 : ev l p = some (.string (ofB a))) (h1 : ev l q = some (.string (ofB b))) (hb : a.length + b.length ≤ 9000000000000000000) :
    Val P μ l L ⟨ds, .binOp .add t p q t2, ty, pos, af, gd⟩ (.string (ofB (a ++ b))) := by
  have h := v_sadd (P := P) (μ := μ) (L := L) (ds := ds) (ty := ty) (pos := pos) (af := af) (gd := gd) (t := t) (t2 := t2) h0 h1 (by
    have e : ∀ l : List UInt8, (ofB l).size = l.length := fun l => by simp [ofB, ByteArray.size]
    rw [e, e]; omega)
  have e : ofB a ++ ofB b = ofB (a ++ b) := by
    apply byS_inj
    rw [byS_ofB]
    show ((ofB a) ++ (ofB b)).data.toList = _
    rw [ByteArray.data_append]
    simp [ofB]
  rw [← e]
  exact h
end
end Go.Vcg
namespace Go.Proofs.YtoclmkdfcafhfaaGreatDoor
section
open Go.RowKit Go.Vcg Go.Shelf Ou
def MaxQ (μ : Mem) : Prop := ∃ m : Int, MCell μ ⟨0, 0, none⟩ (.int .i64 m)
theorem MaxQ.mono {μ μ' : Mem} (h : MaxQ μ) (hle : MLe μ μ') : MaxQ μ' := by
  obtain ⟨m, hm⟩ := h
  exact ⟨m, hm.mono hle⟩
theorem index_spec (s t : List UInt8) (hs : s.length ≤ 3000000) (w : World) (μ : Mem) (hμ : MOk μ w) (hm : MaxQ μ) : Calls Tryz.prog 82 #[.string (ofB s), .string (ofB t)] w fun e w' => e = .returned (.int .i64 (Lib.index s t)) ∧ Below w.heap.size w w' := by
  obtain ⟨m, a, t', f, h1, h2, h3⟩ := hm
  have hc : w.cell? ⟨0, 0, none⟩ = some (.int .i64 m) := by
    have hw := hμ _ _ h1
    simp only at hw
    simp [World.cell?, hw, h3]
  refine (Any.strings_Index Tryz.lays143 (ofB s) (ofB t) m w (show s.toArray.size < _ by simp; omega) hc).mono fun e w' he => ?_
  obtain ⟨rfl, rfl⟩ := he
  refine ⟨?_, rfl, rfl, rfl, Nat.le_refl _, fun _ _ => rfl⟩
  simp [ofB]
theorem joinS_flat : ∀ {ws : List (List UInt8)}, ws ≠ [] → joinS ws ++ [32] = ws.flatMap (· ++ [32])
  | [], h => absurd rfl h
  | [y], _ => by simp [joinS]
  | y :: v :: r, _ => by
    have := joinS_flat (ws := v :: r) (by simp)
    rw [List.flatMap_cons, ← this]
    simp [joinS]
attribute [local irreducible] G GC GQ GA GAop Calls IntKind.wrap Int.decLt Int.decLe
theorem contains_spec (s t : List UInt8) (hs : s.length ≤ 3000000) (w : World) (μ : Mem) (hμ : MOk μ w) (hm : MaxQ μ) : Calls Tryz.prog 156 #[.string (ofB s), .string (ofB t)] w fun e w' => e = .returned (.bool (Lib.contains s t)) ∧ Below w.heap.size w w' := by
  refine call_intro (args := [.string (ofB s), .string (ofB t)]) Tryz.func156 rfl Tryz.ntmps156 (by simp) hμ ?_
  unfold Lib.contains
  have hi := fun w μc hw hm => index_spec s t hs w μc hw hm
  generalize Lib.index s t = k at hi ⊢
  repeat' (first | refine KO ?_ | ((with_reducible apply F1 82); exact rfl; exact EN; (exact fun w μc hw hse => hi w μc hw (hm.mono hse.le))) | refine KI ?_ | (refine KB ?_ ?_ <;> intro hp) | refine KG ?_ | fail)
  all_goals first | (exfalso; first | omega | contradiction | exact absurd ‹_› ‹¬ _›) | skip
  all_goals exact ret_s rfl rfl rfl
theorem pamong_spec (x : List UInt8) (ws : List (List UInt8)) (hw : ∀ y ∈ ws, Fr 32 y) (h0 : [] ∉ ws) (h1 : ws ≠ []) (hx : x.length ≤ 1000000) (hl : (joinS ws).length ≤ 1000000) (w : World) (μ : Mem) (hμ : MOk μ w) (hm : MaxQ μ) : Calls Tryz.prog 136 #[.string (ofB x), .string (ofB (joinS ws))] w fun e w' => e = .returned (.bool (ws.contains x)) ∧ Below w.heap.size w w' := by
  refine call_intro (args := [.string (ofB x), .string (ofB (joinS ws))]) Tryz.func136 rfl Tryz.ntmps136 (by simp) hμ ?_
  have hx0 : (ofB x = ⟨#[]⟩) = (x = []) := of_nil
  have he := Iq.among_eq hw h0 x
  rw [← joinS_flat h1, ← Iq.contains_infix] at he
  have h32 : ((32 : UInt8) ∉ x) ↔ ¬ Lib.contains x [32] = true := by
    rw [Iq.contains_infix]
    refine not_congr ⟨fun h => ?_, fun ⟨a, b, h⟩ => by rw [← h]; simp⟩
    obtain ⟨a, b, h⟩ := List.append_of_mem h
    exact ⟨a, b, by rw [h]; simp⟩
  rw [h32] at he
  have hc1 : ∀ w μc, MOk μc w → MaxQ μc → Calls Tryz.prog 156 #[.string (ofB x), .string ⟨#[32]⟩] w fun e w' => e = .returned (.bool (Lib.contains x [32])) ∧ Below w.heap.size w w' := fun w μc hw hm => contains_spec x [32] (by omega) w μc hw hm
  have hc2 : ∀ w μc, MOk μc w → MaxQ μc → Calls Tryz.prog 156 #[.string (ofB ([32] ++ joinS ws ++ [32])), .string (ofB ([32] ++ x ++ [32]))] w fun e w' => e = .returned (.bool (Lib.contains (32 :: (joinS ws ++ [32])) (32 :: (x ++ [32])))) ∧ Below w.heap.size w w' := fun w μc hw hm => contains_spec _ _ (by simp; omega) w μc hw hm
  generalize Lib.contains x [32] = c1 at he hc1
  generalize Lib.contains (32 :: (joinS ws ++ [32])) (32 :: (x ++ [32])) = c2 at he hc2
  generalize ws.contains x = r at he ⊢
  by_cases hxe : x = []
  · have hr : r = false := by
      cases r with
      | false => rfl
      | true => exact absurd hxe (he.2 rfl).1
    have hx1 := hx0.mpr hxe
    rw [hr]
    repeat' (first | refine KK ?_ | (refine KB ?_ ?_ <;> intro hp) | refine KG ?_ | fail)
    all_goals first | (exfalso; first | omega | contradiction | exact absurd ‹_› ‹¬ _›) | skip
    all_goals exact ret_s rfl rfl rfl
  · have hx1 : ¬ ofB x = ⟨#[]⟩ := by rw [hx0]; exact hxe
    cases c1 with
    | true =>
      have hr : r = false := by
        cases r with
        | false => rfl
        | true => exact absurd rfl (he.2 rfl).2.1
      rw [hr]
      repeat' (first | refine KO ?_ | ((with_reducible apply F1 156); exact rfl; exact EN; (exact fun w μc hw hse => hc1 w μc hw (hm.mono hse.le))) | refine KI ?_ | (refine KB ?_ ?_ <;> intro hp) | refine KG ?_ | fail)
      all_goals first | (exfalso; first | omega | contradiction | exact absurd ‹_› ‹¬ _›) | skip
      all_goals exact ret_s rfl rfl rfl
    | false =>
      have hr : r = c2 := by
        rw [Bool.eq_iff_iff, ← he]
        simp [hxe]
      rw [hr]
      repeat' (first | refine KO ?_ | ((with_reducible apply F1 156); exact rfl; exact EN; (first | exact fun w μc hw hse => hc1 w μc hw (hm.mono hse.le) | exact fun w μc hw hse => hc2 w μc hw (hm.mono hse.le))) | (refine KV (b := by first | ((with_reducible apply v_addQ); exact rfl; exact rfl; (simp only [List.length_append, List.length_cons, List.length_nil]; omega))) (c := ?_)) | refine KI ?_ | (refine KB ?_ ?_ <;> intro hp) | refine KG ?_ | fail)
      all_goals first | (exfalso; first | omega | contradiction | exact absurd ‹_› ‹¬ _›) | skip
      all_goals exact ret_s rfl rfl rfl
end
section
open Go.RowKit Go.Vcg Ou
theorem of_data (s : ByteArray) : ofB s.data.toList = s := rfl
theorem len_data (s : ByteArray) : s.data.toList.length = s.size := Array.length_toList
theorem unW_join : ofB (joinS Iq.unW) = ⟨#[45, 32, 43, 32, 33, 32, 126, 32, 118, 111, 105, 100]⟩ := by decide +kernel
theorem unW_ok : (∀ y ∈ Iq.unW, Fr 32 y) ∧ [] ∉ Iq.unW ∧ Iq.unW ≠ [] ∧ (joinS Iq.unW).length ≤ 1000000 := by unfold Fr; decide +kernel
theorem binW_join : ofB (joinS Iq.binW) = ⟨#[124, 32, 94, 32, 38, 32, 61, 61, 32, 33, 61, 32, 61, 61, 61, 32, 33, 61, 61, 32, 60, 32, 62, 32, 60, 61, 32, 62, 61, 32, 105, 110, 115, 116, 97, 110, 99, 101, 111, 102, 32, 105, 110, 32, 60, 60, 32, 62, 62, 32, 43, 32, 45, 32, 42, 32, 47, 32, 37]⟩ := by decide +kernel
theorem binW_ok : (∀ y ∈ Iq.binW, Fr 32 y) ∧ [] ∉ Iq.binW ∧ Iq.binW ≠ [] ∧ (joinS Iq.binW).length ≤ 1000000 := by unfold Fr; decide +kernel
theorem logW_join : ofB (joinS Iq.logW) = ⟨#[38, 38, 32, 124, 124, 32, 63, 63]⟩ := by decide +kernel
theorem logW_ok : (∀ y ∈ Iq.logW, Fr 32 y) ∧ [] ∉ Iq.logW ∧ Iq.logW ≠ [] ∧ (joinS Iq.logW).length ≤ 1000000 := by unfold Fr; decide +kernel
attribute [local irreducible] G GC GQ GA GAop Calls IntKind.wrap Int.decLt Int.decLe
theorem pform_b (s : ByteArray) (hs : s.size ≤ 1000000) (w : World) (μ : Mem) (hμ : MOk μ w) : Calls Tryz.prog 135 #[.string s] w fun e w' => e = .returned (.bool (Iq.formB s.data.toList)) ∧ Below w.heap.size w w' := by
  have h := pform_spec s.data.toList (by rw [len_data]; exact hs) w μ hμ
  rw [of_data] at h
  exact h
theorem pamong_unW (s : ByteArray) (hs : s.size ≤ 1000000) (w : World) (μ : Mem) (hμ : MOk μ w) (hm : MaxQ μ) : Calls Tryz.prog 136 #[.string s, .string ⟨#[45, 32, 43, 32, 33, 32, 126, 32, 118, 111, 105, 100]⟩] w fun e w' => e = .returned (.bool (Iq.unW.contains s.data.toList)) ∧ Below w.heap.size w w' := by
  obtain ⟨h1, h2, h3, h4⟩ := unW_ok
  have h := pamong_spec s.data.toList Iq.unW h1 h2 h3 (by rw [len_data]; exact hs) h4 w μ hμ hm
  rw [of_data, unW_join] at h
  exact h
theorem pamong_binW (s : ByteArray) (hs : s.size ≤ 1000000) (w : World) (μ : Mem) (hμ : MOk μ w) (hm : MaxQ μ) : Calls Tryz.prog 136 #[.string s, .string ⟨#[124, 32, 94, 32, 38, 32, 61, 61, 32, 33, 61, 32, 61, 61, 61, 32, 33, 61, 61, 32, 60, 32, 62, 32, 60, 61, 32, 62, 61, 32, 105, 110, 115, 116, 97, 110, 99, 101, 111, 102, 32, 105, 110, 32, 60, 60, 32, 62, 62, 32, 43, 32, 45, 32, 42, 32, 47, 32, 37]⟩] w fun e w' => e = .returned (.bool (Iq.binW.contains s.data.toList)) ∧ Below w.heap.size w w' := by
  obtain ⟨h1, h2, h3, h4⟩ := binW_ok
  have h := pamong_spec s.data.toList Iq.binW h1 h2 h3 (by rw [len_data]; exact hs) h4 w μ hμ hm
  rw [of_data, binW_join] at h
  exact h
theorem pamong_logW (s : ByteArray) (hs : s.size ≤ 1000000) (w : World) (μ : Mem) (hμ : MOk μ w) (hm : MaxQ μ) : Calls Tryz.prog 136 #[.string s, .string ⟨#[38, 38, 32, 124, 124, 32, 63, 63]⟩] w fun e w' => e = .returned (.bool (Iq.logW.contains s.data.toList)) ∧ Below w.heap.size w w' := by
  obtain ⟨h1, h2, h3, h4⟩ := logW_ok
  have h := pamong_spec s.data.toList Iq.logW h1 h2 h3 (by rw [len_data]; exact hs) h4 w μ hμ hm
  rw [of_data, logW_join] at h
  exact h
theorem ptext_spec (t : T) (u : Value) (hu : u.oneCell' = true) (hs : t.s.size ≤ 1000000) (w : World) (μ : Mem) (hμ : MOk μ w) (hm : MaxQ μ) : Calls Tryz.prog 107 #[.agg (encT t u).toArray] w fun e w' => e = .returned (.bool (Iq.textB t.op t.s.data.toList)) ∧ Below w.heap.size w w' := by
  refine call_intro (args := [.agg (encT t u).toArray]) Tryz.func107 rfl Tryz.ntmps107 (by simp) hμ ?_
  by_cases h0 : t.op = 105
  · have e : Iq.textB t.op t.s.data.toList = decide (t.s.data.toList.length ≤ 65536) := by
      unfold Iq.textB
      rw [if_pos h0]
    rw [e]
    repeat' (first | refine KK ?_ | refine NB fun b => ?_ | (refine KB ?_ ?_ <;> intro hp) | refine KG ?_ | fail)
    all_goals first | (exfalso; first | omega | contradiction | exact absurd ‹_› ‹¬ _›) | exact ret_s rfl rfl rfl | (refine ret_s rfl rfl ?_; congr 1; first | (rw [decide_eq_true (by omega)]; done) | (rw [decide_eq_false (by omega)]; done) | (rw [Bool.eq_iff_iff]; simp; omega) | (simp [*]; done) | (rw [Bool.eq_iff_iff]; simp [ByteArray.size]; omega) | (rw [Bool.eq_iff_iff]; simp [ByteArray.size]; done))
  by_cases h1 : t.op = 111 ∨ t.op = 112 ∨ t.op = 113 ∨ t.op = 114
  · have e : Iq.textB t.op t.s.data.toList = Iq.formB t.s.data.toList := by
      unfold Iq.textB
      rw [if_neg h0, if_pos h1]
    rw [e]
    rcases h1 with h1 | h1 | h1 | h1
    all_goals repeat' (first | refine KO ?_ | ((with_reducible apply F1 135); exact rfl; exact EN; (exact fun w μc hw hse => pform_b _ hs w μc hw)) | refine KI ?_ | refine NB fun b => ?_ | (refine KB ?_ ?_ <;> intro hp) | refine KG ?_ | fail)
    all_goals first | (exfalso; first | omega | contradiction | exact absurd ‹_› ‹¬ _›) | exact ret_s rfl rfl rfl | (refine ret_s rfl rfl ?_; congr 1; first | (rw [decide_eq_true (by omega)]; done) | (rw [decide_eq_false (by omega)]; done) | (rw [Bool.eq_iff_iff]; simp; omega) | (simp [*]; done) | (rw [Bool.eq_iff_iff]; simp [ByteArray.size]; omega) | (rw [Bool.eq_iff_iff]; simp [ByteArray.size]; done))
  by_cases h2 : t.op = 132
  · have e : Iq.textB t.op t.s.data.toList = Iq.unW.contains t.s.data.toList := by
      unfold Iq.textB
      rw [if_neg h0, if_neg h1, if_pos h2]
    rw [e]
    repeat' (first | refine KO ?_ | ((with_reducible apply F1 136); exact rfl; exact EN; (exact fun w μc hw hse => pamong_unW _ hs w μc hw (hm.mono hse.le))) | refine KI ?_ | refine NB fun b => ?_ | (refine KB ?_ ?_ <;> intro hp) | refine KG ?_ | fail)
    all_goals first | (exfalso; first | omega | contradiction | exact absurd ‹_› ‹¬ _›) | exact ret_s rfl rfl rfl | (refine ret_s rfl rfl ?_; congr 1; first | (rw [decide_eq_true (by omega)]; done) | (rw [decide_eq_false (by omega)]; done) | (rw [Bool.eq_iff_iff]; simp; omega) | (simp [*]; done) | (rw [Bool.eq_iff_iff]; simp [ByteArray.size]; omega) | (rw [Bool.eq_iff_iff]; simp [ByteArray.size]; done))
  by_cases h3 : t.op = 133
  · have e : Iq.textB t.op t.s.data.toList = Iq.binW.contains t.s.data.toList := by
      unfold Iq.textB
      rw [if_neg h0, if_neg h1, if_neg h2, if_pos h3]
    rw [e]
    repeat' (first | refine KO ?_ | ((with_reducible apply F1 136); exact rfl; exact EN; (exact fun w μc hw hse => pamong_binW _ hs w μc hw (hm.mono hse.le))) | refine KI ?_ | refine NB fun b => ?_ | (refine KB ?_ ?_ <;> intro hp) | refine KG ?_ | fail)
    all_goals first | (exfalso; first | omega | contradiction | exact absurd ‹_› ‹¬ _›) | exact ret_s rfl rfl rfl | (refine ret_s rfl rfl ?_; congr 1; first | (rw [decide_eq_true (by omega)]; done) | (rw [decide_eq_false (by omega)]; done) | (rw [Bool.eq_iff_iff]; simp; omega) | (simp [*]; done) | (rw [Bool.eq_iff_iff]; simp [ByteArray.size]; omega) | (rw [Bool.eq_iff_iff]; simp [ByteArray.size]; done))
  by_cases h4 : t.op = 134
  · have e : Iq.textB t.op t.s.data.toList = Iq.logW.contains t.s.data.toList := by
      unfold Iq.textB
      rw [if_neg h0, if_neg h1, if_neg h2, if_neg h3, if_pos h4]
    rw [e]
    repeat' (first | refine KO ?_ | ((with_reducible apply F1 136); exact rfl; exact EN; (exact fun w μc hw hse => pamong_logW _ hs w μc hw (hm.mono hse.le))) | refine KI ?_ | refine NB fun b => ?_ | (refine KB ?_ ?_ <;> intro hp) | refine KG ?_ | fail)
    all_goals first | (exfalso; first | omega | contradiction | exact absurd ‹_› ‹¬ _›) | exact ret_s rfl rfl rfl | (refine ret_s rfl rfl ?_; congr 1; first | (rw [decide_eq_true (by omega)]; done) | (rw [decide_eq_false (by omega)]; done) | (rw [Bool.eq_iff_iff]; simp; omega) | (simp [*]; done) | (rw [Bool.eq_iff_iff]; simp [ByteArray.size]; omega) | (rw [Bool.eq_iff_iff]; simp [ByteArray.size]; done))
  have e : Iq.textB t.op t.s.data.toList = t.s.data.toList.isEmpty := by
    unfold Iq.textB
    rw [if_neg h0, if_neg h1, if_neg h2, if_neg h3, if_neg h4]
  rw [e]
  have e1 : (t.s = ⟨#[]⟩) = (t.s.data.toList = []) := of_nil (a := t.s.data.toList)
  by_cases h9 : t.s.data.toList = []
  · have e2 := e1.mpr h9
    rw [h9]
    repeat' (first | refine KK ?_ | refine NB fun b => ?_ | (refine KB ?_ ?_ <;> intro hp) | refine KG ?_ | fail)
    all_goals first | (exfalso; first | omega | contradiction | exact absurd ‹_› ‹¬ _›) | exact ret_s rfl rfl rfl | (refine ret_s rfl rfl ?_; congr 1; first | (rw [decide_eq_true (by omega)]; done) | (rw [decide_eq_false (by omega)]; done) | (rw [Bool.eq_iff_iff]; simp; omega) | (simp [*]; done) | (rw [Bool.eq_iff_iff]; simp [ByteArray.size]; omega) | (rw [Bool.eq_iff_iff]; simp [ByteArray.size]; done))
  · have e2 : ¬ t.s = ⟨#[]⟩ := by rw [e1]; exact h9
    have e3 : t.s.data.toList.isEmpty = false := by simpa using h9
    rw [e3]
    repeat' (first | refine KK ?_ | refine NB fun b => ?_ | (refine KB ?_ ?_ <;> intro hp) | refine KG ?_ | fail)
    all_goals first | (exfalso; first | omega | contradiction | exact absurd ‹_› ‹¬ _›) | exact ret_s rfl rfl rfl | (refine ret_s rfl rfl ?_; congr 1; first | (rw [decide_eq_true (by omega)]; done) | (rw [decide_eq_false (by omega)]; done) | (rw [Bool.eq_iff_iff]; simp; omega) | (simp [*]; done) | (rw [Bool.eq_iff_iff]; simp [ByteArray.size]; omega) | (rw [Bool.eq_iff_iff]; simp [ByteArray.size]; done))
end
section
open Go.RowKit Go.Vcg
attribute [local irreducible] G GC GQ GA GAop Calls IntKind.wrap Int.decLt Int.decLe
theorem pnumb_spec (t : T) (u : Value) (hu : u.oneCell' = true) (f : F) (v : Value) (hv : v.oneCell' = true) (k : Int) (hL : 0 ≤ f.loc ∧ f.loc ≤ 100000) (hk : 0 ≤ k ∧ k ≤ 100000) (w : World) (μ : Mem) (hμ : MOk μ w) : Calls Tryz.prog 109 #[.agg (encT t u).toArray, .agg (encF f v).toArray, .int .i64 k] w fun e w' => e = .returned (.bool (Iq.numbB t.op t.n f.loc k)) ∧ Below w.heap.size w w' := by
  have w1 : IntKind.i64.wrap (f.loc - 1) = f.loc - 1 := wrap_i64 ⟨by omega, by omega⟩
  have w2 : IntKind.i64.wrap (k - 1) = k - 1 := wrap_i64 ⟨by omega, by omega⟩
  refine call_intro (args := [.agg (encT t u).toArray, .agg (encF f v).toArray, .int .i64 k]) Tryz.func109 rfl Tryz.ntmps109 (by simp) hμ ?_
  by_cases h0 : t.op = 102 ∨ t.op = 126 ∨ t.op = 127 ∨ t.op = 144 ∨ t.op = 114
  · have e : Iq.numbB t.op t.n f.loc k = Iq.inI t.n 0 1 := by
      unfold Iq.numbB
      rw [if_pos h0]
    rw [e]
    rcases h0 with h0 | h0 | h0 | h0 | h0
    all_goals repeat' (first | refine KO ?_ | ((with_reducible apply F1 47); exact rfl; exact EN; (exact fun w μc hw hse => pin_spec _ _ _ w μc hw)) | refine KI ?_ | refine NB fun b => ?_ | (refine KB ?_ ?_ <;> intro hp) | refine KG ?_ | fail)
    all_goals first | (exfalso; first | omega | contradiction | exact absurd ‹_› ‹¬ _›) | exact ret_s rfl rfl rfl | (refine ret_s rfl rfl ?_; congr 1; first | (rw [decide_eq_true (by omega)]; done) | (rw [decide_eq_false (by omega)]; done) | (rw [Bool.eq_iff_iff]; simp; omega) | (simp [*]; done))
  by_cases h1 : t.op = 103
  · have e : Iq.numbB t.op t.n f.loc k = Iq.inI t.n (-9007199254740992) 9007199254740992 := by
      unfold Iq.numbB
      rw [if_neg h0, if_pos h1]
    rw [e]
    repeat' (first | refine KO ?_ | ((with_reducible apply F1 47); exact rfl; exact EN; (exact fun w μc hw hse => pin_spec _ _ _ w μc hw)) | refine KI ?_ | refine NB fun b => ?_ | (refine KB ?_ ?_ <;> intro hp) | refine KG ?_ | fail)
    all_goals first | (exfalso; first | omega | contradiction | exact absurd ‹_› ‹¬ _›) | exact ret_s rfl rfl rfl | (refine ret_s rfl rfl ?_; congr 1; first | (rw [decide_eq_true (by omega)]; done) | (rw [decide_eq_false (by omega)]; done) | (rw [Bool.eq_iff_iff]; simp; omega) | (simp [*]; done))
  by_cases h2 : t.op = 107 ∨ t.op = 108 ∨ t.op = 169
  · have e : Iq.numbB t.op t.n f.loc k = Iq.inI t.n 0 (f.loc - 1) := by
      unfold Iq.numbB
      rw [if_neg h0, if_neg h1, if_pos h2]
    rw [e]
    rcases h2 with h2 | h2 | h2
    all_goals repeat' (first | refine KO ?_ | ((with_reducible apply F1 47); exact rfl; exact EN; (exact fun w μc hw hse => pin_spec _ _ _ w μc hw)) | refine KI ?_ | refine NB fun b => ?_ | (refine KB ?_ ?_ <;> intro hp) | refine KG ?_ | fail)
    all_goals first | (exfalso; first | omega | contradiction | exact absurd ‹_› ‹¬ _›) | exact ret_s rfl rfl rfl | (refine ret_s rfl rfl ?_; congr 1; first | (rw [decide_eq_true (by omega)]; done) | (rw [decide_eq_false (by omega)]; done) | (rw [Bool.eq_iff_iff]; simp; omega) | (simp [*]; done))
  by_cases h3 : t.op = 109 ∨ t.op = 110 ∨ t.op = 165 ∨ t.op = 166
  · have e : Iq.numbB t.op t.n f.loc k = true := by
      unfold Iq.numbB
      rw [if_neg h0, if_neg h1, if_neg h2, if_pos h3]
    rw [e]
    rcases h3 with h3 | h3 | h3 | h3
    all_goals repeat' (first | refine KO ?_ | ((with_reducible apply F1 47); exact rfl; exact EN; (exact fun w μc hw hse => pin_spec _ _ _ w μc hw)) | refine KI ?_ | refine NB fun b => ?_ | (refine KB ?_ ?_ <;> intro hp) | refine KG ?_ | fail)
    all_goals first | (exfalso; first | omega | contradiction | exact absurd ‹_› ‹¬ _›) | exact ret_s rfl rfl rfl | (refine ret_s rfl rfl ?_; congr 1; first | (rw [decide_eq_true (by omega)]; done) | (rw [decide_eq_false (by omega)]; done) | (rw [Bool.eq_iff_iff]; simp; omega) | (simp [*]; done))
  by_cases h4 : t.op = 117
  · have e : Iq.numbB t.op t.n f.loc k = Iq.inI t.n (-1) 1024 := by
      unfold Iq.numbB
      rw [if_neg h0, if_neg h1, if_neg h2, if_neg h3, if_pos h4]
    rw [e]
    repeat' (first | refine KO ?_ | ((with_reducible apply F1 47); exact rfl; exact EN; (exact fun w μc hw hse => pin_spec _ _ _ w μc hw)) | refine KI ?_ | refine NB fun b => ?_ | (refine KB ?_ ?_ <;> intro hp) | refine KG ?_ | fail)
    all_goals first | (exfalso; first | omega | contradiction | exact absurd ‹_› ‹¬ _›) | exact ret_s rfl rfl rfl | (refine ret_s rfl rfl ?_; congr 1; first | (rw [decide_eq_true (by omega)]; done) | (rw [decide_eq_false (by omega)]; done) | (rw [Bool.eq_iff_iff]; simp; omega) | (simp [*]; done))
  by_cases h5 : t.op = 118
  · have e : Iq.numbB t.op t.n f.loc k = Iq.inI t.n 0 1024 := by
      unfold Iq.numbB
      rw [if_neg h0, if_neg h1, if_neg h2, if_neg h3, if_neg h4, if_pos h5]
    rw [e]
    repeat' (first | refine KO ?_ | ((with_reducible apply F1 47); exact rfl; exact EN; (exact fun w μc hw hse => pin_spec _ _ _ w μc hw)) | refine KI ?_ | refine NB fun b => ?_ | (refine KB ?_ ?_ <;> intro hp) | refine KG ?_ | fail)
    all_goals first | (exfalso; first | omega | contradiction | exact absurd ‹_› ‹¬ _›) | exact ret_s rfl rfl rfl | (refine ret_s rfl rfl ?_; congr 1; first | (rw [decide_eq_true (by omega)]; done) | (rw [decide_eq_false (by omega)]; done) | (rw [Bool.eq_iff_iff]; simp; omega) | (simp [*]; done))
  by_cases h6 : t.op = 119
  · have e : Iq.numbB t.op t.n f.loc k = Iq.inI t.n 1 (k - 1) := by
      unfold Iq.numbB
      rw [if_neg h0, if_neg h1, if_neg h2, if_neg h3, if_neg h4, if_neg h5, if_pos h6]
    rw [e]
    repeat' (first | refine KO ?_ | ((with_reducible apply F1 47); exact rfl; exact EN; (exact fun w μc hw hse => pin_spec _ _ _ w μc hw)) | refine KI ?_ | refine NB fun b => ?_ | (refine KB ?_ ?_ <;> intro hp) | refine KG ?_ | fail)
    all_goals first | (exfalso; first | omega | contradiction | exact absurd ‹_› ‹¬ _›) | exact ret_s rfl rfl rfl | (refine ret_s rfl rfl ?_; congr 1; first | (rw [decide_eq_true (by omega)]; done) | (rw [decide_eq_false (by omega)]; done) | (rw [Bool.eq_iff_iff]; simp; omega) | (simp [*]; done))
  by_cases h7 : t.op = 121
  · have e : Iq.numbB t.op t.n f.loc k = Iq.inI t.n 0 2 := by
      unfold Iq.numbB
      rw [if_neg h0, if_neg h1, if_neg h2, if_neg h3, if_neg h4, if_neg h5, if_neg h6, if_pos h7]
    rw [e]
    repeat' (first | refine KO ?_ | ((with_reducible apply F1 47); exact rfl; exact EN; (exact fun w μc hw hse => pin_spec _ _ _ w μc hw)) | refine KI ?_ | refine NB fun b => ?_ | (refine KB ?_ ?_ <;> intro hp) | refine KG ?_ | fail)
    all_goals first | (exfalso; first | omega | contradiction | exact absurd ‹_› ‹¬ _›) | exact ret_s rfl rfl rfl | (refine ret_s rfl rfl ?_; congr 1; first | (rw [decide_eq_true (by omega)]; done) | (rw [decide_eq_false (by omega)]; done) | (rw [Bool.eq_iff_iff]; simp; omega) | (simp [*]; done))
  by_cases h8 : t.op = 163 ∨ t.op = 164 ∨ t.op = 170
  · have e : Iq.numbB t.op t.n f.loc k = Iq.inI t.n 0 4096 := by
      unfold Iq.numbB
      rw [if_neg h0, if_neg h1, if_neg h2, if_neg h3, if_neg h4, if_neg h5, if_neg h6, if_neg h7, if_pos h8]
    rw [e]
    rcases h8 with h8 | h8 | h8
    all_goals repeat' (first | refine KO ?_ | ((with_reducible apply F1 47); exact rfl; exact EN; (exact fun w μc hw hse => pin_spec _ _ _ w μc hw)) | refine KI ?_ | refine NB fun b => ?_ | (refine KB ?_ ?_ <;> intro hp) | refine KG ?_ | fail)
    all_goals first | (exfalso; first | omega | contradiction | exact absurd ‹_› ‹¬ _›) | exact ret_s rfl rfl rfl | (refine ret_s rfl rfl ?_; congr 1; first | (rw [decide_eq_true (by omega)]; done) | (rw [decide_eq_false (by omega)]; done) | (rw [Bool.eq_iff_iff]; simp; omega) | (simp [*]; done))
  have e : Iq.numbB t.op t.n f.loc k = decide (t.n = 0) := by
    unfold Iq.numbB
    rw [if_neg h0, if_neg h1, if_neg h2, if_neg h3, if_neg h4, if_neg h5, if_neg h6, if_neg h7, if_neg h8]
  rw [e]
  repeat' (first | refine KK ?_ | refine NB fun b => ?_ | (refine KB ?_ ?_ <;> intro hp) | refine KG ?_ | fail)
  all_goals first | (exfalso; first | omega | contradiction | exact absurd ‹_› ‹¬ _›) | exact ret_s rfl rfl rfl | (refine ret_s rfl rfl ?_; congr 1; first | (rw [decide_eq_true (by omega)]; done) | (rw [decide_eq_false (by omega)]; done) | (rw [Bool.eq_iff_iff]; simp; omega) | (simp [*]; done))
end
section
open Go.RowKit Go.Vcg
theorem sign_ne {c : UInt8} {k : UInt8} (h : ¬ c = k) : ¬ (c.toNat : Int) = (k.toNat : Int) := fun e => h (UInt8.toNat_inj.1 (Int.ofNat.inj e))
attribute [local irreducible] G GC GQ GA GAop Calls IntKind.wrap Int.decLt Int.decLe
theorem pisE_b (op : Int) (b : Bool) (h : Iq.isE op = b) (w : World) (μ : Mem) (hμ : MOk μ w) : Calls Tryz.prog 10 #[.int .i64 op] w fun e w' => e = .returned (.bool b) ∧ Below w.heap.size w w' := by
  subst h
  exact isE_spec w μ hμ op
theorem pisS_b (op : Int) (b : Bool) (h : Iq.isS op = b) (w : World) (μ : Mem) (hμ : MOk μ w) : Calls Tryz.prog 75 #[.int .i64 op] w fun e w' => e = .returned (.bool b) ∧ Below w.heap.size w w' := by
  subst h
  exact pdeed_spec op w μ hμ
theorem pfits_spec (x : Int) (c : UInt8) (op : Int) (hx : x = c.toNat) (w : World) (μ : Mem) (hμ : MOk μ w) : Calls Tryz.prog 134 #[.int .u8 x, .int .i64 op] w fun e w' => e = .returned (.bool (Iq.fitB c op)) ∧ Below w.heap.size w w' := by
  refine call_intro (args := [.int .u8 x, .int .i64 op]) Tryz.func134 rfl Tryz.ntmps134 (by simp) hμ ?_
  have n0 : c = 115 → x = 115 := fun h => by rw [hx, h]; rfl
  have n1 : c = 112 → x = 112 := fun h => by rw [hx, h]; rfl
  have n2 : c = 97 → x = 97 := fun h => by rw [hx, h]; rfl
  have n3 : c = 98 → x = 98 := fun h => by rw [hx, h]; rfl
  have m0 : ¬ c = 115 → ¬ x = 115 := fun h => by rw [hx]; exact sign_ne h
  have m1 : ¬ c = 112 → ¬ x = 112 := fun h => by rw [hx]; exact sign_ne h
  have m2 : ¬ c = 97 → ¬ x = 97 := fun h => by rw [hx]; exact sign_ne h
  have m3 : ¬ c = 98 → ¬ x = 98 := fun h => by rw [hx]; exact sign_ne h
  clear hx
  unfold Iq.fitB
  by_cases h0 : c = 115
  · have nx := n0 h0
    rw [if_pos h0]
    clear n0 n1 n2 n3 m0 m1 m2 m3
    cases hS : Iq.isS op
    all_goals repeat' (first | refine KO ?_ | ((with_reducible apply F1 10); exact rfl; exact EN; (exact fun w μc hw hse => pisE_b op _ hE w μc hw)) | ((with_reducible apply F1 75); exact rfl; exact EN; (exact fun w μc hw hse => pisS_b op _ hS w μc hw)) | refine KI ?_ | (refine KB ?_ ?_ <;> intro hp) | refine KG ?_ | fail)
    all_goals first | (exfalso; first | omega | contradiction | exact absurd ‹_› ‹¬ _›) | exact ret_s rfl rfl rfl | (refine ret_s rfl rfl ?_; congr 1; first | (rw [decide_eq_true (by omega)]; done) | (rw [decide_eq_false (by omega)]; done) | (rw [Bool.eq_iff_iff]; simp; omega) | (rw [Bool.eq_iff_iff]; simp; done) | (simp [*]; done))
  rw [if_neg h0]
  by_cases h1 : c = 112
  · have nx := n1 h1
    have mx0 := m0 h0
    rw [if_pos h1]
    clear n0 n1 n2 n3 m0 m1 m2 m3
    by_cases q1 : op = 121
    all_goals by_cases q2 : op = 122
    all_goals repeat' (first | refine KO ?_ | ((with_reducible apply F1 10); exact rfl; exact EN; (exact fun w μc hw hse => pisE_b op _ hE w μc hw)) | ((with_reducible apply F1 75); exact rfl; exact EN; (exact fun w μc hw hse => pisS_b op _ hS w μc hw)) | refine KI ?_ | (refine KB ?_ ?_ <;> intro hp) | refine KG ?_ | fail)
    all_goals first | (exfalso; first | omega | contradiction | exact absurd ‹_› ‹¬ _›) | exact ret_s rfl rfl rfl | (refine ret_s rfl rfl ?_; congr 1; first | (rw [decide_eq_true (by omega)]; done) | (rw [decide_eq_false (by omega)]; done) | (rw [Bool.eq_iff_iff]; simp; omega) | (rw [Bool.eq_iff_iff]; simp; done) | (simp [*]; done))
  rw [if_neg h1]
  by_cases h2 : c = 97
  · have nx := n2 h2
    have mx0 := m0 h0
    have mx1 := m1 h1
    rw [if_pos h2]
    clear n0 n1 n2 n3 m0 m1 m2 m3
    cases hE : Iq.isE op
    all_goals by_cases q1 : op = 124
    all_goals repeat' (first | refine KO ?_ | ((with_reducible apply F1 10); exact rfl; exact EN; (exact fun w μc hw hse => pisE_b op _ hE w μc hw)) | ((with_reducible apply F1 75); exact rfl; exact EN; (exact fun w μc hw hse => pisS_b op _ hS w μc hw)) | refine KI ?_ | (refine KB ?_ ?_ <;> intro hp) | refine KG ?_ | fail)
    all_goals first | (exfalso; first | omega | contradiction | exact absurd ‹_› ‹¬ _›) | exact ret_s rfl rfl rfl | (refine ret_s rfl rfl ?_; congr 1; first | (rw [decide_eq_true (by omega)]; done) | (rw [decide_eq_false (by omega)]; done) | (rw [Bool.eq_iff_iff]; simp; omega) | (rw [Bool.eq_iff_iff]; simp; done) | (simp [*]; done))
  rw [if_neg h2]
  by_cases h3 : c = 98
  · have nx := n3 h3
    have mx0 := m0 h0
    have mx1 := m1 h1
    have mx2 := m2 h2
    rw [if_pos h3]
    clear n0 n1 n2 n3 m0 m1 m2 m3
    cases hE : Iq.isE op
    all_goals cases hS : Iq.isS op
    all_goals repeat' (first | refine KO ?_ | ((with_reducible apply F1 10); exact rfl; exact EN; (exact fun w μc hw hse => pisE_b op _ hE w μc hw)) | ((with_reducible apply F1 75); exact rfl; exact EN; (exact fun w μc hw hse => pisS_b op _ hS w μc hw)) | refine KI ?_ | (refine KB ?_ ?_ <;> intro hp) | refine KG ?_ | fail)
    all_goals first | (exfalso; first | omega | contradiction | exact absurd ‹_› ‹¬ _›) | exact ret_s rfl rfl rfl | (refine ret_s rfl rfl ?_; congr 1; first | (rw [decide_eq_true (by omega)]; done) | (rw [decide_eq_false (by omega)]; done) | (rw [Bool.eq_iff_iff]; simp; omega) | (rw [Bool.eq_iff_iff]; simp; done) | (simp [*]; done))
  rw [if_neg h3]
  have mx0 := m0 h0
  have mx1 := m1 h1
  have mx2 := m2 h2
  have mx3 := m3 h3
  clear n0 n1 n2 n3 m0 m1 m2 m3
  cases hE : Iq.isE op
  all_goals repeat' (first | refine KO ?_ | ((with_reducible apply F1 10); exact rfl; exact EN; (exact fun w μc hw hse => pisE_b op _ hE w μc hw)) | ((with_reducible apply F1 75); exact rfl; exact EN; (exact fun w μc hw hse => pisS_b op _ hS w μc hw)) | refine KI ?_ | (refine KB ?_ ?_ <;> intro hp) | refine KG ?_ | fail)
  all_goals first | (exfalso; first | omega | contradiction | exact absurd ‹_› ‹¬ _›) | exact ret_s rfl rfl rfl | (refine ret_s rfl rfl ?_; congr 1; first | (rw [decide_eq_true (by omega)]; done) | (rw [decide_eq_false (by omega)]; done) | (rw [Bool.eq_iff_iff]; simp; omega) | (rw [Bool.eq_iff_iff]; simp; done) | (simp [*]; done))
end
section
open Go.RowKit Go.Vcg Ou
attribute [local irreducible] G GC GQ GA GAop Calls IntKind.wrap Int.decLt Int.decLe
end
section
section unit1
open Go.RowKit Go.Vcg
structure UFnI where
  name : ByteArray
  kind : Int
  len : Int
  loc : Int
  body : Value
abbrev encFn (f : UFnI) : List Value := [.string f.name, .int .i64 f.kind, .int .i64 f.len, .int .i64 f.loc, f.body]
def FnOk (μ : Mem) (f : UFnI) : Prop := ∃ A n c ts, f.body = .slice A n c ∧ Sl encIt 6 μ A n ts ∧ n ≤ 9223372036854775807
theorem FnOk.mono {μ μ' : Mem} {f : UFnI} (h : FnOk μ f) (hle : MLe μ μ') : FnOk μ' f := by
  obtain ⟨A, n, c, ts, e, hs, hn⟩ := h
  exact ⟨A, n, c, ts, e, hs.mono hle, hn⟩
theorem fs_post {μ μ' : Mem} {A : Option Addr} {c : Nat} {ps : List (F × Value)} (hn : ps.length ≤ 20) (hps : ∀ p ∈ ps, KR μ p.1.body.kids p.2 ∧ p.1.body.size ≤ 100000) (hle : MLe μ μ') (h : Bk.sh (.inr ⟨.slice A ps.length c, 44, 10, ps.length, ps.flatMap encFV⟩) μ') : Fs μ' A ps.length ps :=
  ⟨sl_of_row (enc := encFV) h rfl (by simp) rfl, by omega, fun p hp => ⟨(hps p hp).1.mono hle, (hps p hp).2⟩⟩
attribute [local irreducible] G GC GQ GA GAop Calls IntKind.wrap Int.decLt Int.decLe
end unit1
section unit2
open Go.RowKit Go.Vcg
attribute [local irreducible] smB smLB smFB smUB G GC GQ GA GAop Calls IntKind.wrap Int.decLt Int.decLe
end unit2
end
section
open Go.ChangeShapes Go.WideShapes Go.ChangeAt Go.RowKit Go.Deep Go.Vcg
section
variable {H : Type} {enc : TypeId × Value → H} {W : World} {base : Nat} {spare : Nat → Bool} {held : Bool}
end
section
variable {H : Type} {enc : TypeId × Value → H} {W : World}
end
end
end Go.Proofs.YtoclmkdfcafhfaaGreatDoor
