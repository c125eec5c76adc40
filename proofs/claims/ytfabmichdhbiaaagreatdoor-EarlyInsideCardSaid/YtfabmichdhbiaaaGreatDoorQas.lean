/- The reference's one, template and chained. (and what leans on it). No statement of the seat is proved here. -/
import Derived.Test.YtfabmichdhbiaaaGreatDoorQar
import Derived.Test.YtfabmichdhbiaaaGreatDoorQak
import Derived.Test.YtfabmichdhbiaaaGreatDoorQae
set_option maxRecDepth 20000
set_option maxHeartbeats 2000000
namespace Go.Proofs.YtfabmichdhbiaaaGreatDoor
open Go.RowKit Go.Vcg
attribute [local irreducible] templB chB rExprT linkT G GC GQ GA GAop Calls IntKind.wrap Int.decLt Int.decLe
theorem rOne_spec (s : ByteArray) (ws : List (List UInt8)) (A : Option Addr) (n c : Nat) (w : World) (μ : Mem) (hμ : MOk μ w) (hS : Sl encB 1 μ A n ws) (hn : n ≤ 100000) :
    Calls Tryz.prog 78 #[.string s, .slice A n c] w fun e w' => e = .returned (.bool (oneT s ws)) ∧ Below w.heap.size w w' := by
  refine call_intro (args := [.string s, .slice A n c]) Tryz.func78 rfl Tryz.ntmps78 (by simp) hμ ?_
  have hqn : (eqsT s ws).length = n := by unfold eqsT; rw [List.length_map]; exact hS.1
  repeat' (first | refine KK ?_ | ((refine KB ?_ ?_ <;> intro hp)) | refine KG ?_ | fail)
  refine gc_loop (ι := Nat) (fun k => k ≤ n ∧ ∀ (j : Nat) (q : Bool), j < k → (eqsT s ws)[j]? = some q → q = false) (fun k => n - k) (fun _ => μ) (fun k => [(5, .int .i64 k), (1, .slice A n c), (0, .string s)]) (fun _ => []) 0 ⟨by omega, fun j _ h => absurd h (by omega)⟩ (fun a w hs => J6 hs) ?_
  rintro k ⟨hk, hf⟩
  by_cases hlt : k < n
  · have hqk : (eqsT s ws)[k]? = some ((eqsT s ws)[k]'(by omega)) := List.getElem?_eq_getElem (by omega)
    generalize (eqsT s ws)[k]'(by omega) = q at hqk
    have hnext : q = false → ∀ (j : Nat) (q : Bool), j < k + 1 → (eqsT s ws)[j]? = some q → q = false := fun h j p hj hp => by
      rcases Nat.lt_or_ge j k with h1 | h1
      · exact hf j p h1 hp
      · obtain rfl : j = k := by omega
        rw [hqk] at hp
        cases hp
        exact h
    obtain ⟨ad, y, rfl, hy, hm⟩ := hS.get hlt
    have hqv : q = decide (s = ⟨y.toArray⟩) := by
      have h := hqk
      unfold eqsT at h
      rw [List.getElem?_map, hy] at h
      exact (Option.some.inj h).symm
    cases hq : q
    · have hb := hnext hq
      rw [hq] at hqv
      have hne : ¬ (⟨y.toArray⟩ : ByteArray) = s := fun h => of_decide_eq_false hqv.symm h.symm
      repeat' (first | refine KO ?_ | (refine KV (b := by first | exact U1 k | exact U3 (hm.at 0 rfl)) (c := ?_)) | refine KI ?_ | ((refine KB ?_ ?_ <;> intro hp)) | refine KG ?_ | fail)
      all_goals first | exact J4 (k + 1) ⟨by omega, hb⟩ (by omega) | exact absurd hp hne | exact absurd hne hp
    · rw [hq] at hqv hqk
      have he : (⟨y.toArray⟩ : ByteArray) = s := (of_decide_eq_true hqv.symm).symm
      have ht : oneT s ws = true := by
        unfold oneT
        rw [List.any_eq_true]
        exact ⟨true, List.mem_of_getElem? hqk, rfl⟩
      rw [ht]
      repeat' (first | refine KO ?_ | (refine KV (b := by first | exact U1 k | exact U3 (hm.at 0 rfl)) (c := ?_)) | refine KI ?_ | ((refine KB ?_ ?_ <;> intro hp)) | refine KG ?_ | fail)
      all_goals first | exact ret_s rfl rfl rfl | exact absurd he hp | exact absurd hp (fun h => h he)
  · have ht : oneT s ws = false := by
      unfold oneT
      rw [List.any_eq_false]
      intro q hq
      obtain ⟨i, hi⟩ := List.mem_iff_getElem?.1 hq
      have h1 := hf i q (by have := (List.getElem?_eq_some_iff.1 hi).1; omega) hi
      simp [h1]
    rw [ht]
    repeat' (first | refine KK ?_ | ((refine KB ?_ ?_ <;> intro hp)) | refine KG ?_ | fail)
    exact ret_s rfl rfl rfl
theorem rTemplate_spec (ks : List T) (A : Option Addr) (n c : Nat) (w : World) (μ : Mem) (hμ : MOk μ w) (hk : KR μ ks (.slice A n c)) (hkn : ks.length = n) (hn : n ≤ 100000) (hks : ∀ k ∈ ks, T.size k ≤ 100000 ∧ k.s.size ≤ 65536) :
    Calls Tryz.prog 22 #[.slice A n c] w fun e w' => e = .returned (.bool (templB rExprT ks)) ∧ Below w.heap.size w w' := by
  refine call_intro (args := [.slice A n c]) Tryz.func22 rfl Tryz.ntmps22 (by simp) hμ ?_
  have hget : ∀ (i : Nat) (t : T), ks[i]? = some t → ∃ a u, A = some a ∧ MCells μ (a.add (i * 6)) (encT t u) ∧ u.oneCell' = true ∧ KR μ t.kids u := by
    obtain ⟨A', c', e, _, hg⟩ := hk.form
    cases e
    exact hg
  repeat' (first | refine KK ?_ | ((refine KB ?_ ?_ <;> intro hp)) | refine KG ?_ | fail)
  refine gc_loop (ι := Nat) (fun i => i ≤ n ∧ ∀ (j : Nat) (t : T), j < i → ks[j]? = some t → tmOk j rExprT t) (fun i => n - i) (fun _ => μ) (fun i => [(3, .int .i64 i), (0, .slice A n c)]) (fun _ => []) 0 ⟨by omega, fun j _ h => absurd h (by omega)⟩ (fun a w hs => J6 hs) ?_
  rintro i ⟨hi, hok⟩
  by_cases hlt : i < n
  · have hkk : ks[i]? = some ks[i] := List.getElem?_eq_getElem (by omega)
    generalize ks[i] = t at hkk
    obtain ⟨ad, x, rfl, hm, ho, hkx⟩ := hget i t hkk
    have hts := hks t (List.mem_of_getElem? hkk)
    have hr : (i : Int).tmod 2 = ((i % 2 : Nat) : Int) := rfl
    have hcall := fun (w : World) (μc : Mem) (hw : MOk μc w) (hle : MLe μ μc) => rExpr_spec t x w μc hw (hkx.mono hle) hts.1 hts.2
    by_cases hp1 : tmOk i rExprT t
    · have hnext : ∀ (j : Nat) (t : T), j < i + 1 → ks[j]? = some t → tmOk j rExprT t := fun j t' hj ht => by
        rcases Nat.lt_or_ge j i with h | h
        · exact hok j t' h ht
        · obtain rfl : j = i := by omega
          rw [hkk] at ht
          cases ht
          exact hp1
      unfold tmOk at hp1
      by_cases h2 : i % 2 = 0
      · rw [if_pos h2] at hp1
        repeat' (first | refine KO ?_ | ((with_reducible apply C1); exact rfl; exact EN; exact fun w μc hw hse => hcall w μc hw hse.le) | (refine KV (b := by first | exact U1 i | exact U4 hm) (c := ?_)) | refine KI ?_ | ((refine KB ?_ ?_ <;> intro hp)) | refine KG ?_ | fail)
        all_goals first
          | exact J2 (i + 1) ⟨by omega, hnext⟩ (by omega)
          | (exfalso; omega)
      · rw [if_neg h2] at hp1
        rw [hp1] at hcall
        repeat' (first | refine KO ?_ | ((with_reducible apply C1); exact rfl; exact EN; exact fun w μc hw hse => hcall w μc hw hse.le) | (refine KV (b := by first | exact U1 i | exact U4 hm) (c := ?_)) | refine KI ?_ | ((refine KB ?_ ?_ <;> intro hp)) | refine KG ?_ | fail)
        all_goals first
          | exact J2 (i + 1) ⟨by omega, hnext⟩ (by omega)
          | (exfalso; omega)
    · rw [templB_f fun h => hp1 (h.2 i t hkk)]
      unfold tmOk at hp1
      by_cases h2 : i % 2 = 0
      · rw [if_pos h2] at hp1
        repeat' (first | refine KO ?_ | ((with_reducible apply C1); exact rfl; exact EN; exact fun w μc hw hse => hcall w μc hw hse.le) | (refine KV (b := by first | exact U1 i | exact U4 hm) (c := ?_)) | refine KI ?_ | ((refine KB ?_ ?_ <;> intro hp)) | refine KG ?_ | fail)
        all_goals first
          | exact ret_s rfl rfl rfl
          | (exfalso; omega)
      · rw [if_neg h2] at hp1
        rw [Bool.not_eq_true _ |>.mp hp1] at hcall
        repeat' (first | refine KO ?_ | ((with_reducible apply C1); exact rfl; exact EN; exact fun w μc hw hse => hcall w μc hw hse.le) | (refine KV (b := by first | exact U1 i | exact U4 hm) (c := ?_)) | refine KI ?_ | ((refine KB ?_ ?_ <;> intro hp)) | refine KG ?_ | fail)
        all_goals first
          | exact ret_s rfl rfl rfl
          | (exfalso; omega)
  · obtain rfl : i = n := by omega
    have hr : (i : Int).tmod 2 = ((i % 2 : Nat) : Int) := rfl
    have hg : templB rExprT ks = decide ((i : Int).tmod 2 = 1) := by
      by_cases h : i % 2 = 1
      · rw [templB_t ⟨by rw [hkn]; exact h, fun j t hj => hok j t (by have := (List.getElem?_eq_some_iff.1 hj).1; omega) hj⟩]
        symm
        rw [decide_eq_true_eq]
        omega
      · rw [templB_f fun hf => h (by rw [← hkn]; exact hf.1)]
        symm
        rw [decide_eq_false_iff_not]
        omega
    rw [hg]
    repeat' (first | refine KK ?_ | ((refine KB ?_ ?_ <;> intro hp)) | refine KG ?_ | fail)
    exact ret_s rfl rfl rfl
theorem chained_spec : ∀ (n : Nat), n ≤ 100000 → ∀ (t : T) (u : Value) (w : World) (μ : Mem), MOk μ w → KR μ t.kids u → t.size ≤ n → Sh' t →
    Calls Tryz.prog 25 #[.agg (encT t u).toArray] w fun e w' => e = .returned (.bool (chB t)) ∧ Below w.heap.size w w' := by
  intro n
  induction n with
  | zero => intro _ t u w μ hμ hk hn; exact absurd hn (by rw [T.size_eq]; omega)
  | succ n ih =>
    intro hnb t u w μ hμ hk hn hsh
    have ho := hk.one
    have hlen := kidsLe t
    obtain ⟨A, c, rfl, hlc, hkid⟩ := hk.form
    have hcall := fun (w : World) (μc : Mem) (hw : MOk μc w) (hle : MLe μ μc) => rLink_spec t _ w μc hw (hk.mono hle) (by omega) hsh.s
    refine call_intro (args := [.agg (encT t (.slice A t.kids.length c)).toArray]) Tryz.func25 rfl Tryz.ntmps25 (by simp) hμ ?_
    cases hl : linkT t
    · rw [hl] at hcall
      rw [chB_f (ch_link hl)]
      repeat' (first | refine KO ?_ | ((with_reducible apply F1 21); exact rfl; exact EN; (exact fun w μc hw hse => hcall w μc hw hse.le)) | refine KI ?_ | refine NB fun b => ?_ | ((refine KB ?_ ?_ <;> intro hp)) | refine KG ?_ | fail)
      all_goals first | exact ret_s rfl rfl rfl | (exfalso; omega)
    · rw [hl] at hcall
      by_cases hn1 : t.n = 1
      · rw [chB_t (.one hl hn1)]
        repeat' (first | refine KO ?_ | ((with_reducible apply F1 21); exact rfl; exact EN; (exact fun w μc hw hse => hcall w μc hw hse.le)) | refine KI ?_ | refine NB fun b => ?_ | ((refine KB ?_ ?_ <;> intro hp)) | refine KG ?_ | fail)
        all_goals first | exact ret_s rfl rfl rfl | (exfalso; omega)
      · by_cases h0 : t.kids.length = 0
        · rw [chB_f (ch_nil hn1 (by rw [List.getElem?_eq_none_iff]; omega))]
          repeat' (first | refine KO ?_ | ((with_reducible apply F1 21); exact rfl; exact EN; (exact fun w μc hw hse => hcall w μc hw hse.le)) | refine KI ?_ | refine NB fun b => ?_ | ((refine KB ?_ ?_ <;> intro hp)) | refine KG ?_ | fail)
          all_goals first | exact ret_s rfl rfl rfl | (exfalso; omega)
        · have hk0 : t.kids[0]? = some t.kids[0] := List.getElem?_eq_getElem (by omega)
          generalize t.kids[0] = k at hk0
          obtain ⟨ad2, x2, rfl, hm2, ho2, hkx2⟩ := hkid 0 k hk0
          have hks := T.size_kid hk0
          have hB : chB t = chB k := by
            by_cases hc : Chained k
            · rw [chB_t hc, chB_t ((ch_iff hl hn1 hk0).2 hc)]
            · rw [chB_f hc, chB_f fun h => hc ((ch_iff hl hn1 hk0).1 h)]
          have hck := fun (w : World) (μc : Mem) (hw : MOk μc w) (hle : MLe μ μc) => ih (by omega) k x2 w μc hw (hkx2.mono hle) (by omega) (hsh.kid (List.mem_of_getElem? hk0))
          rw [hB]
          repeat' (first | refine KO ?_ | ((with_reducible apply F1 21); exact rfl; exact EN; (exact fun w μc hw hse => hcall w μc hw hse.le)) | ((with_reducible apply F1 25); exact rfl; exact EN; (exact fun w μc hw hse => hck w μc hw hse.le)) | (refine KV (b := by first | exact U1 0 | exact U4 hm2) (c := ?_)) | refine KI ?_ | refine NB fun b => ?_ | ((refine KB ?_ ?_ <;> intro hp)) | refine KG ?_ | fail)
          all_goals first | exact ret_s rfl rfl rfl | (exfalso; omega)
end Go.Proofs.YtfabmichdhbiaaaGreatDoor
namespace Go.Proofs.YtfabmichdhbiaaaGreatDoor
open Go.RowKit Go.Vcg
def bitL : List Int := [1, 2, 8, 16, 32]
def whatT (h : Int → Bool) (k : Nat) : Nat := ((bitL.take k).filter h).length
theorem whatT_0 (h : Int → Bool) : whatT h 0 = 0 := rfl
theorem whatT_s {h : Int → Bool} {k : Nat} {m : Int} (hk : bitL[k]? = some m) : whatT h (k + 1) = whatT h k + (if h m = true then 1 else 0) := by
  unfold whatT
  rw [List.take_add_one, hk, List.filter_append, List.length_append]
  cases hm : h m <;> simp [List.filter_cons, hm]
theorem whatT_le (h : Int → Bool) (k : Nat) : whatT h k ≤ 5 := by
  unfold whatT
  have h1 := List.length_filter_le h (bitL.take k)
  have h2 : (bitL.take k).length ≤ 5 := by rw [List.length_take]; exact Nat.min_le_right _ _
  omega
noncomputable def bitsT (t : T) : Bool :=
  if t.n < 0 ∨ 255 < t.n ∨ t.s ≠ ⟨#[]⟩ ∧ formB t.s = false then false
  else if 1 < whatT (hasT t) 5 ∨ hasT t 4 = true ∧ hasT t 50 = true ∨ hasT t 128 = true ∧ hasT t 2 = false then false
  else if hasT t 1 = true then decide (t.s ≠ ⟨#[]⟩)
  else decide (whatT (hasT t) 5 = 0) || decide (t.s = ⟨#[]⟩)
attribute [local irreducible] formB hasT whatT G GC GQ GA GAop Calls IntKind.wrap Int.decLt Int.decLe
theorem bits_spec (t : T) (u : Value) (w : World) (μ : Mem) (hμ : MOk μ w) (hk : KR μ t.kids u) (hs : t.size ≤ 100000) (hss : t.s.size ≤ 65536) :
    Calls Tryz.prog 49 #[.agg (encT t u).toArray] w fun e w' => e = .returned (.bool (bitsT t)) ∧ Below w.heap.size w w' := by
  have ho := hk.one
  refine call_intro (args := [.agg (encT t u).toArray]) Tryz.func49 rfl Tryz.ntmps49 (by simp) hμ ?_
  have hform := fun (w : World) (μc : Mem) (hw : MOk μc w) => form_spec t.s hss w μc hw
  have hhas := fun (m : Int) (w : World) (μc : Mem) (hw : MOk μc w) (hle : MLe μ μc) => tHas_spec m t u w μc hw (hk.mono hle) hs
  by_cases h1 : t.n < 0 ∨ 255 < t.n ∨ t.s ≠ ⟨#[]⟩ ∧ formB t.s = false
  · have hg : bitsT t = false := by unfold bitsT; rw [if_pos h1]
    rw [hg]
    repeat' (first | ((with_reducible show GC _ _ (Code.seq (Code.region 3 _ _) _) _ _ _ _); (apply gc_stop)) | refine KO ?_ | ((with_reducible apply F1 86); exact rfl; exact EN; (exact fun w μc hw hse => hform w μc hw)) | refine KI ?_ | refine NB fun b => ?_ | ((refine KB ?_ ?_ <;> intro hp)) | refine KG ?_ | fail)
    all_goals first | exact ret_s rfl rfl rfl | (exfalso; omega) | (exfalso; simp_all; try omega)
  · repeat' (first | ((with_reducible show GC _ _ (Code.seq (Code.region 3 _ _) _) _ _ _ _); (apply gc_stop)) | refine KO ?_ | ((with_reducible apply F1 86); exact rfl; exact EN; (exact fun w μc hw hse => hform w μc hw)) | refine KI ?_ | refine NB fun b => ?_ | ((refine KB ?_ ?_ <;> intro hp)) | refine KG ?_ | fail)
    rotate_left
    · exfalso
      simp_all
    rotate_left
    all_goals
      refine gcs ?_
      rename Nat => ba
      have hg : bitsT t = (if 1 < whatT (hasT t) 5 ∨ hasT t 4 = true ∧ hasT t 50 = true ∨ hasT t 128 = true ∧ hasT t 2 = false then false else if hasT t 1 = true then decide (t.s ≠ ⟨#[]⟩) else decide (whatT (hasT t) 5 = 0) || decide (t.s = ⟨#[]⟩)) := by unfold bitsT; rw [if_neg h1]
      have hw5 := whatT_le (hasT t) 5
      repeat' (first | refine KK ?_ | refine NB fun b => ?_ | ((refine KB ?_ ?_ <;> intro hp)) | refine KG ?_ | fail)
      refine gc_loop (ι := Nat) (fun i => i ≤ 5) (fun i => 5 - i) (fun _ => μ) (fun i => [(27, .int .i64 i), (26, .int .i64 5), (25, .slice (some ⟨b, 0, none⟩) 5 5), (3, .int .i64 (whatT (hasT t) i)), (1, .pointer (some ⟨ba, 0, none⟩))]) (fun _ => [.inl ⟨b, 3, 5, idx 0 [.int .i64 1, .int .i64 2, .int .i64 8, .int .i64 16, .int .i64 32]⟩, .inl ⟨ba, 27, 6, idx 0 (encT t u)⟩]) 0 (by decide) (fun a w hs => by rw [whatT_0]; exact J5 hs) ?_
      intro i hi
      have hwi := whatT_le (hasT t) i
      rcases (by omega : i = 5 ∨ i = 0 ∨ i = 1 ∨ i = 2 ∨ i = 3 ∨ i = 4) with rfl | rfl | rfl | rfl | rfl | rfl
      · rw [hg]
        clear hg h1
        repeat' (first | refine KO ?_ | ((with_reducible apply F1 87); exact rfl; exact EN; (exact fun w μc hw hse => hhas _ w μc hw hse.le)) | refine KI ?_ | refine NB fun b => ?_ | ((refine KB ?_ ?_ <;> intro hp)) | refine KG ?_ | fail)
        all_goals clear hform hhas hk ho
        all_goals first | (refine ret_s rfl rfl ?_; simp_all; done) | (refine ret_s rfl rfl ?_; simp_all; omega) | (exfalso; simp_all; done)
      · have hn : whatT (hasT t) 1 = whatT (hasT t) 0 + (if hasT t 1 = true then 1 else 0) := whatT_s (k := 0) rfl
        cases hh : hasT t 1
        · rw [hh, if_neg (by simp), Nat.add_zero] at hn
          repeat' (first | refine KO ?_ | ((with_reducible apply F1 87); exact rfl; exact EN; (exact fun w μc hw hse => hh ▸ hhas 1 w μc hw hse.le)) | refine KI ?_ | refine NB fun b => ?_ | ((refine KB ?_ ?_ <;> intro hp)) | refine KG ?_ | fail)
          all_goals (rw [← hn]; exact J2 1 (by decide) (by decide))
        · rw [hh, if_pos rfl] at hn
          repeat' (first | refine KO ?_ | ((with_reducible apply F1 87); exact rfl; exact EN; (exact fun w μc hw hse => hh ▸ hhas 1 w μc hw hse.le)) | refine KI ?_ | refine NB fun b => ?_ | ((refine KB ?_ ?_ <;> intro hp)) | refine KG ?_ | fail)
          all_goals (rw [show ((whatT (hasT t) 0 : Nat) : Int) + 1 = ((whatT (hasT t) 1 : Nat) : Int) from by omega]; exact J2 1 (by decide) (by decide))
      · have hn : whatT (hasT t) 2 = whatT (hasT t) 1 + (if hasT t 2 = true then 1 else 0) := whatT_s (k := 1) rfl
        cases hh : hasT t 2
        · rw [hh, if_neg (by simp), Nat.add_zero] at hn
          repeat' (first | refine KO ?_ | ((with_reducible apply F1 87); exact rfl; exact EN; (exact fun w μc hw hse => hh ▸ hhas 2 w μc hw hse.le)) | refine KI ?_ | refine NB fun b => ?_ | ((refine KB ?_ ?_ <;> intro hp)) | refine KG ?_ | fail)
          all_goals (rw [← hn]; exact J2 2 (by decide) (by decide))
        · rw [hh, if_pos rfl] at hn
          repeat' (first | refine KO ?_ | ((with_reducible apply F1 87); exact rfl; exact EN; (exact fun w μc hw hse => hh ▸ hhas 2 w μc hw hse.le)) | refine KI ?_ | refine NB fun b => ?_ | ((refine KB ?_ ?_ <;> intro hp)) | refine KG ?_ | fail)
          all_goals (rw [show ((whatT (hasT t) 1 : Nat) : Int) + 1 = ((whatT (hasT t) 2 : Nat) : Int) from by omega]; exact J2 2 (by decide) (by decide))
      · have hn : whatT (hasT t) 3 = whatT (hasT t) 2 + (if hasT t 8 = true then 1 else 0) := whatT_s (k := 2) rfl
        cases hh : hasT t 8
        · rw [hh, if_neg (by simp), Nat.add_zero] at hn
          repeat' (first | refine KO ?_ | ((with_reducible apply F1 87); exact rfl; exact EN; (exact fun w μc hw hse => hh ▸ hhas 8 w μc hw hse.le)) | refine KI ?_ | refine NB fun b => ?_ | ((refine KB ?_ ?_ <;> intro hp)) | refine KG ?_ | fail)
          all_goals (rw [← hn]; exact J2 3 (by decide) (by decide))
        · rw [hh, if_pos rfl] at hn
          repeat' (first | refine KO ?_ | ((with_reducible apply F1 87); exact rfl; exact EN; (exact fun w μc hw hse => hh ▸ hhas 8 w μc hw hse.le)) | refine KI ?_ | refine NB fun b => ?_ | ((refine KB ?_ ?_ <;> intro hp)) | refine KG ?_ | fail)
          all_goals (rw [show ((whatT (hasT t) 2 : Nat) : Int) + 1 = ((whatT (hasT t) 3 : Nat) : Int) from by omega]; exact J2 3 (by decide) (by decide))
      · have hn : whatT (hasT t) 4 = whatT (hasT t) 3 + (if hasT t 16 = true then 1 else 0) := whatT_s (k := 3) rfl
        cases hh : hasT t 16
        · rw [hh, if_neg (by simp), Nat.add_zero] at hn
          repeat' (first | refine KO ?_ | ((with_reducible apply F1 87); exact rfl; exact EN; (exact fun w μc hw hse => hh ▸ hhas 16 w μc hw hse.le)) | refine KI ?_ | refine NB fun b => ?_ | ((refine KB ?_ ?_ <;> intro hp)) | refine KG ?_ | fail)
          all_goals (rw [← hn]; exact J2 4 (by decide) (by decide))
        · rw [hh, if_pos rfl] at hn
          repeat' (first | refine KO ?_ | ((with_reducible apply F1 87); exact rfl; exact EN; (exact fun w μc hw hse => hh ▸ hhas 16 w μc hw hse.le)) | refine KI ?_ | refine NB fun b => ?_ | ((refine KB ?_ ?_ <;> intro hp)) | refine KG ?_ | fail)
          all_goals (rw [show ((whatT (hasT t) 3 : Nat) : Int) + 1 = ((whatT (hasT t) 4 : Nat) : Int) from by omega]; exact J2 4 (by decide) (by decide))
      · have hn : whatT (hasT t) 5 = whatT (hasT t) 4 + (if hasT t 32 = true then 1 else 0) := whatT_s (k := 4) rfl
        cases hh : hasT t 32
        · rw [hh, if_neg (by simp), Nat.add_zero] at hn
          repeat' (first | refine KO ?_ | ((with_reducible apply F1 87); exact rfl; exact EN; (exact fun w μc hw hse => hh ▸ hhas 32 w μc hw hse.le)) | refine KI ?_ | refine NB fun b => ?_ | ((refine KB ?_ ?_ <;> intro hp)) | refine KG ?_ | fail)
          all_goals (rw [← hn]; exact J2 5 (by decide) (by decide))
        · rw [hh, if_pos rfl] at hn
          repeat' (first | refine KO ?_ | ((with_reducible apply F1 87); exact rfl; exact EN; (exact fun w μc hw hse => hh ▸ hhas 32 w μc hw hse.le)) | refine KI ?_ | refine NB fun b => ?_ | ((refine KB ?_ ?_ <;> intro hp)) | refine KG ?_ | fail)
          all_goals (rw [show ((whatT (hasT t) 4 : Nat) : Int) + 1 = ((whatT (hasT t) 5 : Nat) : Int) from by omega]; exact J2 5 (by decide) (by decide))
end Go.Proofs.YtfabmichdhbiaaaGreatDoor
namespace Go.Proofs.YtfabmichdhbiaaaGreatDoor
open Go.RowKit Go.Vcg
noncomputable def fnT (t : T) : Bool :=
  if t.n < 0 ∨ 255 < t.n ∨ t.s ≠ ⟨#[]⟩ ∧ formB t.s = false then false
  else (if 1 < whatT (bitT t) 5 ∨ bitT t 4 = true ∧ (bitT t 2 = true ∨ bitT t 16 = true ∨ bitT t 32 = true) ∨ bitT t 128 = true ∧ bitT t 2 = false then false else if bitT t 1 = true then decide (t.s ≠ ⟨#[]⟩) else decide (whatT (bitT t) 5 = 0) || decide (t.s = ⟨#[]⟩))
attribute [local irreducible] formB bitT whatT G GC GQ GA GAop Calls IntKind.wrap Int.decLt Int.decLe
theorem fn_spec (t : T) (u : Value) (w : World) (μ : Mem) (hμ : MOk μ w) (hk : KR μ t.kids u) (hs : t.size ≤ 100000) (hss : t.s.size ≤ 65536) :
    Calls Tryz.prog 43 #[.agg (encT t u).toArray] w fun e w' => e = .returned (.bool (fnT t)) ∧ Below w.heap.size w w' := by
  have ho := hk.one
  refine call_intro (args := [.agg (encT t u).toArray]) Tryz.func43 rfl Tryz.ntmps43 (by simp) hμ ?_
  have hform := fun (w : World) (μc : Mem) (hw : MOk μc w) => rForm_spec t.s hss w μc hw
  have hhas := fun (m : Int) (hm : m ≠ 0) (w : World) (μc : Mem) (hw : MOk μc w) (hle : MLe μ μc) => rBit_spec m hm t u w μc hw (hk.mono hle)
  by_cases h1 : t.n < 0 ∨ 255 < t.n ∨ t.s ≠ ⟨#[]⟩ ∧ formB t.s = false
  · have hg : fnT t = false := by unfold fnT; rw [if_pos h1]
    rw [hg]
    repeat' (first | ((with_reducible show GC _ _ (Code.seq (Code.region 3 _ _) _) _ _ _ _); (apply gc_stop)) | refine KO ?_ | ((with_reducible apply F1 76); exact rfl; exact EN; (exact fun w μc hw hse => hform w μc hw)) | refine KI ?_ | refine NB fun b => ?_ | ((refine KB ?_ ?_ <;> intro hp)) | refine KG ?_ | fail)
    all_goals first | exact ret_s rfl rfl rfl | (exfalso; omega) | (exfalso; simp_all; try omega)
  · repeat' (first | ((with_reducible show GC _ _ (Code.seq (Code.region 3 _ _) _) _ _ _ _); (apply gc_stop)) | refine KO ?_ | ((with_reducible apply F1 76); exact rfl; exact EN; (exact fun w μc hw hse => hform w μc hw)) | refine KI ?_ | refine NB fun b => ?_ | ((refine KB ?_ ?_ <;> intro hp)) | refine KG ?_ | fail)
    rotate_left
    · exfalso
      simp_all
    rotate_left
    all_goals
      refine gcs ?_
      rename Nat => ba
      have hg : fnT t = (if 1 < whatT (bitT t) 5 ∨ bitT t 4 = true ∧ (bitT t 2 = true ∨ bitT t 16 = true ∨ bitT t 32 = true) ∨ bitT t 128 = true ∧ bitT t 2 = false then false else if bitT t 1 = true then decide (t.s ≠ ⟨#[]⟩) else decide (whatT (bitT t) 5 = 0) || decide (t.s = ⟨#[]⟩)) := by unfold fnT; rw [if_neg h1]
      have hw5 := whatT_le (bitT t) 5
      repeat' (first | refine KK ?_ | refine NB fun b => ?_ | ((refine KB ?_ ?_ <;> intro hp)) | refine KG ?_ | fail)
      refine gc_loop (ι := Nat) (fun i => i ≤ 5) (fun i => 5 - i) (fun _ => μ) (fun i => [(5, .int .i64 i), (4, .slice (some ⟨b, 0, none⟩) 5 5), (3, .int .i64 (whatT (bitT t) i)), (1, .pointer (some ⟨ba, 0, none⟩))]) (fun _ => [.inl ⟨b, 3, 5, idx 0 [.int .i64 1, .int .i64 2, .int .i64 8, .int .i64 16, .int .i64 32]⟩, .inl ⟨ba, 27, 6, idx 0 (encT t u)⟩]) 0 (by decide) (fun a w hs => by rw [whatT_0]; exact J5 hs) ?_
      intro i hi
      have hwi := whatT_le (bitT t) i
      rcases (by omega : i = 5 ∨ i = 0 ∨ i = 1 ∨ i = 2 ∨ i = 3 ∨ i = 4) with rfl | rfl | rfl | rfl | rfl | rfl
      · rw [hg]
        clear hg h1
        repeat' (first | refine KO ?_ | ((with_reducible apply F1 77); exact rfl; exact EN; (exact fun w μc hw hse => hhas _ (by decide) w μc hw hse.le)) | refine KI ?_ | refine NB fun b => ?_ | ((refine KB ?_ ?_ <;> intro hp)) | refine KG ?_ | fail)
        all_goals clear hform hhas hk ho
        all_goals first | (refine ret_s rfl rfl ?_; simp_all; done) | (refine ret_s rfl rfl ?_; simp_all; omega) | (exfalso; simp_all; done)
      · have hn : whatT (bitT t) 1 = whatT (bitT t) 0 + (if bitT t 1 = true then 1 else 0) := whatT_s (k := 0) rfl
        cases hh : bitT t 1
        · rw [hh, if_neg (by simp), Nat.add_zero] at hn
          repeat' (first | refine KK ?_ | refine NB fun b => ?_ | ((refine KB ?_ ?_ <;> intro hp)) | refine KG ?_ | fail)
          refine gc_draw 6 _ (by kernel_rfl) rfl (List.Sublist.cons_cons _ (List.Sublist.cons_cons _ (List.nil_sublist _))) ?_
          all_goals (first | refine D1 0 ?_ | (refine DV (k := 0) (b := by first | exact U1 0) (c := ?_)) | (refine D3 0 (DW (b := by first | exact U1 0) (c := ?_))) | refine DD 0 ?_ | fail)
          all_goals refine DD 1 ?_
          all_goals refine DD 2 ?_
          all_goals (first | refine D1 3 ?_ | (refine DV (k := 3) (b := by first | exact U1 0) (c := ?_)) | refine DD 3 ?_ | fail)
          all_goals (first | refine D1 4 ?_ | (refine DV (k := 4) (b := by first | exact U1 0) (c := ?_)) | (refine D3 4 (DW (b := by first | exact U1 0) (c := ?_))) | refine DD 4 ?_ | fail)
          all_goals (first | (refine D3 5 ?_; refine D5 ?_; (with_reducible apply F1 77); exact rfl; exact EN; (exact fun w μc hw hse => hh ▸ hhas 1 (by decide) w μc hw hse.le); refine D9 ?_))
          all_goals refine D8 ?_
          repeat' (first | refine KK ?_ | refine NB fun b => ?_ | ((refine KB ?_ ?_ <;> intro hp)) | refine KG ?_ | fail)
          all_goals first | (rw [← hn]; exact J2 1 (by decide) (by decide)) | (exfalso; omega)
        · rw [hh, if_pos rfl] at hn
          repeat' (first | refine KK ?_ | refine NB fun b => ?_ | ((refine KB ?_ ?_ <;> intro hp)) | refine KG ?_ | fail)
          refine gc_draw 6 _ (by kernel_rfl) rfl (List.Sublist.cons_cons _ (List.Sublist.cons_cons _ (List.nil_sublist _))) ?_
          all_goals (first | refine D1 0 ?_ | (refine DV (k := 0) (b := by first | exact U1 0) (c := ?_)) | (refine D3 0 (DW (b := by first | exact U1 0) (c := ?_))) | refine DD 0 ?_ | fail)
          all_goals refine DD 1 ?_
          all_goals refine DD 2 ?_
          all_goals (first | refine D1 3 ?_ | (refine DV (k := 3) (b := by first | exact U1 0) (c := ?_)) | refine DD 3 ?_ | fail)
          all_goals (first | refine D1 4 ?_ | (refine DV (k := 4) (b := by first | exact U1 0) (c := ?_)) | (refine D3 4 (DW (b := by first | exact U1 0) (c := ?_))) | refine DD 4 ?_ | fail)
          all_goals (first | (refine D3 5 ?_; refine D5 ?_; (with_reducible apply F1 77); exact rfl; exact EN; (exact fun w μc hw hse => hh ▸ hhas 1 (by decide) w μc hw hse.le); refine D9 ?_))
          all_goals refine D8 ?_
          repeat' (first | refine KK ?_ | refine NB fun b => ?_ | ((refine KB ?_ ?_ <;> intro hp)) | refine KG ?_ | fail)
          all_goals first | (rw [show ((whatT (bitT t) 0 : Nat) : Int) + 1 = ((whatT (bitT t) 1 : Nat) : Int) from by omega]; exact J2 1 (by decide) (by decide)) | (exfalso; omega)
      · have hn : whatT (bitT t) 2 = whatT (bitT t) 1 + (if bitT t 2 = true then 1 else 0) := whatT_s (k := 1) rfl
        cases hh : bitT t 2
        · rw [hh, if_neg (by simp), Nat.add_zero] at hn
          repeat' (first | refine KK ?_ | refine NB fun b => ?_ | ((refine KB ?_ ?_ <;> intro hp)) | refine KG ?_ | fail)
          refine gc_draw 6 _ (by kernel_rfl) rfl (List.Sublist.cons_cons _ (List.Sublist.cons_cons _ (List.nil_sublist _))) ?_
          all_goals (first | refine D1 0 ?_ | (refine DV (k := 0) (b := by first | exact U1 1) (c := ?_)) | (refine D3 0 (DW (b := by first | exact U1 1) (c := ?_))) | refine DD 0 ?_ | fail)
          all_goals refine DD 1 ?_
          all_goals refine DD 2 ?_
          all_goals (first | refine D1 3 ?_ | (refine DV (k := 3) (b := by first | exact U1 1) (c := ?_)) | refine DD 3 ?_ | fail)
          all_goals (first | refine D1 4 ?_ | (refine DV (k := 4) (b := by first | exact U1 1) (c := ?_)) | (refine D3 4 (DW (b := by first | exact U1 1) (c := ?_))) | refine DD 4 ?_ | fail)
          all_goals (first | (refine D3 5 ?_; refine D5 ?_; (with_reducible apply F1 77); exact rfl; exact EN; (exact fun w μc hw hse => hh ▸ hhas 2 (by decide) w μc hw hse.le); refine D9 ?_))
          all_goals refine D8 ?_
          repeat' (first | refine KK ?_ | refine NB fun b => ?_ | ((refine KB ?_ ?_ <;> intro hp)) | refine KG ?_ | fail)
          all_goals first | (rw [← hn]; exact J2 2 (by decide) (by decide)) | (exfalso; omega)
        · rw [hh, if_pos rfl] at hn
          repeat' (first | refine KK ?_ | refine NB fun b => ?_ | ((refine KB ?_ ?_ <;> intro hp)) | refine KG ?_ | fail)
          refine gc_draw 6 _ (by kernel_rfl) rfl (List.Sublist.cons_cons _ (List.Sublist.cons_cons _ (List.nil_sublist _))) ?_
          all_goals (first | refine D1 0 ?_ | (refine DV (k := 0) (b := by first | exact U1 1) (c := ?_)) | (refine D3 0 (DW (b := by first | exact U1 1) (c := ?_))) | refine DD 0 ?_ | fail)
          all_goals refine DD 1 ?_
          all_goals refine DD 2 ?_
          all_goals (first | refine D1 3 ?_ | (refine DV (k := 3) (b := by first | exact U1 1) (c := ?_)) | refine DD 3 ?_ | fail)
          all_goals (first | refine D1 4 ?_ | (refine DV (k := 4) (b := by first | exact U1 1) (c := ?_)) | (refine D3 4 (DW (b := by first | exact U1 1) (c := ?_))) | refine DD 4 ?_ | fail)
          all_goals (first | (refine D3 5 ?_; refine D5 ?_; (with_reducible apply F1 77); exact rfl; exact EN; (exact fun w μc hw hse => hh ▸ hhas 2 (by decide) w μc hw hse.le); refine D9 ?_))
          all_goals refine D8 ?_
          repeat' (first | refine KK ?_ | refine NB fun b => ?_ | ((refine KB ?_ ?_ <;> intro hp)) | refine KG ?_ | fail)
          all_goals first | (rw [show ((whatT (bitT t) 1 : Nat) : Int) + 1 = ((whatT (bitT t) 2 : Nat) : Int) from by omega]; exact J2 2 (by decide) (by decide)) | (exfalso; omega)
      · have hn : whatT (bitT t) 3 = whatT (bitT t) 2 + (if bitT t 8 = true then 1 else 0) := whatT_s (k := 2) rfl
        cases hh : bitT t 8
        · rw [hh, if_neg (by simp), Nat.add_zero] at hn
          repeat' (first | refine KK ?_ | refine NB fun b => ?_ | ((refine KB ?_ ?_ <;> intro hp)) | refine KG ?_ | fail)
          refine gc_draw 6 _ (by kernel_rfl) rfl (List.Sublist.cons_cons _ (List.Sublist.cons_cons _ (List.nil_sublist _))) ?_
          all_goals (first | refine D1 0 ?_ | (refine DV (k := 0) (b := by first | exact U1 2) (c := ?_)) | (refine D3 0 (DW (b := by first | exact U1 2) (c := ?_))) | refine DD 0 ?_ | fail)
          all_goals refine DD 1 ?_
          all_goals refine DD 2 ?_
          all_goals (first | refine D1 3 ?_ | (refine DV (k := 3) (b := by first | exact U1 2) (c := ?_)) | refine DD 3 ?_ | fail)
          all_goals (first | refine D1 4 ?_ | (refine DV (k := 4) (b := by first | exact U1 2) (c := ?_)) | (refine D3 4 (DW (b := by first | exact U1 2) (c := ?_))) | refine DD 4 ?_ | fail)
          all_goals (first | (refine D3 5 ?_; refine D5 ?_; (with_reducible apply F1 77); exact rfl; exact EN; (exact fun w μc hw hse => hh ▸ hhas 8 (by decide) w μc hw hse.le); refine D9 ?_))
          all_goals refine D8 ?_
          repeat' (first | refine KK ?_ | refine NB fun b => ?_ | ((refine KB ?_ ?_ <;> intro hp)) | refine KG ?_ | fail)
          all_goals first | (rw [← hn]; exact J2 3 (by decide) (by decide)) | (exfalso; omega)
        · rw [hh, if_pos rfl] at hn
          repeat' (first | refine KK ?_ | refine NB fun b => ?_ | ((refine KB ?_ ?_ <;> intro hp)) | refine KG ?_ | fail)
          refine gc_draw 6 _ (by kernel_rfl) rfl (List.Sublist.cons_cons _ (List.Sublist.cons_cons _ (List.nil_sublist _))) ?_
          all_goals (first | refine D1 0 ?_ | (refine DV (k := 0) (b := by first | exact U1 2) (c := ?_)) | (refine D3 0 (DW (b := by first | exact U1 2) (c := ?_))) | refine DD 0 ?_ | fail)
          all_goals refine DD 1 ?_
          all_goals refine DD 2 ?_
          all_goals (first | refine D1 3 ?_ | (refine DV (k := 3) (b := by first | exact U1 2) (c := ?_)) | refine DD 3 ?_ | fail)
          all_goals (first | refine D1 4 ?_ | (refine DV (k := 4) (b := by first | exact U1 2) (c := ?_)) | (refine D3 4 (DW (b := by first | exact U1 2) (c := ?_))) | refine DD 4 ?_ | fail)
          all_goals (first | (refine D3 5 ?_; refine D5 ?_; (with_reducible apply F1 77); exact rfl; exact EN; (exact fun w μc hw hse => hh ▸ hhas 8 (by decide) w μc hw hse.le); refine D9 ?_))
          all_goals refine D8 ?_
          repeat' (first | refine KK ?_ | refine NB fun b => ?_ | ((refine KB ?_ ?_ <;> intro hp)) | refine KG ?_ | fail)
          all_goals first | (rw [show ((whatT (bitT t) 2 : Nat) : Int) + 1 = ((whatT (bitT t) 3 : Nat) : Int) from by omega]; exact J2 3 (by decide) (by decide)) | (exfalso; omega)
      · have hn : whatT (bitT t) 4 = whatT (bitT t) 3 + (if bitT t 16 = true then 1 else 0) := whatT_s (k := 3) rfl
        cases hh : bitT t 16
        · rw [hh, if_neg (by simp), Nat.add_zero] at hn
          repeat' (first | refine KK ?_ | refine NB fun b => ?_ | ((refine KB ?_ ?_ <;> intro hp)) | refine KG ?_ | fail)
          refine gc_draw 6 _ (by kernel_rfl) rfl (List.Sublist.cons_cons _ (List.Sublist.cons_cons _ (List.nil_sublist _))) ?_
          all_goals (first | refine D1 0 ?_ | (refine DV (k := 0) (b := by first | exact U1 3) (c := ?_)) | (refine D3 0 (DW (b := by first | exact U1 3) (c := ?_))) | refine DD 0 ?_ | fail)
          all_goals refine DD 1 ?_
          all_goals refine DD 2 ?_
          all_goals (first | refine D1 3 ?_ | (refine DV (k := 3) (b := by first | exact U1 3) (c := ?_)) | refine DD 3 ?_ | fail)
          all_goals (first | refine D1 4 ?_ | (refine DV (k := 4) (b := by first | exact U1 3) (c := ?_)) | (refine D3 4 (DW (b := by first | exact U1 3) (c := ?_))) | refine DD 4 ?_ | fail)
          all_goals (first | (refine D3 5 ?_; refine D5 ?_; (with_reducible apply F1 77); exact rfl; exact EN; (exact fun w μc hw hse => hh ▸ hhas 16 (by decide) w μc hw hse.le); refine D9 ?_))
          all_goals refine D8 ?_
          repeat' (first | refine KK ?_ | refine NB fun b => ?_ | ((refine KB ?_ ?_ <;> intro hp)) | refine KG ?_ | fail)
          all_goals first | (rw [← hn]; exact J2 4 (by decide) (by decide)) | (exfalso; omega)
        · rw [hh, if_pos rfl] at hn
          repeat' (first | refine KK ?_ | refine NB fun b => ?_ | ((refine KB ?_ ?_ <;> intro hp)) | refine KG ?_ | fail)
          refine gc_draw 6 _ (by kernel_rfl) rfl (List.Sublist.cons_cons _ (List.Sublist.cons_cons _ (List.nil_sublist _))) ?_
          all_goals (first | refine D1 0 ?_ | (refine DV (k := 0) (b := by first | exact U1 3) (c := ?_)) | (refine D3 0 (DW (b := by first | exact U1 3) (c := ?_))) | refine DD 0 ?_ | fail)
          all_goals refine DD 1 ?_
          all_goals refine DD 2 ?_
          all_goals (first | refine D1 3 ?_ | (refine DV (k := 3) (b := by first | exact U1 3) (c := ?_)) | refine DD 3 ?_ | fail)
          all_goals (first | refine D1 4 ?_ | (refine DV (k := 4) (b := by first | exact U1 3) (c := ?_)) | (refine D3 4 (DW (b := by first | exact U1 3) (c := ?_))) | refine DD 4 ?_ | fail)
          all_goals (first | (refine D3 5 ?_; refine D5 ?_; (with_reducible apply F1 77); exact rfl; exact EN; (exact fun w μc hw hse => hh ▸ hhas 16 (by decide) w μc hw hse.le); refine D9 ?_))
          all_goals refine D8 ?_
          repeat' (first | refine KK ?_ | refine NB fun b => ?_ | ((refine KB ?_ ?_ <;> intro hp)) | refine KG ?_ | fail)
          all_goals first | (rw [show ((whatT (bitT t) 3 : Nat) : Int) + 1 = ((whatT (bitT t) 4 : Nat) : Int) from by omega]; exact J2 4 (by decide) (by decide)) | (exfalso; omega)
      · have hn : whatT (bitT t) 5 = whatT (bitT t) 4 + (if bitT t 32 = true then 1 else 0) := whatT_s (k := 4) rfl
        cases hh : bitT t 32
        · rw [hh, if_neg (by simp), Nat.add_zero] at hn
          repeat' (first | refine KK ?_ | refine NB fun b => ?_ | ((refine KB ?_ ?_ <;> intro hp)) | refine KG ?_ | fail)
          refine gc_draw 6 _ (by kernel_rfl) rfl (List.Sublist.cons_cons _ (List.Sublist.cons_cons _ (List.nil_sublist _))) ?_
          all_goals (first | refine D1 0 ?_ | (refine DV (k := 0) (b := by first | exact U1 4) (c := ?_)) | (refine D3 0 (DW (b := by first | exact U1 4) (c := ?_))) | refine DD 0 ?_ | fail)
          all_goals refine DD 1 ?_
          all_goals refine DD 2 ?_
          all_goals (first | refine D1 3 ?_ | (refine DV (k := 3) (b := by first | exact U1 4) (c := ?_)) | refine DD 3 ?_ | fail)
          all_goals (first | refine D1 4 ?_ | (refine DV (k := 4) (b := by first | exact U1 4) (c := ?_)) | (refine D3 4 (DW (b := by first | exact U1 4) (c := ?_))) | refine DD 4 ?_ | fail)
          all_goals (first | (refine D3 5 ?_; refine D5 ?_; (with_reducible apply F1 77); exact rfl; exact EN; (exact fun w μc hw hse => hh ▸ hhas 32 (by decide) w μc hw hse.le); refine D9 ?_))
          all_goals refine D8 ?_
          repeat' (first | refine KK ?_ | refine NB fun b => ?_ | ((refine KB ?_ ?_ <;> intro hp)) | refine KG ?_ | fail)
          all_goals first | (rw [← hn]; exact J2 5 (by decide) (by decide)) | (exfalso; omega)
        · rw [hh, if_pos rfl] at hn
          repeat' (first | refine KK ?_ | refine NB fun b => ?_ | ((refine KB ?_ ?_ <;> intro hp)) | refine KG ?_ | fail)
          refine gc_draw 6 _ (by kernel_rfl) rfl (List.Sublist.cons_cons _ (List.Sublist.cons_cons _ (List.nil_sublist _))) ?_
          all_goals (first | refine D1 0 ?_ | (refine DV (k := 0) (b := by first | exact U1 4) (c := ?_)) | (refine D3 0 (DW (b := by first | exact U1 4) (c := ?_))) | refine DD 0 ?_ | fail)
          all_goals refine DD 1 ?_
          all_goals refine DD 2 ?_
          all_goals (first | refine D1 3 ?_ | (refine DV (k := 3) (b := by first | exact U1 4) (c := ?_)) | refine DD 3 ?_ | fail)
          all_goals (first | refine D1 4 ?_ | (refine DV (k := 4) (b := by first | exact U1 4) (c := ?_)) | (refine D3 4 (DW (b := by first | exact U1 4) (c := ?_))) | refine DD 4 ?_ | fail)
          all_goals (first | (refine D3 5 ?_; refine D5 ?_; (with_reducible apply F1 77); exact rfl; exact EN; (exact fun w μc hw hse => hh ▸ hhas 32 (by decide) w μc hw hse.le); refine D9 ?_))
          all_goals refine D8 ?_
          repeat' (first | refine KK ?_ | refine NB fun b => ?_ | ((refine KB ?_ ?_ <;> intro hp)) | refine KG ?_ | fail)
          all_goals first | (rw [show ((whatT (bitT t) 4 : Nat) : Int) + 1 = ((whatT (bitT t) 5 : Nat) : Int) from by omega]; exact J2 5 (by decide) (by decide)) | (exfalso; omega)
end Go.Proofs.YtfabmichdhbiaaaGreatDoor
namespace Go.Proofs.YtfabmichdhbiaaaGreatDoor
open Go.RowKit Go.Vcg
theorem one43 (s : ByteArray) : oneT s words43 = (decide (s = ⟨#[43, 43]⟩) || decide (s = ⟨#[45, 45]⟩)) := by
  unfold oneT eqsT words43
  simp only [List.map_cons, List.map_nil, List.any_cons, List.any_nil, Bool.or_false, id_eq]
theorem one45 (s : ByteArray) : oneT s words45 = (decide (s = ⟨#[38, 38]⟩) || (decide (s = ⟨#[124, 124]⟩) || decide (s = ⟨#[63, 63]⟩))) := by
  unfold oneT eqsT words45
  simp only [List.map_cons, List.map_nil, List.any_cons, List.any_nil, Bool.or_false, id_eq]
attribute [local irreducible] formB oneT G GC GQ GA GAop Calls IntKind.wrap Int.decLt Int.decLe
theorem rwd_42 (t : T) (u : Value) (w : World) (μ : Mem) (hμ : MOk μ w) (hk : KR μ t.kids u) (hop : t.op = 42) :
    Calls Tryz.prog 44 #[.agg (encT t u).toArray] w fun e w' => e = .returned (.bool (oneT t.s words42)) ∧ Below w.heap.size w w' := by
  have ho := hk.one
  refine call_intro (args := [.agg (encT t u).toArray]) Tryz.func44 rfl Tryz.ntmps44 (by simp) hμ ?_
  repeat' (first | refine KO ?_ | ((with_reducible apply F1 78); exact rfl; exact EN; (exact fun w μc hw hse => rOne_spec t.s words42 _ _ _ w μc hw (sl_lit hse.hd rfl (by simp) (by repeat first | exact lc_nil | refine lc_cons rfl ?_)) (by decide))) | refine KI ?_ | refine NB fun b => ?_ | ((refine KB ?_ ?_ <;> intro hp)) | refine KG ?_ | fail)
  all_goals first | exact ret_s rfl rfl rfl | (exfalso; omega)
theorem rwd_44 (t : T) (u : Value) (w : World) (μ : Mem) (hμ : MOk μ w) (hk : KR μ t.kids u) (hop : t.op = 44) :
    Calls Tryz.prog 44 #[.agg (encT t u).toArray] w fun e w' => e = .returned (.bool (oneT t.s words44)) ∧ Below w.heap.size w w' := by
  have ho := hk.one
  refine call_intro (args := [.agg (encT t u).toArray]) Tryz.func44 rfl Tryz.ntmps44 (by simp) hμ ?_
  repeat' (first | refine KO ?_ | ((with_reducible apply F1 78); exact rfl; exact EN; (exact fun w μc hw hse => rOne_spec t.s words44 _ _ _ w μc hw (sl_lit hse.hd rfl (by simp) (by repeat first | exact lc_nil | refine lc_cons rfl ?_)) (by decide))) | refine KI ?_ | refine NB fun b => ?_ | ((refine KB ?_ ?_ <;> intro hp)) | refine KG ?_ | fail)
  all_goals first | exact ret_s rfl rfl rfl | (exfalso; omega)
theorem rwd_46 (t : T) (u : Value) (w : World) (μ : Mem) (hμ : MOk μ w) (hk : KR μ t.kids u) (hop : t.op = 46) :
    Calls Tryz.prog 44 #[.agg (encT t u).toArray] w fun e w' => e = .returned (.bool (oneT t.s words46)) ∧ Below w.heap.size w w' := by
  have ho := hk.one
  refine call_intro (args := [.agg (encT t u).toArray]) Tryz.func44 rfl Tryz.ntmps44 (by simp) hμ ?_
  repeat' (first | refine KO ?_ | ((with_reducible apply F1 78); exact rfl; exact EN; (exact fun w μc hw hse => rOne_spec t.s words46 _ _ _ w μc hw (sl_lit hse.hd rfl (by simp) (by repeat first | exact lc_nil | refine lc_cons rfl ?_)) (by decide))) | refine KI ?_ | refine NB fun b => ?_ | ((refine KB ?_ ?_ <;> intro hp)) | refine KG ?_ | fail)
  all_goals first | exact ret_s rfl rfl rfl | (exfalso; omega)
theorem rwd_43 (t : T) (u : Value) (w : World) (μ : Mem) (hμ : MOk μ w) (hk : KR μ t.kids u) (hop : t.op = 43) :
    Calls Tryz.prog 44 #[.agg (encT t u).toArray] w fun e w' => e = .returned (.bool (oneT t.s words43)) ∧ Below w.heap.size w w' := by
  have ho := hk.one
  refine call_intro (args := [.agg (encT t u).toArray]) Tryz.func44 rfl Tryz.ntmps44 (by simp) hμ ?_
  rw [one43]
  repeat' (first | refine KO ?_ | ((with_reducible apply F1 78); exact rfl; exact EN; fail) | refine KI ?_ | refine NB fun b => ?_ | ((refine KB ?_ ?_ <;> intro hp)) | refine KG ?_ | fail)
  all_goals first | (exfalso; omega) | (refine ret_s rfl rfl ?_; simp_all; done)
theorem rwd_45 (t : T) (u : Value) (w : World) (μ : Mem) (hμ : MOk μ w) (hk : KR μ t.kids u) (hop : t.op = 45) :
    Calls Tryz.prog 44 #[.agg (encT t u).toArray] w fun e w' => e = .returned (.bool (oneT t.s words45)) ∧ Below w.heap.size w w' := by
  have ho := hk.one
  refine call_intro (args := [.agg (encT t u).toArray]) Tryz.func44 rfl Tryz.ntmps44 (by simp) hμ ?_
  rw [one45]
  repeat' (first | refine KO ?_ | ((with_reducible apply F1 78); exact rfl; exact EN; fail) | refine KI ?_ | refine NB fun b => ?_ | ((refine KB ?_ ?_ <;> intro hp)) | refine KG ?_ | fail)
  all_goals first | (exfalso; omega) | (refine ret_s rfl rfl ?_; simp_all; done)
theorem rWord_spec (t : T) (u : Value) (w : World) (μ : Mem) (hμ : MOk μ w) (hk : KR μ t.kids u) (hss : t.s.size ≤ 65536) :
    Calls Tryz.prog 44 #[.agg (encT t u).toArray] w fun e w' => e = .returned (.bool (wordT t)) ∧ Below w.heap.size w w' := by
  by_cases h42 : t.op = 42
  · simpa [wordT, h42] using rwd_42 t u w μ hμ hk h42
  by_cases h43 : t.op = 43
  · simpa [wordT, h43] using rwd_43 t u w μ hμ hk h43
  by_cases h44 : t.op = 44
  · simpa [wordT, h44] using rwd_44 t u w μ hμ hk h44
  by_cases h45 : t.op = 45
  · simpa [wordT, h45] using rwd_45 t u w μ hμ hk h45
  by_cases h46 : t.op = 46
  · simpa [wordT, h46] using rwd_46 t u w μ hμ hk h46
  have ho := hk.one
  refine call_intro (args := [.agg (encT t u).toArray]) Tryz.func44 rfl Tryz.ntmps44 (by simp) hμ ?_
  repeat' (first | refine KO ?_ | ((with_reducible apply F1 76); exact rfl; exact EN; (exact fun w μc hw hse => rForm_spec t.s hss w μc hw)) | ((with_reducible apply F1 78); exact rfl; exact EN; fail) | refine KI ?_ | refine NB fun b => ?_ | ((refine KB ?_ ?_ <;> intro hp)) | refine KG ?_ | fail)
  all_goals first | (exfalso; omega) | (refine ret_s rfl rfl ?_; simp_all [wordT])
end Go.Proofs.YtfabmichdhbiaaaGreatDoor
namespace Go.Proofs.YtfabmichdhbiaaaGreatDoor
open Go.RowKit Go.Vcg
def compT (t : T) : Bool := decide (t.op = 62) || (decide (t.op = 39) && decide (t.n ≠ 3) && decide (t.n ≠ 4))
def badT (t : T) : Bool := decide (t.at' < 0) || (decide (t.m ≠ 0) && (decide (t.m ≠ 1) || !compT t))
noncomputable def fieldsT (t : T) : Bool :=
  if badT t = true then false else if t.op = 4 then bitsT t else decide (0 ≤ t.n) && decide (t.n ≤ mostT t.op) && wordT t
attribute [local irreducible] bitsT wordT mostT G GC GQ GA GAop Calls IntKind.wrap Int.decLt Int.decLe
theorem fields_spec' (t : T) (u : Value) (w : World) (μ : Mem) (hμ : MOk μ w) (hk : KR μ t.kids u) (hs : t.size ≤ 100000) (hss : t.s.size ≤ 65536) (hT : TabA μ) :
    Calls Tryz.prog 27 #[.agg (encT t u).toArray] w fun e w' => e = .returned (.bool (fieldsT t)) ∧ Below w.heap.size w w' := by
  have ho := hk.one
  refine call_intro (args := [.agg (encT t u).toArray]) Tryz.func27 rfl Tryz.ntmps27 (by simp) hμ ?_
  cases hb : badT t
  · by_cases h4 : t.op = 4
    · have hg : fieldsT t = bitsT t := by unfold fieldsT; rw [if_neg (by simp [hb]), if_pos h4]
      rw [hg]
      clear hg
      repeat' (first | refine KO ?_ | ((with_reducible apply F1 49); exact rfl; exact EN; (exact fun w μc hw hse => bits_spec t u w μc hw (hk.mono hse.le) hs hss)) | refine KI ?_ | refine NB fun b => ?_ | ((refine KB ?_ ?_ <;> intro hp)) | refine KG ?_ | fail)
      all_goals first | exact ret_s rfl rfl rfl | (exfalso; simp_all [badT, compT]; done) | (exfalso; simp_all [badT, compT]; omega) | (exfalso; omega)
    · have hg : fieldsT t = (decide (0 ≤ t.n) && decide (t.n ≤ mostT t.op) && wordT t) := by unfold fieldsT; rw [if_neg (by simp [hb]), if_neg h4]
      rw [hg]
      clear hg
      repeat' (first | refine KO ?_ | ((with_reducible apply F1 49); exact rfl; exact EN; fail) | refine KI ?_ | refine NB fun b => ?_ | ((refine KB ?_ ?_ <;> intro hp)) | refine KG ?_ | fail)
      all_goals first | (exfalso; omega) | (exfalso; clear hk hT hμ; simp_all [badT, compT]; done) | (exfalso; clear hk hT hμ; simp_all [badT, compT]; omega) | skip
      all_goals
        refine gc_draw 16 _ (by kernel_rfl) rfl (List.Sublist.cons_cons _ (List.nil_sublist _)) ?_
        all_goals refine DD 0 ?_
        all_goals refine DD 1 ?_
        all_goals refine DD 2 ?_
        all_goals refine DD 3 ?_
        all_goals (try (refine D7 4 ?_; (repeat' (first | refine KO ?_ | (refine KB ?_ ?_ <;> intro hp)))))
        all_goals refine DD 4 ?_
        all_goals refine DD 5 ?_
        all_goals refine DD 6 ?_
        all_goals refine DD 7 ?_
        all_goals (first | (refine D3 8 ?_; refine D5 ?_; (first | ((with_reducible apply F1 50); exact rfl; exact EN; (exact fun w μc hw hse => most_spec t.op w μc hw)) | ((with_reducible apply F1 51); exact rfl; exact EN; (exact fun w μc hw hse => word_spec t u w μc hw (hk.mono hse.le) hss (hT.mono hse.le)))); refine D9 ?_) | refine D3 8 (D6 ?_))
        all_goals refine DD 9 ?_
        all_goals refine DD 10 ?_
        all_goals refine DD 11 ?_
        all_goals (try (refine D7 12 ?_; (repeat' (first | refine KO ?_ | (refine KB ?_ ?_ <;> intro hp)))))
        all_goals refine DD 12 ?_
        all_goals (first | (refine D3 13 ?_; refine D5 ?_; (first | ((with_reducible apply F1 50); exact rfl; exact EN; (exact fun w μc hw hse => most_spec t.op w μc hw)) | ((with_reducible apply F1 51); exact rfl; exact EN; (exact fun w μc hw hse => word_spec t u w μc hw (hk.mono hse.le) hss (hT.mono hse.le)))); refine D9 ?_) | refine D3 13 (D6 ?_))
        all_goals refine DD 14 ?_
        all_goals refine DD 15 ?_
        all_goals refine D8 ?_
        repeat' (first | refine KK ?_ | refine NB fun b => ?_ | ((refine KB ?_ ?_ <;> intro hp)) | refine KG ?_ | fail)
        all_goals (refine ret_s rfl rfl ?_; simp_all; try (intros; omega))
  · have hg : fieldsT t = false := by unfold fieldsT; rw [if_pos hb]
    rw [hg]
    clear hg
    repeat' (first | refine KO ?_ | ((with_reducible apply F1 49); exact rfl; exact EN; fail) | refine KI ?_ | refine NB fun b => ?_ | ((refine KB ?_ ?_ <;> intro hp)) | refine KG ?_ | fail)
    all_goals first | exact ret_s rfl rfl rfl | (exfalso; clear hk hT hμ; simp_all [badT, compT]; done) | (exfalso; clear hk hT hμ; simp_all [badT, compT]; omega) | (exfalso; omega)
end Go.Proofs.YtfabmichdhbiaaaGreatDoor
namespace Go.Proofs.YtfabmichdhbiaaaGreatDoor
open Go.RowKit Go.Vcg
noncomputable def rFieldsT (t : T) : Bool :=
  if badT t = true then false else if t.op = 4 then fnT t else decide (0 ≤ t.n) && decide (t.n ≤ mostT t.op) && wordT t
attribute [local irreducible] fnT wordT mostT G GC GQ GA GAop Calls IntKind.wrap Int.decLt Int.decLe
theorem rFields_spec (t : T) (u : Value) (w : World) (μ : Mem) (hμ : MOk μ w) (hk : KR μ t.kids u) (hs : t.size ≤ 100000) (hss : t.s.size ≤ 65536) :
    Calls Tryz.prog 20 #[.agg (encT t u).toArray] w fun e w' => e = .returned (.bool (rFieldsT t)) ∧ Below w.heap.size w w' := by
  have ho := hk.one
  refine call_intro (args := [.agg (encT t u).toArray]) Tryz.func20 rfl Tryz.ntmps20 (by simp) hμ ?_
  have hbd : badT t = (decide (t.at' < 0) || (decide (t.m ≠ 0) && (decide (t.m ≠ 1) || !compT t))) := rfl
  repeat' (first | ((with_reducible show GC _ _ (Code.seq (Code.region 1 _ _) _) _ _ _ _); (apply gc_stop)) | refine KK ?_ | refine NB fun b => ?_ | ((refine KB ?_ ?_ <;> intro hp)) | refine KG ?_ | fail)
  refine gcs (gc_join (ι := Unit) (fun _ => True) (fun _ => μ) (fun _ => [(3, .bool (compT t)), (1, .pointer (some ⟨b, 0, none⟩))]) (fun _ => [.inl ⟨b, 27, 6, idx 0 (encT t u)⟩]) ?_ ?_)
  · by_cases h62 : t.op = 62
    · have hc : compT t = true := by unfold compT; rw [decide_eq_true h62, Bool.true_or]
      rw [hc]
      repeat' (first | refine KK ?_ | refine NB fun b => ?_ | ((refine KB ?_ ?_ <;> intro hp)) | refine KG ?_ | fail)
      all_goals first | (exfalso; omega) | skip
      all_goals try rw [decide_eq_true h62]
      all_goals exact J1 () trivial
    · by_cases h39 : t.op = 39 ∧ t.n ≠ 3 ∧ t.n ≠ 4
      · have hc : compT t = true := by unfold compT; rw [decide_eq_true h39.1, decide_eq_true h39.2.1, decide_eq_true h39.2.2]; simp
        rw [hc]
        repeat' (first | refine KK ?_ | refine NB fun b => ?_ | ((refine KB ?_ ?_ <;> intro hp)) | refine KG ?_ | fail)
        all_goals first | (exfalso; omega) | exact J1 () trivial
      · have hc : compT t = false := by
          unfold compT
          rw [decide_eq_false h62, Bool.false_or, Bool.eq_false_iff]
          intro h
          simp only [Bool.and_eq_true, decide_eq_true_eq] at h
          exact h39 ⟨h.1.1, h.1.2, h.2⟩
        rw [hc]
        repeat' (first | refine KK ?_ | refine NB fun b => ?_ | ((refine KB ?_ ?_ <;> intro hp)) | refine KG ?_ | fail)
        all_goals first | (exfalso; omega) | skip
        all_goals try rw [decide_eq_false h62]
        all_goals exact J1 () trivial
  · intro _ _
    generalize compT t = m at hbd
    cases hb : badT t
    · rw [hb] at hbd
      by_cases h4 : t.op = 4
      · have hg : rFieldsT t = fnT t := by unfold rFieldsT; rw [if_neg (by simp [hb]), if_pos h4]
        rw [hg]
        clear hg
        cases m
        all_goals
          simp at hbd
          repeat' (first | refine KO ?_ | ((with_reducible apply F1 43); exact rfl; exact EN; (exact fun w μc hw hse => fn_spec t u w μc hw (hk.mono hse.le) hs hss)) | ((with_reducible apply F1 44); exact rfl; exact EN; fail) | refine KI ?_ | refine NB fun b => ?_ | ((refine KB ?_ ?_ <;> intro hp)) | refine KG ?_ | fail)
          all_goals first | exact ret_s rfl rfl rfl | (exfalso; omega)
      · have hg : rFieldsT t = (decide (0 ≤ t.n) && decide (t.n ≤ mostT t.op) && wordT t) := by unfold rFieldsT; rw [if_neg (by simp [hb]), if_neg h4]
        rw [hg]
        clear hg
        cases m
        all_goals
          simp at hbd
          repeat' (first | ((with_reducible show GC _ _ (Code.seq (Code.region 4 _ _) _) _ _ _ _); (apply gc_stop)) | refine KK ?_ | refine NB fun b => ?_ | ((refine KB ?_ ?_ <;> intro hp)) | refine KG ?_ | fail)
          all_goals first | (exfalso; omega) | skip
        all_goals
          refine gcs ?_
          repeat' (first | ((with_reducible show GC _ _ (Code.seq (Code.seq (Code.region 5 _ _) _) _) _ _ _ _); (apply gc_stop)) | refine KK ?_ | refine NB fun b => ?_ | ((refine KB ?_ ?_ <;> intro hp)) | refine KG ?_ | fail)
          refine gcs (gc_join (ι := Unit) (fun _ => True) (fun _ => μ) (fun _ => [(4, .int .i64 (mostT t.op)), (1, .pointer (some ⟨b, 0, none⟩))]) (fun _ => [.inl ⟨b, 27, 6, idx 0 (encT t u)⟩]) ?_ ?_)
          rotate_left
          · intro _ _
            repeat' (first | refine KO ?_ | ((with_reducible apply F1 44); exact rfl; exact EN; (exact fun w μc hw hse => rWord_spec t u w μc hw (hk.mono hse.le) hss)) | refine KI ?_ | refine NB fun b => ?_ | ((refine KB ?_ ?_ <;> intro hp)) | refine KG ?_ | fail)
            all_goals (clear hk hμ ho; refine ret_s rfl rfl ?_; simp_all; try (intros; omega))
          by_cases hc1 : t.op = 1 ∨ t.op = 22 ∨ t.op = 32 ∨ t.op = 43 ∨ t.op = 49 ∨ t.op = 51 ∨ t.op = 52 ∨ t.op = 54
          · have hm : mostT t.op = 1 := by unfold mostT; (repeat first | rw [if_pos (by omega)] | rw [if_neg (by omega)])
            rw [hm]
            repeat' (first | refine KO ?_ | ((with_reducible apply F1 43); exact rfl; exact EN; fail) | refine KI ?_ | refine NB fun b => ?_ | ((refine KB ?_ ?_ <;> intro hp)) | refine KG ?_ | fail)
            all_goals first | (exfalso; omega) | exact J1 () trivial
          by_cases hc2 : t.op = 2
          · have hm : mostT t.op = 2 := by unfold mostT; (repeat first | rw [if_pos (by omega)] | rw [if_neg (by omega)])
            rw [hm]
            repeat' (first | refine KO ?_ | ((with_reducible apply F1 43); exact rfl; exact EN; fail) | refine KI ?_ | refine NB fun b => ?_ | ((refine KB ?_ ?_ <;> intro hp)) | refine KG ?_ | fail)
            all_goals first | (exfalso; omega) | exact J1 () trivial
          by_cases hc9007199254740992 : t.op = 30
          · have hm : mostT t.op = 9007199254740992 := by unfold mostT; (repeat first | rw [if_pos (by omega)] | rw [if_neg (by omega)])
            rw [hm]
            repeat' (first | refine KO ?_ | ((with_reducible apply F1 43); exact rfl; exact EN; fail) | refine KI ?_ | refine NB fun b => ?_ | ((refine KB ?_ ?_ <;> intro hp)) | refine KG ?_ | fail)
            all_goals first | (exfalso; omega) | exact J1 () trivial
          by_cases hc5 : t.op = 39
          · have hm : mostT t.op = 5 := by unfold mostT; (repeat first | rw [if_pos (by omega)] | rw [if_neg (by omega)])
            rw [hm]
            repeat' (first | refine KO ?_ | ((with_reducible apply F1 43); exact rfl; exact EN; fail) | refine KI ?_ | refine NB fun b => ?_ | ((refine KB ?_ ?_ <;> intro hp)) | refine KG ?_ | fail)
            all_goals first | (exfalso; omega) | exact J1 () trivial
          have hm : mostT t.op = 0 := by unfold mostT; (repeat first | rw [if_neg (by omega)] | rw [if_pos (by omega)])
          rw [hm]
          repeat' (first | refine KO ?_ | ((with_reducible apply F1 43); exact rfl; exact EN; fail) | refine KI ?_ | refine NB fun b => ?_ | ((refine KB ?_ ?_ <;> intro hp)) | refine KG ?_ | fail)
          all_goals first | (exfalso; omega) | exact J1 () trivial
    · have hg : rFieldsT t = false := by unfold rFieldsT; rw [if_pos hb]
      rw [hg]
      clear hg
      rw [hb] at hbd
      cases m
      all_goals
        simp at hbd
        repeat' (first | ((with_reducible show GC _ _ (Code.seq (Code.region 4 _ _) _) _ _ _ _); (apply gc_stop)) | refine KK ?_ | refine NB fun b => ?_ | ((refine KB ?_ ?_ <;> intro hp)) | refine KG ?_ | fail)
        all_goals first | exact ret_s rfl rfl rfl | (exfalso; omega)
end Go.Proofs.YtfabmichdhbiaaaGreatDoor
