/- Package ir -/
import Derived.Test.YtoclmkdfcafhfaaGreatDoorQau
set_option maxRecDepth 20000
set_option maxHeartbeats 2000000
namespace Go.Proofs.YtoclmkdfcafhfaaGreatDoor
open Go.RowKit Go.Vcg Ou
abbrev encIn (x : Int) : List Value := [.int .i64 x]
theorem encIn_len (xs : List Int) : (xs.flatMap encIn).length = xs.length := by
  induction xs with
  | nil => rfl
  | cons x r ih => simp only [List.flatMap_cons, List.length_append, ih, List.length_cons, List.length_nil]; omega
theorem encIn_one (xs : List Int) : ∀ u ∈ xs.flatMap encIn, u.oneCell' = true := fun u hu => by
  obtain ⟨x, _, h⟩ := List.mem_flatMap.1 hu
  cases List.mem_singleton.1 h
  rfl
def IntsV (μ : Mem) (v : Value) (xs : List Int) : Prop := ∃ A c, v = .slice A xs.length c ∧ Sl encIn 1 μ A xs.length xs
theorem IntsV.mono {μ μ' : Mem} {v : Value} {xs : List Int} (h : IntsV μ v xs) (hle : MLe μ μ') : IntsV μ' v xs := by
  obtain ⟨A, c, h1, h2⟩ := h
  exact ⟨A, c, h1, h2.mono hle⟩
theorem IntsV.one {μ : Mem} {v : Value} {xs : List Int} (h : IntsV μ v xs) : v.oneCell' = true := by
  obtain ⟨A, c, rfl, _⟩ := h
  rfl
theorem IntsV.nil (μ : Mem) : IntsV μ (.slice none 0 0) [] := ⟨none, 0, rfl, Sl.nil _ _ _ _⟩
theorem IntsV.of_row {μ : Mem} {v : Value} {e n : Nat} {xs : List Int} {ys : List Value} (h : Bk.sh (.inr ⟨v, e, 1, n, ys⟩) μ) (hn : xs.length = n) (hx : ys = xs.flatMap encIn) : IntsV μ v xs := by
  obtain ⟨A, c, h1, h2⟩ := row_sl (enc := encIn) h hn (fun x _ => rfl) hx
  subst hn
  exact ⟨A, c, h1, h2⟩
def ixF (n : Int) : List Int → Nat → Int
  | [], _ => -1
  | x :: r, k => if n = x then k else ixF n r (k + 1)
theorem ixF_has (n : Int) : ∀ (xs : List Int) (k : Nat), decide (0 ≤ ixF n xs k) = xs.contains n
  | [], k => rfl
  | x :: r, k => by
    rw [ixF, List.contains_cons]
    by_cases h : n = x
    · rw [if_pos h, h]
      simp
    · rw [if_neg h, ixF_has n r (k + 1)]
      have : (n == x) = false := by simpa using h
      rw [this, Bool.false_or]
theorem ints_ext {xs ys : List Int} (hl : xs.length = ys.length) {k : Nat} (hk : ys.length ≤ k) (h : ∀ (j : Nat) (x y : Int), j < k → xs[j]? = some x → ys[j]? = some y → x = y) : xs = ys := by
  apply List.ext_getElem? 
  intro j
  rcases Nat.lt_or_ge j ys.length with hj | hj
  · have h1 : xs[j]? = some xs[j] := List.getElem?_eq_getElem (by omega)
    have h2 : ys[j]? = some ys[j] := List.getElem?_eq_getElem hj
    rw [h1, h2, h j _ _ (by omega) h1 h2]
  · rw [List.getElem?_eq_none (by omega), List.getElem?_eq_none hj]
attribute [local irreducible] G GC GQ GA GAop Calls IntKind.wrap Int.decLt Int.decLe
theorem pequal_spec (v1 v2 : Value) (xs ys : List Int) (w : World) (μ : Mem) (hμ : MOk μ w) (h1 : IntsV μ v1 xs) (h2 : IntsV μ v2 ys) (hxl : xs.length ≤ 100000000) (hyl : ys.length ≤ 100000000) : Calls Tryz.prog 137 #[v1, v2] w fun e w' => e = .returned (.bool (decide (xs = ys))) ∧ Below w.heap.size w w' := by
  obtain ⟨A, c, rfl, hS⟩ := h1
  obtain ⟨B, d, rfl, hS2⟩ := h2
  refine call_intro (args := [.slice A xs.length c, .slice B ys.length d]) Tryz.func137 rfl Tryz.ntmps137 (by simp) hμ ?_
  by_cases hl : xs.length = ys.length
  · generalize hR : decide (xs = ys) = R
    repeat' (first | refine KK ?_ | (refine KB ?_ ?_ <;> intro hp) | refine KG ?_ | fail)
    all_goals try (exfalso; omega)
    refine gc_loop (ι := Nat) (fun k => k ≤ ys.length ∧ ∀ (j : Nat) (x y : Int), j < k → xs[j]? = some x → ys[j]? = some y → x = y) (fun k => ys.length - k) (fun _ => μ) (fun k => [(13, .int .i64 (k : Int)), (12, .int .i64 (xs.length : Int)), (0, .slice A xs.length c), (1, .slice B ys.length d)]) (fun _ => []) 0 ⟨by omega, fun j _ _ h => absurd h (by omega)⟩ (fun a w hs => hs.sel PU PS) ?_
    rintro k ⟨hk1, hkk⟩
    by_cases hlt : k < ys.length
    · obtain ⟨ad, x, rfl, hx, hm⟩ := hS.get (show k < xs.length by omega)
      obtain ⟨ad2, y, rfl, hy, hm2⟩ := hS2.get hlt
      by_cases hxy : x = y
      · repeat' (first | refine KK ?_ | (refine KB ?_ ?_ <;> intro hp) | refine KG ?_ | fail)
        all_goals try (exfalso; omega)
        refine gc_draw 9 ([]) (by kernel_rfl) rfl (by first | exact List.Sublist.refl _ | simp) ?_
        all_goals refine DD 0 ?_
        all_goals refine DD 1 ?_
        all_goals (first | refine D1 2 ?_ | (refine DV (k := 2) (b := by first | exact U1 k | exact U3 (hm.at 0 rfl) | exact U3 (hm2.at 0 rfl)) (c := ?_)) | refine DD 2 ?_ | fail)
        all_goals (first | refine D1 3 ?_ | (refine DV (k := 3) (b := by first | exact U1 k | exact U3 (hm.at 0 rfl) | exact U3 (hm2.at 0 rfl)) (c := ?_)) | (refine D3 3 (DW (b := by first | exact U1 k | exact U3 (hm.at 0 rfl) | exact U3 (hm2.at 0 rfl)) (c := ?_))) | refine DD 3 ?_ | fail)
        all_goals refine DD 4 ?_
        all_goals refine DD 5 ?_
        all_goals (first | refine D1 6 ?_ | (refine DV (k := 6) (b := by first | exact U1 k | exact U3 (hm.at 0 rfl) | exact U3 (hm2.at 0 rfl)) (c := ?_)) | refine DD 6 ?_ | fail)
        all_goals (first | refine D1 7 ?_ | (refine DV (k := 7) (b := by first | exact U1 k | exact U3 (hm.at 0 rfl) | exact U3 (hm2.at 0 rfl)) (c := ?_)) | (refine D3 7 (DW (b := by first | exact U1 k | exact U3 (hm.at 0 rfl) | exact U3 (hm2.at 0 rfl)) (c := ?_))) | refine DD 7 ?_ | fail)
        all_goals (first | refine D1 8 ?_ | (refine DV (k := 8) (b := by first | exact U1 k | exact U3 (hm.at 0 rfl) | exact U3 (hm2.at 0 rfl)) (c := ?_)) | refine DD 8 ?_ | fail)
        all_goals refine D8 ?_
        all_goals repeat' (first | refine KK ?_ | (refine KB ?_ ?_ <;> intro hp) | refine KG ?_ | fail)
        all_goals try (exfalso; omega)
        refine J2 (k + 1) ⟨by omega, fun j x2 y2 hj h3 h4 => ?_⟩ (by omega)
        rcases Nat.lt_or_ge j k with h | h
        · exact hkk j x2 y2 h h3 h4
        · have : j = k := by omega
          subst this
          rw [hx] at h3
          rw [hy] at h4
          cases h3
          cases h4
          exact hxy
      · have hF : false = R := by
          rw [← hR]
          symm
          rw [decide_eq_false_iff_not]
          intro h
          rw [h, hy] at hx
          cases hx
          exact hxy rfl
        repeat' (first | refine KK ?_ | (refine KB ?_ ?_ <;> intro hp) | refine KG ?_ | fail)
        all_goals try (exfalso; omega)
        refine gc_draw 9 ([]) (by kernel_rfl) rfl (by first | exact List.Sublist.refl _ | simp) ?_
        all_goals refine DD 0 ?_
        all_goals refine DD 1 ?_
        all_goals (first | refine D1 2 ?_ | (refine DV (k := 2) (b := by first | exact U1 k | exact U3 (hm.at 0 rfl) | exact U3 (hm2.at 0 rfl)) (c := ?_)) | refine DD 2 ?_ | fail)
        all_goals (first | refine D1 3 ?_ | (refine DV (k := 3) (b := by first | exact U1 k | exact U3 (hm.at 0 rfl) | exact U3 (hm2.at 0 rfl)) (c := ?_)) | (refine D3 3 (DW (b := by first | exact U1 k | exact U3 (hm.at 0 rfl) | exact U3 (hm2.at 0 rfl)) (c := ?_))) | refine DD 3 ?_ | fail)
        all_goals refine DD 4 ?_
        all_goals refine DD 5 ?_
        all_goals (first | refine D1 6 ?_ | (refine DV (k := 6) (b := by first | exact U1 k | exact U3 (hm.at 0 rfl) | exact U3 (hm2.at 0 rfl)) (c := ?_)) | refine DD 6 ?_ | fail)
        all_goals (first | refine D1 7 ?_ | (refine DV (k := 7) (b := by first | exact U1 k | exact U3 (hm.at 0 rfl) | exact U3 (hm2.at 0 rfl)) (c := ?_)) | (refine D3 7 (DW (b := by first | exact U1 k | exact U3 (hm.at 0 rfl) | exact U3 (hm2.at 0 rfl)) (c := ?_))) | refine DD 7 ?_ | fail)
        all_goals (first | refine D1 8 ?_ | (refine DV (k := 8) (b := by first | exact U1 k | exact U3 (hm.at 0 rfl) | exact U3 (hm2.at 0 rfl)) (c := ?_)) | refine DD 8 ?_ | fail)
        all_goals refine D8 ?_
        all_goals repeat' (first | refine KK ?_ | (refine KB ?_ ?_ <;> intro hp) | refine KG ?_ | fail)
        all_goals try (exfalso; omega)
        all_goals exact ret_s rfl rfl (congrArg _ hF)
    · have hT : true = R := by
        rw [← hR]
        symm
        rw [decide_eq_true_iff]
        exact ints_ext hl (by omega) hkk
      repeat' (first | refine KK ?_ | (refine KB ?_ ?_ <;> intro hp) | refine KG ?_ | fail)
      all_goals try (exfalso; omega)
      all_goals exact ret_s rfl rfl (congrArg _ hT)
  · have hF : decide (xs = ys) = false := decide_eq_false (fun h => hl (by rw [h]))
    rw [hF]
    repeat' (first | refine KK ?_ | (refine KB ?_ ?_ <;> intro hp) | refine KG ?_ | fail)
    all_goals first | (exfalso; omega) | exact ret_s rfl rfl rfl
theorem rsame_spec (v1 v2 : Value) (xs ys : List Int) (w : World) (μ : Mem) (hμ : MOk μ w) (h1 : IntsV μ v1 xs) (h2 : IntsV μ v2 ys) (hxl : xs.length ≤ 100000000) (hyl : ys.length ≤ 100000000) : Calls Tryz.prog 142 #[v1, v2] w fun e w' => e = .returned (.bool (decide (xs = ys))) ∧ Below w.heap.size w w' := by
  obtain ⟨A, c, rfl, hS⟩ := h1
  obtain ⟨B, d, rfl, hS2⟩ := h2
  refine call_intro (args := [.slice A xs.length c, .slice B ys.length d]) Tryz.func142 rfl Tryz.ntmps142 (by simp) hμ ?_
  by_cases hl : xs.length = ys.length
  · generalize hR : decide (xs = ys) = R
    repeat' (first | refine KK ?_ | (refine KB ?_ ?_ <;> intro hp) | refine KG ?_ | fail)
    all_goals try (exfalso; omega)
    refine gc_loop (ι := Nat) (fun k => k ≤ ys.length ∧ ∀ (j : Nat) (x y : Int), j < k → xs[j]? = some x → ys[j]? = some y → x = y) (fun k => ys.length - k) (fun _ => μ) (fun k => [(5, .int .i64 (k : Int)), (0, .slice A xs.length c), (1, .slice B ys.length d)]) (fun _ => []) 0 ⟨by omega, fun j _ _ h => absurd h (by omega)⟩ (fun a w hs => hs.sel PU PS) ?_
    rintro k ⟨hk1, hkk⟩
    by_cases hlt : k < ys.length
    · obtain ⟨ad, x, rfl, hx, hm⟩ := hS.get (show k < xs.length by omega)
      obtain ⟨ad2, y, rfl, hy, hm2⟩ := hS2.get hlt
      by_cases hxy : x = y
      · repeat' (first | refine KK ?_ | (refine KB ?_ ?_ <;> intro hp) | refine KG ?_ | fail)
        all_goals try (exfalso; omega)
        refine gc_draw 9 ([]) (by kernel_rfl) rfl (by first | exact List.Sublist.refl _ | simp) ?_
        all_goals refine DD 0 ?_
        all_goals refine DD 1 ?_
        all_goals (first | refine D1 2 ?_ | (refine DV (k := 2) (b := by first | exact U1 k | exact U3 (hm.at 0 rfl) | exact U3 (hm2.at 0 rfl)) (c := ?_)) | refine DD 2 ?_ | fail)
        all_goals (first | refine D1 3 ?_ | (refine DV (k := 3) (b := by first | exact U1 k | exact U3 (hm.at 0 rfl) | exact U3 (hm2.at 0 rfl)) (c := ?_)) | (refine D3 3 (DW (b := by first | exact U1 k | exact U3 (hm.at 0 rfl) | exact U3 (hm2.at 0 rfl)) (c := ?_))) | refine DD 3 ?_ | fail)
        all_goals refine DD 4 ?_
        all_goals refine DD 5 ?_
        all_goals (first | refine D1 6 ?_ | (refine DV (k := 6) (b := by first | exact U1 k | exact U3 (hm.at 0 rfl) | exact U3 (hm2.at 0 rfl)) (c := ?_)) | refine DD 6 ?_ | fail)
        all_goals (first | refine D1 7 ?_ | (refine DV (k := 7) (b := by first | exact U1 k | exact U3 (hm.at 0 rfl) | exact U3 (hm2.at 0 rfl)) (c := ?_)) | (refine D3 7 (DW (b := by first | exact U1 k | exact U3 (hm.at 0 rfl) | exact U3 (hm2.at 0 rfl)) (c := ?_))) | refine DD 7 ?_ | fail)
        all_goals (first | refine D1 8 ?_ | (refine DV (k := 8) (b := by first | exact U1 k | exact U3 (hm.at 0 rfl) | exact U3 (hm2.at 0 rfl)) (c := ?_)) | refine DD 8 ?_ | fail)
        all_goals refine D8 ?_
        all_goals repeat' (first | refine KK ?_ | (refine KB ?_ ?_ <;> intro hp) | refine KG ?_ | fail)
        all_goals try (exfalso; omega)
        refine J2 (k + 1) ⟨by omega, fun j x2 y2 hj h3 h4 => ?_⟩ (by omega)
        rcases Nat.lt_or_ge j k with h | h
        · exact hkk j x2 y2 h h3 h4
        · have : j = k := by omega
          subst this
          rw [hx] at h3
          rw [hy] at h4
          cases h3
          cases h4
          exact hxy
      · have hF : false = R := by
          rw [← hR]
          symm
          rw [decide_eq_false_iff_not]
          intro h
          rw [h, hy] at hx
          cases hx
          exact hxy rfl
        repeat' (first | refine KK ?_ | (refine KB ?_ ?_ <;> intro hp) | refine KG ?_ | fail)
        all_goals try (exfalso; omega)
        refine gc_draw 9 ([]) (by kernel_rfl) rfl (by first | exact List.Sublist.refl _ | simp) ?_
        all_goals refine DD 0 ?_
        all_goals refine DD 1 ?_
        all_goals (first | refine D1 2 ?_ | (refine DV (k := 2) (b := by first | exact U1 k | exact U3 (hm.at 0 rfl) | exact U3 (hm2.at 0 rfl)) (c := ?_)) | refine DD 2 ?_ | fail)
        all_goals (first | refine D1 3 ?_ | (refine DV (k := 3) (b := by first | exact U1 k | exact U3 (hm.at 0 rfl) | exact U3 (hm2.at 0 rfl)) (c := ?_)) | (refine D3 3 (DW (b := by first | exact U1 k | exact U3 (hm.at 0 rfl) | exact U3 (hm2.at 0 rfl)) (c := ?_))) | refine DD 3 ?_ | fail)
        all_goals refine DD 4 ?_
        all_goals refine DD 5 ?_
        all_goals (first | refine D1 6 ?_ | (refine DV (k := 6) (b := by first | exact U1 k | exact U3 (hm.at 0 rfl) | exact U3 (hm2.at 0 rfl)) (c := ?_)) | refine DD 6 ?_ | fail)
        all_goals (first | refine D1 7 ?_ | (refine DV (k := 7) (b := by first | exact U1 k | exact U3 (hm.at 0 rfl) | exact U3 (hm2.at 0 rfl)) (c := ?_)) | (refine D3 7 (DW (b := by first | exact U1 k | exact U3 (hm.at 0 rfl) | exact U3 (hm2.at 0 rfl)) (c := ?_))) | refine DD 7 ?_ | fail)
        all_goals (first | refine D1 8 ?_ | (refine DV (k := 8) (b := by first | exact U1 k | exact U3 (hm.at 0 rfl) | exact U3 (hm2.at 0 rfl)) (c := ?_)) | refine DD 8 ?_ | fail)
        all_goals refine D8 ?_
        all_goals repeat' (first | refine KK ?_ | (refine KB ?_ ?_ <;> intro hp) | refine KG ?_ | fail)
        all_goals try (exfalso; omega)
        all_goals exact ret_s rfl rfl (congrArg _ hF)
    · have hT : true = R := by
        rw [← hR]
        symm
        rw [decide_eq_true_iff]
        exact ints_ext hl (by omega) hkk
      repeat' (first | refine KK ?_ | (refine KB ?_ ?_ <;> intro hp) | refine KG ?_ | fail)
      all_goals try (exfalso; omega)
      all_goals exact ret_s rfl rfl (congrArg _ hT)
  · have hF : decide (xs = ys) = false := decide_eq_false (fun h => hl (by rw [h]))
    rw [hF]
    repeat' (first | refine KK ?_ | (refine KB ?_ ?_ <;> intro hp) | refine KG ?_ | fail)
    all_goals first | (exfalso; omega) | exact ret_s rfl rfl rfl
theorem pindex_spec (v1 : Value) (xs : List Int) (n : Int) (w : World) (μ : Mem) (hμ : MOk μ w) (h1 : IntsV μ v1 xs) (hxl : xs.length ≤ 100000000) : Calls Tryz.prog 157 #[v1, .int .i64 n] w fun e w' => e = .returned (.int .i64 (ixF n xs 0)) ∧ Below w.heap.size w w' := by
  obtain ⟨A, c, rfl, hS⟩ := h1
  refine call_intro (args := [.slice A xs.length c, .int .i64 n]) Tryz.func157 rfl Tryz.ntmps157 (by simp) hμ ?_
  generalize hR : ixF n xs 0 = R
  repeat' (first | refine KK ?_ | (refine KB ?_ ?_ <;> intro hp) | refine KG ?_ | fail)
  refine gc_loop (ι := Nat) (fun k => k ≤ xs.length ∧ ixF n (xs.drop k) k = R) (fun k => xs.length - k) (fun _ => μ) (fun k => [(8, .int .i64 (k : Int)), (7, .int .i64 (xs.length : Int)), (0, .slice A xs.length c), (1, .int .i64 n)]) (fun _ => []) 0 ⟨by omega, by simpa using hR⟩ (fun a w hs => hs.sel PU PS) ?_
  rintro k ⟨hk1, hkk⟩
  by_cases hlt : k < xs.length
  · obtain ⟨ad, x, rfl, hx, hm⟩ := hS.get hlt
    rw [dropc hx, ixF] at hkk
    by_cases hxy : n = x
    · rw [if_pos hxy] at hkk
      repeat' (first | refine KO ?_ | (refine KV (b := by first | exact U1 k | exact U3 (hm.at 0 rfl)) (c := ?_)) | refine KI ?_ | (refine KB ?_ ?_ <;> intro hp) | refine KG ?_ | fail)
      all_goals first | (exfalso; omega) | exact ret_s rfl rfl (congrArg _ hkk)
    · rw [if_neg hxy] at hkk
      repeat' (first | refine KO ?_ | (refine KV (b := by first | exact U1 k | exact U3 (hm.at 0 rfl)) (c := ?_)) | refine KI ?_ | (refine KB ?_ ?_ <;> intro hp) | refine KG ?_ | fail)
      all_goals first | (exfalso; omega) | exact J2 (k + 1) ⟨by omega, hkk⟩ (by omega)
  · rw [List.drop_of_length_le (by omega), ixF] at hkk
    repeat' (first | refine KK ?_ | (refine KB ?_ ?_ <;> intro hp) | refine KG ?_ | fail)
    all_goals first | (exfalso; omega) | exact ret_s rfl rfl (congrArg _ hkk)
theorem pcontains_spec (v1 : Value) (xs : List Int) (n : Int) (w : World) (μ : Mem) (hμ : MOk μ w) (h1 : IntsV μ v1 xs) (hxl : xs.length ≤ 100000000) : Calls Tryz.prog 138 #[v1, .int .i64 n] w fun e w' => e = .returned (.bool (xs.contains n)) ∧ Below w.heap.size w w' := by
  rw [← ixF_has n xs 0]
  refine call_intro (args := [v1, .int .i64 n]) Tryz.func138 rfl Tryz.ntmps138 (by simp) hμ ?_
  repeat' (first | refine KO ?_ | ((with_reducible apply F1 157); exact rfl; exact EN; (exact fun w μc hw hse => pindex_spec _ xs n w μc hw (h1.mono hse.le) hxl)) | refine KI ?_ | (refine KB ?_ ?_ <;> intro hp) | refine KG ?_ | fail)
  all_goals exact ret_s rfl rfl rfl
theorem rhas_spec (v1 : Value) (xs : List Int) (n : Int) (w : World) (μ : Mem) (hμ : MOk μ w) (h1 : IntsV μ v1 xs) (hxl : xs.length ≤ 100000000) : Calls Tryz.prog 143 #[v1, .int .i64 n] w fun e w' => e = .returned (.bool (xs.contains n)) ∧ Below w.heap.size w w' := by
  rw [← ixF_has n xs 0]
  obtain ⟨A, c, rfl, hS⟩ := h1
  refine call_intro (args := [.slice A xs.length c, .int .i64 n]) Tryz.func143 rfl Tryz.ntmps143 (by simp) hμ ?_
  generalize hR : ixF n xs 0 = R
  repeat' (first | refine KK ?_ | (refine KB ?_ ?_ <;> intro hp) | refine KG ?_ | fail)
  refine gc_loop (ι := Nat) (fun k => k ≤ xs.length ∧ ixF n (xs.drop k) k = R) (fun k => xs.length - k) (fun _ => μ) (fun k => [(5, .int .i64 (k : Int)), (0, .slice A xs.length c), (1, .int .i64 n)]) (fun _ => []) 0 ⟨by omega, by simpa using hR⟩ (fun a w hs => hs.sel PU PS) ?_
  rintro k ⟨hk1, hkk⟩
  by_cases hlt : k < xs.length
  · obtain ⟨ad, x, rfl, hx, hm⟩ := hS.get hlt
    rw [dropc hx, ixF] at hkk
    by_cases hxy : n = x
    · rw [if_pos hxy] at hkk
      have hT : decide (0 ≤ R) = true := by rw [← hkk]; simp
      rw [hT]
      have hyx : x = n := hxy.symm
      repeat' (first | refine KO ?_ | (refine KV (b := by first | exact U1 k | exact U3 (hm.at 0 rfl)) (c := ?_)) | refine KI ?_ | (refine KB ?_ ?_ <;> intro hp) | refine KG ?_ | fail)
      all_goals first | (exfalso; omega) | exact ret_s rfl rfl rfl
    · rw [if_neg hxy] at hkk
      have hyx : ¬ x = n := fun h => hxy h.symm
      repeat' (first | refine KO ?_ | (refine KV (b := by first | exact U1 k | exact U3 (hm.at 0 rfl)) (c := ?_)) | refine KI ?_ | (refine KB ?_ ?_ <;> intro hp) | refine KG ?_ | fail)
      all_goals first | (exfalso; omega) | exact J2 (k + 1) ⟨by omega, hkk⟩ (by omega)
  · rw [List.drop_of_length_le (by omega), ixF] at hkk
    rw [← hkk, show decide ((0 : Int) ≤ -1) = false from decide_eq_false (by omega)]
    repeat' (first | refine KK ?_ | (refine KB ?_ ?_ <;> intro hp) | refine KG ?_ | fail)
    all_goals first | (exfalso; omega) | exact ret_s rfl rfl rfl
theorem pclone_spec (v1 : Value) (xs : List Int) (w : World) (μ : Mem) (hμ : MOk μ w) (h1 : IntsV μ v1 xs) (hxl : xs.length ≤ 100000000) : Calls Tryz.prog 112 #[v1] w (RowPost w 3 1 xs.length (xs.flatMap encIn)) := by
  obtain ⟨A, c, rfl, hS⟩ := h1
  have h2 := encIn_len xs
  have h3 := encIn_one xs
  refine call_intro (args := [.slice A xs.length c]) Tryz.func112 rfl Tryz.ntmps112 (by simp) hμ ?_
  cases A with
  | none =>
    have : xs = [] := by
      cases xs with
      | nil => rfl
      | cons x r =>
        obtain ⟨ad, e, _⟩ := hS.2 (by simp)
        cases e
    subst this
    repeat' (first | refine KO ?_ | (refine KV (b := by first | ((with_reducible apply v_isnil); exact rfl; exact rfl)) (c := ?_)) | refine KI ?_ | refine NB fun b => ?_ | (refine KB ?_ ?_ <;> intro hp) | refine KG ?_ | fail)
    exact gq_nilRow 3 1 (ret_row 0 rfl rfl rfl)
  | some ad =>
    repeat' (first | ((with_reducible apply g_row0 1)) | refine KO ?_ | (first | ((with_reducible apply g_ap); exact rfl; exact rfl; exact rfl; (repeat first | with_reducible exact rowup_hd | with_reducible apply rowup_tl); (iterate 6 exact rfl); (first | ((with_reducible apply src_sh); exact rfl; exact hS; simp) | ((with_reducible apply src_in); exact rfl; (repeat first | with_reducible exact inb_hd | with_reducible apply inb_tl); exact rfl)); (first | exact rfl | omega | simp); (first | assumption | (exact ones_mem (by (repeat first | with_reducible exact ones_nil | ((with_reducible apply ones_cons); (first | exact rfl | assumption))))) | simp [Value.oneCell']); omega; omega; intro v) | ((with_reducible apply g_append0); (iterate 9 exact rfl); (first | ((with_reducible apply src_sh); exact rfl; exact hS; simp) | ((with_reducible apply src_in); exact rfl; (repeat first | with_reducible exact inb_hd | with_reducible apply inb_tl); exact rfl)); (first | exact rfl | omega | simp); (first | assumption | (exact ones_mem (by (repeat first | with_reducible exact ones_nil | ((with_reducible apply ones_cons); (first | exact rfl | assumption))))) | simp [Value.oneCell']); omega; omega; intro v)) | (refine KV (b := by first | ((with_reducible apply v_isnil); exact rfl; exact rfl)) (c := ?_)) | refine KI ?_ | refine NB fun b => ?_ | (refine KB ?_ ?_ <;> intro hp) | refine KG ?_ | fail)
    simp only [Nat.zero_add, List.nil_append]
    exact ret_row 0 rfl rfl rfl
end Go.Proofs.YtoclmkdfcafhfaaGreatDoor
namespace Go.Proofs.YtoclmkdfcafhfaaGreatDoor.Iq
open Go Go.Proofs.YtoclmkdfcafhfaaGreatDoor.Ou
def Nx (n : Nat) (c : CkS) : Prop := (∀ x ∈ c.next, 0 ≤ x ∧ x < (n : Int)) ∧ ∀ k, c.met.getD k false = false → c.slots.getD k [] = []
section
variable {row : Int → List UInt8 × List UInt8} {fs : Fns}
theorem stands_nx (f op n m : Int) (p : PlP) (c : CkS) (hl : c.met.length = fs.length) (hn : numbB op n (locOf fs f) fs.length = true) (h : Nx fs.length c) : Nx fs.length (standsF fs f op n m p c).1 := by
  unfold standsF
  split
  · exact h
  split
  · rename_i h119
    dsimp only
    split
    · exact h
    · have hr : 1 ≤ n ∧ n ≤ (fs.length : Int) - 1 := by
        subst h119
        simp [numbB] at hn
        exact inI_t hn
      refine ⟨fun x hx => ?_, fun k hk => ?_⟩
      · dsimp only at hx
        rcases List.mem_append.1 hx with hx | hx
        · exact h.1 x hx
        · cases List.mem_singleton.1 hx
          omega
      · dsimp only at hk ⊢
        by_cases hkn : n.toNat = k
        · exfalso
          subst hkn
          have : (c.met.set n.toNat true).getD n.toNat false = true := getD_set.2 (.inl ⟨rfl, by rw [hl]; omega⟩)
          rw [this] at hk
          cases hk
        · have h1 : c.met.getD k false = false := by
            cases he : c.met.getD k false with
            | false => rfl
            | true =>
              have : (c.met.set n.toNat true).getD k false = true := getD_set.2 (.inr he)
              rw [this] at hk
              cases hk
          have h2 := h.2 k h1
          rw [List.getD_eq_getElem?_getD, List.getElem?_set_ne hkn, ← List.getD_eq_getElem?_getD]
          exact h2
  split
  · exact h
  split
  · exact h
  split
  · exact h
  split
  · exact h
  · exact h
mutual
theorem node_nx : ∀ (t : T) (f : Int) (p : PlP) (deep : Int) (c : CkS), c.met.length = fs.length → Nx fs.length c → Nx fs.length (nodeF row fs f t p deep c).1
  | .mk op a n m s kids, f, p, deep, c, hl, h => by
    simp only [nodeF]
    split
    · rename_i hsh
      have hn := (shape_parts hsh).2.2.2
      have hs := stands_len f op n m p c hl hn
      have hx := stands_nx f op n m p c hl hn h
      split
      · exact kids_nx kids f op n m _ deep 0 _ (hs.1.trans hl) hx
      · exact hx
    · exact h
theorem kids_nx : ∀ (ts : List T) (f op n m : Int) (p : PlP) (deep : Int) (i : Nat) (c : CkS), c.met.length = fs.length → Nx fs.length c → Nx fs.length (kidsF row fs f op n m p deep ts i c).1
  | [], _, _, _, _, _, _, _, _, _, h => by
    simp only [kidsF]
    exact h
  | t :: ts, f, op, n, m, p, deep, i, c, hl, h => by
    simp only [kidsF]
    have h1 := node_len (row := row) t f (atKid op n m p i) (deep + 1) c hl
    have h2 := node_nx t f (atKid op n m p i) (deep + 1) c hl h
    split
    · exact kids_nx ts f op n m p deep (i + 1) _ (h1.1.trans hl) h2
    · exact h2
end
def begF (f : Nat) (c : CkS) : CkS := { c with met := c.met.set f true, next := [(f : Int)] }
theorem beg_nx {n f : Nat} {c : CkS} (h : Nx n c) (hf : f < n) : Nx n (begF f c) := by
  refine ⟨fun x hx => ?_, fun k hk => ?_⟩
  · cases List.mem_singleton.1 hx
    omega
  · have h1 : c.met.getD k false = false := by
      cases he : c.met.getD k false with
      | false => rfl
      | true =>
        have : (c.met.set f true).getD k false = true := getD_set.2 (.inr he)
        unfold begF at hk
        dsimp only at hk
        rw [this] at hk
        cases hk
    exact h.2 k h1
theorem beg_meas {f : Nat} {c : CkS} (hf : f < c.met.length) (hm : c.met.getD f false = false) : meas (begF f c) ≤ c.met.length := by
  have h1 := count_set hf (by rw [hm]; simp)
  have h2 : c.met.count false ≤ c.met.length := List.count_le_length
  unfold meas unmet begF
  simp only [List.length_cons, List.length_nil]
  omega
theorem beg_ck {n f : Nat} {c : CkS} (hc : CkOk c n) (hf : f < n) (hm : c.met.getD f false = false) : CkOk (begF f c) n ∧ cnt c.met ≤ cnt (begF f c).met := by
  have h1 := cnt_set (l := c.met) (k := f) (by rw [hc.1]; exact hf) (by rw [hm]; simp)
  unfold begF
  refine ⟨⟨by rw [List.length_set]; exact hc.1, fun l hl => ?_⟩, by dsimp only; omega⟩
  have := hc.2 l hl
  dsimp only
  exact ⟨by omega, this.2⟩
theorem queue_nil (bodies : List T) (g : Nat) (c : CkS) (h : c.next = []) : queueF row fs bodies g c = (c, true) := by
  cases g with
  | zero => unfold queueF; rw [h]; rfl
  | succ g => unfold queueF; rw [h]
theorem queue_cons (bodies : List T) (g : Nat) (c : CkS) {x : Int} {r : List Int} (h : c.next = x :: r) : queueF row fs bodies (g + 1) c = (if isS (bodies.getD x.toNat (.mk 0 0 0 0 ⟨#[]⟩ [])).op = true then (if (nodeF row fs x (bodies.getD x.toNat (.mk 0 0 0 0 ⟨#[]⟩ [])) ⟨c.slots.getD x.toNat [], [], [], false⟩ 1 { c with next := r }).2 = true then queueF row fs bodies g (nodeF row fs x (bodies.getD x.toNat (.mk 0 0 0 0 ⟨#[]⟩ [])) ⟨c.slots.getD x.toNat [], [], [], false⟩ 1 { c with next := r }).1 else ((nodeF row fs x (bodies.getD x.toNat (.mk 0 0 0 0 ⟨#[]⟩ [])) ⟨c.slots.getD x.toNat [], [], [], false⟩ 1 { c with next := r }).1, false)) else ({ c with next := r }, false)) := by
  conv => lhs; unfold queueF
  rw [h]
end
end Go.Proofs.YtoclmkdfcafhfaaGreatDoor.Iq
namespace Go.Vcg
open Go.RowKit
section
variable {P : Program} {X : Ctx} {ops : Array Oper} {Q : Exit → Act → World → Prop} {μ μr : Mem} {l : Slots} {L Lr : List Bk} {fuel i : Nat} {listed : Array Bool}
theorem gc_drawS {id : Nat} (n : Nat) (Lr : List Bk) (hm : P.follows .mixedOrders = true) (hn : ops.size = n) (hL : Sel Lr L) (h : GA P X μ Lr ops Q n (Array.replicate n false) μ l L) : GC P X (.region id ops true) Q μ l L :=
  fun a _ hs => wp_region_held hm (by subst hn; exact h a _ hs.draw ⟨hs.draw.mem, fun x hx => let ⟨y, hy, hle⟩ := sel_mem hL x hx; hle.at (hs.draw.own y hy)⟩)
theorem g_ga_nilS (hle : MLe μr μ) (hLr : Sel Lr L) (h : GA P X μr Lr ops Q fuel listed μ l L) : G P X ops (QA Q (fun a w => Sm μr Lr w ∧ wpAnyH P .any ops Q (Sm μr Lr) fuel listed a w)) [] μ l L := fun a w hs =>
  have hS : Sm μr Lr w := ⟨fun b x e => hs.mem b x (hle b x e), fun x hx => let ⟨y, hy, hle⟩ := sel_mem hLr x hx; hle.at (hs.own y hy)⟩
  ⟨hS, h a w hs hS⟩
theorem g_row1 {b t : Nat} {cs : Slots} {v : Value} {rest : List Oper} (hc : lk cs 0 = some v) (h : G P X ops Q rest μ l (.inr ⟨.slice (some ⟨b, 0, none⟩) 1 1, t, 1, 1, [v]⟩ :: L)) : G P X ops Q rest μ l (.inl ⟨b, t, 1, cs⟩ :: L) := fun a w hs =>
  h a w (St.blkRow (n := 1) (s := 1) hs (lc_cons hc lc_nil) (by decide))
theorem UR1 {M B : Prop} (hm : M) (f : M → B := by intro h; (with_reducible apply v_load_row 1); exact rfl; exact rfl; exact rfl; exact h) : B := f hm
theorem UR2 {M B : Prop} (hm : M) (f : M → B := by intro h; (with_reducible apply v_load_row 2); exact rfl; exact rfl; exact rfl; exact h) : B := f hm
theorem UR3 {M B : Prop} (hm : M) (f : M → B := by intro h; (with_reducible apply v_load_row 3); exact rfl; exact rfl; exact rfl; exact h) : B := f hm
theorem nth_updB {x y : Bk} : ∀ {L : List Bk} {i : Nat}, nthB L i = some x → nthB (updB L i y) i = some y
  | [], _, h => by simp [nthB] at h
  | z :: r, 0, h => rfl
  | z :: r, i + 1, h => nth_updB (i := i) (by simpa [nthB] using h)
section
variable {rest : List Oper} {o : Oper} {d : Nat} {ty : TypeId} {pos : String} {af : Array Edge} {gd : Option (Nat × Bool)}
theorem AX {p q : Operand} {t e : TypeId} {s bytes m n : Nat} {z v : Value} {news xs : List Value} {F : Rw → List Bk}
    (hn : Nat.blt d X.n = true := by exact rfl) (hw : wants ops l ⟨some d, .call { callee := .builtin .append, args := #[p, q], argTypes := #[t, t] }, ty, pos, af, gd⟩ = some true := by exact rfl)
    (hp : ev l p = some v := by exact rfl) (hr : RowUp L ⟨v, e, s, n, xs⟩ F := by (repeat first | with_reducible exact rowup_hd | with_reducible apply rowup_tl)) (ht : P.underlying t = some (.slice e) := by exact rfl) (hs : sizeT P e = some s := by exact rfl) (hz : zeroT P e = some z := by exact rfl) (hzs : z.cells.toList.length = s := by exact rfl) (hby : bytesT P e = some bytes := by exact rfl) (hpos : Nat.blt 0 s = true := by exact rfl)
    (S : Src μ l L q m news) (A : news.length = m * s) (O : ∀ u ∈ news, u.oneCell' = true) (B : (n + m) * bytes ≤ 140737488355328 := by omega) (C : n + m ≤ 140737488355328 := by omega)
    (k : ∀ v, G P X ops Q rest μ ((d, v) :: l) (F ⟨v, e, s, n + m, xs ++ news⟩)) :
    G P X ops Q (⟨some d, .call { callee := .builtin .append, args := #[p, q], argTypes := #[t, t] }, ty, pos, af, gd⟩ :: rest) μ l L := g_ap hn hw hp hr ht hs hz hzs hby hpos S A O B C k
theorem AI {p q : Operand} {t e : TypeId} {bytes n : Nat} {z v u : Value} {xs : List Value} {F : Rw → List Bk}
    (hn : Nat.blt d X.n = true := by exact rfl) (hw : wants ops l ⟨some d, .call { callee := .builtin .append, args := #[p, q], argTypes := #[t, t] }, ty, pos, af, gd⟩ = some true := by exact rfl)
    (hp : ev l p = some v := by exact rfl) (hr : RowUp L ⟨v, e, 1, n, xs⟩ F := by (repeat first | with_reducible exact rowup_hd | with_reducible apply rowup_tl)) (ht : P.underlying t = some (.slice e) := by exact rfl) (hs : sizeT P e = some 1 := by exact rfl) (hz : zeroT P e = some z := by exact rfl) (hzs : z.cells.toList.length = 1 := by exact rfl) (hby : bytesT P e = some bytes := by exact rfl)
    (S : Src μ l L q 1 [u] := by (with_reducible apply src_in); exact rfl; (repeat first | with_reducible exact inb_hd | with_reducible apply inb_tl); exact rfl) (O : u.oneCell' = true := by exact rfl) (B : (n + 1) * bytes ≤ 140737488355328 := by omega) (C : n + 1 ≤ 140737488355328 := by omega)
    (k : ∀ g cap, n + 1 ≤ cap → G P X ops Q rest μ ((d, .slice (some ⟨g, 0, none⟩) (n + 1) cap) :: l) (F ⟨.slice (some ⟨g, 0, none⟩) (n + 1) cap, e, 1, n + 1, xs ++ [u]⟩)) :
    G P X ops Q (⟨some d, .call { callee := .builtin .append, args := #[p, q], argTypes := #[t, t] }, ty, pos, af, gd⟩ :: rest) μ l L :=
  g_ap hn hw hp hr ht hs hz hzs hby rfl S rfl (fun x hx => by rw [List.mem_singleton.1 hx]; exact O) B C fun v' => by
    obtain ⟨i, h1, h2⟩ := hr
    rw [h2]
    refine g_rowForm i (nth_updB h1) (by omega) fun g cap hv hc => ?_
    subst hv
    have := k g cap hc
    rwa [h2] at this
end
theorem D9S (h : GA P X μr Lr ops Q fuel listed μ l L)
    (hle : MLe μr μ := by first | exact MLe.refl _ | assumption | (focus (repeat (first | exact MLe.refl _ | assumption | (apply MLe.trans; rotate_left; assumption)))); done | fail)
    (hLr : Sel Lr L := by first | exact PS | fail) :
    G P X ops (QA Q (fun a w => Sm μr Lr w ∧ wpAnyH P .any ops Q (Sm μr Lr) fuel listed a w)) [] μ l L := g_ga_nilS (hle := hle) (hLr := hLr) (h := h)
end
end Go.Vcg
namespace Go.Proofs.YtoclmkdfcafhfaaGreatDoor
section
open Go.Rex
theorem runs_rrow0 : runs 26 (fun x => strV (x.1 ++ 32 :: x.2)) rowT0 := by
  unfold rowT0
  repeat (first | exact trivial | refine ⟨by kernel_rfl, ?_⟩)
theorem runs_rrow1 : runs 26 (fun x => strV (x.1 ++ 32 :: x.2)) rowT1 := by
  unfold rowT1
  repeat (first | exact trivial | refine ⟨by kernel_rfl, ?_⟩)
theorem runs_rrow2 : runs 26 (fun x => strV (x.1 ++ 32 :: x.2)) rowT2 := by
  unfold rowT2
  repeat (first | exact trivial | refine ⟨by kernel_rfl, ?_⟩)
theorem runs_rrow3 : runs 26 (fun x => strV (x.1 ++ 32 :: x.2)) rowT3 := by
  unfold rowT3
  repeat (first | exact trivial | refine ⟨by kernel_rfl, ?_⟩)
theorem runs_rrow4 : runs 26 (fun x => strV (x.1 ++ 32 :: x.2)) rowT4 := by
  unfold rowT4
  repeat (first | exact trivial | refine ⟨by kernel_rfl, ?_⟩)
open Go.RowKit Go.Vcg Go.Shelf
theorem rrow_runs : runs 26 (fun x => strV (x.1 ++ 32 :: x.2)) rowT := runs_app runs_rrow0 (runs_app runs_rrow1 (runs_app runs_rrow2 (runs_app runs_rrow3 runs_rrow4)))
theorem names_all : rowT.all (fun x => !x.2.1.isEmpty && (x.2.1.all (fun c => decide (c ≠ 32)) && Nat.ble (x.2.1.length + x.2.2.length) 100)) = true := by kernel_rfl
theorem find_mem {k : Nat} {x : List UInt8 × List UInt8} : ∀ {l : List Row}, findR k l = some x → ∃ j, (j, x) ∈ l
  | [], h => by cases h
  | (j, y) :: r, h => by
    unfold findR at h
    split at h
    · cases h
      exact ⟨j, List.mem_cons_self ..⟩
    · obtain ⟨i, hi⟩ := find_mem h
      exact ⟨i, List.mem_cons_of_mem _ hi⟩
def rowS (op : Int) : List UInt8 := if (rowI op).1 = [] then [] else (rowI op).1 ++ 32 :: (rowI op).2
theorem row_facts (op : Int) : (∀ c ∈ (rowI op).1, c ≠ 32) ∧ ((rowI op).1.length + (rowI op).2.length ≤ 100) ∧ ((rowI op).1 = [] → (rowI op).2 = []) := by
  rcases kinds op with ⟨k, x, rfl, h1, h2⟩ | ⟨h1, h2⟩
  · rw [h2]
    obtain ⟨j, hj⟩ := find_mem h1
    have := List.all_eq_true.1 names_all _ hj
    simp only [Bool.and_eq_true, List.all_eq_true, decide_eq_true_eq, Nat.ble_eq] at this
    refine ⟨this.2.1, this.2.2, fun h => ?_⟩
    rw [h] at this
    exact absurd this.1 (by simp)
  · rw [h2]
    exact ⟨by simp, by simp, fun _ => rfl⟩
attribute [local irreducible] rowI G GC GQ GA GAop Calls IntKind.wrap Int.decLt Int.decLe
theorem rrow_all (w : World) (μ : Mem) (hμ : MOk μ w) (hm : MaxM μ) (op : Int) :
    Calls Tryz.prog 26 #[.int .i64 op] w fun e w' => e = .returned (strV (rowS op)) ∧ Below w.heap.size w w' := by
  unfold rowS
  rcases kinds op with ⟨k, x, rfl, h1, h2⟩ | ⟨h1, h2⟩
  · rw [h2]
    obtain ⟨j, hj⟩ := find_mem h1
    have := List.all_eq_true.1 names_all _ hj
    simp only [Bool.and_eq_true] at this
    rw [if_neg (fun h => by rw [h] at this; exact absurd this.1 (by simp))]
    exact runP_sound mixed noQ (pr0_ok (hm w hμ)) (by decide) (fun g cs h => by cases h) (runs_find rrow_runs h1)
  · rw [h2, if_pos rfl]
    exact rrow_spec w μ hμ op h1
end
section
open Go.RowKit Go.Vcg Ou
theorem unW_rok : (∀ y ∈ Iq.unW, y ≠ [] ∧ ∀ c ∈ y, c ≠ 32) ∧ (joinS Iq.unW).length ≤ 1000000 := by decide +kernel
theorem binW_rok : (∀ y ∈ Iq.binW, y ≠ [] ∧ ∀ c ∈ y, c ≠ 32) ∧ (joinS Iq.binW).length ≤ 1000000 := by decide +kernel
theorem logW_rok : (∀ y ∈ Iq.logW, y ≠ [] ∧ ∀ c ∈ y, c ≠ 32) ∧ (joinS Iq.logW).length ≤ 1000000 := by decide +kernel
attribute [local irreducible] G GC GQ GA GAop Calls IntKind.wrap Int.decLt Int.decLe
theorem rform_b (s : ByteArray) (b : Bool) (hb : Iq.formB s.data.toList = b) (hs : s.size ≤ 1000000) (w : World) (μ : Mem) (hμ : MOk μ w) : Calls Tryz.prog 140 #[.string s] w fun e w' => e = .returned (.bool b) ∧ Below w.heap.size w w' := by
  subst hb
  have h := rform_spec s.data.toList (by rw [len_data]; exact hs) w μ hμ
  rw [of_data] at h
  exact h
theorem ramong_unW (s : ByteArray) (b : Bool) (hb : Iq.unW.contains s.data.toList = b) (w : World) (μ : Mem) (hμ : MOk μ w) : Calls Tryz.prog 141 #[.string s, .string ⟨#[45, 32, 43, 32, 33, 32, 126, 32, 118, 111, 105, 100]⟩] w fun e w' => e = .returned (.bool b) ∧ Below w.heap.size w w' := by
  subst hb
  obtain ⟨h1, h2⟩ := unW_rok
  have h := ramong_spec s.data.toList Iq.unW h1 h2 w μ hμ
  rw [of_data, unW_join] at h
  exact h
theorem ramong_binW (s : ByteArray) (b : Bool) (hb : Iq.binW.contains s.data.toList = b) (w : World) (μ : Mem) (hμ : MOk μ w) : Calls Tryz.prog 141 #[.string s, .string ⟨#[124, 32, 94, 32, 38, 32, 61, 61, 32, 33, 61, 32, 61, 61, 61, 32, 33, 61, 61, 32, 60, 32, 62, 32, 60, 61, 32, 62, 61, 32, 105, 110, 115, 116, 97, 110, 99, 101, 111, 102, 32, 105, 110, 32, 60, 60, 32, 62, 62, 32, 43, 32, 45, 32, 42, 32, 47, 32, 37]⟩] w fun e w' => e = .returned (.bool b) ∧ Below w.heap.size w w' := by
  subst hb
  obtain ⟨h1, h2⟩ := binW_rok
  have h := ramong_spec s.data.toList Iq.binW h1 h2 w μ hμ
  rw [of_data, binW_join] at h
  exact h
theorem ramong_logW (s : ByteArray) (b : Bool) (hb : Iq.logW.contains s.data.toList = b) (w : World) (μ : Mem) (hμ : MOk μ w) : Calls Tryz.prog 141 #[.string s, .string ⟨#[38, 38, 32, 124, 124, 32, 63, 63]⟩] w fun e w' => e = .returned (.bool b) ∧ Below w.heap.size w w' := by
  subst hb
  obtain ⟨h1, h2⟩ := logW_rok
  have h := ramong_spec s.data.toList Iq.logW h1 h2 w μ hμ
  rw [of_data, logW_join] at h
  exact h
theorem rin_b (n lo hi : Int) (b : Bool) (hb : Iq.inI n lo hi = b) (w : World) (μ : Mem) (hμ : MOk μ w) : Calls Tryz.prog 49 #[.int .i64 n, .int .i64 lo, .int .i64 hi] w fun e w' => e = .returned (.bool b) ∧ Below w.heap.size w w' := by
  subst hb
  exact rin_spec n lo hi w μ hμ
end
end Go.Proofs.YtoclmkdfcafhfaaGreatDoor
