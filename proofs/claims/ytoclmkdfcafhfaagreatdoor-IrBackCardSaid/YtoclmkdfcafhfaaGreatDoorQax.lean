/- Package ir: the law's unit, with the sizes of its texts. -/
import Derived.Test.YtoclmkdfcafhfaaGreatDoorQaw
import Derived.Recover
import Derived.Shelf.Strings.Cut
set_option maxRecDepth 20000
set_option maxHeartbeats 2000000
namespace Go.Proofs.YtoclmkdfcafhfaaGreatDoor
section
open Go.RowKit Go.Vcg
def gwF (s : ByteArray) : Nat := 80 + 4 * s.size
def wtF (p : F × Value) : Nat := 4 * p.1.name.size + wsum gwF p.1.body
def sumS (ts : List It) (j : Nat) : Nat := ((ts.take j).map fun y => y.s.size).sum
theorem sumS_succ {ts : List It} {j : Nat} {z : It} (h : ts[j]? = some z) : sumS ts (j + 1) = sumS ts j + z.s.size := by
  unfold sumS
  rw [List.take_add_one, h]
  simp
theorem sum_mem_le {α : Type} {g : α → Nat} {y : α} : ∀ {l : List α}, y ∈ l → g y ≤ (l.map g).sum
  | a :: r, h => by
    rw [List.map_cons, List.sum_cons]
    rcases List.mem_cons.1 h with rfl | h
    · omega
    · have := sum_mem_le (g := g) h
      omega
theorem gw_sum : ∀ ts : List It, (ts.map fun y => gwF y.s).sum = 80 * ts.length + 4 * (ts.map fun y => y.s.size).sum
  | [] => rfl
  | y :: r => by
    have := gw_sum r
    simp only [List.map_cons, List.sum_cons, List.length_cons, gwF] at this ⊢
    omega
theorem qN0 : qN ⟨0, 0, 0, 0, ⟨#[]⟩, 0⟩ := ⟨by decide, by decide⟩
def UnitPost2 (μ : Mem) (v : Value) : Prop := ∃ A c ps ok, v = .tuple #[.agg #[.slice A ps.length c], .bool ok] ∧ Fs μ A ps.length ps ∧ (∀ p ∈ ps, AllT qN p.1.body) ∧ (ok = true → (ps.map wtF).sum ≤ 90000)
attribute [local irreducible] G GC GQ GA GAop Calls IntKind.wrap Int.decLt Int.decLe
theorem unit2_spec (w : World) (μ : Mem) (hμ : MOk μ w) (A : Option Addr) (n c : Nat) (fs : List UFnI) (hc : Sl encFn 5 μ A n fs) (hfn : ∀ f ∈ fs, FnQ μ f) (hmax : n ≤ 9223372036854775807) :
    Calls Tryz.prog 16 #[.slice A n c] w fun e w' => ∃ v μ', e = .returned v ∧ Grow w w' μ μ' ∧ UnitPost2 μ' v := by
  refine call_intro Tryz.func16 rfl Tryz.ntmps16 (by simp) hμ ?_
  repeat' (first | refine KK ?_ | refine NB fun b => ?_ | (refine KB ?_ ?_ <;> intro hp) | refine KG ?_ | fail)
  · exact ret_m2 rfl (by first | exact rv_tmp rfl | exact (RG 0 rfl rfl rfl rfl rfl) | exact (RG 1 rfl rfl rfl rfl rfl) | exact (RG 2 rfl rfl rfl rfl rfl) | exact (RG 3 rfl rfl rfl rfl rfl)) (by first | exact rv_tmp rfl | exact (RG 0 rfl rfl rfl rfl rfl) | exact (RG 1 rfl rfl rfl rfl rfl) | exact (RG 2 rfl rfl rfl rfl rfl) | exact (RG 3 rfl rfl rfl rfl rfl)) (fun μ' hle' hL => ⟨none, 0, [], false, rfl, ⟨Sl.nil _ _ _ _, by simp, by simp⟩, by simp, by simp⟩)
  rename_i b1
  have hn20 : n ≤ 20 := by omega
  refine gc_loop (ι := Nat × Int × List (F × Value) × Mem × Value) (fun i => i.1 ≤ n ∧ MLe μ i.2.2.2.1 ∧ i.2.2.1.length ≤ i.1 ∧ (∀ p ∈ i.2.2.1, KR i.2.2.2.1 p.1.body.kids p.2 ∧ p.1.body.size ≤ 100000) ∧ (∀ p ∈ i.2.2.1, AllT qN p.1.body) ∧ 0 ≤ i.2.1 ∧ i.2.1 ≤ (i.1 : Int) * 281474976710656 + 20000 ∧ (((i.2.2.1.map wtF).sum : Nat) : Int) ≤ 80 * (i.2.2.1.length : Int) + 4 * i.2.1) (fun i => n - i.1) (fun i => i.2.2.2.1) (fun i => [(6, .int .i64 i.1), (5, .int .i64 i.2.1), (4, .pointer (some ⟨b, 0, none⟩)), (2, .pointer (some ⟨b1, 0, none⟩)), (0, .slice A n c)]) (fun i => [.inr ⟨i.2.2.2.2, 44, 10, i.2.2.1.length, i.2.2.1.flatMap encFV⟩, .inl ⟨b, 27, 1, [(0, i.2.2.2.2)]⟩, .inl ⟨b1, 27, 1, _⟩]) (0, 0, [], μ, .slice none 0 0) ⟨by simp, MLe.refl _, by simp, fun p hp => (by cases hp), fun p hp => (by cases hp), by simp, by simp, by simp⟩ (fun a w hs => (hs.nilRow 44 10).sub PU (by repeat first | exact List.Sublist.refl _ | exact List.nil_sublist _ | refine List.Sublist.cons _ ?_)) ?_
  rintro ⟨k, x, ps, μ1, v⟩ ⟨hk, hle, hlen, hps, hall, hx0, hx1, hwt⟩
  dsimp only at hk hle hlen hps hall hx0 hx1 hwt ⊢
  refine gc_rowOk 0 rfl ?_
  rintro A1 c1 rfl hok
  have post : ∀ {μ2 μ' : Mem} {okb : Bool}, (okb = true → (ps.map wtF).sum ≤ 90000) → MLe μ1 μ2 → MLe μ2 μ' → Bk.sh (.inr ⟨.slice A1 ps.length c1, 44, 10, ps.length, ps.flatMap encFV⟩) μ' → UnitPost2 μ' (.tuple #[.agg #[.slice A1 ps.length c1], .bool okb]) := fun h0 h1 h2 h3 =>
    ⟨A1, c1, ps, _, rfl, fs_post (by omega) hps (h1.trans h2) h3, hall, h0⟩
  by_cases hlt : k < n
  · obtain ⟨ad, y, rfl, hy, hm0⟩ := hc.get hlt
    obtain ⟨hnmq, A3, n3, c3, ts, he, hS3, hn3, htq⟩ := hfn y (List.mem_of_getElem? hy)
    obtain ⟨nm, kd, ln, lc, bd⟩ := y
    dsimp only at he hnmq
    subst he
    have hm : MCells μ1 (ad.add (k * 5)) [.string nm, .int .i64 kd, .int .i64 ln, .int .i64 lc, .slice A3 n3 c3] := hm0.mono hle
    have hS3' := hS3.mono hle
    repeat' (first | refine KO ?_ | (refine KV (b := by first | exact U1 k | exact U4 hm) (c := ?_)) | refine KI ?_ | refine NB fun b => ?_ | (refine KB ?_ ?_ <;> intro hp) | refine KG ?_ | fail)
    · exact ret_m2 rfl (by first | exact rv_tmp rfl | exact (RG 0 rfl rfl rfl rfl rfl) | exact (RG 1 rfl rfl rfl rfl rfl) | exact (RG 2 rfl rfl rfl rfl rfl) | exact (RG 3 rfl rfl rfl rfl rfl)) (by first | exact rv_tmp rfl | exact (RG 0 rfl rfl rfl rfl rfl) | exact (RG 1 rfl rfl rfl rfl rfl) | exact (RG 2 rfl rfl rfl rfl rfl) | exact (RG 3 rfl rfl rfl rfl rfl)) (fun μ' hle' hL => post (fun h => by first | (cases h; done) | (have := of_decide_eq_true h; omega)) (MLe.refl _) hle' (hL _ (List.mem_cons_self ..)))
    have hn200 : n3 ≤ 200 := by omega
    refine gc_draw 17 _ (by kernel_rfl) rfl (List.Sublist.cons_cons _ (List.Sublist.cons_cons _ (List.Sublist.cons_cons _ (List.nil_sublist _)))) ?_
    all_goals refine DD 0 ?_
    all_goals refine DD 1 ?_
    all_goals refine DD 2 ?_
    all_goals (first | refine D1 3 ?_ | (refine DV (k := 3) (b := by first | exact U1 k | exact U4 hm | ((with_reducible apply v_mul_i); exact rfl; exact rfl; omega) | ((with_reducible apply v_add_i); exact rfl; exact rfl; omega)) (c := ?_)) | refine DD 3 ?_ | fail)
    all_goals (first | refine D1 4 ?_ | (refine DV (k := 4) (b := by first | exact U1 k | exact U4 hm | ((with_reducible apply v_mul_i); exact rfl; exact rfl; omega) | ((with_reducible apply v_add_i); exact rfl; exact rfl; omega)) (c := ?_)) | refine DD 4 ?_ | fail)
    all_goals (first | refine D1 5 ?_ | (refine DV (k := 5) (b := by first | exact U1 k | exact U4 hm | ((with_reducible apply v_mul_i); exact rfl; exact rfl; omega) | ((with_reducible apply v_add_i); exact rfl; exact rfl; omega)) (c := ?_)) | (refine D3 5 (DW (b := by first | exact U1 k | exact U4 hm | ((with_reducible apply v_mul_i); exact rfl; exact rfl; omega) | ((with_reducible apply v_add_i); exact rfl; exact rfl; omega)) (c := ?_))) | refine DD 5 ?_ | fail)
    all_goals (first | refine D1 6 ?_ | (refine DV (k := 6) (b := by first | exact U1 k | exact U4 hm | ((with_reducible apply v_mul_i); exact rfl; exact rfl; omega) | ((with_reducible apply v_add_i); exact rfl; exact rfl; omega)) (c := ?_)) | refine DD 6 ?_ | fail)
    all_goals refine DD 7 ?_
    all_goals refine DD 8 ?_
    all_goals (first | refine D1 9 ?_ | (refine DV (k := 9) (b := by first | exact U1 k | exact U4 hm | ((with_reducible apply v_mul_i); exact rfl; exact rfl; omega) | ((with_reducible apply v_add_i); exact rfl; exact rfl; omega)) (c := ?_)) | refine DD 9 ?_ | fail)
    all_goals (first | refine D1 10 ?_ | (refine DV (k := 10) (b := by first | exact U1 k | exact U4 hm | ((with_reducible apply v_mul_i); exact rfl; exact rfl; omega) | ((with_reducible apply v_add_i); exact rfl; exact rfl; omega)) (c := ?_)) | refine DD 10 ?_ | fail)
    all_goals (first | refine D1 11 ?_ | (refine DV (k := 11) (b := by first | exact U1 k | exact U4 hm | ((with_reducible apply v_mul_i); exact rfl; exact rfl; omega) | ((with_reducible apply v_add_i); exact rfl; exact rfl; omega)) (c := ?_)) | (refine D3 11 (DW (b := by first | exact U1 k | exact U4 hm | ((with_reducible apply v_mul_i); exact rfl; exact rfl; omega) | ((with_reducible apply v_add_i); exact rfl; exact rfl; omega)) (c := ?_))) | refine DD 11 ?_ | fail)
    all_goals (first | refine D1 12 ?_ | (refine DV (k := 12) (b := by first | exact U1 k | exact U4 hm | ((with_reducible apply v_mul_i); exact rfl; exact rfl; omega) | ((with_reducible apply v_add_i); exact rfl; exact rfl; omega)) (c := ?_)) | refine DD 12 ?_ | fail)
    all_goals (first | refine D1 13 ?_ | (refine DV (k := 13) (b := by first | exact U1 k | exact U4 hm | ((with_reducible apply v_mul_i); exact rfl; exact rfl; omega) | ((with_reducible apply v_add_i); exact rfl; exact rfl; omega)) (c := ?_)) | refine DD 13 ?_ | fail)
    all_goals (first | refine D1 14 ?_ | (refine DV (k := 14) (b := by first | exact U1 k | exact U4 hm | ((with_reducible apply v_mul_i); exact rfl; exact rfl; omega) | ((with_reducible apply v_add_i); exact rfl; exact rfl; omega)) (c := ?_)) | refine DD 14 ?_ | fail)
    all_goals (first | refine D1 15 ?_ | (refine DV (k := 15) (b := by first | exact U1 k | exact U4 hm | ((with_reducible apply v_mul_i); exact rfl; exact rfl; omega) | ((with_reducible apply v_add_i); exact rfl; exact rfl; omega)) (c := ?_)) | refine DD 15 ?_ | fail)
    all_goals refine DD 16 ?_
    all_goals refine D8 ?_
    repeat' (first | refine KK ?_ | refine NB fun b => ?_ | (refine KB ?_ ?_ <;> intro hp) | refine KG ?_ | fail)
    have hS3l := hS3'.1
    refine gc_loop (ι := Nat × Int) (fun i => i.1 ≤ n3 ∧ i.2 = x + ((nm.size : Int) + 20 * (n3 : Int)) + (sumS ts i.1 : Int) ∧ (i.1 = 0 ∨ i.2 ≤ 20000)) (fun i => n3 - i.1) (fun _ => μ1) (fun i => [(7, .int .i64 i.1), (5, .int .i64 i.2), (6, .int .i64 k), (4, .pointer (some ⟨b, 0, none⟩)), (2, .pointer (some ⟨b1, 0, none⟩)), (0, .slice (some ad) n c)]) (fun _ => [.inr ⟨.slice A1 ps.length c1, 44, 10, ps.length, ps.flatMap encFV⟩, .inl ⟨b, 27, 1, [(0, .slice A1 ps.length c1)]⟩, .inl ⟨b1, 27, 1, _⟩]) (0, x + ((nm.size : Int) + 20 * (n3 : Int))) ⟨by simp, by simp [sumS], .inl rfl⟩ (fun a w hs => J6 hs) ?_
    rintro ⟨j, x1⟩ ⟨hj, hxe, hxj⟩
    dsimp only at hj hxe hxj ⊢
    by_cases hjn : j < n3
    · obtain ⟨adj, z, rfl, hz, hmj⟩ := hS3'.get hjn
      have hzq := (htq z (List.mem_of_getElem? hz)).2
      have hss := sumS_succ hz
      have hx1b : x1 ≤ x + ((nm.size : Int) + 20 * (n3 : Int)) ∨ x1 ≤ 20000 := by
        rcases hxj with h | h
        · subst h
          left
          rw [hxe]
          simp [sumS]
        · exact .inr h
      have hx1n : 0 ≤ x1 := by omega
      repeat' (first | refine KO ?_ | (refine KV (b := by first | exact U1 k | exact U1 j | exact U4 hm | exact U4 hmj | ((with_reducible apply v_add_i); exact rfl; exact rfl; omega)) (c := ?_)) | refine KI ?_ | refine NB fun b => ?_ | (refine KB ?_ ?_ <;> intro hp) | refine KG ?_ | fail)
      · exact ret_m2 rfl (by first | exact rv_tmp rfl | exact (RG 0 rfl rfl rfl rfl rfl) | exact (RG 1 rfl rfl rfl rfl rfl) | exact (RG 2 rfl rfl rfl rfl rfl) | exact (RG 3 rfl rfl rfl rfl rfl)) (by first | exact rv_tmp rfl | exact (RG 0 rfl rfl rfl rfl rfl) | exact (RG 1 rfl rfl rfl rfl rfl) | exact (RG 2 rfl rfl rfl rfl rfl) | exact (RG 3 rfl rfl rfl rfl rfl)) (fun μ' hle' hL => post (fun h => by first | (cases h; done) | (have := of_decide_eq_true h; omega)) (MLe.refl _) hle' (hL _ (List.mem_cons_self ..)))
      · exact J4 (j + 1, x1 + (z.s.size : Int)) ⟨by dsimp only; omega, by dsimp only; omega, .inr (by dsimp only; omega)⟩ (by dsimp only; omega)
    · have hjn3 : j = n3 := by omega
      subst hjn3
      have hsall : sumS ts j = (ts.map fun y => y.s.size).sum := by unfold sumS; rw [List.take_of_length_le (by omega)]
      have hx1b : x1 ≤ x + ((nm.size : Int) + 20 * (j : Int)) ∨ x1 ≤ 20000 := by
        rcases hxj with h | h
        · subst h
          left
          rw [hxe]
          simp [sumS]
        · exact .inr h
      have hqN : ∀ y ∈ ts, qN y := fun y hy => ⟨(htq y hy).1, by
        have h1 := sum_mem_le hy (g := fun y : It => y.s.size)
        have h2 : 0 < ts.length := List.length_pos_of_mem hy
        try dsimp only at h1
        omega⟩
      repeat' (first | refine KO ?_ | (refine KV (b := by first | exact U1 k | exact U4 hm) (c := ?_)) | refine KI ?_ | refine NB fun b => ?_ | (refine KB ?_ ?_ <;> intro hp) | refine KG ?_ | fail)
      refine gc_draw 33 _ (by kernel_rfl) rfl (List.Sublist.cons _ (List.Sublist.cons _ (List.Sublist.cons_cons _ (List.nil_sublist _)))) ?_
      all_goals (first | refine D1 0 ?_ | (refine DV (k := 0) (b := by first | exact U1 k | exact U4 hm) (c := ?_)) | (refine D3 0 (DW (b := by first | exact U1 k | exact U4 hm) (c := ?_))) | refine DD 0 ?_ | fail)
      all_goals (first | refine D1 2 ?_ | (refine DV (k := 2) (b := by first | exact U1 k | exact U4 hm) (c := ?_)) | (refine D3 2 (DW (b := by first | exact U1 k | exact U4 hm) (c := ?_))) | refine DD 2 ?_ | fail)
      all_goals (first | refine D1 3 ?_ | (refine DV (k := 3) (b := by first | exact U1 k | exact U4 hm) (c := ?_)) | (refine D3 3 (DW (b := by first | exact U1 k | exact U4 hm) (c := ?_))) | refine DD 3 ?_ | fail)
      all_goals (first | refine D1 4 ?_ | (refine DV (k := 4) (b := by first | exact U1 k | exact U4 hm) (c := ?_)) | (refine D3 4 (DW (b := by first | exact U1 k | exact U4 hm) (c := ?_))) | refine DD 4 ?_ | fail)
      all_goals (first | refine D1 5 ?_ | (refine DV (k := 5) (b := by first | exact U1 k | exact U4 hm) (c := ?_)) | (refine D3 5 (DW (b := by first | exact U1 k | exact U4 hm) (c := ?_))) | refine DD 5 ?_ | fail)
      all_goals (first | refine D1 6 ?_ | (refine DV (k := 6) (b := by first | exact U1 k | exact U4 hm) (c := ?_)) | (refine D3 6 (DW (b := by first | exact U1 k | exact U4 hm) (c := ?_))) | refine DD 6 ?_ | fail)
      all_goals (first | refine D1 7 ?_ | (refine DV (k := 7) (b := by first | exact U1 k | exact U4 hm) (c := ?_)) | (refine D3 7 (DW (b := by first | exact U1 k | exact U4 hm) (c := ?_))) | refine DD 7 ?_ | fail)
      all_goals (first | refine D1 8 ?_ | (refine DV (k := 8) (b := by first | exact U1 k | exact U4 hm) (c := ?_)) | (refine D3 8 (DW (b := by first | exact U1 k | exact U4 hm) (c := ?_))) | refine DD 8 ?_ | fail)
      all_goals (first | refine D1 9 ?_ | (refine DV (k := 9) (b := by first | exact U1 k | exact U4 hm) (c := ?_)) | (refine D3 9 (DW (b := by first | exact U1 k | exact U4 hm) (c := ?_))) | refine DD 9 ?_ | fail)
      all_goals (first | refine D1 10 ?_ | (refine DV (k := 10) (b := by first | exact U1 k | exact U4 hm) (c := ?_)) | (refine D3 10 (DW (b := by first | exact U1 k | exact U4 hm) (c := ?_))) | refine DD 10 ?_ | fail)
      all_goals (first | refine D1 11 ?_ | (refine DV (k := 11) (b := by first | exact U1 k | exact U4 hm) (c := ?_)) | (refine D3 11 (DW (b := by first | exact U1 k | exact U4 hm) (c := ?_))) | refine DD 11 ?_ | fail)
      all_goals (first | refine D1 12 ?_ | (refine DV (k := 12) (b := by first | exact U1 k | exact U4 hm) (c := ?_)) | (refine D3 12 (DW (b := by first | exact U1 k | exact U4 hm) (c := ?_))) | refine DD 12 ?_ | fail)
      all_goals (first | refine D1 13 ?_ | (refine DV (k := 13) (b := by first | exact U1 k | exact U4 hm) (c := ?_)) | (refine D3 13 (DW (b := by first | exact U1 k | exact U4 hm) (c := ?_))) | refine DD 13 ?_ | fail)
      all_goals (first | refine D1 14 ?_ | (refine DV (k := 14) (b := by first | exact U1 k | exact U4 hm) (c := ?_)) | (refine D3 14 (DW (b := by first | exact U1 k | exact U4 hm) (c := ?_))) | refine DD 14 ?_ | fail)
      all_goals (first | refine D1 15 ?_ | (refine DV (k := 15) (b := by first | exact U1 k | exact U4 hm) (c := ?_)) | (refine D3 15 (DW (b := by first | exact U1 k | exact U4 hm) (c := ?_))) | refine DD 15 ?_ | fail)
      all_goals (first | refine D1 16 ?_ | (refine DV (k := 16) (b := by first | exact U1 k | exact U4 hm) (c := ?_)) | (refine D3 16 (DW (b := by first | exact U1 k | exact U4 hm) (c := ?_))) | refine DD 16 ?_ | fail)
      all_goals (first | refine D1 17 ?_ | (refine DV (k := 17) (b := by first | exact U1 k | exact U4 hm) (c := ?_)) | (refine D3 17 (DW (b := by first | exact U1 k | exact U4 hm) (c := ?_))) | refine DD 17 ?_ | fail)
      all_goals (first | refine D1 18 ?_ | (refine DV (k := 18) (b := by first | exact U1 k | exact U4 hm) (c := ?_)) | (refine D3 18 (DW (b := by first | exact U1 k | exact U4 hm) (c := ?_))) | refine DD 18 ?_ | fail)
      all_goals (first | refine D1 19 ?_ | (refine DV (k := 19) (b := by first | exact U1 k | exact U4 hm) (c := ?_)) | (refine D3 19 (DW (b := by first | exact U1 k | exact U4 hm) (c := ?_))) | refine DD 19 ?_ | fail)
      all_goals (first | refine D1 20 ?_ | (refine DV (k := 20) (b := by first | exact U1 k | exact U4 hm) (c := ?_)) | (refine D3 20 (DW (b := by first | exact U1 k | exact U4 hm) (c := ?_))) | refine DD 20 ?_ | fail)
      all_goals (first | refine D1 21 ?_ | (refine DV (k := 21) (b := by first | exact U1 k | exact U4 hm) (c := ?_)) | (refine D3 21 (DW (b := by first | exact U1 k | exact U4 hm) (c := ?_))) | refine DD 21 ?_ | fail)
      all_goals (first | refine D1 22 ?_ | (refine DV (k := 22) (b := by first | exact U1 k | exact U4 hm) (c := ?_)) | (refine D3 22 (DW (b := by first | exact U1 k | exact U4 hm) (c := ?_))) | refine DD 22 ?_ | fail)
      all_goals (first | refine D1 23 ?_ | (refine DV (k := 23) (b := by first | exact U1 k | exact U4 hm) (c := ?_)) | (refine D3 23 (DW (b := by first | exact U1 k | exact U4 hm) (c := ?_))) | refine DD 23 ?_ | fail)
      all_goals (first | refine D1 24 ?_ | (refine DV (k := 24) (b := by first | exact U1 k | exact U4 hm) (c := ?_)) | (refine D3 24 (DW (b := by first | exact U1 k | exact U4 hm) (c := ?_))) | refine DD 24 ?_ | fail)
      all_goals (first | refine D1 25 ?_ | (refine DV (k := 25) (b := by first | exact U1 k | exact U4 hm) (c := ?_)) | (refine D3 25 (DW (b := by first | exact U1 k | exact U4 hm) (c := ?_))) | refine DD 25 ?_ | fail)
      all_goals (first | refine D1 26 ?_ | (refine DV (k := 26) (b := by first | exact U1 k | exact U4 hm) (c := ?_)) | (refine D3 26 (DW (b := by first | exact U1 k | exact U4 hm) (c := ?_))) | refine DD 26 ?_ | fail)
      refine ga_all2 1 27 (by kernel_rfl) ?dr14_1 ?dr14_27
      case' dr14_1 =>
        (first | ((with_reducible apply gaop_val); exact rfl; exact rfl; exact rfl; exact rfl; (first | ((with_reducible apply pv_sound); exact rfl) | exact U1 k | exact U4 hm | ((with_reducible apply v_ld); exact rfl; (repeat first | with_reducible exact inb_hd | with_reducible apply inb_tl); exact rfl))))
        all_goals (first | (refine D3 27 ?_; refine D5 ?_; (with_reducible apply C2); exact rfl; exact EN; (exact fun w hw => buildQ_spec qN gwF qN0 w μ1 hw A3 j c3 ts hS3' (by omega) hqN); rintro v2 μ2 hle2 ⟨t2, ⟨u2, rfl, hk2⟩, hsz2, hall2, hws2⟩; have ho2 := hk2.one; refine D9 ?_))
        all_goals (first | refine D1 28 ?_ | (refine DV (k := 28) (b := by first | exact U1 k | exact U4 hm) (c := ?_)) | (refine D3 28 (DW (b := by first | exact U1 k | exact U4 hm) (c := ?_))) | refine DD 28 ?_ | fail)
        all_goals (first | (refine D3 29 ?_; refine D5 ?_; refine NB fun b => ?_; refine D9 ?_))
        all_goals (first | (refine D3 30 ?_; refine D5 ?_; (first | ((with_reducible apply g_ap); exact rfl; exact rfl; exact rfl; (repeat first | with_reducible exact rowup_hd | with_reducible apply rowup_tl); (iterate 6 exact rfl); (first | ((with_reducible apply src_in); exact rfl; (repeat first | with_reducible exact inb_hd | with_reducible apply inb_tl); exact rfl)); (first | exact rfl | omega | simp); (first | assumption | (exact ones_mem (by (repeat first | with_reducible exact ones_nil | ((with_reducible apply ones_cons); (first | exact rfl | assumption))))) | simp [Value.oneCell']); omega; omega; intro v) | ((with_reducible apply g_append0); (iterate 9 exact rfl); (first | ((with_reducible apply src_in); exact rfl; (repeat first | with_reducible exact inb_hd | with_reducible apply inb_tl); exact rfl)); (first | exact rfl | omega | simp); (first | assumption | (exact ones_mem (by (repeat first | with_reducible exact ones_nil | ((with_reducible apply ones_cons); (first | exact rfl | assumption))))) | simp [Value.oneCell']); omega; omega; intro v)); refine D9 ?_))
        all_goals (first | refine D1 31 ?_ | (refine DV (k := 31) (b := by first | exact U1 k | exact U4 hm) (c := ?_)) | (refine D3 31 (DW (b := by first | exact U1 k | exact U4 hm) (c := ?_))) | refine DD 31 ?_ | fail)
        all_goals (first | (refine D3 32 ?_; refine D5 ?_; (first | refine Y0 ?_ | ((with_reducible apply g_rowOk 1); exact rfl; rintro A4 c4 rfl hok4; (with_reducible apply g_st); exact rfl; exact rfl; (repeat first | with_reducible exact ones_nil | ((with_reducible apply ones_cons); (first | exact rfl | assumption))); (repeat first | with_reducible apply upb_hd | with_reducible apply upb_tl); exact rfl; (repeat first | with_reducible exact pc_nil | with_reducible apply pc_cons))); refine D9 ?_))
        all_goals refine D8 ?_
      case' dr14_27 =>
        (first | (refine D5 ?_; (with_reducible apply C2); exact rfl; exact EN; (exact fun w hw => buildQ_spec qN gwF qN0 w μ1 hw A3 j c3 ts hS3' (by omega) hqN); rintro v2 μ2 hle2 ⟨t2, ⟨u2, rfl, hk2⟩, hsz2, hall2, hws2⟩; have ho2 := hk2.one; refine D9 ?_))
        all_goals (first | refine D1 28 ?_ | (refine DV (k := 28) (b := by first | exact U1 k | exact U4 hm) (c := ?_)) | (refine D3 28 (DW (b := by first | exact U1 k | exact U4 hm) (c := ?_))) | refine DD 28 ?_ | fail)
        refine ga_all2 1 29 (by kernel_rfl) ?dr15_1 ?dr15_29
        case' dr15_1 =>
          (first | ((with_reducible apply gaop_val); exact rfl; exact rfl; exact rfl; exact rfl; (first | ((with_reducible apply pv_sound); exact rfl) | exact U1 k | exact U4 hm | ((with_reducible apply v_ld); exact rfl; (repeat first | with_reducible exact inb_hd | with_reducible apply inb_tl); exact rfl))))
          all_goals (first | (refine D3 29 ?_; refine D5 ?_; refine NB fun b => ?_; refine D9 ?_))
          all_goals (first | (refine D3 30 ?_; refine D5 ?_; (first | ((with_reducible apply g_ap); exact rfl; exact rfl; exact rfl; (repeat first | with_reducible exact rowup_hd | with_reducible apply rowup_tl); (iterate 6 exact rfl); (first | ((with_reducible apply src_in); exact rfl; (repeat first | with_reducible exact inb_hd | with_reducible apply inb_tl); exact rfl)); (first | exact rfl | omega | simp); (first | assumption | (exact ones_mem (by (repeat first | with_reducible exact ones_nil | ((with_reducible apply ones_cons); (first | exact rfl | assumption))))) | simp [Value.oneCell']); omega; omega; intro v) | ((with_reducible apply g_append0); (iterate 9 exact rfl); (first | ((with_reducible apply src_in); exact rfl; (repeat first | with_reducible exact inb_hd | with_reducible apply inb_tl); exact rfl)); (first | exact rfl | omega | simp); (first | assumption | (exact ones_mem (by (repeat first | with_reducible exact ones_nil | ((with_reducible apply ones_cons); (first | exact rfl | assumption))))) | simp [Value.oneCell']); omega; omega; intro v)); refine D9 ?_))
          all_goals (first | refine D1 31 ?_ | (refine DV (k := 31) (b := by first | exact U1 k | exact U4 hm) (c := ?_)) | (refine D3 31 (DW (b := by first | exact U1 k | exact U4 hm) (c := ?_))) | refine DD 31 ?_ | fail)
          all_goals (first | (refine D3 32 ?_; refine D5 ?_; (first | refine Y0 ?_ | ((with_reducible apply g_rowOk 1); exact rfl; rintro A4 c4 rfl hok4; (with_reducible apply g_st); exact rfl; exact rfl; (repeat first | with_reducible exact ones_nil | ((with_reducible apply ones_cons); (first | exact rfl | assumption))); (repeat first | with_reducible apply upb_hd | with_reducible apply upb_tl); exact rfl; (repeat first | with_reducible exact pc_nil | with_reducible apply pc_cons))); refine D9 ?_))
          all_goals refine D8 ?_
        case' dr15_29 =>
          (first | (refine D5 ?_; refine NB fun b => ?_; refine D9 ?_))
          all_goals (first | (refine D3 1 ?_; (with_reducible apply gaop_val); exact rfl; exact rfl; exact rfl; exact rfl; (first | ((with_reducible apply pv_sound); exact rfl) | exact U1 k | exact U4 hm | ((with_reducible apply v_ld); exact rfl; (repeat first | with_reducible exact inb_hd | with_reducible apply inb_tl); exact rfl))))
          all_goals (first | (refine D3 30 ?_; refine D5 ?_; (first | ((with_reducible apply g_ap); exact rfl; exact rfl; exact rfl; (repeat first | with_reducible exact rowup_hd | with_reducible apply rowup_tl); (iterate 6 exact rfl); (first | ((with_reducible apply src_in); exact rfl; (repeat first | with_reducible exact inb_hd | with_reducible apply inb_tl); exact rfl)); (first | exact rfl | omega | simp); (first | assumption | (exact ones_mem (by (repeat first | with_reducible exact ones_nil | ((with_reducible apply ones_cons); (first | exact rfl | assumption))))) | simp [Value.oneCell']); omega; omega; intro v) | ((with_reducible apply g_append0); (iterate 9 exact rfl); (first | ((with_reducible apply src_in); exact rfl; (repeat first | with_reducible exact inb_hd | with_reducible apply inb_tl); exact rfl)); (first | exact rfl | omega | simp); (first | assumption | (exact ones_mem (by (repeat first | with_reducible exact ones_nil | ((with_reducible apply ones_cons); (first | exact rfl | assumption))))) | simp [Value.oneCell']); omega; omega; intro v)); refine D9 ?_))
          all_goals (first | refine D1 31 ?_ | (refine DV (k := 31) (b := by first | exact U1 k | exact U4 hm) (c := ?_)) | (refine D3 31 (DW (b := by first | exact U1 k | exact U4 hm) (c := ?_))) | refine DD 31 ?_ | fail)
          all_goals (first | (refine D3 32 ?_; refine D5 ?_; (first | refine Y0 ?_ | ((with_reducible apply g_rowOk 1); exact rfl; rintro A4 c4 rfl hok4; (with_reducible apply g_st); exact rfl; exact rfl; (repeat first | with_reducible exact ones_nil | ((with_reducible apply ones_cons); (first | exact rfl | assumption))); (repeat first | with_reducible apply upb_hd | with_reducible apply upb_tl); exact rfl; (repeat first | with_reducible exact pc_nil | with_reducible apply pc_cons))); refine D9 ?_))
          all_goals refine D8 ?_
      all_goals
        repeat' (first | refine KK ?_ | refine NB fun b => ?_ | (refine KB ?_ ?_ <;> intro hp) | refine KG ?_ | fail)
      all_goals refine gq_cells_2 [(0, .slice A4 (ps.length + 1) c4)] PU ?_
      all_goals
        refine gq_back (k + 1, x1, ps ++ [(⟨nm, kd, ln, lc, t2⟩, u2)], μ2, .slice A4 (ps.length + 1) c4) ⟨by dsimp only; omega, hle.trans hle2, by simp; omega, fun p hp => ?_, fun p hp => ?_, by dsimp only; omega, by dsimp only; omega, ?_⟩ (by dsimp only; omega) rfl PU ?_
        · rcases List.mem_append.1 hp with hp | hp
          · exact ⟨(hps p hp).1.mono hle2, (hps p hp).2⟩
          · cases List.mem_singleton.1 hp
            exact ⟨hk2, by dsimp only; omega⟩
        · rcases List.mem_append.1 hp with hp | hp
          · exact hall p hp
          · cases List.mem_singleton.1 hp
            exact hall2
        · have hg := gw_sum ts
          have hl2 : ((ts.map fun y => gwF y.s).sum : Int) = 80 * (ts.length : Int) + 4 * (sumS ts j : Int) := by rw [hg, hsall]; omega
          have hz : gwF ⟨#[]⟩ = 80 := rfl
          rw [List.map_append, List.sum_append, List.map_cons, List.map_nil, List.sum_cons, List.sum_nil, List.length_append, List.length_cons, List.length_nil]
          have hw9 : wtF ((⟨nm, kd, ln, lc, t2⟩ : F), u2) = 4 * nm.size + wsum gwF t2 := rfl
          rw [hw9]
          dsimp only
          omega
        · dsimp only
          rw [show (ps ++ [((⟨nm, kd, ln, lc, t2⟩ : F), u2)]).length = ps.length + 1 by simp, List.flatMap_append]
          exact (by repeat first | exact List.Sublist.refl _ | exact List.nil_sublist _ | refine List.Sublist.cons_cons _ ?_ | refine List.Sublist.cons _ ?_)
  · repeat' (first | refine KK ?_ | refine NB fun b => ?_ | (refine KB ?_ ?_ <;> intro hp) | refine KG ?_ | fail)
    exact ret_m2 rfl (by first | exact rv_tmp rfl | exact (RG 0 rfl rfl rfl rfl rfl) | exact (RG 1 rfl rfl rfl rfl rfl) | exact (RG 2 rfl rfl rfl rfl rfl) | exact (RG 3 rfl rfl rfl rfl rfl)) (by first | exact rv_tmp rfl | exact (RG 0 rfl rfl rfl rfl rfl) | exact (RG 1 rfl rfl rfl rfl rfl) | exact (RG 2 rfl rfl rfl rfl rfl) | exact (RG 3 rfl rfl rfl rfl rfl)) (fun μ' hle' hL => post (fun h => by first | (cases h; done) | (have := of_decide_eq_true h; omega)) (MLe.refl _) hle' (hL _ (List.mem_cons_self ..)))
end
section
open Go.RowKit Go.Vcg Go.Shelf Ou
theorem names10 : rowT.all (fun x => Nat.ble x.2.1.length 10) = true := by kernel_rfl
theorem name_len (op : Int) : (rowI op).1.length ≤ 10 := by
  rcases kinds op with ⟨k, x, rfl, h1, h2⟩ | ⟨h1, h2⟩
  · rw [h2]
    obtain ⟨j, hj⟩ := find_mem h1
    have := List.all_eq_true.1 names10 _ hj
    simpa using this
  · rw [h2]
    simp
theorem lineT_len {op n m : Int} {k : Nat} {s : ByteArray} (hn : -9007199254740992 ≤ n ∧ n ≤ 9007199254740992) (hm : -9007199254740992 ≤ m ∧ m ≤ 9007199254740992) (hk : k ≤ 1048576) : (Iq.lineT rowI op n m k (byS s)).length + 1 ≤ gwF s := by
  have h1 := name_len op
  have h2 := itoa_len21 hn
  have h3 := itoa_len21 hm
  have h4 := itoa_len21 (n := (k : Int)) (by omega)
  have h5 := quote_len s
  unfold Iq.lineT gwF
  simp only [List.length_append, List.length_cons]
  omega
theorem nodeT_len (t : T) : ∀ deep, Iq.OkT rowI deep t → (Iq.nodeT rowI t).length ≤ wsum gwF t := T.ind2 (p := fun t => ∀ deep, Iq.OkT rowI deep t → (Iq.nodeT rowI t).length ≤ wsum gwF t) (fun t ih deep hok => by
  obtain ⟨h1, h2, h3, h4, h5, h6⟩ := okT_parts hok
  have hl := lineT_len (op := t.op) (s := t.s) h2 h3 h4
  have key : ∀ l : List T, (∀ k ∈ l, (Iq.nodeT rowI k).length ≤ wsum gwF k) → (Iq.kidsT rowI l).length ≤ (l.map (wsum gwF)).sum := by
    intro l
    induction l with
    | nil => intro _; rw [Iq.kidsT]; simp
    | cons a r ih2 =>
      intro h
      have g1 := h a (List.mem_cons_self ..)
      have g2 := ih2 (fun k hk => h k (List.mem_cons_of_mem _ hk))
      rw [Iq.kidsT]
      simp only [List.length_append, List.map_cons, List.sum_cons]
      omega
  have := key t.kids (fun k hk => ih k hk (deep + 1) (h6 k hk))
  rw [nodeT_eq, wsum_eq]
  simp only [List.length_append, List.length_cons]
  omega) t
theorem fnT_len {p : F × Value} (h : Iq.OkF rowI (fnP p.1)) : (Iq.fnT rowI (fnP p.1)).length ≤ 100 + wtF p := by
  obtain ⟨h1, h2, h3, h4, h5⟩ := h
  dsimp only at h1 h2 h3 h4 h5
  have g1 := nodeT_len _ 1 h1
  have g2 := quote_len p.1.name
  have g3 := itoa_len21 h3
  have g4 := itoa_len21 h4
  have g5 := itoa_len21 h5
  unfold Iq.fnT Iq.funcT Iq.funcP Iq.numsT wtF
  simp only [List.length_append, List.length_cons, List.length_nil]
  omega
theorem unitT_len {ps : List (F × Value)} (h : ∀ f ∈ ps.map fun p => fnP p.1, Iq.OkF rowI f) (hn : ps.length ≤ 4096) : (Iq.unitT rowI (ps.map fun p => fnP p.1)).length ≤ 27 + 100 * ps.length + (ps.map wtF).sum := by
  have key : ∀ l : List (F × Value), (∀ p ∈ l, Iq.OkF rowI (fnP p.1)) → ((l.map fun p => fnP p.1).flatMap (Iq.fnT rowI)).length ≤ 100 * l.length + (l.map wtF).sum := by
    intro l
    induction l with
    | nil => intro _; simp
    | cons a r ih =>
      intro h
      have g1 := fnT_len (h a (List.mem_cons_self ..))
      have g2 := ih (fun p hp => h p (List.mem_cons_of_mem _ hp))
      simp only [List.map_cons, List.flatMap_cons, List.length_append, List.sum_cons, List.length_cons]
      omega
  have g1 := key ps (fun p hp => h _ (List.mem_map.2 ⟨p, hp, rfl⟩))
  have g2 := itoa_len21 (n := ((ps.map fun p => fnP p.1).length : Int)) (by rw [List.length_map]; omega)
  unfold Iq.unitT Iq.unitP
  simp only [List.length_append, List.length_cons, List.length_nil] at g2 ⊢
  omega
theorem law_len {μ : Mem} {A : Option Addr} {n : Nat} {ps : List (F × Value)} (hF : Fs μ A n ps) (hall : ∀ p ∈ ps, AllT qN p.1.body) (hw : (ps.map wtF).sum ≤ 90000) (hR : Iq.rightU rowI (ps.map fun p => fnP p.1) = true) : (Iq.unitT rowI (ps.map fun p => fnP p.1)).length ≤ 600000 := by
  obtain ⟨h1, h2, h3⟩ := Iq.right_ok (row := rowI) (fs := ps.map fun p => fnP p.1) (fun f hf => by
    obtain ⟨p, hp, rfl⟩ := List.mem_map.1 hf
    exact szT_of _ (hall p hp) (hF.2.2 p hp).2) hR
  rw [List.length_map] at h2 h3
  have := unitT_len h1 h3
  omega
attribute [local irreducible] rowI Iq.rightU Iq.unitT Iq.nodeT Iq.kidsT G GC GQ GA GAop Calls IntKind.wrap Int.decLt Int.decLe
end
section
open Go.ChangeShapes Go.WideShapes Go.ChangeAt Go.RowKit Go.Deep Go.Vcg
theorem tabOk_of {W : World} {l : List (String × DataW Unit)} (h : laidMet Tryz.prog l W) (hm : (tabName, Rows.laid_internal_strconv_uint64pow10) ∈ l) : TabOk (memOf W) := by
  obtain ⟨g, t, cs, fuel, p, h1, h2, h3, h4⟩ := Lib.laidMet.reads h hm
  have hg : Tryz.prog.globalNamed tabName = some 3 := by kernel_rfl
  obtain rfl := Option.some.inj (hg.symm.trans h1)
  have ht : (Tryz.prog.globals[3]?).map (·.type) = some 184 := by kernel_rfl
  obtain rfl := Option.some.inj (ht.symm.trans h2)
  have hd : (Rows.laid_internal_strconv_uint64pow10 : DataW Unit) = Lib.tabData .u64 Lib.pow10Tab := by rfl
  rw [hd] at h4
  have hc := Lib.cells_of_tab Tryz.underlying184 Tryz.underlying173 (by kernel_rfl) (by kernel_rfl) h4
  intro w hw
  unfold Lib.TabIs World.var?
  unfold World.var? at h3
  rw [hg] at h3 ⊢
  simp only [Option.bind_some] at h3 ⊢
  cases hb : W.heap[3]? with
  | none => rw [hb] at h3; cases h3
  | some o =>
    rw [hw _ o hb]
    rw [hb] at h3
    cases o <;> simp at h3
    rename_i cs' _ _
    subst h3
    simp only [Option.some.injEq]
    rw [← hc]
theorem maxQ_of {W : World} (h : W.ShapedOpen Tryz.prog) : MaxQ (memOf W) := by
  obtain ⟨m, hm⟩ := cell_of_shapedOpen_int (g := 0) (t := 3) (zero := #[.int .i64 0]) (k := .i64) h (of_decide_eq_true (by kernel_rfl)) (by kernel_rfl) rfl (by kernel_rfl) (by kernel_rfl) (by kernel_rfl)
  exact ⟨m, MCell.of_cell hm⟩
end
section
open Go.RowKit Go.Vcg Go.MapKept Ou
def nmF (k : Nat) : List (List UInt8 × Int) := match (rowI ((100 : Int) + k)).1 with
  | [] => []
  | c :: r => [(c :: r, (100 : Int) + k)]
def nmL : Nat → List (List UInt8 × Int)
  | 0 => []
  | k + 1 => nmL k ++ nmF k
def opL : List (List UInt8 × Int) → List UInt8 → Option Int
  | [], _ => none
  | (n, op) :: r, w => if w = n then some op else opL r w
def mkN : List (List UInt8 × Int) → Nat → List MapEntry
  | [], _ => []
  | (n, op) :: r, j => MapEntry.mk (.string (ofB n)) (.int .i64 op) j :: mkN r (j + 1)
def opOf (w : List UInt8) : Option Int := opL (nmL 73) w
theorem mkN_app : ∀ (l : List (List UInt8 × Int)) (x : List UInt8 × Int) (j : Nat), mkN (l ++ [x]) j = mkN l j ++ [MapEntry.mk (.string (ofB x.1)) (.int .i64 x.2) (j + l.length)]
  | [], x, j => by simp [mkN]
  | (n, op) :: r, x, j => by
    have := mkN_app r x (j + 1)
    simp only [List.cons_append, mkN, this, List.length_cons]
    rw [show j + 1 + r.length = j + (r.length + 1) by omega]
theorem ofB_eq {a b : List UInt8} : (ofB a = ofB b) ↔ a = b := ⟨fun h => by have := congrArg byS h; rwa [byS_ofB, byS_ofB] at this, fun h => by rw [h]⟩
theorem look_nm {P : Program} {et : TypeId} (hz : zeroT P et = some (.int .i64 0)) (x : List UInt8) : ∀ (l : List (List UInt8 × Int)) (j i : Nat), lookV P et (Instr.findNow .string (.string (ofB x)) (mkN l j) i) = some (.int .i64 ((opL l x).getD 0), (opL l x).isSome)
  | [], j, i => by simp [mkN, Instr.findNow, lookV, hz, opL]
  | (n, op) :: r, j, i => by
    have ih := look_nm hz x r (j + 1) (i + 1)
    unfold mkN Instr.findNow opL
    by_cases h : x = n
    · subst h
      have hk : (ofB x == ofB x) = true := (bytes_beq _ _).2 rfl
      simp [Instr.sameNow, lookV, hk]
    · have hk : (ofB x == ofB n) = false := Bool.eq_false_iff.2 fun e => h (ofB_eq.1 ((bytes_beq _ _).1 e))
      simp [Instr.sameNow, hk, h]
      exact ih
theorem none_nm (x : List UInt8) : ∀ (l : List (List UInt8 × Int)) (j i : Nat), opL l x = none → Instr.findNow .string (.string (ofB x)) (mkN l j) i = some none
  | [], j, i, _ => by simp [mkN, Instr.findNow]
  | (n, op) :: r, j, i, h => by
    unfold opL at h
    by_cases hx : x = n
    · rw [if_pos hx] at h; cases h
    · rw [if_neg hx] at h
      have ih := none_nm x r (j + 1) (i + 1) h
      have hk : (ofB x == ofB n) = false := Bool.eq_false_iff.2 fun e => hx (ofB_eq.1 ((bytes_beq _ _).1 e))
      unfold mkN Instr.findNow
      simp [Instr.sameNow, hk]
      exact ih
theorem nm_new : (List.range 73).all (fun k => (opL (nmL k) (rowI ((100 : Int) + k)).1).isNone) = true := by kernel_rfl
theorem nm_has : (List.range 73).all (fun k => (rowI ((100 : Int) + k)).1.isEmpty || decide (opOf (rowI ((100 : Int) + k)).1 = some ((100 : Int) + k))) = true := by kernel_rfl
theorem nm_tab : (nmL 73).all (fun x => decide ((rowI x.2).1 = x.1)) = true := by kernel_rfl
theorem nm_fr : rowT.all (fun x => x.2.1.all fun c => decide (c ≠ 32) && decide (c ≠ 10)) = true := by kernel_rfl
theorem opL_mem : ∀ {l : List (List UInt8 × Int)} {x : List UInt8} {op : Int}, opL l x = some op → (x, op) ∈ l
  | [], x, op, h => by simp [opL] at h
  | (n, o) :: r, x, op, h => by
    unfold opL at h
    by_cases hx : x = n
    · rw [if_pos hx] at h
      cases h
      subst hx
      exact List.mem_cons_self ..
    · rw [if_neg hx] at h
      exact List.mem_cons_of_mem _ (opL_mem h)
theorem findR_mem : ∀ {l : List Row} {k : Nat} {x : List UInt8 × List UInt8}, findR k l = some x → (k, x) ∈ l
  | [], k, x, h => by simp [findR] at h
  | (n, a) :: r, k, x, h => by
    unfold findR at h
    split at h
    · rename_i hk
      cases h
      have : n = k := Nat.eq_of_beq_eq_true hk
      subst this
      exact List.mem_cons_self ..
    · exact List.mem_cons_of_mem _ (findR_mem h)
theorem rowOp : Iq.RowOp rowI opOf := by
  refine ⟨fun w op h => ?_, fun op h => ?_, fun op => ?_⟩
  · have := List.all_eq_true.1 nm_tab _ (opL_mem h)
    simpa using this
  · rcases kinds op with ⟨k, x, rfl, h1, h2⟩ | ⟨h1, h2⟩
    · have hb : 100 ≤ k ∧ k ≤ 172 := by
        have := List.all_eq_true.1 in_all _ (findR_mem h1)
        simp only [Bool.and_eq_true] at this
        exact ⟨Nat.le_of_ble_eq_true this.1, Nat.le_of_ble_eq_true this.2⟩
      have := List.all_eq_true.1 nm_has (k - 100) (List.mem_range.2 (by omega))
      have e : ((100 : Int) + ((k - 100 : Nat) : Int)) = Int.ofNat k := by show _ = (k : Int); omega
      rw [e] at this
      simp only [Bool.or_eq_true, List.isEmpty_iff, decide_eq_true_eq] at this
      rcases this with h3 | h3
      · exact absurd h3 h
      · exact h3
    · rw [h2] at h
      exact absurd rfl h
  · rcases kinds op with ⟨k, x, rfl, h1, h2⟩ | ⟨h1, h2⟩
    · have h3 := List.all_eq_true.1 nm_fr _ (findR_mem h1)
      rw [h2]
      constructor
      · intro hc
        have := List.all_eq_true.1 h3 _ hc
        simp at this
      · intro hc
        have := List.all_eq_true.1 h3 _ hc
        simp at this
    · rw [h2]
      exact ⟨by simp [Fr], by simp [Fr]⟩
theorem nmF_nil {k : Nat} (h : (rowI ((100 : Int) + k)).1 = []) : nmF k = [] := by unfold nmF; rw [h]
theorem nmF_one {k : Nat} (h : (rowI ((100 : Int) + k)).1 ≠ []) : nmF k = [((rowI ((100 : Int) + k)).1, (100 : Int) + k)] := by
  unfold nmF
  cases h2 : (rowI ((100 : Int) + k)).1 with
  | nil => exact absurd h2 h
  | cons c r => rfl
theorem nm_none {k : Nat} (h : k < 73) : opL (nmL k) (rowI ((100 : Int) + k)).1 = none := by
  have := List.all_eq_true.1 nm_new k (List.mem_range.2 h)
  simpa using this
abbrev nmM : List MapEntry := mkN (nmL 73) 0
theorem nm0 (b : Nat) : [Bk.mp ⟨b, mkN (nmL 0) 0, (nmL 0).length⟩] = [Bk.mp ⟨b, [], 0⟩] := rfl
theorem nmS_nil {k : Nat} (b : Nat) (h : (rowI ((100 : Int) + k)).1 = []) : [Bk.mp ⟨b, mkN (nmL (k + 1)) 0, (nmL (k + 1)).length⟩] = [Bk.mp ⟨b, mkN (nmL k) 0, (nmL k).length⟩] := by
  rw [show nmL (k + 1) = nmL k ++ nmF k from rfl, nmF_nil h, List.append_nil]
theorem nmS_one {k : Nat} (b : Nat) (h : (rowI ((100 : Int) + k)).1 ≠ []) : [Bk.mp ⟨b, mkN (nmL (k + 1)) 0, (nmL (k + 1)).length⟩] = [Bk.mp ⟨b, mkN (nmL k) 0 ++ [MapEntry.mk (.string (ofB (rowI ((100 : Int) + k)).1)) (.int .i64 ((100 : Int) + k)) (nmL k).length], (nmL k).length + 1⟩] := by
  rw [show nmL (k + 1) = nmL k ++ nmF k from rfl, nmF_one h, mkN_app, List.length_append, List.length_singleton, Nat.zero_add]
theorem ofB_nil {l : List UInt8} : ofB l = ⟨#[]⟩ ↔ l = [] := ofB_eq (b := [])
theorem name_atK (w : World) (μ : Mem) (hμ : MOk μ w) (hm : MaxM μ) (op : Int) (ho : -9223372036854775808 ≤ op ∧ op ≤ 9223372036854775807) :
    Calls Tryz.prog 8 #[.int .i64 op] w fun e w' => e = .returned (.string (ofB (rowI op).1)) ∧ Below w.heap.size w w' := name_spec w μ hμ hm op ho
end
end Go.Proofs.YtoclmkdfcafhfaaGreatDoor
namespace Go.Vcg
open Go.RowKit Go.MapKept
section
variable {P : Program} {X : Ctx} {μ : Mem} {l : Slots} {L : List Bk} {ty : TypeId} {pos : String} {af : Array Edge} {gd : Option (Nat × Bool)} {ds : Option Nat}
theorem v_lookup2_sh {t kt et : TypeId} {dk : TypeDesc} {m k : Operand} {b ck : Nat} {es : List MapEntry} {kv v : Value} {ok : Bool} (hm : ev l m = some (.map (some b))) (hk : ev l k = some kv) (ht : P.underlying t = some (.map kt et)) (hkt : P.underlying kt = some dk) (hkey : IsKey dk kv)
    (hu : μ b = some (.map es.toArray ck)) (hf : lookV P et (Instr.findNow dk kv es 0) = some (v, ok)) : Val P μ l L ⟨ds, .lookup t m k true, ty, pos, af, gd⟩ (.tuple #[v, .bool ok]) := fun a w hs => by
  have hb : w.heap[b]? = some (.map es.toArray ck) := hs.mem _ _ hu
  have e1 := hs.eval hm; have e2 := hs.eval hk
  generalize a.eval = ρ at e1 e2
  simp [execOp, e1, e2, run_lookup_own (c := true) ht hkt hkey hb hf]
end
end Go.Vcg
namespace Go.Proofs.YtoclmkdfcafhfaaGreatDoor
open Go.RowKit Go.Vcg Go.MapKept Ou
attribute [local irreducible] rowI nmL G GC GQ GA GAop Calls IntKind.wrap Int.decLt Int.decLe
def NamT (μ : Mem) (m : Nat) : Prop := μ m = some (.map nmM.toArray (nmL 73).length)
theorem NamT.mono {μ μ' : Mem} {m : Nat} (h : NamT μ m) (hle : MLe μ μ') : NamT μ' m := hle _ _ h
theorem names_spec (w : World) (μ : Mem) (hμ : MOk μ w) (hm : MaxM μ) : Calls Tryz.prog 27 #[] w fun e w' => ∃ v μ', e = .returned v ∧ Grow w w' μ μ' ∧ ∃ i : Nat, v = .map (some i) ∧ NamT μ' i := by
  refine call_intro (args := []) Tryz.func27 rfl Tryz.ntmps27 (by simp) hμ ?_
  repeat' (first | refine KK ?_ | ((with_reducible apply g_mkmap); exact rfl; exact rfl; intro b) | ((with_reducible apply g_mapset); (first | exact .inl rfl | exact .inr rfl); (iterate 6 exact rfl); (first | exact trivial | exact rfl); (repeat first | with_reducible exact upm_hd | with_reducible apply upm_tl); exact rfl) | (refine KB ?_ ?_ <;> intro hp) | refine KG ?_ | fail)
  refine gc_loop (ι := Nat) (fun k => k ≤ 73) (fun k => 73 - k) (fun _ => μ) (fun k => [(2, .int .i64 ((100 : Int) + k)), (1, .map (some b)), (0, .map none)]) (fun k => [.mp ⟨b, mkN (nmL k) 0, (nmL k).length⟩]) 0 (by omega) (fun a w hs => (by rw [nm0]; exact hs.sub PU (by repeat first | exact List.Sublist.refl _ | exact List.nil_sublist _ | refine List.Sublist.cons _ ?_))) ?_
  intro k hk
  by_cases hlt : k < 73
  · have hc := fun w μc hw hm => name_atK w μc hw hm ((100 : Int) + k) (by omega)
    have hno := none_nm (rowI ((100 : Int) + k)).1 (nmL k) 0 0 (nm_none hlt)
    by_cases hn : (rowI ((100 : Int) + k)).1 = []
    · have hn1 : ofB (rowI ((100 : Int) + k)).1 = ⟨#[]⟩ := ofB_nil.2 hn
      repeat' (first | refine KO ?_ | ((with_reducible apply C1); exact rfl; exact EN; exact fun w μc hw hse => hc w μc hw (hm.mono hse.le)) | refine KI ?_ | ((with_reducible apply g_mkmap); exact rfl; exact rfl; intro b) | ((with_reducible apply g_mapset); (first | exact .inl rfl | exact .inr rfl); (iterate 6 exact rfl); (first | exact trivial | exact rfl); (repeat first | with_reducible exact upm_hd | with_reducible apply upm_tl); exact rfl) | (refine KB ?_ ?_ <;> intro hp) | refine KG ?_ | fail)
      all_goals first | (exfalso; first | omega | contradiction | exact absurd ‹_› ‹¬ _›) | skip
      exact gq_back (k + 1) (by omega) (by omega) rfl PU (by rw [nmS_nil b hn]; exact (by repeat first | exact List.Sublist.refl _ | exact List.nil_sublist _ | refine List.Sublist.cons_cons _ ?_ | refine List.Sublist.cons _ ?_))
    · have hn1 : ¬ ofB (rowI ((100 : Int) + k)).1 = ⟨#[]⟩ := fun e => hn (ofB_nil.1 e)
      repeat' (first | (((with_reducible apply g_mapset); (first | exact .inl rfl | exact .inr rfl); (iterate 6 exact rfl); (first | exact trivial | exact rfl); (repeat first | with_reducible exact upm_hd | with_reducible apply upm_tl); exact hno)) | refine KO ?_ | ((with_reducible apply C1); exact rfl; exact EN; exact fun w μc hw hse => hc w μc hw (hm.mono hse.le)) | refine KI ?_ | ((with_reducible apply g_mkmap); exact rfl; exact rfl; intro b) | ((with_reducible apply g_mapset); (first | exact .inl rfl | exact .inr rfl); (iterate 6 exact rfl); (first | exact trivial | exact rfl); (repeat first | with_reducible exact upm_hd | with_reducible apply upm_tl); exact rfl) | (refine KB ?_ ?_ <;> intro hp) | refine KG ?_ | fail)
      all_goals first | (exfalso; first | omega | contradiction | exact absurd ‹_› ‹¬ _›) | skip
      exact gq_back (k + 1) (by omega) (by omega) rfl PU (by rw [nmS_one b hn]; exact (by repeat first | exact List.Sublist.refl _ | exact List.nil_sublist _ | refine List.Sublist.cons_cons _ ?_ | refine List.Sublist.cons _ ?_))
  · repeat' (first | refine KK ?_ | ((with_reducible apply g_mkmap); exact rfl; exact rfl; intro b) | ((with_reducible apply g_mapset); (first | exact .inl rfl | exact .inr rfl); (iterate 6 exact rfl); (first | exact trivial | exact rfl); (repeat first | with_reducible exact upm_hd | with_reducible apply upm_tl); exact rfl) | (refine KB ?_ ?_ <;> intro hp) | refine KG ?_ | fail)
    all_goals first | (exfalso; first | omega | contradiction | exact absurd ‹_› ‹¬ _›) | skip
    obtain rfl : k = 73 := by omega
    exact ret_m1 rfl (by first | exact rv_tmp rfl | exact (RG 0 rfl rfl rfl rfl rfl) | exact (RG 1 rfl rfl rfl rfl rfl) | exact (RG 2 rfl rfl rfl rfl rfl) | exact (RG 3 rfl rfl rfl rfl rfl)) (fun μ' hle' hL => ⟨b, rfl, hL _ (List.mem_cons_self ..)⟩)
end Go.Proofs.YtoclmkdfcafhfaaGreatDoor
namespace Go.Vcg
section
open Go.RowKit
section
variable {P : Program} {X : Ctx} {ops : Array Oper} {Q : Exit → Act → World → Prop} {rest : List Oper} {μ : Mem} {l : Slots} {L : List Bk} {a : Act} {w : World} {o : Oper} {d : Nat}
end
end
section
open Go.RowKit
section
variable {P : Program} {X : Ctx} {ops : Array Oper} {Q : Exit → Act → World → Prop} {rest : List Oper} {μ : Mem} {l : Slots} {L : List Bk} {a : Act} {w : World} {o : Oper} {d : Nat}
end
end
end Go.Vcg
namespace Go.Proofs.YtoclmkdfcafhfaaGreatDoor.Ou
open Go
end Go.Proofs.YtoclmkdfcafhfaaGreatDoor.Ou
namespace Go.Vcg
open Go.RowKit
end Go.Vcg
namespace Go.Proofs.YtoclmkdfcafhfaaGreatDoor
open Go.RowKit Go.Vcg Go.Shelf Ou
def MaxOk (μ : Mem) : Prop := ∃ m : Int, MCell μ ⟨0, 0, none⟩ (.int .i64 m)
theorem MaxOk.mono {μ μ' : Mem} (h : MaxOk μ) (hle : MLe μ μ') : MaxOk μ' := by
  obtain ⟨m, hm⟩ := h
  exact ⟨m, hm.mono hle⟩
attribute [local irreducible] G GC GQ GA GAop Calls IntKind.wrap Int.decLt Int.decLe
end Go.Proofs.YtoclmkdfcafhfaaGreatDoor
