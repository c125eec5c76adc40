/- Package ir -/
import Derived.Test.YtoclmkdfcafhfaaGreatDoorQbl
set_option maxRecDepth 20000
set_option maxHeartbeats 2000000
namespace Go.Proofs.YtoclmkdfcafhfaaGreatDoor
section
open Go.RowKit Go.Vcg
def gwF (s : ByteArray) : Nat := 80 + 4 * s.size
def wtF (p : F × Value) : Nat := 4 * p.1.name.size + wsum gwF p.1.body
def sumS (ts : List It) (j : Nat) : Nat := ((ts.take j).map fun y => y.s.size).sum
theorem sumS_succ {ts : List It} {j : Nat} {z : It} (h : ts[j]? = some z) : sumS ts (j + 1) = sumS ts j + z.s.size := by
  unfold sumS
  rw [List.take_add_one, h]
  simp
theorem sum_mem_le {α : Type} {g : α → Nat} {y : α} : ∀ {l : List α}, y ∈ l → g y ≤ (l.map g).sum
  | a :: r, h => by
    rw [List.map_cons, List.sum_cons]
    rcases List.mem_cons.1 h with rfl | h
    · omega
    · have := sum_mem_le (g := g) h
      omega
theorem gw_sum : ∀ ts : List It, (ts.map fun y => gwF y.s).sum = 80 * ts.length + 4 * (ts.map fun y => y.s.size).sum
  | [] => rfl
  | y :: r => by
    have := gw_sum r
    simp only [List.map_cons, List.sum_cons, List.length_cons, gwF] at this ⊢
    omega
theorem qN0 : qN ⟨0, 0, 0, 0, ⟨#[]⟩, 0⟩ := ⟨by decide, by decide⟩
def UnitPost2 (μ : Mem) (v : Value) : Prop := ∃ A c ps ok, v = .tuple #[.agg #[.slice A ps.length c], .bool ok] ∧ Fs μ A ps.length ps ∧ (∀ p ∈ ps, AllT qN p.1.body) ∧ (ok = true → (ps.map wtF).sum ≤ 90000)
attribute [local irreducible] G GC GQ GA GAop Calls IntKind.wrap Int.decLt Int.decLe
theorem unit2_spec (w : World) (μ : Mem) (hμ : MOk μ w) (A : Option Addr) (n c : Nat) (fs : List UFnI) (hc : Sl encFn 5 μ A n fs) (hfn : ∀ f ∈ fs, FnQ μ f) (hmax : n ≤ 9223372036854775807) :
    Calls Tryz.prog 16 #[.slice A n c] w fun e w' => ∃ v μ', e = .returned v ∧ Grow w w' μ μ' ∧ UnitPost2 μ' v := by
  refine call_intro Tryz.func16 rfl Tryz.ntmps16 (by simp) hμ ?_
  repeat' (first | refine KK ?_ | refine NB fun b => ?_ | (refine KB ?_ ?_ <;> intro hp) | refine KG ?_ | fail)
  · exact ret_m2 rfl (by first | exact rv_tmp rfl | exact (rv_agg 0 rfl rfl rfl rfl rfl (by repeat first | exact lc_nil | refine lc_cons rfl ?_)) | exact (rv_agg 1 rfl rfl rfl rfl rfl (by repeat first | exact lc_nil | refine lc_cons rfl ?_)) | exact (rv_agg 2 rfl rfl rfl rfl rfl (by repeat first | exact lc_nil | refine lc_cons rfl ?_)) | exact (rv_agg 3 rfl rfl rfl rfl rfl (by repeat first | exact lc_nil | refine lc_cons rfl ?_))) (by first | exact rv_tmp rfl | exact (rv_agg 0 rfl rfl rfl rfl rfl (by repeat first | exact lc_nil | refine lc_cons rfl ?_)) | exact (rv_agg 1 rfl rfl rfl rfl rfl (by repeat first | exact lc_nil | refine lc_cons rfl ?_)) | exact (rv_agg 2 rfl rfl rfl rfl rfl (by repeat first | exact lc_nil | refine lc_cons rfl ?_)) | exact (rv_agg 3 rfl rfl rfl rfl rfl (by repeat first | exact lc_nil | refine lc_cons rfl ?_))) (fun μ' hle' hL => ⟨none, 0, [], false, rfl, ⟨Sl.nil _ _ _ _, by simp, by simp⟩, by simp, by simp⟩)
  rename_i b1
  have hn20 : n ≤ 20 := by omega
  refine gc_loop (ι := Nat × Int × List (F × Value) × Mem × Value) (fun i => i.1 ≤ n ∧ MLe μ i.2.2.2.1 ∧ i.2.2.1.length ≤ i.1 ∧ (∀ p ∈ i.2.2.1, KR i.2.2.2.1 p.1.body.kids p.2 ∧ p.1.body.size ≤ 100000) ∧ (∀ p ∈ i.2.2.1, AllT qN p.1.body) ∧ 0 ≤ i.2.1 ∧ i.2.1 ≤ (i.1 : Int) * 281474976710656 + 20000 ∧ (((i.2.2.1.map wtF).sum : Nat) : Int) ≤ 80 * (i.2.2.1.length : Int) + 4 * i.2.1) (fun i => n - i.1) (fun i => i.2.2.2.1) (fun i => [(6, .int .i64 i.1), (5, .int .i64 i.2.1), (4, .pointer (some ⟨b, 0, none⟩)), (2, .pointer (some ⟨b1, 0, none⟩)), (0, .slice A n c)]) (fun i => [.inr ⟨i.2.2.2.2, 44, 10, i.2.2.1.length, i.2.2.1.flatMap encFV⟩, .inl ⟨b, 27, 1, [(0, i.2.2.2.2)]⟩, .inl ⟨b1, 27, 1, _⟩]) (0, 0, [], μ, .slice none 0 0) ⟨by simp, MLe.refl _, by simp, fun p hp => (by cases hp), fun p hp => (by cases hp), by simp, by simp, by simp⟩ (fun a w hs => (hs.nilRow 44 10).sub PU (by repeat first | exact List.Sublist.refl _ | exact List.nil_sublist _ | refine List.Sublist.cons _ ?_)) ?_
  rintro ⟨k, x, ps, μ1, v⟩ ⟨hk, hle, hlen, hps, hall, hx0, hx1, hwt⟩
  dsimp only at hk hle hlen hps hall hx0 hx1 hwt ⊢
  refine gc_rowOk 0 rfl ?_
  rintro A1 c1 rfl hok
  have post : ∀ {μ2 μ' : Mem} {okb : Bool}, (okb = true → (ps.map wtF).sum ≤ 90000) → MLe μ1 μ2 → MLe μ2 μ' → Bk.sh (.inr ⟨.slice A1 ps.length c1, 44, 10, ps.length, ps.flatMap encFV⟩) μ' → UnitPost2 μ' (.tuple #[.agg #[.slice A1 ps.length c1], .bool okb]) := fun h0 h1 h2 h3 =>
    ⟨A1, c1, ps, _, rfl, fs_post (by omega) hps (h1.trans h2) h3, hall, h0⟩
  by_cases hlt : k < n
  · obtain ⟨ad, y, rfl, hy, hm0⟩ := hc.get hlt
    obtain ⟨hnmq, A3, n3, c3, ts, he, hS3, hn3, htq⟩ := hfn y (List.mem_of_getElem? hy)
    obtain ⟨nm, kd, ln, lc, bd⟩ := y
    dsimp only at he hnmq
    subst he
    have hm : MCells μ1 (ad.add (k * 5)) [.string nm, .int .i64 kd, .int .i64 ln, .int .i64 lc, .slice A3 n3 c3] := hm0.mono hle
    have hS3' := hS3.mono hle
    repeat' (first | refine KO ?_ | (refine KV (b := by first | exact U1 k | exact U4 hm) (c := ?_)) | refine KI ?_ | refine NB fun b => ?_ | (refine KB ?_ ?_ <;> intro hp) | refine KG ?_ | fail)
    · exact ret_m2 rfl (by first | exact rv_tmp rfl | exact (rv_agg 0 rfl rfl rfl rfl rfl (by repeat first | exact lc_nil | refine lc_cons rfl ?_)) | exact (rv_agg 1 rfl rfl rfl rfl rfl (by repeat first | exact lc_nil | refine lc_cons rfl ?_)) | exact (rv_agg 2 rfl rfl rfl rfl rfl (by repeat first | exact lc_nil | refine lc_cons rfl ?_)) | exact (rv_agg 3 rfl rfl rfl rfl rfl (by repeat first | exact lc_nil | refine lc_cons rfl ?_))) (by first | exact rv_tmp rfl | exact (rv_agg 0 rfl rfl rfl rfl rfl (by repeat first | exact lc_nil | refine lc_cons rfl ?_)) | exact (rv_agg 1 rfl rfl rfl rfl rfl (by repeat first | exact lc_nil | refine lc_cons rfl ?_)) | exact (rv_agg 2 rfl rfl rfl rfl rfl (by repeat first | exact lc_nil | refine lc_cons rfl ?_)) | exact (rv_agg 3 rfl rfl rfl rfl rfl (by repeat first | exact lc_nil | refine lc_cons rfl ?_))) (fun μ' hle' hL => post (fun h => by first | (cases h; done) | (have := of_decide_eq_true h; omega)) (MLe.refl _) hle' (hL _ (List.mem_cons_self ..)))
    have hn200 : n3 ≤ 200 := by omega
    refine gc_draw 17 _ (by kernel_rfl) rfl (List.Sublist.cons_cons _ (List.Sublist.cons_cons _ (List.Sublist.cons_cons _ (List.nil_sublist _)))) ?_
    all_goals refine DD 0 ?_
    all_goals refine DD 1 ?_
    all_goals refine DD 2 ?_
    all_goals (first | refine D1 3 ?_ | (refine DV (k := 3) (b := by first | exact U1 k | exact U4 hm | ((with_reducible apply v_mul_i); exact rfl; exact rfl; omega) | ((with_reducible apply v_add_i); exact rfl; exact rfl; omega)) (c := ?_)) | refine DD 3 ?_ | fail)
    all_goals (first | refine D1 4 ?_ | (refine DV (k := 4) (b := by first | exact U1 k | exact U4 hm | ((with_reducible apply v_mul_i); exact rfl; exact rfl; omega) | ((with_reducible apply v_add_i); exact rfl; exact rfl; omega)) (c := ?_)) | refine DD 4 ?_ | fail)
    all_goals (first | refine D1 5 ?_ | (refine DV (k := 5) (b := by first | exact U1 k | exact U4 hm | ((with_reducible apply v_mul_i); exact rfl; exact rfl; omega) | ((with_reducible apply v_add_i); exact rfl; exact rfl; omega)) (c := ?_)) | (refine D3 5 (DW (b := by first | exact U1 k | exact U4 hm | ((with_reducible apply v_mul_i); exact rfl; exact rfl; omega) | ((with_reducible apply v_add_i); exact rfl; exact rfl; omega)) (c := ?_))) | refine DD 5 ?_ | fail)
    all_goals (first | refine D1 6 ?_ | (refine DV (k := 6) (b := by first | exact U1 k | exact U4 hm | ((with_reducible apply v_mul_i); exact rfl; exact rfl; omega) | ((with_reducible apply v_add_i); exact rfl; exact rfl; omega)) (c := ?_)) | refine DD 6 ?_ | fail)
    all_goals refine DD 7 ?_
    all_goals refine DD 8 ?_
    all_goals (first | refine D1 9 ?_ | (refine DV (k := 9) (b := by first | exact U1 k | exact U4 hm | ((with_reducible apply v_mul_i); exact rfl; exact rfl; omega) | ((with_reducible apply v_add_i); exact rfl; exact rfl; omega)) (c := ?_)) | refine DD 9 ?_ | fail)
    all_goals (first | refine D1 10 ?_ | (refine DV (k := 10) (b := by first | exact U1 k | exact U4 hm | ((with_reducible apply v_mul_i); exact rfl; exact rfl; omega) | ((with_reducible apply v_add_i); exact rfl; exact rfl; omega)) (c := ?_)) | refine DD 10 ?_ | fail)
    all_goals (first | refine D1 11 ?_ | (refine DV (k := 11) (b := by first | exact U1 k | exact U4 hm | ((with_reducible apply v_mul_i); exact rfl; exact rfl; omega) | ((with_reducible apply v_add_i); exact rfl; exact rfl; omega)) (c := ?_)) | (refine D3 11 (DW (b := by first | exact U1 k | exact U4 hm | ((with_reducible apply v_mul_i); exact rfl; exact rfl; omega) | ((with_reducible apply v_add_i); exact rfl; exact rfl; omega)) (c := ?_))) | refine DD 11 ?_ | fail)
    all_goals (first | refine D1 12 ?_ | (refine DV (k := 12) (b := by first | exact U1 k | exact U4 hm | ((with_reducible apply v_mul_i); exact rfl; exact rfl; omega) | ((with_reducible apply v_add_i); exact rfl; exact rfl; omega)) (c := ?_)) | refine DD 12 ?_ | fail)
    all_goals (first | refine D1 13 ?_ | (refine DV (k := 13) (b := by first | exact U1 k | exact U4 hm | ((with_reducible apply v_mul_i); exact rfl; exact rfl; omega) | ((with_reducible apply v_add_i); exact rfl; exact rfl; omega)) (c := ?_)) | refine DD 13 ?_ | fail)
    all_goals (first | refine D1 14 ?_ | (refine DV (k := 14) (b := by first | exact U1 k | exact U4 hm | ((with_reducible apply v_mul_i); exact rfl; exact rfl; omega) | ((with_reducible apply v_add_i); exact rfl; exact rfl; omega)) (c := ?_)) | refine DD 14 ?_ | fail)
    all_goals (first | refine D1 15 ?_ | (refine DV (k := 15) (b := by first | exact U1 k | exact U4 hm | ((with_reducible apply v_mul_i); exact rfl; exact rfl; omega) | ((with_reducible apply v_add_i); exact rfl; exact rfl; omega)) (c := ?_)) | refine DD 15 ?_ | fail)
    all_goals refine DD 16 ?_
    all_goals refine D8 ?_
    repeat' (first | refine KK ?_ | refine NB fun b => ?_ | (refine KB ?_ ?_ <;> intro hp) | refine KG ?_ | fail)
    have hS3l := hS3'.1
    refine gc_loop (ι := Nat × Int) (fun i => i.1 ≤ n3 ∧ i.2 = x + ((nm.size : Int) + 20 * (n3 : Int)) + (sumS ts i.1 : Int) ∧ (i.1 = 0 ∨ i.2 ≤ 20000)) (fun i => n3 - i.1) (fun _ => μ1) (fun i => [(7, .int .i64 i.1), (5, .int .i64 i.2), (6, .int .i64 k), (4, .pointer (some ⟨b, 0, none⟩)), (2, .pointer (some ⟨b1, 0, none⟩)), (0, .slice (some ad) n c)]) (fun _ => [.inr ⟨.slice A1 ps.length c1, 44, 10, ps.length, ps.flatMap encFV⟩, .inl ⟨b, 27, 1, [(0, .slice A1 ps.length c1)]⟩, .inl ⟨b1, 27, 1, _⟩]) (0, x + ((nm.size : Int) + 20 * (n3 : Int))) ⟨by simp, by simp [sumS], .inl rfl⟩ (fun a w hs => J6 hs) ?_
    rintro ⟨j, x1⟩ ⟨hj, hxe, hxj⟩
    dsimp only at hj hxe hxj ⊢
    by_cases hjn : j < n3
    · obtain ⟨adj, z, rfl, hz, hmj⟩ := hS3'.get hjn
      have hzq := (htq z (List.mem_of_getElem? hz)).2
      have hss := sumS_succ hz
      have hx1b : x1 ≤ x + ((nm.size : Int) + 20 * (n3 : Int)) ∨ x1 ≤ 20000 := by
        rcases hxj with h | h
        · subst h
          left
          rw [hxe]
          simp [sumS]
        · exact .inr h
      have hx1n : 0 ≤ x1 := by omega
      repeat' (first | refine KO ?_ | (refine KV (b := by first | exact U1 k | exact U1 j | exact U4 hm | exact U4 hmj | ((with_reducible apply v_add_i); exact rfl; exact rfl; omega)) (c := ?_)) | refine KI ?_ | refine NB fun b => ?_ | (refine KB ?_ ?_ <;> intro hp) | refine KG ?_ | fail)
      · exact ret_m2 rfl (by first | exact rv_tmp rfl | exact (rv_agg 0 rfl rfl rfl rfl rfl (by repeat first | exact lc_nil | refine lc_cons rfl ?_)) | exact (rv_agg 1 rfl rfl rfl rfl rfl (by repeat first | exact lc_nil | refine lc_cons rfl ?_)) | exact (rv_agg 2 rfl rfl rfl rfl rfl (by repeat first | exact lc_nil | refine lc_cons rfl ?_)) | exact (rv_agg 3 rfl rfl rfl rfl rfl (by repeat first | exact lc_nil | refine lc_cons rfl ?_))) (by first | exact rv_tmp rfl | exact (rv_agg 0 rfl rfl rfl rfl rfl (by repeat first | exact lc_nil | refine lc_cons rfl ?_)) | exact (rv_agg 1 rfl rfl rfl rfl rfl (by repeat first | exact lc_nil | refine lc_cons rfl ?_)) | exact (rv_agg 2 rfl rfl rfl rfl rfl (by repeat first | exact lc_nil | refine lc_cons rfl ?_)) | exact (rv_agg 3 rfl rfl rfl rfl rfl (by repeat first | exact lc_nil | refine lc_cons rfl ?_))) (fun μ' hle' hL => post (fun h => by first | (cases h; done) | (have := of_decide_eq_true h; omega)) (MLe.refl _) hle' (hL _ (List.mem_cons_self ..)))
      · exact J4 (j + 1, x1 + (z.s.size : Int)) ⟨by dsimp only; omega, by dsimp only; omega, .inr (by dsimp only; omega)⟩ (by dsimp only; omega)
    · have hjn3 : j = n3 := by omega
      subst hjn3
      have hsall : sumS ts j = (ts.map fun y => y.s.size).sum := by unfold sumS; rw [List.take_of_length_le (by omega)]
      have hx1b : x1 ≤ x + ((nm.size : Int) + 20 * (j : Int)) ∨ x1 ≤ 20000 := by
        rcases hxj with h | h
        · subst h
          left
          rw [hxe]
          simp [sumS]
        · exact .inr h
      have hqN : ∀ y ∈ ts, qN y := fun y hy => ⟨(htq y hy).1, by
        have h1 := sum_mem_le hy (g := fun y : It => y.s.size)
        have h2 : 0 < ts.length := List.length_pos_of_mem hy
        try dsimp only at h1
        omega⟩
      repeat' (first | refine KO ?_ | (refine KV (b := by first | exact U1 k | exact U4 hm) (c := ?_)) | refine KI ?_ | refine NB fun b => ?_ | (refine KB ?_ ?_ <;> intro hp) | refine KG ?_ | fail)
      refine gc_draw 33 _ (by kernel_rfl) rfl (List.Sublist.cons _ (List.Sublist.cons _ (List.Sublist.cons_cons _ (List.nil_sublist _)))) ?_
      all_goals (first | refine D1 0 ?_ | (refine DV (k := 0) (b := by first | exact U1 k | exact U4 hm) (c := ?_)) | (refine D3 0 (DW (b := by first | exact U1 k | exact U4 hm) (c := ?_))) | refine DD 0 ?_ | fail)
      all_goals (first | refine D1 2 ?_ | (refine DV (k := 2) (b := by first | exact U1 k | exact U4 hm) (c := ?_)) | (refine D3 2 (DW (b := by first | exact U1 k | exact U4 hm) (c := ?_))) | refine DD 2 ?_ | fail)
      all_goals (first | refine D1 3 ?_ | (refine DV (k := 3) (b := by first | exact U1 k | exact U4 hm) (c := ?_)) | (refine D3 3 (DW (b := by first | exact U1 k | exact U4 hm) (c := ?_))) | refine DD 3 ?_ | fail)
      all_goals (first | refine D1 4 ?_ | (refine DV (k := 4) (b := by first | exact U1 k | exact U4 hm) (c := ?_)) | (refine D3 4 (DW (b := by first | exact U1 k | exact U4 hm) (c := ?_))) | refine DD 4 ?_ | fail)
      all_goals (first | refine D1 5 ?_ | (refine DV (k := 5) (b := by first | exact U1 k | exact U4 hm) (c := ?_)) | (refine D3 5 (DW (b := by first | exact U1 k | exact U4 hm) (c := ?_))) | refine DD 5 ?_ | fail)
      all_goals (first | refine D1 6 ?_ | (refine DV (k := 6) (b := by first | exact U1 k | exact U4 hm) (c := ?_)) | (refine D3 6 (DW (b := by first | exact U1 k | exact U4 hm) (c := ?_))) | refine DD 6 ?_ | fail)
      all_goals (first | refine D1 7 ?_ | (refine DV (k := 7) (b := by first | exact U1 k | exact U4 hm) (c := ?_)) | (refine D3 7 (DW (b := by first | exact U1 k | exact U4 hm) (c := ?_))) | refine DD 7 ?_ | fail)
      all_goals (first | refine D1 8 ?_ | (refine DV (k := 8) (b := by first | exact U1 k | exact U4 hm) (c := ?_)) | (refine D3 8 (DW (b := by first | exact U1 k | exact U4 hm) (c := ?_))) | refine DD 8 ?_ | fail)
      all_goals (first | refine D1 9 ?_ | (refine DV (k := 9) (b := by first | exact U1 k | exact U4 hm) (c := ?_)) | (refine D3 9 (DW (b := by first | exact U1 k | exact U4 hm) (c := ?_))) | refine DD 9 ?_ | fail)
      all_goals (first | refine D1 10 ?_ | (refine DV (k := 10) (b := by first | exact U1 k | exact U4 hm) (c := ?_)) | (refine D3 10 (DW (b := by first | exact U1 k | exact U4 hm) (c := ?_))) | refine DD 10 ?_ | fail)
      all_goals (first | refine D1 11 ?_ | (refine DV (k := 11) (b := by first | exact U1 k | exact U4 hm) (c := ?_)) | (refine D3 11 (DW (b := by first | exact U1 k | exact U4 hm) (c := ?_))) | refine DD 11 ?_ | fail)
      all_goals (first | refine D1 12 ?_ | (refine DV (k := 12) (b := by first | exact U1 k | exact U4 hm) (c := ?_)) | (refine D3 12 (DW (b := by first | exact U1 k | exact U4 hm) (c := ?_))) | refine DD 12 ?_ | fail)
      all_goals (first | refine D1 13 ?_ | (refine DV (k := 13) (b := by first | exact U1 k | exact U4 hm) (c := ?_)) | (refine D3 13 (DW (b := by first | exact U1 k | exact U4 hm) (c := ?_))) | refine DD 13 ?_ | fail)
      all_goals (first | refine D1 14 ?_ | (refine DV (k := 14) (b := by first | exact U1 k | exact U4 hm) (c := ?_)) | (refine D3 14 (DW (b := by first | exact U1 k | exact U4 hm) (c := ?_))) | refine DD 14 ?_ | fail)
      all_goals (first | refine D1 15 ?_ | (refine DV (k := 15) (b := by first | exact U1 k | exact U4 hm) (c := ?_)) | (refine D3 15 (DW (b := by first | exact U1 k | exact U4 hm) (c := ?_))) | refine DD 15 ?_ | fail)
      all_goals (first | refine D1 16 ?_ | (refine DV (k := 16) (b := by first | exact U1 k | exact U4 hm) (c := ?_)) | (refine D3 16 (DW (b := by first | exact U1 k | exact U4 hm) (c := ?_))) | refine DD 16 ?_ | fail)
      all_goals (first | refine D1 17 ?_ | (refine DV (k := 17) (b := by first | exact U1 k | exact U4 hm) (c := ?_)) | (refine D3 17 (DW (b := by first | exact U1 k | exact U4 hm) (c := ?_))) | refine DD 17 ?_ | fail)
      all_goals (first | refine D1 18 ?_ | (refine DV (k := 18) (b := by first | exact U1 k | exact U4 hm) (c := ?_)) | (refine D3 18 (DW (b := by first | exact U1 k | exact U4 hm) (c := ?_))) | refine DD 18 ?_ | fail)
      all_goals (first | refine D1 19 ?_ | (refine DV (k := 19) (b := by first | exact U1 k | exact U4 hm) (c := ?_)) | (refine D3 19 (DW (b := by first | exact U1 k | exact U4 hm) (c := ?_))) | refine DD 19 ?_ | fail)
      all_goals (first | refine D1 20 ?_ | (refine DV (k := 20) (b := by first | exact U1 k | exact U4 hm) (c := ?_)) | (refine D3 20 (DW (b := by first | exact U1 k | exact U4 hm) (c := ?_))) | refine DD 20 ?_ | fail)
      all_goals (first | refine D1 21 ?_ | (refine DV (k := 21) (b := by first | exact U1 k | exact U4 hm) (c := ?_)) | (refine D3 21 (DW (b := by first | exact U1 k | exact U4 hm) (c := ?_))) | refine DD 21 ?_ | fail)
      all_goals (first | refine D1 22 ?_ | (refine DV (k := 22) (b := by first | exact U1 k | exact U4 hm) (c := ?_)) | (refine D3 22 (DW (b := by first | exact U1 k | exact U4 hm) (c := ?_))) | refine DD 22 ?_ | fail)
      all_goals (first | refine D1 23 ?_ | (refine DV (k := 23) (b := by first | exact U1 k | exact U4 hm) (c := ?_)) | (refine D3 23 (DW (b := by first | exact U1 k | exact U4 hm) (c := ?_))) | refine DD 23 ?_ | fail)
      all_goals (first | refine D1 24 ?_ | (refine DV (k := 24) (b := by first | exact U1 k | exact U4 hm) (c := ?_)) | (refine D3 24 (DW (b := by first | exact U1 k | exact U4 hm) (c := ?_))) | refine DD 24 ?_ | fail)
      all_goals (first | refine D1 25 ?_ | (refine DV (k := 25) (b := by first | exact U1 k | exact U4 hm) (c := ?_)) | (refine D3 25 (DW (b := by first | exact U1 k | exact U4 hm) (c := ?_))) | refine DD 25 ?_ | fail)
      all_goals (first | refine D1 26 ?_ | (refine DV (k := 26) (b := by first | exact U1 k | exact U4 hm) (c := ?_)) | (refine D3 26 (DW (b := by first | exact U1 k | exact U4 hm) (c := ?_))) | refine DD 26 ?_ | fail)
      refine ga_all2 1 27 (by kernel_rfl) ?dr1_1 ?dr1_27
      case' dr1_1 =>
        (first | ((with_reducible apply gaop_val); exact rfl; exact rfl; exact rfl; exact rfl; (first | ((with_reducible apply pv_sound); exact rfl) | exact U1 k | exact U4 hm | ((with_reducible apply v_ld); exact rfl; (repeat first | with_reducible exact inb_hd | with_reducible apply inb_tl); exact rfl))))
        all_goals (first | (refine D3 27 ?_; refine D5 ?_; (with_reducible apply C2); exact rfl; exact EN; (exact fun w hw => buildQ_spec qN gwF qN0 w μ1 hw A3 j c3 ts hS3' (by omega) hqN); rintro v2 μ2 hle2 ⟨t2, ⟨u2, rfl, hk2⟩, hsz2, hall2, hws2⟩; have ho2 := hk2.one; refine D9 ?_))
        all_goals (first | refine D1 28 ?_ | (refine DV (k := 28) (b := by first | exact U1 k | exact U4 hm) (c := ?_)) | (refine D3 28 (DW (b := by first | exact U1 k | exact U4 hm) (c := ?_))) | refine DD 28 ?_ | fail)
        all_goals (first | (refine D3 29 ?_; refine D5 ?_; refine NB fun b => ?_; refine D9 ?_))
        all_goals (first | (refine D3 30 ?_; refine D5 ?_; (first | ((with_reducible apply g_ap); exact rfl; exact rfl; exact rfl; (repeat first | with_reducible exact rowup_hd | with_reducible apply rowup_tl); (iterate 6 exact rfl); (first | ((with_reducible apply src_in); exact rfl; (repeat first | with_reducible exact inb_hd | with_reducible apply inb_tl); exact rfl)); (first | exact rfl | omega | simp); (first | assumption | (exact ones_mem (by (repeat first | with_reducible exact ones_nil | ((with_reducible apply ones_cons); (first | exact rfl | assumption))))) | simp [Value.oneCell']); omega; omega; intro v) | ((with_reducible apply g_append0); (iterate 9 exact rfl); (first | ((with_reducible apply src_in); exact rfl; (repeat first | with_reducible exact inb_hd | with_reducible apply inb_tl); exact rfl)); (first | exact rfl | omega | simp); (first | assumption | (exact ones_mem (by (repeat first | with_reducible exact ones_nil | ((with_reducible apply ones_cons); (first | exact rfl | assumption))))) | simp [Value.oneCell']); omega; omega; intro v)); refine D9 ?_))
        all_goals (first | refine D1 31 ?_ | (refine DV (k := 31) (b := by first | exact U1 k | exact U4 hm) (c := ?_)) | (refine D3 31 (DW (b := by first | exact U1 k | exact U4 hm) (c := ?_))) | refine DD 31 ?_ | fail)
        all_goals (first | (refine D3 32 ?_; refine D5 ?_; (first | refine Y0 ?_ | ((with_reducible apply g_rowOk 1); exact rfl; rintro A4 c4 rfl hok4; (with_reducible apply g_st); exact rfl; exact rfl; (repeat first | with_reducible exact ones_nil | ((with_reducible apply ones_cons); (first | exact rfl | assumption))); (repeat first | with_reducible apply upb_hd | with_reducible apply upb_tl); exact rfl; (repeat first | with_reducible exact pc_nil | with_reducible apply pc_cons))); refine D9 ?_))
        all_goals refine D8 ?_
      case' dr1_27 =>
        (first | (refine D5 ?_; (with_reducible apply C2); exact rfl; exact EN; (exact fun w hw => buildQ_spec qN gwF qN0 w μ1 hw A3 j c3 ts hS3' (by omega) hqN); rintro v2 μ2 hle2 ⟨t2, ⟨u2, rfl, hk2⟩, hsz2, hall2, hws2⟩; have ho2 := hk2.one; refine D9 ?_))
        all_goals (first | refine D1 28 ?_ | (refine DV (k := 28) (b := by first | exact U1 k | exact U4 hm) (c := ?_)) | (refine D3 28 (DW (b := by first | exact U1 k | exact U4 hm) (c := ?_))) | refine DD 28 ?_ | fail)
        refine ga_all2 1 29 (by kernel_rfl) ?dr2_1 ?dr2_29
        case' dr2_1 =>
          (first | ((with_reducible apply gaop_val); exact rfl; exact rfl; exact rfl; exact rfl; (first | ((with_reducible apply pv_sound); exact rfl) | exact U1 k | exact U4 hm | ((with_reducible apply v_ld); exact rfl; (repeat first | with_reducible exact inb_hd | with_reducible apply inb_tl); exact rfl))))
          all_goals (first | (refine D3 29 ?_; refine D5 ?_; refine NB fun b => ?_; refine D9 ?_))
          all_goals (first | (refine D3 30 ?_; refine D5 ?_; (first | ((with_reducible apply g_ap); exact rfl; exact rfl; exact rfl; (repeat first | with_reducible exact rowup_hd | with_reducible apply rowup_tl); (iterate 6 exact rfl); (first | ((with_reducible apply src_in); exact rfl; (repeat first | with_reducible exact inb_hd | with_reducible apply inb_tl); exact rfl)); (first | exact rfl | omega | simp); (first | assumption | (exact ones_mem (by (repeat first | with_reducible exact ones_nil | ((with_reducible apply ones_cons); (first | exact rfl | assumption))))) | simp [Value.oneCell']); omega; omega; intro v) | ((with_reducible apply g_append0); (iterate 9 exact rfl); (first | ((with_reducible apply src_in); exact rfl; (repeat first | with_reducible exact inb_hd | with_reducible apply inb_tl); exact rfl)); (first | exact rfl | omega | simp); (first | assumption | (exact ones_mem (by (repeat first | with_reducible exact ones_nil | ((with_reducible apply ones_cons); (first | exact rfl | assumption))))) | simp [Value.oneCell']); omega; omega; intro v)); refine D9 ?_))
          all_goals (first | refine D1 31 ?_ | (refine DV (k := 31) (b := by first | exact U1 k | exact U4 hm) (c := ?_)) | (refine D3 31 (DW (b := by first | exact U1 k | exact U4 hm) (c := ?_))) | refine DD 31 ?_ | fail)
          all_goals (first | (refine D3 32 ?_; refine D5 ?_; (first | refine Y0 ?_ | ((with_reducible apply g_rowOk 1); exact rfl; rintro A4 c4 rfl hok4; (with_reducible apply g_st); exact rfl; exact rfl; (repeat first | with_reducible exact ones_nil | ((with_reducible apply ones_cons); (first | exact rfl | assumption))); (repeat first | with_reducible apply upb_hd | with_reducible apply upb_tl); exact rfl; (repeat first | with_reducible exact pc_nil | with_reducible apply pc_cons))); refine D9 ?_))
          all_goals refine D8 ?_
        case' dr2_29 =>
          (first | (refine D5 ?_; refine NB fun b => ?_; refine D9 ?_))
          all_goals (first | (refine D3 1 ?_; (with_reducible apply gaop_val); exact rfl; exact rfl; exact rfl; exact rfl; (first | ((with_reducible apply pv_sound); exact rfl) | exact U1 k | exact U4 hm | ((with_reducible apply v_ld); exact rfl; (repeat first | with_reducible exact inb_hd | with_reducible apply inb_tl); exact rfl))))
          all_goals (first | (refine D3 30 ?_; refine D5 ?_; (first | ((with_reducible apply g_ap); exact rfl; exact rfl; exact rfl; (repeat first | with_reducible exact rowup_hd | with_reducible apply rowup_tl); (iterate 6 exact rfl); (first | ((with_reducible apply src_in); exact rfl; (repeat first | with_reducible exact inb_hd | with_reducible apply inb_tl); exact rfl)); (first | exact rfl | omega | simp); (first | assumption | (exact ones_mem (by (repeat first | with_reducible exact ones_nil | ((with_reducible apply ones_cons); (first | exact rfl | assumption))))) | simp [Value.oneCell']); omega; omega; intro v) | ((with_reducible apply g_append0); (iterate 9 exact rfl); (first | ((with_reducible apply src_in); exact rfl; (repeat first | with_reducible exact inb_hd | with_reducible apply inb_tl); exact rfl)); (first | exact rfl | omega | simp); (first | assumption | (exact ones_mem (by (repeat first | with_reducible exact ones_nil | ((with_reducible apply ones_cons); (first | exact rfl | assumption))))) | simp [Value.oneCell']); omega; omega; intro v)); refine D9 ?_))
          all_goals (first | refine D1 31 ?_ | (refine DV (k := 31) (b := by first | exact U1 k | exact U4 hm) (c := ?_)) | (refine D3 31 (DW (b := by first | exact U1 k | exact U4 hm) (c := ?_))) | refine DD 31 ?_ | fail)
          all_goals (first | (refine D3 32 ?_; refine D5 ?_; (first | refine Y0 ?_ | ((with_reducible apply g_rowOk 1); exact rfl; rintro A4 c4 rfl hok4; (with_reducible apply g_st); exact rfl; exact rfl; (repeat first | with_reducible exact ones_nil | ((with_reducible apply ones_cons); (first | exact rfl | assumption))); (repeat first | with_reducible apply upb_hd | with_reducible apply upb_tl); exact rfl; (repeat first | with_reducible exact pc_nil | with_reducible apply pc_cons))); refine D9 ?_))
          all_goals refine D8 ?_
      all_goals
        repeat' (first | refine KK ?_ | refine NB fun b => ?_ | (refine KB ?_ ?_ <;> intro hp) | refine KG ?_ | fail)
      all_goals refine gq_cells_2 [(0, .slice A4 (ps.length + 1) c4)] PU ?_
      all_goals
        refine gq_back (k + 1, x1, ps ++ [(⟨nm, kd, ln, lc, t2⟩, u2)], μ2, .slice A4 (ps.length + 1) c4) ⟨by dsimp only; omega, hle.trans hle2, by simp; omega, fun p hp => ?_, fun p hp => ?_, by dsimp only; omega, by dsimp only; omega, ?_⟩ (by dsimp only; omega) rfl PU ?_
        · rcases List.mem_append.1 hp with hp | hp
          · exact ⟨(hps p hp).1.mono hle2, (hps p hp).2⟩
          · cases List.mem_singleton.1 hp
            exact ⟨hk2, by dsimp only; omega⟩
        · rcases List.mem_append.1 hp with hp | hp
          · exact hall p hp
          · cases List.mem_singleton.1 hp
            exact hall2
        · have hg := gw_sum ts
          have hl2 : ((ts.map fun y => gwF y.s).sum : Int) = 80 * (ts.length : Int) + 4 * (sumS ts j : Int) := by rw [hg, hsall]; omega
          have hz : gwF ⟨#[]⟩ = 80 := rfl
          rw [List.map_append, List.sum_append, List.map_cons, List.map_nil, List.sum_cons, List.sum_nil, List.length_append, List.length_cons, List.length_nil]
          have hw9 : wtF ((⟨nm, kd, ln, lc, t2⟩ : F), u2) = 4 * nm.size + wsum gwF t2 := rfl
          rw [hw9]
          dsimp only
          omega
        · dsimp only
          rw [show (ps ++ [((⟨nm, kd, ln, lc, t2⟩ : F), u2)]).length = ps.length + 1 by simp, List.flatMap_append]
          exact (by repeat first | exact List.Sublist.refl _ | exact List.nil_sublist _ | refine List.Sublist.cons_cons _ ?_ | refine List.Sublist.cons _ ?_)
  · repeat' (first | refine KK ?_ | refine NB fun b => ?_ | (refine KB ?_ ?_ <;> intro hp) | refine KG ?_ | fail)
    exact ret_m2 rfl (by first | exact rv_tmp rfl | exact (rv_agg 0 rfl rfl rfl rfl rfl (by repeat first | exact lc_nil | refine lc_cons rfl ?_)) | exact (rv_agg 1 rfl rfl rfl rfl rfl (by repeat first | exact lc_nil | refine lc_cons rfl ?_)) | exact (rv_agg 2 rfl rfl rfl rfl rfl (by repeat first | exact lc_nil | refine lc_cons rfl ?_)) | exact (rv_agg 3 rfl rfl rfl rfl rfl (by repeat first | exact lc_nil | refine lc_cons rfl ?_))) (by first | exact rv_tmp rfl | exact (rv_agg 0 rfl rfl rfl rfl rfl (by repeat first | exact lc_nil | refine lc_cons rfl ?_)) | exact (rv_agg 1 rfl rfl rfl rfl rfl (by repeat first | exact lc_nil | refine lc_cons rfl ?_)) | exact (rv_agg 2 rfl rfl rfl rfl rfl (by repeat first | exact lc_nil | refine lc_cons rfl ?_)) | exact (rv_agg 3 rfl rfl rfl rfl rfl (by repeat first | exact lc_nil | refine lc_cons rfl ?_))) (fun μ' hle' hL => post (fun h => by first | (cases h; done) | (have := of_decide_eq_true h; omega)) (MLe.refl _) hle' (hL _ (List.mem_cons_self ..)))
end
section
open Go.RowKit Go.Vcg Go.Shelf Ou
theorem names10 : rowT.all (fun x => Nat.ble x.2.1.length 10) = true := by kernel_rfl
theorem name_len (op : Int) : (rowI op).1.length ≤ 10 := by
  rcases kinds op with ⟨k, x, rfl, h1, h2⟩ | ⟨h1, h2⟩
  · rw [h2]
    obtain ⟨j, hj⟩ := find_mem h1
    have := List.all_eq_true.1 names10 _ hj
    simpa using this
  · rw [h2]
    simp
theorem lineT_len {op n m : Int} {k : Nat} {s : ByteArray} (hn : -9007199254740992 ≤ n ∧ n ≤ 9007199254740992) (hm : -9007199254740992 ≤ m ∧ m ≤ 9007199254740992) (hk : k ≤ 1048576) : (Iq.lineT rowI op n m k (byS s)).length + 1 ≤ gwF s := by
  have h1 := name_len op
  have h2 := itoa_len21 hn
  have h3 := itoa_len21 hm
  have h4 := itoa_len21 (n := (k : Int)) (by omega)
  have h5 := quote_len s
  unfold Iq.lineT gwF
  simp only [List.length_append, List.length_cons]
  omega
theorem nodeT_len (t : T) : ∀ deep, Iq.OkT rowI deep t → (Iq.nodeT rowI t).length ≤ wsum gwF t := T.ind2 (p := fun t => ∀ deep, Iq.OkT rowI deep t → (Iq.nodeT rowI t).length ≤ wsum gwF t) (fun t ih deep hok => by
  obtain ⟨h1, h2, h3, h4, h5, h6⟩ := okT_parts hok
  have hl := lineT_len (op := t.op) (s := t.s) h2 h3 h4
  have key : ∀ l : List T, (∀ k ∈ l, (Iq.nodeT rowI k).length ≤ wsum gwF k) → (Iq.kidsT rowI l).length ≤ (l.map (wsum gwF)).sum := by
    intro l
    induction l with
    | nil => intro _; rw [Iq.kidsT]; simp
    | cons a r ih2 =>
      intro h
      have g1 := h a (List.mem_cons_self ..)
      have g2 := ih2 (fun k hk => h k (List.mem_cons_of_mem _ hk))
      rw [Iq.kidsT]
      simp only [List.length_append, List.map_cons, List.sum_cons]
      omega
  have := key t.kids (fun k hk => ih k hk (deep + 1) (h6 k hk))
  rw [nodeT_eq, wsum_eq]
  simp only [List.length_append, List.length_cons]
  omega) t
theorem fnT_len {p : F × Value} (h : Iq.OkF rowI (fnP p.1)) : (Iq.fnT rowI (fnP p.1)).length ≤ 100 + wtF p := by
  obtain ⟨h1, h2, h3, h4, h5⟩ := h
  dsimp only at h1 h2 h3 h4 h5
  have g1 := nodeT_len _ 1 h1
  have g2 := quote_len p.1.name
  have g3 := itoa_len21 h3
  have g4 := itoa_len21 h4
  have g5 := itoa_len21 h5
  unfold Iq.fnT Iq.funcT Iq.funcP Iq.numsT wtF
  simp only [List.length_append, List.length_cons, List.length_nil]
  omega
theorem unitT_len {ps : List (F × Value)} (h : ∀ f ∈ ps.map fun p => fnP p.1, Iq.OkF rowI f) (hn : ps.length ≤ 4096) : (Iq.unitT rowI (ps.map fun p => fnP p.1)).length ≤ 27 + 100 * ps.length + (ps.map wtF).sum := by
  have key : ∀ l : List (F × Value), (∀ p ∈ l, Iq.OkF rowI (fnP p.1)) → ((l.map fun p => fnP p.1).flatMap (Iq.fnT rowI)).length ≤ 100 * l.length + (l.map wtF).sum := by
    intro l
    induction l with
    | nil => intro _; simp
    | cons a r ih =>
      intro h
      have g1 := fnT_len (h a (List.mem_cons_self ..))
      have g2 := ih (fun p hp => h p (List.mem_cons_of_mem _ hp))
      simp only [List.map_cons, List.flatMap_cons, List.length_append, List.sum_cons, List.length_cons]
      omega
  have g1 := key ps (fun p hp => h _ (List.mem_map.2 ⟨p, hp, rfl⟩))
  have g2 := itoa_len21 (n := ((ps.map fun p => fnP p.1).length : Int)) (by rw [List.length_map]; omega)
  unfold Iq.unitT Iq.unitP
  simp only [List.length_append, List.length_cons, List.length_nil] at g2 ⊢
  omega
theorem law_len {μ : Mem} {A : Option Addr} {n : Nat} {ps : List (F × Value)} (hF : Fs μ A n ps) (hall : ∀ p ∈ ps, AllT qN p.1.body) (hw : (ps.map wtF).sum ≤ 90000) (hR : Iq.rightU rowI (ps.map fun p => fnP p.1) = true) : (Iq.unitT rowI (ps.map fun p => fnP p.1)).length ≤ 600000 := by
  obtain ⟨h1, h2, h3⟩ := Iq.right_ok (row := rowI) (fs := ps.map fun p => fnP p.1) (fun f hf => by
    obtain ⟨p, hp, rfl⟩ := List.mem_map.1 hf
    exact szT_of _ (hall p hp) (hF.2.2 p hp).2) hR
  rw [List.length_map] at h2 h3
  have := unitT_len h1 h3
  omega
attribute [local irreducible] rowI Iq.rightU Iq.unitT Iq.nodeT Iq.kidsT G GC GQ GA GAop Calls IntKind.wrap Int.decLt Int.decLe
theorem right_walk (w : World) (μ : Mem) (hμ : MOk μ w) (hmq : MaxQ μ) (hT : TabOk μ) (A : Option Addr) (n c : Nat) (fs : List UFnI) (hc : Sl encFn 5 μ A n fs) (hfn : ∀ f ∈ fs, FnQ μ f) (hmax : n ≤ 9223372036854775807) :
    Calls Tryz.prog 5 #[.slice A n c] w fun e w' => e = .returned (.bool true) ∧ Below w.heap.size w w' := by
  refine call_intro (args := [.slice A n c]) Tryz.func5 rfl Tryz.ntmps5 (by simp) hμ ?_
  repeat' (first | ((with_reducible show GC _ _ (Code.seq (Code.region 4 _ _) _) _ _ _ _); (apply gc_stop)) | refine KO ?_ | ((with_reducible apply F2 16); exact rfl; exact EN; (exact fun w hw => unit2_spec w μ hw A n c fs hc hfn hmax); rintro v1 μ1 hle1 ⟨A3, c3, ps, ok1, rfl, hF, hall, hwt⟩) | ((with_reducible apply F1 12); exact rfl; exact EN; (exact fun w μc hw hse => lives_spec w μc hw (maxM_ofQ (hmq.mono (hle1.trans hse.le))))) | refine KI ?_ | refine NB fun b => ?_ | (refine KB ?_ ?_ <;> intro hp) | refine KG ?_ | fail)
  all_goals try exact ret_s rfl rfl rfl
  have hok1 : ok1 = true := by first | exact hp | (cases ok1 <;> simp_all)
  have hwt2 := hwt hok1
  have hpn := hF.2.1
  obtain ⟨bu, hbu⟩ : ∃ x, x = b := ⟨_, rfl⟩
  rw [← hbu]
  clear hbu
  have hmq1 := hmq.mono hle1
  have hT1 := hT.mono hle1
  have hlen : Iq.rightU rowI (ps.map fun p => fnP p.1) = true → (Iq.unitT rowI (ps.map fun p => fnP p.1)).length ≤ 1000000000 := fun h => by
    have := law_len hF hall hwt2 h
    omega
  have t1 := fun (w : World) (μc : Mem) (hw : MOk μc w) (hle : MLe μ1 μc) => ptext_all ps A3 c3 ps.length w μc hw (hF.mono hle) (hmq1.mono hle) (hT1.mono hle) hall hlen
  have t2 := fun (w : World) (μc : Mem) (hw : MOk μc w) (hle : MLe μ1 μc) => rtext_all ps A3 c3 ps.length w μc hw (hF.mono hle) (hmq1.mono hle) (hT1.mono hle) hall hlen
  have r1 := fun (w : World) (μc : Mem) (hw : MOk μc w) (hle : MLe μ1 μc) => pright_spec ps A3 c3 ps.length w μc hw (hF.mono hle) (hmq1.mono hle) hall
  have r2 := fun (w : World) (μc : Mem) (hw : MOk μc w) (hle : MLe μ1 μc) => rright_spec ps A3 c3 ps.length w μc hw (hF.mono hle) (hmq1.mono hle) hall
  generalize txB (ps.map fun p => fnP p.1) = tb at t1 t2
  generalize txE (ps.map fun p => fnP p.1) = te at t1 t2
  generalize Iq.rightU rowI (ps.map fun p => fnP p.1) = rb at r1 r2
  refine gcs ?_
  repeat' (first | refine KO ?_ | ((with_reducible apply F1 17); exact rfl; exact EN; (exact fun w μc hw hse => t1 w μc hw hse.le)) | ((with_reducible apply F1 18); exact rfl; exact EN; (exact fun w μc hw hse => t2 w μc hw hse.le)) | refine KI ?_ | refine NB fun b => ?_ | (refine KB ?_ ?_ <;> intro hp) | refine KG ?_ | fail)
  refine gc_sel (l' := [(3, .pointer (some ⟨bu, 0, none⟩)), (5, .string (ofB tb)), (6, .int .i64 te), (7, .string (ofB tb)), (8, .int .i64 te)]) (L' := [.inl ⟨bu, 27, 1, idx 0 [.slice A3 ps.length c3]⟩]) PU PS ?_
  refine gc_draw 15 _ (by kernel_rfl) rfl (List.Sublist.cons_cons _ (List.nil_sublist _)) ?_
  all_goals refine DD 0 ?_
  all_goals refine DD 2 ?_
  all_goals (first | (refine D3 1 ?_; refine D5 ?_; (first | ((with_reducible apply F1 19); exact rfl; exact EN; (exact fun w μc hw hse => r1 w μc hw hse.le)) | ((with_reducible apply F1 20); exact rfl; exact EN; (exact fun w μc hw hse => r2 w μc hw hse.le))); refine D9 ?_))
  all_goals (first | (refine D3 3 ?_; refine D5 ?_; (first | ((with_reducible apply F1 19); exact rfl; exact EN; (exact fun w μc hw hse => r1 w μc hw hse.le)) | ((with_reducible apply F1 20); exact rfl; exact EN; (exact fun w μc hw hse => r2 w μc hw hse.le))); refine D9 ?_))
  all_goals refine DD 4 ?_
  all_goals refine DD 5 ?_
  all_goals (try (refine D7 6 ?_; (repeat' (first | refine KO ?_ | (refine KB ?_ ?_ <;> intro hp)))))
  all_goals refine DD 6 ?_
  all_goals refine DD 7 ?_
  all_goals refine DD 8 ?_
  all_goals refine DD 9 ?_
  all_goals refine DD 10 ?_
  all_goals (try (refine D7 11 ?_; (repeat' (first | refine KO ?_ | (refine KB ?_ ?_ <;> intro hp)))))
  all_goals refine DD 11 ?_
  all_goals refine DD 12 ?_
  all_goals refine DD 13 ?_
  all_goals refine DD 14 ?_
  all_goals refine D8 ?_
  all_goals repeat' (first | refine KK ?_ | refine NB fun b => ?_ | (refine KB ?_ ?_ <;> intro hp) | refine KG ?_ | fail)
  all_goals try (exfalso; first | omega | contradiction | exact absurd rfl ‹_› | (exact ‹¬ _› rfl))
  refine gc_loop (ι := Nat) (fun k => k ≤ ps.length) (fun k => ps.length - k) (fun _ => μ1) (fun k => [(9, .int .i64 (k : Int)), (3, .pointer (some ⟨bu, 0, none⟩))]) (fun _ => [.inl ⟨bu, 27, 1, idx 0 [.slice A3 ps.length c3]⟩]) 0 (Nat.zero_le _) (fun a w hs => hs.sel PU PS) ?_
  intro k hk
  by_cases hlt : k < ps.length
  · obtain ⟨ad, y, rfl, hy, hmU⟩ := hF.1.get hlt
    have hyb := hF.2.2 y (List.mem_of_getElem? hy)
    have hyo := hyb.1.one
    have hmB : MCells μ1 ((ad.add (k * 10)).add 4) (encT y.1.body y.2) := fun j v hj => by
      have h1 : (encF y.1 y.2)[4 + j]? = some v := by
        show ([Value.string y.1.name, .int .i64 y.1.kind, .int .i64 y.1.len, .int .i64 y.1.loc] ++ encT y.1.body y.2)[4 + j]? = some v
        rw [List.getElem?_append_right (by simp)]
        simpa using hj
      have h2 := hmU (4 + j) v h1
      rw [add_add'] at h2 ⊢
      rw [add_add'] 
      exact h2
    have c1 := fun (w : World) (μc : Mem) (hw : MOk μc w) (hle : MLe μ1 μc) => pcalls_spec y.1.body.size y.1.body y.2 w μc hw (hyb.1.mono hle) (Nat.le_refl _) (by omega)
    have c2 := fun (w : World) (μc : Mem) (hw : MOk μc w) (hle : MLe μ1 μc) => rcalls_spec y.1.body.size y.1.body y.2 w μc hw (hyb.1.mono hle) (Nat.le_refl _) (by omega)
    generalize Iq.callsF y.1.body = cb at c1 c2
    repeat' (first | refine KK ?_ | refine NB fun b => ?_ | (refine KB ?_ ?_ <;> intro hp) | refine KG ?_ | fail)
    all_goals try (exfalso; omega)
    refine gc_draw 15 _ (by kernel_rfl) rfl (List.Sublist.cons_cons _ (List.nil_sublist _)) ?_
    all_goals (first | refine D1 0 ?_ | (refine DV (k := 0) (b := by first | exact U1 k | exact U4 hmB) (c := ?_)) | refine DD 0 ?_ | fail)
    all_goals (first | refine D1 1 ?_ | (refine DV (k := 1) (b := by first | exact U1 k | exact U4 hmB) (c := ?_)) | (refine D3 1 (DW (b := by first | exact U1 k | exact U4 hmB) (c := ?_))) | refine DD 1 ?_ | fail)
    all_goals refine DD 2 ?_
    all_goals (first | refine D1 3 ?_ | (refine DV (k := 3) (b := by first | exact U1 k | exact U4 hmB) (c := ?_)) | refine DD 3 ?_ | fail)
    all_goals (first | refine D1 4 ?_ | (refine DV (k := 4) (b := by first | exact U1 k | exact U4 hmB) (c := ?_)) | refine DD 4 ?_ | fail)
    all_goals (first | refine D1 5 ?_ | (refine DV (k := 5) (b := by first | exact U1 k | exact U4 hmB) (c := ?_)) | (refine D3 5 (DW (b := by first | exact U1 k | exact U4 hmB) (c := ?_))) | refine DD 5 ?_ | fail)
    all_goals (first | refine D1 7 ?_ | (refine DV (k := 7) (b := by first | exact U1 k | exact U4 hmB) (c := ?_)) | refine DD 7 ?_ | fail)
    all_goals (first | refine D1 8 ?_ | (refine DV (k := 8) (b := by first | exact U1 k | exact U4 hmB) (c := ?_)) | (refine D3 8 (DW (b := by first | exact U1 k | exact U4 hmB) (c := ?_))) | refine DD 8 ?_ | fail)
    all_goals refine DD 9 ?_
    all_goals (first | refine D1 10 ?_ | (refine DV (k := 10) (b := by first | exact U1 k | exact U4 hmB) (c := ?_)) | refine DD 10 ?_ | fail)
    all_goals (first | refine D1 11 ?_ | (refine DV (k := 11) (b := by first | exact U1 k | exact U4 hmB) (c := ?_)) | refine DD 11 ?_ | fail)
    all_goals (first | refine D1 12 ?_ | (refine DV (k := 12) (b := by first | exact U1 k | exact U4 hmB) (c := ?_)) | (refine D3 12 (DW (b := by first | exact U1 k | exact U4 hmB) (c := ?_))) | refine DD 12 ?_ | fail)
    all_goals (first | (refine D3 6 ?_; refine D5 ?_; (first | ((with_reducible apply F1 21); exact rfl; exact EN; (exact fun w μc hw hse => c1 w μc hw hse.le)) | ((with_reducible apply F1 22); exact rfl; exact EN; (exact fun w μc hw hse => c2 w μc hw hse.le))); refine D9 ?_))
    all_goals (first | (refine D3 13 ?_; refine D5 ?_; (first | ((with_reducible apply F1 21); exact rfl; exact EN; (exact fun w μc hw hse => c1 w μc hw hse.le)) | ((with_reducible apply F1 22); exact rfl; exact EN; (exact fun w μc hw hse => c2 w μc hw hse.le))); refine D9 ?_))
    all_goals (first | refine D1 14 ?_ | (refine DV (k := 14) (b := by first | exact U1 k | exact U4 hmB) (c := ?_)) | refine DD 14 ?_ | fail)
    all_goals refine D8 ?_
    all_goals repeat' (first | refine KK ?_ | refine NB fun b => ?_ | (refine KB ?_ ?_ <;> intro hp) | refine KG ?_ | fail)
    all_goals first | (exfalso; omega) | exact J2 (k + 1) (by show k + 1 ≤ ps.length; omega) (by show ps.length - (k + 1) < ps.length - k; omega)
  · repeat' (first | refine KO ?_ | ((with_reducible apply F1 12); exact rfl; exact EN; (exact fun w μc hw hse => lives_spec w μc hw (maxM_ofQ (hmq1.mono hse.le)))) | refine KI ?_ | refine NB fun b => ?_ | (refine KB ?_ ?_ <;> intro hp) | refine KG ?_ | fail)
    all_goals first | (exfalso; omega) | exact ret_s rfl rfl rfl
end
section
open Go.ChangeShapes Go.WideShapes Go.ChangeAt Go.RowKit Go.Deep Go.Vcg
theorem tabOk_of {W : World} {l : List (String × DataW Unit)} (h : laidMet Tryz.prog l W) (hm : (tabName, Rows.laid_internal_strconv_uint64pow10) ∈ l) : TabOk (memOf W) := by
  obtain ⟨g, t, cs, fuel, p, h1, h2, h3, h4⟩ := Lib.laidMet.reads h hm
  have hg : Tryz.prog.globalNamed tabName = some 3 := by kernel_rfl
  obtain rfl := Option.some.inj (hg.symm.trans h1)
  have ht : (Tryz.prog.globals[3]?).map (·.type) = some 184 := by kernel_rfl
  obtain rfl := Option.some.inj (ht.symm.trans h2)
  have hd : (Rows.laid_internal_strconv_uint64pow10 : DataW Unit) = Lib.tabData .u64 Lib.pow10Tab := by rfl
  rw [hd] at h4
  have hc := Lib.cells_of_tab Tryz.underlying184 Tryz.underlying173 (by kernel_rfl) (by kernel_rfl) h4
  intro w hw
  unfold Lib.TabIs World.var?
  unfold World.var? at h3
  rw [hg] at h3 ⊢
  simp only [Option.bind_some] at h3 ⊢
  cases hb : W.heap[3]? with
  | none => rw [hb] at h3; cases h3
  | some o =>
    rw [hw _ o hb]
    rw [hb] at h3
    cases o <;> simp at h3
    rename_i cs' _ _
    subst h3
    simp only [Option.some.injEq]
    rw [← hc]
theorem maxQ_of {W : World} (h : W.ShapedOpen Tryz.prog) : MaxQ (memOf W) := by
  obtain ⟨m, hm⟩ := cell_of_shapedOpen_int (g := 0) (t := 3) (zero := #[.int .i64 0]) (k := .i64) h (of_decide_eq_true (by kernel_rfl)) (by kernel_rfl) rfl (by kernel_rfl) (by kernel_rfl) (by kernel_rfl)
  exact ⟨m, MCell.of_cell hm⟩
end
end Go.Proofs.YtoclmkdfcafhfaaGreatDoor
