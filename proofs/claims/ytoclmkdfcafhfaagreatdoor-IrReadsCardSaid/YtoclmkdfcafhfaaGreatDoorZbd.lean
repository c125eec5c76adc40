/- The reference's literals: hexadecimal digits and escapes. -/
import Derived.Test.YtoclmkdfcafhfaaGreatDoorZbc
set_option maxRecDepth 20000
set_option maxHeartbeats 2000000
namespace Go.Proofs.YtoclmkdfcafhfaaGreatDoor
section
open Go.RowKit Go.Vcg Ou
def aAd (c : UInt8) : Int := match pC c with
  | some d => d
  | none => -1
def xK (n k : Nat) (r : Except Int (UInt8 × List UInt8)) : List Value := match r with
  | .ok (b, u) => [.int .u8 b.toNat, .int .i64 ((n - u.length : Nat) - (k : Int)), .int .i64 0]
  | .error e => [.int .u8 0, .int .i64 0, .int .i64 e]
attribute [local irreducible] G GC GQ GA bO Calls IntKind.wrap Int.decLt Int.decLe
theorem CB (x : Int) (c : UInt8) (hx : x = c.toNat) (w : World) (μ : Mem) (hμ : MOk μ w) : Calls Tryz.prog 153 #[.int .u8 x] w fun e w' => e = .returned (.int .i64 (aAd c)) ∧ Below w.heap.size w w' := by
  subst hx
  have hc := c.toNat_lt
  refine aC (args := [.int .u8 c.toNat]) Tryz.func153 rfl Tryz.ntmps153 (by simp) hμ ?_
  have h0 : aAd c = if 48 ≤ c.toNat ∧ c.toNat ≤ 57 then (c.toNat : Int) - 48 else if 97 ≤ c.toNat ∧ c.toNat ≤ 102 then (c.toNat : Int) - 87 else if 65 ≤ c.toNat ∧ c.toNat ≤ 70 then (c.toNat : Int) - 55 else -1 := by
    unfold aAd pC
    by_cases h1 : 48 ≤ c.toNat ∧ c.toNat ≤ 57
    · rw [if_pos h1, if_pos h1]; dsimp only; omega
    rw [if_neg h1, if_neg h1]
    by_cases h2 : 97 ≤ c.toNat ∧ c.toNat ≤ 102
    · rw [if_pos h2, if_pos h2]; dsimp only; omega
    rw [if_neg h2, if_neg h2]
    by_cases h3 : 65 ≤ c.toNat ∧ c.toNat ≤ 70
    · rw [if_pos h3, if_pos h3]; dsimp only; omega
    rw [if_neg h3, if_neg h3]
  rw [h0]
  by_cases h1 : 48 ≤ c.toNat ∧ c.toNat ≤ 57
  · rw [if_pos h1]
    repeat' (first | refine KK ?_ | refine KG ?_ | fail)
    all_goals exact aD rfl rfl rfl
  rw [if_neg h1]
  by_cases h2 : 97 ≤ c.toNat ∧ c.toNat ≤ 102
  · rw [if_pos h2]
    repeat' (first | refine KK ?_ | refine KG ?_ | fail)
    all_goals exact aD rfl rfl rfl
  rw [if_neg h2]
  by_cases h3 : 65 ≤ c.toNat ∧ c.toNat ≤ 70
  · rw [if_pos h3]
    repeat' (first | refine KK ?_ | refine KG ?_ | fail)
    all_goals exact aD rfl rfl rfl
  rw [if_neg h3]
  repeat' (first | refine KK ?_ | (refine KB ?_ ?_ <;> intro hp) | refine KG ?_ | fail)
  all_goals exact aD rfl rfl rfl
theorem pS {x : Int} {c : UInt8} {d : Nat} (hx : x = c.toNat) (h : pC c = some d) (w : World) (μ : Mem) (hμ : MOk μ w) : Calls Tryz.prog 153 #[.int .u8 x] w fun e w' => e = .returned (.int .i64 d) ∧ Below w.heap.size w w' := by
  have := CB x c hx w μ hμ
  unfold aAd at this
  rw [h] at this
  exact this
theorem CC {x : Int} {c : UInt8} (hx : x = c.toNat) (h : pC c = none) (w : World) (μ : Mem) (hμ : MOk μ w) : Calls Tryz.prog 153 #[.int .u8 x] w fun e w' => e = .returned (.int .i64 (-1)) ∧ Below w.heap.size w w' := by
  have := CB x c hx w μ hμ
  unfold aAd at this
  rw [h] at this
  exact this
theorem EO (s : ByteArray) (hs : s.size ≤ 1000000) (k : Nat) (hk : k < s.size) (w : World) (μ : Mem) (hμ : MOk μ w) :
    Calls Tryz.prog 131 #[.string s, .int .i64 k] w fun e w' => e = .returned (.tuple (xK s.size k (sS ((bl s).drop (k + 1)))).toArray) ∧ Below w.heap.size w w' := by
  refine aC (args := [.string s, .int .i64 k]) Tryz.func131 rfl Tryz.ntmps131 (by simp) hμ ?_
  by_cases h0 : k + 1 < s.size
  · obtain ⟨c, hb1, hb2⟩ := gY h0
    rw [mH hb1]
    have hn : ∀ n : UInt8, (c = n) = (c.toNat = n.toNat) := fun n => propext UInt8.toNat_inj.symm
    have hq : sS (c :: (bl s).drop (k + 1 + 1)) = if c.toNat = 110 then .ok (10, (bl s).drop (k + 1 + 1)) else if c.toNat = 116 then .ok (9, (bl s).drop (k + 1 + 1)) else if c.toNat = 114 then .ok (13, (bl s).drop (k + 1 + 1)) else if c.toNat = 48 then .ok (0, (bl s).drop (k + 1 + 1))
        else if c.toNat = 92 ∨ c.toNat = 39 ∨ c.toNat = 34 ∨ c.toNat = 96 ∨ c.toNat = 36 then .ok (c, (bl s).drop (k + 1 + 1)) else if c.toNat = 120 then rH ((bl s).drop (k + 1 + 1)) else .error 21 := by
      unfold sS
      simp only [hn]
      rfl
    have hE : ∀ b : UInt8, xK s.size k (.ok (b, (bl s).drop (k + 1 + 1))) = [.int .u8 b.toNat, .int .i64 2, .int .i64 0] := fun b => by
      unfold xK
      dsimp only
      rw [rK, show ((s.size - (s.size - (k + 1 + 1)) : Nat) : Int) - (k : Int) = 2 by omega]
    rw [hq]
    by_cases h110 : c.toNat = 110
    · rw [if_pos h110, hE]
      repeat' (first | refine KO ?_ | (refine KV (b := by exact U2 (k + 1)) (c := ?_)) | refine KI ?_ | fail)
      all_goals exact bD rfl (by repeat first | exact aJ | refine aE (by exact aB rfl) ?_) rfl rfl
    rw [if_neg h110]
    by_cases h116 : c.toNat = 116
    · rw [if_pos h116, hE]
      repeat' (first | refine KO ?_ | (refine KV (b := by exact U2 (k + 1)) (c := ?_)) | refine KI ?_ | fail)
      all_goals exact bD rfl (by repeat first | exact aJ | refine aE (by exact aB rfl) ?_) rfl rfl
    rw [if_neg h116]
    by_cases h114 : c.toNat = 114
    · rw [if_pos h114, hE]
      repeat' (first | refine KO ?_ | (refine KV (b := by exact U2 (k + 1)) (c := ?_)) | refine KI ?_ | fail)
      all_goals exact bD rfl (by repeat first | exact aJ | refine aE (by exact aB rfl) ?_) rfl rfl
    rw [if_neg h114]
    by_cases h48 : c.toNat = 48
    · rw [if_pos h48, hE]
      repeat' (first | refine KO ?_ | (refine KV (b := by exact U2 (k + 1)) (c := ?_)) | refine KI ?_ | fail)
      all_goals exact bD rfl (by repeat first | exact aJ | refine aE (by exact aB rfl) ?_) rfl rfl
    rw [if_neg h48]
    by_cases hc : c.toNat = 92 ∨ c.toNat = 39 ∨ c.toNat = 34 ∨ c.toNat = 96 ∨ c.toNat = 36
    · rw [if_pos hc, hE, ← hb2]
      rcases hc with hc | hc | hc | hc | hc
      all_goals
        repeat' (first | refine KO ?_ | (refine KV (b := by exact U2 (k + 1)) (c := ?_)) | refine KI ?_ | refine KG ?_ | fail)
        all_goals exact bD rfl (by repeat first | exact aJ | refine aE (by exact aB rfl) ?_) rfl rfl
    rw [if_neg hc]
    by_cases h120 : c.toNat = 120
    rotate_left
    · rw [if_neg h120]
      repeat' (first | refine KO ?_ | (refine KV (b := by exact U2 (k + 1)) (c := ?_)) | refine KI ?_ | refine KG ?_ | fail)
      all_goals exact bD rfl (by repeat first | exact aJ | refine aE (by exact aB rfl) ?_) rfl rfl
    rw [if_pos h120]
    by_cases h2 : k + 2 < s.size
    rotate_left
    · rw [show (bl s).drop (k + 1 + 1) = [] from List.drop_eq_nil_of_le (by rw [aZ]; omega)]
      repeat' (first | refine KO ?_ | (refine KV (b := by exact U2 (k + 1)) (c := ?_)) | refine KI ?_ | refine KG ?_ | fail)
      refine fQ 2 ?_
      repeat' (first | refine KO ?_ | refine KI ?_ | fail)
      all_goals exact bD rfl (by repeat first | exact aJ | refine aE (by exact aB rfl) ?_) rfl rfl
    obtain ⟨g, hg1, hg2⟩ := gY h2
    rw [mH hg1]
    unfold rH
    dsimp only
    cases hg : pC g with
    | none =>
      dsimp only
      repeat' (first | refine KO ?_ | (refine KV (b := by exact U2 (k + 1)) (c := ?_)) | refine KI ?_ | refine KG ?_ | fail)
      refine fQ 2 ?_
      repeat' (first | refine KO ?_ | ((with_reducible apply F1 153); exact rfl; exact EN; (exact fun w μc hw hse => CC hg2 hg w μc hw)) | (refine KV (b := by exact U2 (k + 2)) (c := ?_)) | refine KI ?_ | fail)
      all_goals exact bD rfl (by repeat first | exact aJ | refine aE (by exact aB rfl) ?_) rfl rfl
    | some x =>
      have hx := vO hg
      dsimp only
      by_cases h3 : k + 3 < s.size
      rotate_left
      · rw [show (bl s).drop (k + 2 + 1) = [] from List.drop_eq_nil_of_le (by rw [aZ]; omega)]
        dsimp only
        repeat' (first | refine KO ?_ | (refine KV (b := by exact U2 (k + 1)) (c := ?_)) | refine KI ?_ | refine KG ?_ | fail)
        refine fQ 2 ?_
        repeat' (first | (with_reducible apply nA) | refine KO ?_ | ((with_reducible apply F1 153); exact rfl; exact EN; (exact fun w μc hw hse => pS hg2 hg w μc hw)) | (refine KV (b := by exact U2 (k + 2)) (c := ?_)) | refine KI ?_ | fail)
        all_goals exact bD rfl (by repeat first | exact aJ | refine aE (by exact aB rfl) ?_) rfl rfl
      obtain ⟨f, hf1, hf2⟩ := gY h3
      rw [mH hf1]
      dsimp only
      cases hf : pC f with
      | none =>
        dsimp only
        repeat' (first | refine KO ?_ | (refine KV (b := by exact U2 (k + 1)) (c := ?_)) | refine KI ?_ | refine KG ?_ | fail)
        refine fQ 2 ?_
        repeat' (first | (with_reducible apply nA) | refine KO ?_ | ((with_reducible apply F1 153); exact rfl; exact EN; first | (exact fun w μc hw hse => pS hg2 hg w μc hw) | (exact fun w μc hw hse => CC hf2 hf w μc hw)) | (refine KV (b := by first | exact U2 (k + 2) | exact U2 (k + 3)) (c := ?_)) | refine KI ?_ | fail)
        all_goals exact bD rfl (by repeat first | exact aJ | refine aE (by exact aB rfl) ?_) rfl rfl
      | some y =>
        have hy := vO hf
        have hE2 : xK s.size k (.ok (UInt8.ofNat (16 * x + y), (bl s).drop (k + 3 + 1))) = [.int .u8 (16 * (16 * 0 + (x : Int)) + y), .int .i64 4, .int .i64 0] := by
          unfold xK
          dsimp only
          rw [rK, UInt8.toNat_ofNat', show (((16 * x + y) % 2 ^ 8 : Nat) : Int) = 16 * (16 * 0 + (x : Int)) + y by omega, show ((s.size - (s.size - (k + 3 + 1)) : Nat) : Int) - (k : Int) = 4 by omega]
        dsimp only
        rw [hE2]
        repeat' (first | refine KO ?_ | (refine KV (b := by exact U2 (k + 1)) (c := ?_)) | refine KI ?_ | refine KG ?_ | fail)
        refine fQ 2 ?_
        repeat' (first | (with_reducible apply nA) | refine KO ?_ | ((with_reducible apply F1 153); exact rfl; exact EN; first | (exact fun w μc hw hse => pS hg2 hg w μc hw) | (exact fun w μc hw hse => pS hf2 hf w μc hw)) | (refine KV (b := by first | exact U2 (k + 2) | exact U2 (k + 3) | ((with_reducible apply UJ); (iterate 3 exact rfl); omega)) (c := ?_)) | refine KI ?_ | fail)
        all_goals exact bD rfl (by repeat first | exact aJ | refine aE (by exact aB rfl) ?_) rfl rfl
  · have hd : (bl s).drop (k + 1) = [] := List.drop_eq_nil_of_le (by rw [aZ]; omega)
    rw [hd]
    repeat' (first | refine KK ?_ | fail)
    all_goals exact bD rfl (by repeat first | exact aJ | refine aE (by exact aB rfl) ?_) rfl rfl
end
section
open Go.RowKit Go.Vcg Ou
open Go.Lib (byteCells)
attribute [local irreducible] G GC GQ GA bO Calls IntKind.wrap Int.decLt Int.decLe
theorem wU (s : ByteArray) (hs : s.size ≤ 1000000) (k : Nat) (hk0 : k ≤ 2000000) (w : World) (μ : Mem) (hμ : MOk μ w) :
    Calls Tryz.prog 101 #[.string s, .int .i64 k] w fun e w' => e = .returned (.tuple (iV s.size (eQ ((bl s).drop k))).toArray) ∧ Below w.heap.size w w' := by
  refine aC (args := [.string s, .int .i64 k]) Tryz.func101 rfl Tryz.ntmps101 (by simp) hμ ?_
  by_cases h0 : k < s.size
  · obtain ⟨q, hq1, hq2⟩ := gY h0
    have hl : (bl s).drop k = q :: (bl s).drop (k + 1) := mH hq1
    by_cases hq : q.toNat = 34 ∨ q.toNat = 39
    · have hq' : q = 34 ∨ q = 39 := hq.imp (fun h => UInt8.toNat_inj.1 h) (fun h => UInt8.toNat_inj.1 h)
      obtain ⟨res, hres⟩ : ∃ res, eQ ((bl s).drop k) = res := ⟨_, rfl⟩
      rw [hres]
      rw [hl] at hres
      unfold eQ at hres
      dsimp only at hres
      rw [if_pos hq'] at hres
      have hqq : bAt s k = 34 ∨ bAt s k = 39 := by rw [hq2]; omega
      rcases hqq with hq3 | hq3
      all_goals
        repeat' (first | refine KO ?_ | (refine KV (b := by exact U2 k) (c := ?_)) | refine KI ?_ | refine KG ?_ | fail)
        all_goals try (exfalso; omega)
        refine TO 5 1 ?_
        refine aX (ι := Nat × List UInt8 × Value) (fun i => k + 1 ≤ i.1 ∧ i.1 ≤ s.size ∧ i.2.1.length ≤ 65536 ∧ oF q (((bl s).drop i.1).length + 1) ((bl s).drop i.1) i.2.1 = res) (fun i => s.size - i.1) (fun _ => μ)
          (fun i => [(0, .string s), (1, .int .i64 k), (7, i.2.2), (8, .int .i64 i.1)]) (fun i => [.inr ⟨i.2.2, 5, 1, i.2.1.length, byteCells i.2.1⟩]) (k + 1, [], .slice none 0 0) ⟨Nat.le_refl _, h0, by simp, hres⟩ (fun a w hs => J5 hs) ?_
        rintro ⟨i, out, v⟩ ⟨h1, h2, h3, hrun⟩
        dsimp only at h1 h2 h3 hrun ⊢
        by_cases hlt : i < s.size
        · obtain ⟨c, hb1, hb2⟩ := gY hlt
          have hone := fun (w : World) (μ : Mem) (hμ : MOk μ w) => EO s hs i hlt w μ hμ
          have hdl := rK s (i + 1)
          rw [mH hb1, oF] at hrun
          refine nB 0 rfl ?_
          rintro A cap rfl hok
          repeat' (first | refine KK ?_ | fail)
          all_goals try (exfalso; omega)
          refine aN 7 _ (by kernel_rfl) rfl (List.Sublist.cons_cons _ (List.nil_sublist _)) ?_
          all_goals refine DD 0 ?_
          all_goals refine DD 1 ?_
          all_goals (first | (refine DV (k := 2) (b := by exact U2 i) (c := ?_)) | fail)
          all_goals refine DD 3 ?_
          all_goals refine DD 4 ?_
          all_goals (first | (refine DV (k := 5) (b := by exact U2 k) (c := ?_)) | fail)
          all_goals (first | refine D1 6 ?_ | fail)
          all_goals refine D8 ?_
          by_cases hcq : c.toNat = q.toNat
          · have hcq' : c = q := UInt8.toNat_inj.1 hcq
            rw [if_pos hcq'] at hrun
            subst hrun
            have hE : iV s.size (.ok (out, (bl s).drop (i + 1))) = [.string ⟨out.toArray⟩, .int .i64 ((i : Int) + 1), .int .i64 0] := by
              unfold iV
              dsimp only
              rw [hdl, show ((s.size - (s.size - (i + 1)) : Nat) : Int) = (i : Int) + 1 by omega]
              rfl
            rw [hE]
            repeat' (first | refine KO ?_ | (refine KV (b := by ((with_reducible apply HH 0); (iterate 5 exact rfl))) (c := ?_)) | refine KI ?_ | fail)
            all_goals exact bD rfl (by repeat first | exact aJ | refine aE (by exact aB rfl) ?_) rfl rfl
          · have hcq' : ¬ c = q := fun h => hcq (by rw [h])
            rw [if_neg hcq'] at hrun
            by_cases h10 : c.toNat = 10 ∨ c.toNat = 13
            · rw [if_pos (h10.imp (fun h => UInt8.toNat_inj.1 h) (fun h => UInt8.toNat_inj.1 h))] at hrun
              subst hrun
              unfold iV
              dsimp only
              rcases h10 with h10 | h10
              all_goals repeat' (first | refine KO ?_ | (refine KV (b := by exact U2 i) (c := ?_)) | refine KG ?_ | fail)
              all_goals exact bD rfl (by repeat first | exact aJ | refine aE (by exact aB rfl) ?_) rfl rfl
            · rw [if_neg (fun h => h10 (h.imp (fun h => by rw [h]; rfl) (fun h => by rw [h]; rfl)))] at hrun
              by_cases h92 : c.toNat = 92
              · have hc92 : c = 92 := UInt8.toNat_inj.1 h92
                have hob : oE c ((bl s).drop (i + 1)) = sS ((bl s).drop (i + 1)) := by unfold oE; rw [if_pos hc92]
                cases ho : sS ((bl s).drop (i + 1)) with
                | error e =>
                  rw [ho] at hob
                  have he := xX hob
                  rw [hob] at hrun
                  rw [ho] at hone
                  dsimp only at hrun
                  subst hrun
                  unfold xK at hone
                  dsimp only at hone
                  unfold iV
                  dsimp only
                  repeat' (first | refine KO ?_ | ((with_reducible apply F1 131); exact rfl; exact EN; (exact fun w μc hw hse => hone w μc hw)) | (refine KV (b := by exact U2 i) (c := ?_)) | refine KG ?_ | fail)
                  all_goals exact bD rfl (by repeat first | exact aJ | refine aE (by exact aB rfl) ?_) rfl rfl
                | ok p =>
                  obtain ⟨b0, u0⟩ := p
                  rw [ho] at hob hone
                  have hul := xW hob
                  rw [hob] at hrun
                  dsimp only at hrun
                  unfold xK at hone
                  dsimp only at hone
                  obtain ⟨m, hm⟩ : ∃ m, s.size - u0.length = m := ⟨_, rfl⟩
                  obtain ⟨d, hd⟩ : ∃ d : Int, ((s.size - u0.length : Nat) : Int) - (i : Int) = d := ⟨_, rfl⟩
                  rw [hd] at hone
                  by_cases hlong : 65536 < out.length + 1
                  · rw [if_pos hlong] at hrun
                    subst hrun
                    unfold iV
                    dsimp only
                    repeat' (first | refine KO ?_ | ((with_reducible apply F1 131); exact rfl; exact EN; (exact fun w μc hw hse => hone w μc hw)) | (refine KV (b := by exact U2 i) (c := ?_)) | refine KG ?_ | fail)
                    all_goals exact bD rfl (by repeat first | exact aJ | refine aE (by exact aB rfl) ?_) rfl rfl
                  · rw [if_neg hlong] at hrun
                    have hud : u0 = (bl s).drop (s.size - u0.length) := by
                      obtain ⟨n, hn⟩ := xV hob
                      rw [List.drop_drop] at hn
                      rw [hn, List.length_drop, aZ]
                      by_cases hm : i + 1 + n ≤ s.size
                      · rw [show s.size - (s.size - (i + 1 + n)) = i + 1 + n by omega]
                      · rw [List.drop_eq_nil_of_le (by rw [aZ]; omega), List.drop_eq_nil_of_le (by rw [aZ]; omega)]
                    have hint : (i : Int) + d = (m : Int) := by omega
                    repeat' (first | refine KO ?_ | ((with_reducible apply F1 131); exact rfl; exact EN; (exact fun w μc hw hse => hone w μc hw)) | (((with_reducible apply lI); (iterate 3 exact rfl); (repeat first | with_reducible exact cF | with_reducible apply cQ); (iterate 6 exact rfl); (((with_reducible apply eZ); exact rfl; (repeat with_reducible exact bG); exact rfl)); (exact rfl); ((exact dP (by (repeat first | with_reducible exact bH | ((with_reducible apply aU); (exact rfl)))))); omega; omega; intro v; ((with_reducible apply jM 1); exact rfl); (rintro A2 cap2 rfl))) | (refine KV (b := by exact U2 i) (c := ?_)) | refine KI ?_ | refine NB fun b => ?_ | refine KG ?_ | fail)
                    all_goals try (exfalso; omega)
                    all_goals rw [hint]
                    all_goals refine dQ (n' := (out ++ [b0]).length) (xs' := byteCells (out ++ [b0])) 1 rfl (by simp) (by rw [gX]; rfl) ?_
                    all_goals refine J2 (m, out ++ [b0], .slice A2 (out.length + 1) cap2) ⟨by dsimp only; omega, by dsimp only; omega, by dsimp only; simp; omega, ?_⟩ (by dsimp only; omega)
                    all_goals
                      dsimp only
                      rw [← hm, ← hud]
                      rw [pZ q _ _ _ _ (Nat.lt_succ_self _) (show u0.length < ((bl s).drop (i + 1)).length + 1 by omega)]
                      exact hrun
              · have hc92 : ¬ c = 92 := fun h => h92 (by rw [h]; rfl)
                have hob : oE c ((bl s).drop (i + 1)) = .ok (c, (bl s).drop (i + 1)) := by unfold oE; rw [if_neg hc92]
                rw [hob] at hrun
                dsimp only at hrun
                by_cases hlong : 65536 < out.length + 1
                · rw [if_pos hlong] at hrun
                  subst hrun
                  unfold iV
                  dsimp only
                  repeat' (first | refine KO ?_ | (refine KV (b := by exact U2 i) (c := ?_)) | refine KG ?_ | fail)
                  all_goals exact bD rfl (by repeat first | exact aJ | refine aE (by exact aB rfl) ?_) rfl rfl
                · rw [if_neg hlong] at hrun
                  repeat' (first | refine KO ?_ | (((with_reducible apply lI); (iterate 3 exact rfl); (repeat first | with_reducible exact cF | with_reducible apply cQ); (iterate 6 exact rfl); (((with_reducible apply eZ); exact rfl; (repeat with_reducible exact bG); exact rfl)); (exact rfl); ((exact dP (by (repeat first | with_reducible exact bH | ((with_reducible apply aU); (exact rfl)))))); omega; omega; intro v; ((with_reducible apply jM 1); exact rfl); (rintro A2 cap2 rfl))) | (refine KV (b := by exact U2 i) (c := ?_)) | refine KI ?_ | refine NB fun b => ?_ | refine KG ?_ | fail)
                  all_goals try (exfalso; omega)
                  all_goals refine dQ (n' := (out ++ [c]).length) (xs' := byteCells (out ++ [c])) 1 rfl (by simp) (by rw [gX]; rw [hb2]; rfl) ?_
                  all_goals refine J2 (i + 1, out ++ [c], .slice A2 (out.length + 1) cap2) ⟨by dsimp only; omega, by dsimp only; omega, by dsimp only; simp; omega, ?_⟩ (by dsimp only; omega)
                  all_goals
                    dsimp only
                    exact hrun
        · have hi : (bl s).drop i = [] := List.drop_eq_nil_of_le (by rw [aZ]; omega)
          rw [hi] at hrun
          have : res = .error 8 := hrun.symm
          subst this
          unfold iV
          dsimp only
          repeat' (first | refine KK ?_ | fail)
          all_goals exact bD rfl (by repeat first | exact aJ | refine aE (by exact aB rfl) ?_) rfl rfl
    · have hE : eQ ((bl s).drop k) = .error 1 := by
        rw [hl]
        unfold eQ
        dsimp only
        rw [if_neg (fun h => hq (h.imp (fun h => by rw [h]; rfl) (fun h => by rw [h]; rfl)))]
      rw [hE]
      unfold iV
      dsimp only
      repeat' (first | refine KO ?_ | (refine KV (b := by exact U2 k) (c := ?_)) | refine KG ?_ | fail)
      all_goals exact bD rfl (by repeat first | exact aJ | refine aE (by exact aB rfl) ?_) rfl rfl
  · have hE : eQ ((bl s).drop k) = .error 1 := by
      have : (bl s).drop k = [] := List.drop_eq_nil_of_le (by rw [aZ]; omega)
      rw [this]; rfl
    rw [hE]
    unfold iV
    dsimp only
    repeat' (first | refine KK ?_ | refine KG ?_ | fail)
    all_goals exact bD rfl (by repeat first | exact aJ | refine aE (by exact aB rfl) ?_) rfl rfl
end
section
open Go.RowKit Go.Vcg Ou
abbrev RI4 := List UInt8 × Int × Int × Int
abbrev rdL (rb : Nat) (S : RI4) : List Bk := [.inl ⟨rb, 64, 4, [(0, .string (ofB S.1)), (1, .int .i64 S.2.1), (2, .int .i64 S.2.2.1), (3, .int .i64 S.2.2.2)]⟩]
abbrev RlK (M : List Nat) (w : World) (μ : Mem) (rb : Nat) (S : RI4) (P : Value → Prop) (en : Ending) (w' : World) : Prop := ∃ (r : Value) (μ' : Mem) (i : Unit), en = .returned r ∧ fH M w w' μ (rdL rb S) μ' ∧ P r
abbrev nI (S : RI4) (c : Int) : RI4 := (S.1, S.2.1, S.2.2.1, bump S.2.2.2 c)
abbrev stL (S : RI4) (ok : Bool) (c : Int) : RI4 := (S.1, S.2.1, S.2.2.1, okS ok S.2.2.2 c)
theorem aFk {c : UInt8} {l a b : List UInt8} (h : Ou.aO c l = some (a, b)) : l[a.length]? = some c ∧ ∀ j, j < a.length → ∃ d, l[j]? = some d ∧ d ≠ c := by
  have h1 := (cD h).1
  have h2 := (cD h).2
  refine ⟨by rw [h1, List.getElem?_append_right (Nat.le_refl _)]; simp, fun j hj => ⟨a[j], by rw [h1, List.getElem?_append_left hj, List.getElem?_eq_getElem hj], ?_⟩⟩
  intro e
  exact h2 (e ▸ List.getElem_mem hj)
theorem aC9 {c : UInt8} {l : List UInt8} (h : Ou.aO c l = none) (j : Nat) (d : UInt8) (hd : l[j]? = some d) : d ≠ c := fun e => tY h (e ▸ List.mem_of_getElem? hd)
theorem BX {l t u : List UInt8} (h : eQ l = .ok (t, u)) (hl : l.length ≤ 1000000) (w : World) (μ : Mem) (hμ : MOk μ w) :
    Calls Tryz.prog 101 #[.string (ofB l), .int .i64 0] w fun e w' => e = .returned (.tuple #[.string (ofB t), .int .i64 ((l.length - u.length : Nat) : Int), .int .i64 0]) ∧ Below w.heap.size w w' := by
  have := wU (ofB l) (by rw [bF]; exact hl) 0 (by omega) w μ hμ
  rw [fV, List.drop_zero, h, bF] at this
  exact this
theorem VE {l : List UInt8} {e : Int} (h : eQ l = .error e) (hl : l.length ≤ 1000000) (w : World) (μ : Mem) (hμ : MOk μ w) :
    Calls Tryz.prog 101 #[.string (ofB l), .int .i64 0] w fun en w' => en = .returned (.tuple #[.string ⟨#[]⟩, .int .i64 0, .int .i64 e]) ∧ Below w.heap.size w w' := by
  have := wU (ofB l) (by rw [bF]; exact hl) 0 (by omega) w μ hμ
  rw [fV, List.drop_zero, h, bF] at this
  exact this
theorem BU (t : List UInt8) (ht : t.length ≤ 65536) (w : World) (μ : Mem) (hμ : MOk μ w) :
    Calls Tryz.prog 45 #[.string (ofB t)] w fun e w' => e = .returned (.string (ofB (dO t))) ∧ Below w.heap.size w w' := by
  have := IB (ofB t) (by rw [bF]; omega) w μ hμ
  rw [dG] at this
  exact this
attribute [local irreducible] G GC GQ GA bO Calls IntKind.wrap Int.decLt Int.decLe
theorem eM (rb : Nat) (S : RI4) (c : Int) (w : World) (μ : Mem) (hμ : MOk μ w) (hO : Go.Vcg.Own μ (rdL rb S) w) :
    Calls Tryz.prog 34 #[.pointer (some ⟨rb, 0, none⟩), .int .i64 c] w (RlK (bS (rdL rb S)) w μ rb (nI S c) fun _ => True) := by
  have hcnt := bE hO.diff
  obtain ⟨s, p, line, e⟩ := S
  refine aQ (args := [.pointer (some ⟨rb, 0, none⟩), .int .i64 c]) Tryz.func34 rfl Tryz.ntmps34 (by simp) hμ hO ?_
  show GC _ _ _ _ _ _ [.inl ⟨rb, 64, 4, [(0, .string (ofB s)), (1, .int .i64 p), (2, .int .i64 line), (3, .int .i64 e)]⟩]
  by_cases he : e = 0
  · subst he
    repeat' (first | refine KK ?_ | fail)
    all_goals first | skip
    refine aM (l' := []) (L' := rdL rb (s, p, line, c)) PU PS ?_
    exact fE (Post := fun _ _ _ => True) (Ls := fun _ : Unit => rdL rb (s, p, line, c)) 1 () (.inr rfl) hcnt rfl rfl rfl (fun _ _ _ => trivial)
  · have hb : bump e c = e := if_neg he
    show GC _ _ _ (bodyPost _ _ fun en w' => RlK _ _ _ _ (s, p, line, bump e c) _ en w') _ _ _
    rw [hb]
    repeat' (first | refine KK ?_ | fail)
    all_goals first | skip
    refine aM (l' := []) (L' := rdL rb (s, p, line, e)) PU PS ?_
    exact fE (Post := fun _ _ _ => True) (Ls := fun _ : Unit => rdL rb (s, p, line, e)) 1 () (.inr rfl) hcnt rfl rfl rfl (fun _ _ _ => trivial)
theorem xC {l r : List UInt8} (rb : Nat) (s : List UInt8) (k : Nat) (line e : Int) (h : Ou.aO 10 (s.drop k) = some (l, r)) (hk : k ≤ s.length) (hs : s.length ≤ 2000000) (hl : 0 ≤ line ∧ line ≤ 2000000) (w : World) (μ : Mem) (hμ : MOk μ w) (hO : Go.Vcg.Own μ (rdL rb (s, (k : Int), line, e)) w) :
    Calls Tryz.prog 33 #[.pointer (some ⟨rb, 0, none⟩)] w (RlK (bS (rdL rb (s, (k : Int), line, e))) w μ rb (s, ((k + l.length + 1 : Nat) : Int), line + 1, e) fun r => r = .string (ofB l)) := by
  have hcnt := bE hO.diff
  refine aQ (args := [.pointer (some ⟨rb, 0, none⟩)]) Tryz.func33 rfl Tryz.ntmps33 (by simp) hμ hO ?_
  show GC _ _ _ _ _ _ [.inl ⟨rb, 64, 4, [(0, .string (ofB s)), (1, .int .i64 (k : Int)), (2, .int .i64 line), (3, .int .i64 e)]⟩]
  have hsz := bF s
  have hlen : l.length + r.length + 1 + k = s.length := by
    have h1 := congrArg List.length (cD h).1
    rw [List.length_drop, List.length_append, List.length_cons] at h1
    omega
  have hx : (ofB s).extract k (k + l.length) = ofB l := lF (by
    rw [bX, fV, fV, (cD h).1, show k + l.length - k = l.length by omega, List.take_left])
  obtain ⟨hat, hbe⟩ := aFk h
  repeat' (first | refine KK ?_ | fail)
  all_goals first | skip
  refine aX (ι := Nat) (fun j => j ≤ l.length) (fun j => s.length - j) (fun _ => μ) (fun j => [(3, .int .i64 ((k + j : Nat) : Int)), (0, .pointer (some ⟨rb, 0, none⟩))]) (fun _ => [.inl ⟨rb, 64, 4, [(0, .string (ofB s)), (1, .int .i64 (k : Int)), (2, .int .i64 (line + 1)), (3, .int .i64 e)]⟩]) 0 (Nat.zero_le _) (fun a w hs => J5 hs) ?_
  intro j hj
  by_cases hjl : j < l.length
  · obtain ⟨d, hd1, hd2⟩ := hbe j hjl
    rw [List.getElem?_drop] at hd1
    have hd3 : bAt (ofB s) (k + j) = d.toNat := jT (by rw [fV]; exact hd1)
    have hd4 : d.toNat ≠ 10 := fun h => hd2 (UInt8.toNat_inj.1 h)
    repeat' (first | refine KO ?_ | (refine KV (b := by exact U2 (k + j)) (c := ?_)) | refine KI ?_ | fail)
    all_goals first | skip
    exact J2 (j + 1) (by omega) (by omega)
  · obtain rfl : j = l.length := by omega
    rw [List.getElem?_drop] at hat
    have hd3 : bAt (ofB s) (k + l.length) = 10 := jT (by rw [fV]; exact hat)
    repeat' (first | refine KO ?_ | (refine KV (b := by exact U2 (k + l.length)) (c := ?_)) | refine KI ?_ | fail)
    all_goals first | skip
    refine aN 11 _ (by kernel_rfl) rfl (List.Sublist.cons_cons _ (List.nil_sublist _)) ?_
    all_goals refine DD 0 ?_
    all_goals refine DD 1 ?_
    all_goals (first | refine D1 2 ?_ | fail)
    all_goals (first | refine DD 3 ?_ | fail)
    all_goals refine DD 4 ?_
    all_goals refine DD 5 ?_
    all_goals (first | refine D1 6 ?_ | fail)
    all_goals (first | refine DD 7 ?_ | fail)
    all_goals refine DD 8 ?_
    all_goals (first | (refine DV (k := 9) (b := by ((with_reducible apply jH k (k + l.length)); (iterate 5 exact rfl); omega; omega; omega)) (c := ?_)) | fail)
    all_goals refine DD 10 ?_
    all_goals refine D8 ?_
    rw [hx]
    repeat' (first | refine KK ?_ | fail)
    all_goals first | skip
    refine aM (l' := [(2, .string (ofB l))]) (L' := rdL rb (s, ((k + l.length + 1 : Nat) : Int), line + 1, e)) PU PS ?_
    exact aS (Post := fun _ r _ => r = .string (ofB l)) (Ls := fun _ : Unit => rdL rb (s, ((k + l.length + 1 : Nat) : Int), line + 1, e)) 1 () hcnt rfl (aB rfl) rfl rfl (fun _ _ => rfl)
theorem xD (rb : Nat) (s : List UInt8) (k : Nat) (line e : Int) (h : Ou.aO 10 (s.drop k) = none) (hk : k ≤ s.length) (hs : s.length ≤ 2000000) (hl : 0 ≤ line ∧ line ≤ 2000000) (w : World) (μ : Mem) (hμ : MOk μ w) (hO : Go.Vcg.Own μ (rdL rb (s, (k : Int), line, e)) w) :
    Calls Tryz.prog 33 #[.pointer (some ⟨rb, 0, none⟩)] w (RlK (bS (rdL rb (s, (k : Int), line, e))) w μ rb (nI (s, (k : Int), line + 1, e) 8) fun r => r = .string (ofB [])) := by
  have hcnt := bE hO.diff
  refine aQ (args := [.pointer (some ⟨rb, 0, none⟩)]) Tryz.func33 rfl Tryz.ntmps33 (by simp) hμ hO ?_
  show GC _ _ _ _ _ _ [.inl ⟨rb, 64, 4, [(0, .string (ofB s)), (1, .int .i64 (k : Int)), (2, .int .i64 line), (3, .int .i64 e)]⟩]
  have hsz := bF s
  have hbe := aC9 h
  repeat' (first | refine KK ?_ | fail)
  all_goals first | skip
  refine aX (ι := Nat) (fun j => k + j ≤ s.length) (fun j => s.length - j) (fun _ => μ) (fun j => [(3, .int .i64 ((k + j : Nat) : Int)), (0, .pointer (some ⟨rb, 0, none⟩))]) (fun _ => [.inl ⟨rb, 64, 4, [(0, .string (ofB s)), (1, .int .i64 (k : Int)), (2, .int .i64 (line + 1)), (3, .int .i64 e)]⟩]) 0 (by simpa using hk) (fun a w hs => J5 hs) ?_
  intro j hj
  by_cases hjl : k + j < s.length
  · have hd1 : s[k + j]? = some s[k + j] := List.getElem?_eq_getElem hjl
    have hd2 := hbe j s[k + j] (by rw [List.getElem?_drop]; exact hd1)
    generalize s[k + j] = d at hd1 hd2
    have hd3 : bAt (ofB s) (k + j) = d.toNat := jT (by rw [fV]; exact hd1)
    have hd4 : d.toNat ≠ 10 := fun h => hd2 (UInt8.toNat_inj.1 h)
    repeat' (first | refine KO ?_ | (refine KV (b := by exact U2 (k + j)) (c := ?_)) | refine KI ?_ | fail)
    all_goals first | skip
    exact J2 (j + 1) (by omega) (by omega)
  · repeat' (first | refine KO ?_ | (refine CF 34 ?_; (with_reducible apply aA 1); (iterate 3 exact rfl); ((with_reducible apply aL); kernel_rfl; exact rfl; exact rfl); exact rfl; (exact fun w hw hO => eM rb (s, (k : Int), line + 1, e) 8 w _ hw hO); (rintro v2 μ2 ⟨⟩ hle2 hv); (dsimp only [List.cons_append, List.nil_append])) | refine KI ?_ | fail)
    all_goals first | skip
    refine aM (l' := [(2, .string (ofB []))]) (L' := rdL rb (nI (s, (k : Int), line + 1, e) 8)) PU PS ?_
    exact aS (Post := fun _ r _ => r = .string (ofB [])) (Ls := fun _ : Unit => rdL rb (nI (s, (k : Int), line + 1, e) 8)) 1 () hcnt rfl (aB rfl) rfl rfl (fun _ _ => rfl)
theorem aB1 {x : List UInt8} {lo hi n : Int} (rb : Nat) (S : RI4) (h : aV lo hi x = some n) (hx : x.length ≤ 1000000) (w : World) (μ : Mem) (hμ : MOk μ w) (hO : Go.Vcg.Own μ (rdL rb S) w) :
    Calls Tryz.prog 35 #[.pointer (some ⟨rb, 0, none⟩), .string (ofB x), .int .i64 lo, .int .i64 hi] w (RlK (bS (rdL rb S)) w μ rb S fun r => r = .int .i64 n) := by
  have hcnt := bE hO.diff
  obtain ⟨s, p, line, e⟩ := S
  refine aQ (args := [.pointer (some ⟨rb, 0, none⟩), .string (ofB x), .int .i64 lo, .int .i64 hi]) Tryz.func35 rfl Tryz.ntmps35 (by simp) hμ hO ?_
  show GC _ _ _ _ _ _ [.inl ⟨rb, 64, 4, [(0, .string (ofB s)), (1, .int .i64 p), (2, .int .i64 line), (3, .int .i64 e)]⟩]
  have hsz := bF x
  rcases vL (ofB x) with ⟨k, h1, h2, h3⟩ | ⟨h1, _⟩
  · rw [dG] at h1
    unfold aV at h
    rw [h1] at h
    dsimp only at h
    have hin : lo ≤ k ∧ k ≤ hi := by
      by_cases hc : lo ≤ k ∧ k ≤ hi
      · exact hc
      · rw [if_neg hc] at h; cases h
    rw [if_pos hin] at h
    cases h
    have hrd := fun (w : World) (μ : Mem) (hμ : MOk μ w) => sB w μ hμ (ofB x) (by omega)
    rw [h2] at h3 hrd
    have hb := aAa hin
    repeat' (first | refine KO ?_ | ((with_reducible apply F1 66); exact rfl; exact EN; (exact fun w μc hw hse => hrd w μc hw)) | ((with_reducible apply F1 67); exact rfl; exact EN; (exact fun w μc hw hse => nO w μc hw _)) | ((with_reducible apply F1 49); exact rfl; exact EN; (exact fun w μc hw hse => fD _ _ _ w μc hw)) | refine KI ?_ | refine NB fun b => ?_ | (refine KB ?_ ?_ <;> intro hp) | refine KG ?_ | fail)
    all_goals first | (exfalso; first | contradiction | (rw [hb] at *; contradiction)) | skip
    refine aM (l' := [(8, .int .i64 n)]) (L' := rdL rb (s, p, line, e)) PU PS ?_
    exact aS (Post := fun _ r _ => r = .int .i64 n) (Ls := fun _ : Unit => rdL rb (s, p, line, e)) 1 () hcnt rfl (aB rfl) rfl rfl (fun _ _ => rfl)
  · rw [dG] at h1
    unfold aV at h
    rw [h1] at h
    cases h
theorem aB2 {x : List UInt8} {lo hi : Int} (rb : Nat) (S : RI4) (h : aV lo hi x = none) (hx : x.length ≤ 1000000) (w : World) (μ : Mem) (hμ : MOk μ w) (hO : Go.Vcg.Own μ (rdL rb S) w) :
    Calls Tryz.prog 35 #[.pointer (some ⟨rb, 0, none⟩), .string (ofB x), .int .i64 lo, .int .i64 hi] w (RlK (bS (rdL rb S)) w μ rb (nI S 7) fun r => r = .int .i64 0) := by
  have hcnt := bE hO.diff
  obtain ⟨s, p, line, e⟩ := S
  refine aQ (args := [.pointer (some ⟨rb, 0, none⟩), .string (ofB x), .int .i64 lo, .int .i64 hi]) Tryz.func35 rfl Tryz.ntmps35 (by simp) hμ hO ?_
  show GC _ _ _ _ _ _ [.inl ⟨rb, 64, 4, [(0, .string (ofB s)), (1, .int .i64 p), (2, .int .i64 line), (3, .int .i64 e)]⟩]
  have hsz := bF x
  have hrd := fun (w : World) (μ : Mem) (hμ : MOk μ w) => sB w μ hμ (ofB x) (by omega)
  rcases vL (ofB x) with ⟨k, h1, h2, h3⟩ | ⟨h1, h2⟩
  · rw [dG] at h1
    unfold aV at h
    rw [h1] at h
    dsimp only at h
    have hin : ¬ (lo ≤ k ∧ k ≤ hi) := fun hc => by rw [if_pos hc] at h; cases h
    rw [h2] at h3 hrd
    have hb := aAb hin
    repeat' (first | refine KO ?_ | ((with_reducible apply F1 66); exact rfl; exact EN; (exact fun w μc hw hse => hrd w μc hw)) | ((with_reducible apply F1 67); exact rfl; exact EN; (exact fun w μc hw hse => nO w μc hw _)) | ((with_reducible apply F1 49); exact rfl; exact EN; (exact fun w μc hw hse => fD _ _ _ w μc hw)) | refine KI ?_ | refine NB fun b => ?_ | (refine KB ?_ ?_ <;> intro hp) | refine KG ?_ | fail)
    all_goals first | (exfalso; first | contradiction | (rw [hb] at *; contradiction)) | skip
    refine nC (l' := [(29, .pointer (some ⟨rb, 0, none⟩))]) (L' := rdL rb (s, p, line, e)) PU PS ?_
    repeat' (first | refine KO ?_ | (refine CF 34 ?_; (with_reducible apply aA 1); (iterate 3 exact rfl); ((with_reducible apply aL); kernel_rfl; exact rfl; exact rfl); exact rfl; (exact fun w hw hO => eM rb (s, p, line, e) 7 w _ hw hO); (rintro v2 μ2 ⟨⟩ hle2 hv); (dsimp only [List.cons_append, List.nil_append])) | fail)
    refine aM (l' := [(8, .int .i64 0)]) (L' := rdL rb (nI (s, p, line, e) 7)) PU PS ?_
    exact aS (Post := fun _ r _ => r = .int .i64 0) (Ls := fun _ : Unit => rdL rb (nI (s, p, line, e) 7)) 1 () hcnt rfl (aB rfl) rfl rfl (fun _ _ => rfl)
  · generalize jZ (bl (ofB x)) = v at h2 hrd
    by_cases h3 : v.k = 3
    · have h4 : jE v ≠ ofB x := by rcases h2 with h2 | h2; exact absurd h3 h2; exact h2
      repeat' (first | refine KO ?_ | ((with_reducible apply F1 66); exact rfl; exact EN; (exact fun w μc hw hse => hrd w μc hw)) | ((with_reducible apply F1 67); exact rfl; exact EN; (exact fun w μc hw hse => nO w μc hw _)) | refine KI ?_ | refine NB fun b => ?_ | refine KG ?_ | fail)
      all_goals first | skip
      refine nC (l' := [(29, .pointer (some ⟨rb, 0, none⟩))]) (L' := rdL rb (s, p, line, e)) PU PS ?_
      repeat' (first | refine KO ?_ | (refine CF 34 ?_; (with_reducible apply aA 1); (iterate 3 exact rfl); ((with_reducible apply aL); kernel_rfl; exact rfl; exact rfl); exact rfl; (exact fun w hw hO => eM rb (s, p, line, e) 7 w _ hw hO); (rintro v2 μ2 ⟨⟩ hle2 hv); (dsimp only [List.cons_append, List.nil_append])) | fail)
      refine aM (l' := [(8, .int .i64 0)]) (L' := rdL rb (nI (s, p, line, e) 7)) PU PS ?_
      exact aS (Post := fun _ r _ => r = .int .i64 0) (Ls := fun _ : Unit => rdL rb (nI (s, p, line, e) 7)) 1 () hcnt rfl (aB rfl) rfl rfl (fun _ _ => rfl)
    · repeat' (first | refine KO ?_ | ((with_reducible apply F1 66); exact rfl; exact EN; (exact fun w μc hw hse => hrd w μc hw)) | refine KI ?_ | refine NB fun b => ?_ | refine KG ?_ | fail)
      all_goals first | skip
      refine nC (l' := [(29, .pointer (some ⟨rb, 0, none⟩))]) (L' := rdL rb (s, p, line, e)) PU PS ?_
      repeat' (first | refine KO ?_ | (refine CF 34 ?_; (with_reducible apply aA 1); (iterate 3 exact rfl); ((with_reducible apply aL); kernel_rfl; exact rfl; exact rfl); exact rfl; (exact fun w hw hO => eM rb (s, p, line, e) 7 w _ hw hO); (rintro v2 μ2 ⟨⟩ hle2 hv); (dsimp only [List.cons_append, List.nil_append])) | fail)
      refine aM (l' := [(8, .int .i64 0)]) (L' := rdL rb (nI (s, p, line, e) 7)) PU PS ?_
      exact aS (Post := fun _ r _ => r = .int .i64 0) (Ls := fun _ : Unit => rdL rb (nI (s, p, line, e) 7)) 1 () hcnt rfl (aB rfl) rfl rfl (fun _ _ => rfl)
theorem NQ {x t : List UInt8} (rb : Nat) (S : RI4) (h : cE x = some t) (hx : x.length ≤ 1000000) (w : World) (μ : Mem) (hμ : MOk μ w) (hO : Go.Vcg.Own μ (rdL rb S) w) :
    Calls Tryz.prog 68 #[.pointer (some ⟨rb, 0, none⟩), .string (ofB x)] w (RlK (bS (rdL rb S)) w μ rb S fun r => r = .string (ofB t)) := by
  have hcnt := bE hO.diff
  obtain ⟨s, p, line, e⟩ := S
  refine aQ (args := [.pointer (some ⟨rb, 0, none⟩), .string (ofB x)]) Tryz.func68 rfl Tryz.ntmps68 (by simp) hμ hO ?_
  show GC _ _ _ _ _ _ [.inl ⟨rb, 64, 4, [(0, .string (ofB s)), (1, .int .i64 p), (2, .int .i64 line), (3, .int .i64 e)]⟩]
  have hsz := bF x
  obtain ⟨h1, h2, ht⟩ := rA (yQ h)
  have hrd := fun (w : World) (μ : Mem) (hμ : MOk μ w) => BX h1 hx w μ hμ
  rw [List.append_nil] at h2
  have hq : ofB (dO t) = ofB x := by rw [h2]
  rw [show x.length - ([] : List UInt8).length = x.length from rfl] at hrd
  repeat' (first | refine KO ?_ | ((with_reducible apply F1 101); exact rfl; exact EN; (exact fun w μc hw hse => hrd w μc hw)) | ((with_reducible apply F1 45); exact rfl; exact EN; (exact fun w μc hw hse => BU t ht w μc hw)) | (refine KB ?_ ?_ <;> intro hp) | refine KG ?_ | fail)
  all_goals first | (exfalso; contradiction) | skip
  refine aM (l' := [(4, .string (ofB t))]) (L' := rdL rb (s, p, line, e)) PU PS ?_
  exact aS (Post := fun _ r _ => r = .string (ofB t)) (Ls := fun _ : Unit => rdL rb (s, p, line, e)) 1 () hcnt rfl (aB rfl) rfl rfl (fun _ _ => rfl)
theorem NR {x : List UInt8} (rb : Nat) (S : RI4) (h : cE x = none) (hx : x.length ≤ 1000000) (w : World) (μ : Mem) (hμ : MOk μ w) (hO : Go.Vcg.Own μ (rdL rb S) w) :
    Calls Tryz.prog 68 #[.pointer (some ⟨rb, 0, none⟩), .string (ofB x)] w (RlK (bS (rdL rb S)) w μ rb (nI S 7) fun r => r = .string (ofB [])) := by
  have hcnt := bE hO.diff
  obtain ⟨s, p, line, e⟩ := S
  refine aQ (args := [.pointer (some ⟨rb, 0, none⟩), .string (ofB x)]) Tryz.func68 rfl Tryz.ntmps68 (by simp) hμ hO ?_
  show GC _ _ _ _ _ _ [.inl ⟨rb, 64, 4, [(0, .string (ofB s)), (1, .int .i64 p), (2, .int .i64 line), (3, .int .i64 e)]⟩]
  have hsz := bF x
  cases h1 : eQ x with
  | error c =>
    have hc := CI h1
    have hrd := fun (w : World) (μ : Mem) (hμ : MOk μ w) => VE h1 hx w μ hμ
    repeat' (first | refine KO ?_ | ((with_reducible apply F1 101); exact rfl; exact EN; (exact fun w μc hw hse => hrd w μc hw)) | refine KG ?_ | fail)
    all_goals first | skip
    refine nC (l' := [(28, .pointer (some ⟨rb, 0, none⟩))]) (L' := rdL rb (s, p, line, e)) PU PS ?_
    repeat' (first | refine KO ?_ | (refine CF 34 ?_; (with_reducible apply aA 1); (iterate 3 exact rfl); ((with_reducible apply aL); kernel_rfl; exact rfl; exact rfl); exact rfl; (exact fun w hw hO => eM rb (s, p, line, e) 7 w _ hw hO); (rintro v2 μ2 ⟨⟩ hle2 hv); (dsimp only [List.cons_append, List.nil_append])) | fail)
    refine aM (l' := [(4, .string (ofB []))]) (L' := rdL rb (nI (s, p, line, e) 7)) PU PS ?_
    exact aS (Post := fun _ r _ => r = .string (ofB [])) (Ls := fun _ : Unit => rdL rb (nI (s, p, line, e) 7)) 1 () hcnt rfl (aB rfl) rfl rfl (fun _ _ => rfl)
  | ok q =>
    obtain ⟨t, u⟩ := q
    have ht := CH h1
    have hrd := fun (w : World) (μ : Mem) (hμ : MOk μ w) => BX h1 hx w μ hμ
    obtain ⟨g1, g2⟩ := CG h1
    by_cases hu : u = []
    · subst hu
      have hq : ¬ ofB (dO t) = ofB x := fun hh => by
        have h2 := sG hh
        unfold cE nP at h
        rw [h1] at h
        dsimp only at h
        rw [List.append_nil, if_pos h2] at h
        cases h
      rw [show x.length - ([] : List UInt8).length = x.length from rfl] at hrd
      repeat' (first | refine KO ?_ | ((with_reducible apply F1 101); exact rfl; exact EN; (exact fun w μc hw hse => hrd w μc hw)) | ((with_reducible apply F1 45); exact rfl; exact EN; (exact fun w μc hw hse => BU t ht w μc hw)) | refine KG ?_ | fail)
      all_goals first | skip
      refine nC (l' := [(28, .pointer (some ⟨rb, 0, none⟩))]) (L' := rdL rb (s, p, line, e)) PU PS ?_
      repeat' (first | refine KO ?_ | (refine CF 34 ?_; (with_reducible apply aA 1); (iterate 3 exact rfl); ((with_reducible apply aL); kernel_rfl; exact rfl; exact rfl); exact rfl; (exact fun w hw hO => eM rb (s, p, line, e) 7 w _ hw hO); (rintro v2 μ2 ⟨⟩ hle2 hv); (dsimp only [List.cons_append, List.nil_append])) | fail)
      refine aM (l' := [(4, .string (ofB []))]) (L' := rdL rb (nI (s, p, line, e) 7)) PU PS ?_
      exact aS (Post := fun _ r _ => r = .string (ofB [])) (Ls := fun _ : Unit => rdL rb (nI (s, p, line, e) 7)) 1 () hcnt rfl (aB rfl) rfl rfl (fun _ _ => rfl)
    · have hul : 0 < u.length := List.length_pos_iff.2 hu
      generalize hk : x.length - u.length = k at hrd
      repeat' (first | refine KO ?_ | ((with_reducible apply F1 101); exact rfl; exact EN; (exact fun w μc hw hse => hrd w μc hw)) | refine KG ?_ | fail)
      all_goals first | skip
      refine nC (l' := [(28, .pointer (some ⟨rb, 0, none⟩))]) (L' := rdL rb (s, p, line, e)) PU PS ?_
      repeat' (first | refine KO ?_ | (refine CF 34 ?_; (with_reducible apply aA 1); (iterate 3 exact rfl); ((with_reducible apply aL); kernel_rfl; exact rfl; exact rfl); exact rfl; (exact fun w hw hO => eM rb (s, p, line, e) 7 w _ hw hO); (rintro v2 μ2 ⟨⟩ hle2 hv); (dsimp only [List.cons_append, List.nil_append])) | fail)
      refine aM (l' := [(4, .string (ofB []))]) (L' := rdL rb (nI (s, p, line, e) 7)) PU PS ?_
      exact aS (Post := fun _ r _ => r = .string (ofB [])) (Ls := fun _ : Unit => rdL rb (nI (s, p, line, e) 7)) 1 () hcnt rfl (aB rfl) rfl rfl (fun _ _ => rfl)
theorem jY (x : List UInt8) (lo hi : Int) (rb : Nat) (S : RI4) (hx : x.length ≤ 1000000) (w : World) (μ : Mem) (hμ : MOk μ w) (hO : Go.Vcg.Own μ (rdL rb S) w) :
    Calls Tryz.prog 35 #[.pointer (some ⟨rb, 0, none⟩), .string (ofB x), .int .i64 lo, .int .i64 hi] w (RlK (bS (rdL rb S)) w μ rb (stL S (aV lo hi x).isSome 7) fun r => r = .int .i64 (fT lo hi x)) := by
  unfold fT
  cases h : aV lo hi x with
  | some n => exact aB1 rb S h hx w μ hμ hO
  | none => exact aB2 rb S h hx w μ hμ hO
theorem uH (x : List UInt8) (rb : Nat) (S : RI4) (hx : x.length ≤ 1000000) (w : World) (μ : Mem) (hμ : MOk μ w) (hO : Go.Vcg.Own μ (rdL rb S) w) :
    Calls Tryz.prog 68 #[.pointer (some ⟨rb, 0, none⟩), .string (ofB x)] w (RlK (bS (rdL rb S)) w μ rb (stL S (cE x).isSome 7) fun r => r = .string (ofB (sD x))) := by
  unfold sD
  cases h : cE x with
  | some n => exact NQ rb S h hx w μ hμ hO
  | none => exact NR rb S h hx w μ hμ hO
end
section
open Go.RowKit Go.Vcg Ou
theorem jR (l : List UInt8) (hl : l.length ≤ 1000000) (w : World) (μ : Mem) (hμ : MOk μ w) : Calls Tryz.prog 25 #[.string (ofB l)] w fun e w' => e = .returned (.tuple #[.string (ofB (cY l).1), .string (ofB (cY l).2)]) ∧ Below w.heap.size w w' := by
  cases h : Ou.aO 32 l with
  | none =>
    rw [fR h]
    have := mR l [] [] (fun c hc e => tY h (e ▸ hc)) (.inl ⟨rfl, rfl⟩) (by simpa using hl) w μ hμ
    rw [List.append_nil] at this
    exact this
  | some p =>
    obtain ⟨a, r⟩ := p
    rw [dL h]
    obtain ⟨h1, h2⟩ := cD h
    have := mR a (32 :: r) r (fun c hc e => h2 (e ▸ hc)) (.inr rfl) (by rw [← h1]; exact hl) w μ hμ
    rw [← h1] at this
    exact this
attribute [local irreducible] aH nmL G GC GQ GA bO Calls IntKind.wrap Int.decLt Int.decLe
theorem aB0 (x : List UInt8) (rb : Nat) (S : RI4) (w : World) (μ : Mem) (hμ : MOk μ w) (hO : Go.Vcg.Own μ (rdL rb S) w) (hm : rP μ) :
    Calls Tryz.prog 102 #[.pointer (some ⟨rb, 0, none⟩), .string (ofB x)] w (RlK (bS (rdL rb S)) w μ rb (stL S (aP x).isSome 7) fun r => r = .int .i64 ((aP x).getD 0)) := by
  have hcnt := bE hO.diff
  obtain ⟨s, p, line, e⟩ := S
  generalize ho : aP x = o
  refine aQ (args := [.pointer (some ⟨rb, 0, none⟩), .string (ofB x)]) Tryz.func102 rfl Tryz.ntmps102 (by simp) hμ hO ?_
  show GC _ _ _ _ _ _ [.inl ⟨rb, 64, 4, [(0, .string (ofB s)), (1, .int .i64 p), (2, .int .i64 line), (3, .int .i64 e)]⟩]
  have hnm := fun (k : Int) (w : World) (μc : Mem) (hw : MOk μc w) (hle : MLe μ μc) => YP w μc hw (hm.mono hle) k
  repeat' (first | refine KK ?_ | fail)
  all_goals first | skip
  refine aX (ι := Nat) (fun k => k ≤ 73 ∧ opL (nmL k) x = none) (fun k => 73 - k) (fun _ => μ) (fun k => [(5, .int .i64 ((100 : Int) + k)), (1, .string (ofB x)), (0, .pointer (some ⟨rb, 0, none⟩))]) (fun _ => [.inl ⟨rb, 64, 4, [(0, .string (ofB s)), (1, .int .i64 p), (2, .int .i64 line), (3, .int .i64 e)]⟩]) 0 ⟨Nat.zero_le _, by simp [nmL, opL]⟩ (fun a w hs => J5 hs) ?_
  rintro k ⟨hk, hno⟩
  by_cases hlt : k < 73
  · by_cases hx : x = []
    · have hx1 : ofB x = ⟨#[]⟩ := sF.2 hx
      repeat' (first | refine KO ?_ | ((with_reducible apply F1 9); exact rfl; exact EN; exact fun w μc hw hse => hnm _ w μc hw hse.le) | refine KI ?_ | (refine KB ?_ ?_ <;> intro hp) | refine KG ?_ | fail)
      all_goals first | (exfalso; contradiction) | skip
      exact J2 (k + 1) ⟨by omega, SX hno (.inl hx)⟩ (by omega)
    have hx1 : ¬ ofB x = ⟨#[]⟩ := fun h => hx (sF.1 h)
    by_cases hn : (aH ((100 : Int) + k)).1 = x
    · have hop : aP x = some ((100 : Int) + k) := by
        have h1 := SY (aEy hno hn hx) (73 - (k + 1))
        rw [show k + 1 + (73 - (k + 1)) = 73 by omega] at h1
        exact h1
      have hn1 : ofB (aH ((100 : Int) + k)).1 = ofB x := by rw [hn]
      obtain rfl : o = some ((100 : Int) + k) := ho.symm.trans hop
      repeat' (first | refine KO ?_ | ((with_reducible apply F1 9); exact rfl; exact EN; exact fun w μc hw hse => hnm _ w μc hw hse.le) | refine KG ?_ | fail)
      all_goals first | skip
      refine aM (l' := [(4, .int .i64 ((100 : Int) + k))]) (L' := rdL rb (s, p, line, e)) PU PS ?_
      exact aS (Post := fun _ r _ => r = .int .i64 ((100 : Int) + k)) (Ls := fun _ : Unit => rdL rb (s, p, line, e)) 1 () hcnt rfl (aB rfl) rfl rfl (fun _ _ => rfl)
    · have hn1 : ¬ ofB (aH ((100 : Int) + k)).1 = ofB x := fun h => hn (sG h)
      repeat' (first | refine KO ?_ | ((with_reducible apply F1 9); exact rfl; exact EN; exact fun w μc hw hse => hnm _ w μc hw hse.le) | refine KI ?_ | refine KG ?_ | fail)
      all_goals first | skip
      exact J2 (k + 1) ⟨by omega, SX hno (.inr hn)⟩ (by omega)
  · obtain rfl : k = 73 := by omega
    have hop : aP x = none := hno
    obtain rfl : o = none := ho.symm.trans hop
    repeat' (first | refine KO ?_ | (refine CF 34 ?_; (with_reducible apply aA 1); (iterate 3 exact rfl); ((with_reducible apply aL); kernel_rfl; exact rfl; exact rfl); exact rfl; (exact fun w hw hO => eM rb (s, p, line, e) 7 w _ hw hO); (rintro v2 μ2 ⟨⟩ hle2 hv); (dsimp only [List.cons_append, List.nil_append])) | fail)
    all_goals first | skip
    refine aM (l' := [(4, .int .i64 0)]) (L' := rdL rb (nI (s, p, line, e) 7)) PU PS ?_
    exact aS (Post := fun _ r _ => r = .int .i64 0) (Ls := fun _ : Unit => rdL rb (nI (s, p, line, e) 7)) 1 () hcnt rfl (aB rfl) rfl rfl (fun _ _ => rfl)
end
end Go.Proofs.YtoclmkdfcafhfaaGreatDoor
