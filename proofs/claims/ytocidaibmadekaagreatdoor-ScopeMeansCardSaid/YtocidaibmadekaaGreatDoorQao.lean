/- The reference's all and Right, tree.Right. No statement of the seat is proved here. -/
import Derived.Test.YtocidaibmadekaaGreatDoorQan
set_option maxRecDepth 20000
set_option maxHeartbeats 2000000
namespace Go.Proofs.YtocidaibmadekaaGreatDoor
open Go.RowKit Go.Vcg
theorem aDx {t : T} (h19 : t.op = 19) (h : jA t = true) : ∃ x y z, t.kids = [x, y, z] := by
  have e2 : aH t = ⟨#[66, 67, 89]⟩ := by
    unfold aH
    (repeat first | rw [if_pos (by omega)] | rw [if_neg (by omega)])
  unfold jA at h
  rw [if_neg (by omega), e2, decide_eq_true (by decide), Bool.true_and, show bl ⟨#[66, 67, 89]⟩ = [66, 67, 89] from rfl, fQ 66 (by decide) (by decide) (fQ 67 (by decide) (by decide) (cT 89 bL))] at h
  exact aEv (a := isT 66) (b := isT 67) (c := isT 89) h
theorem aDy {t : T} (h53 : t.op = 53) (h : jA t = true) : ∃ x, t.kids = [x] := by
  have e2 : aH t = ⟨#[99]⟩ := by
    unfold aH
    (repeat rw [if_neg (by omega)])
    unfold dO
    (repeat first | rw [if_pos (by omega)] | rw [if_neg (by omega)])
  unfold jA at h
  rw [if_neg (by omega), e2, decide_eq_true (by decide), Bool.true_and, show bl ⟨#[99]⟩ = [99] from rfl, cT 99 bL, jX] at h
  match hk : t.kids with
  | [] => rw [hk] at h; simp at h
  | [x] => exact ⟨x, rfl⟩
  | x :: y :: r =>
    rw [hk] at h
    simp only [fC] at h
    split at h
    · simp at h
    · cases h
theorem NI {t x y z : T} (h : t.op = 19) (hk : t.kids = [x, y, z]) : mB t = (decide (y.op ≠ 7) || decide (z.op ≠ 7)) := by
  unfold mB
  rw [if_pos h, if_neg (by omega), hk, Bool.and_true]
theorem NH {t x : T} (h : t.op = 53) (hk : t.kids = [x]) : mB t = chB x := by
  unfold mB
  rw [if_neg (by omega), if_pos h, hk, Bool.true_and]
theorem wX {c : Prop} [Decidable c] {a b : ByteArray} (ha : a.size ≤ 1000) (hb : b.size ≤ 1000) : (if c then a else b).size ≤ 1000 := by split <;> assumption
theorem YL (t : T) (c : UInt8) : (gY t ++ ⟨#[c]⟩).size ≤ 1000 := by
  rw [ByteArray.size_append, PZ]
  show 1 + 1 ≤ 1000
  decide
theorem JV (t : T) : (aH t).size ≤ 1000 := by
  have h2 : (kZ t).size ≤ 1000 := by
    unfold kZ
    (repeat' first | exact YL t _ | apply wX | decide)
  have h3 : (dO t).size ≤ 1000 := by
    unfold dO
    (repeat' first | exact h2 | apply wX | decide)
  unfold aH
  (repeat' first | exact h3 | apply wX | decide)
attribute [local irreducible] eA aH cW jA mB raB hH fP chB rtB G GC GQ GA bX Calls IntKind.wrap Int.decLt Int.decLe
theorem ON : ∀ (n : Nat), n ≤ 100000 → ∀ (t : T) (u : Value) (spine : Bool) (w : World) (μ : Mem), MOk μ w → KR μ t.kids u → t.size ≤ n → Sh t →
    Calls Tryz.prog 26 #[.agg (aD t u).toArray, .bool spine] w fun e w' => e = .returned (.bool (raB t spine)) ∧ Below w.heap.size w w' := by
  intro n
  induction n with
  | zero => intro _ t u spine w μ hμ hk hn; exact absurd hn (by rw [T.size_eq]; omega)
  | succ n ih =>
    intro hnb t u spine w μ hμ hk hn hsh
    have ho := hk.one
    have hop := aAi hsh
    unfold eH at hop
    have hss := zP hsh
    have hks : ∀ k ∈ t.kids, T.size k ≤ 100000 ∧ k.s.size ≤ 65536 := fun k hk => by
      obtain ⟨i, hi⟩ := List.mem_iff_getElem?.1 hk
      have h1 := T.dH hi
      have h2 := zP (mX hsh hk)
      exact ⟨by omega, by omega⟩
    have hks' : ∀ k ∈ t.kids, Sh' k := fun k hk => RZ (mX hsh hk)
    have hlen := bK t
    have hksz := JV t
    obtain ⟨A, c, rfl, hlc, hkid⟩ := hk.form
    have c2 := fun (w : World) (μc : Mem) (hw : MOk μc w) (hle : MLe μ μc) => CT t _ w μc hw (hk.mono hle) (by omega) (by omega)
    have c3 := fun (w : World) (μc : Mem) (hw : MOk μc w) (hle : MLe μ μc) => nX t _ w μc hw (hk.mono hle) (by omega) (by omega)
    have c4 := fun (w : World) (μc : Mem) (hw : MOk μc w) (hle : MLe μ μc) => JU t _ w μc hw (hk.mono hle)
    have c5 := fun (w : World) (μc : Mem) (hw : MOk μc w) (hle : MLe μ μc) => SM (aH t) hksz t.kids A t.kids.length c w μc hw (hk.mono hle) rfl (by omega) hks
    have c6 := fun (w : World) (μc : Mem) (hw : MOk μc w) (hle : MLe μ μc) => xK t.kids A t.kids.length c w μc hw (hk.mono hle) rfl (by omega) hks
    refine aA (args := [.agg (aD t (.slice A t.kids.length c)).toArray, .bool spine]) Tryz.func26 rfl Tryz.ntmps26 (by simp) hμ ?_
    by_cases h1 : eA t = true ∧ ¬(cW t = true ∧ t.n = 1 ∧ spine = false)
    · obtain ⟨hf, hl⟩ := h1
      rw [hf] at c2
      repeat' (first | ((with_reducible show GC _ _ (Code.seq (Code.seq (Code.region 1 _ _) _) _) _ _ _ _); (apply bF)) | refine KK ?_ | refine NB fun b => ?_ | fail)
      refine gcs (dY (ι := Unit) (fun _ => True) (fun _ => μ) (fun _ => [(1, .bool spine), (2, .pointer (some ⟨b, 0, none⟩))]) (fun _ => [.inl ⟨b, 24, 6, idx 0 (aD t (.slice A t.kids.length c))⟩]) ?_ ?_)
      · repeat' (first | refine KO ?_ | ((with_reducible apply F1 44); exact rfl; exact EN; (exact fun w μc hw hse => c2 w μc hw hse.le)) | ((with_reducible apply F1 45); exact rfl; exact EN; (exact fun w μc hw hse => c3 w μc hw hse.le)) | refine KI ?_ | ((refine KB ?_ ?_ <;> intro hp)) | refine KG ?_ | fail)
        all_goals try (exfalso; apply hl; refine ⟨?_, ?_, ?_⟩ <;> assumption)
        all_goals exact J1 () trivial
      intro _ _
      repeat' (first | ((with_reducible show GC _ _ (Code.seq (Code.seq (Code.region 4 _ _) _) _) _ _ _ _); (apply bF)) | refine KK ?_ | fail)
      refine gcs (dY (ι := Unit) (fun _ => True) (fun _ => μ) (fun _ => [(5, .bool (jA t)), (1, .bool spine), (2, .pointer (some ⟨b, 0, none⟩))]) (fun _ => [.inl ⟨b, 24, 6, idx 0 (aD t (.slice A t.kids.length c))⟩]) ?_ ?_)
      · by_cases h36 : t.op = 36
        · have hg : jA t = fP eM t.kids := by unfold jA; rw [if_pos h36]
          rw [hg]
          repeat' (first | refine KO ?_ | ((with_reducible apply F1 46); exact rfl; exact EN; (exact fun w μc hw hse => c6 w μc hw hse.le)) | refine KI ?_ | fail)
          all_goals exact J1 () trivial
        · have hg : jA t = (decide (aH t ≠ ⟨#[33]⟩) && hH (bl (aH t)) t.kids) := by unfold jA; rw [if_neg h36]
          generalize hB : jA t = rb at hg ⊢
          generalize hR : hH (bl (aH t)) t.kids = rp at hg c5
          by_cases hK : aH t = ⟨#[33]⟩
          · rw [hK] at c4 hg
            simp at hg
            subst hg
            repeat' (first | refine KO ?_ | ((with_reducible apply F1 47); exact rfl; exact EN; (exact fun w μc hw hse => c4 w μc hw hse.le)) | refine KI ?_ | fail)
            all_goals exact J1 () trivial
          · rw [decide_eq_true hK, Bool.true_and] at hg
            subst hg
            generalize aH t = ks at hK c4 c5
            repeat' (first | refine KO ?_ | ((with_reducible apply F1 47); exact rfl; exact EN; (exact fun w μc hw hse => c4 w μc hw hse.le)) | ((with_reducible apply F1 48); exact rfl; exact EN; (exact fun w μc hw hse => c5 w μc hw hse.le)) | refine KI ?_ | refine KG ?_ | fail)
            all_goals exact J1 () trivial
      intro _ _
      cases hrow : jA t
      · have hR : raB t spine = false := rD fun h => by
          cases h with
          | mk _ _ h2 _ => unfold bB at h2; rw [hrow] at h2; cases h2
        rw [hR]
        repeat' (first | refine KK ?_ | fail)
        all_goals exact aB rfl rfl rfl
      cases hex : mB t
      · have hR : raB t spine = false := rD fun h => by
          cases h with
          | mk _ _ h2 _ => unfold bB at h2; rw [hex, Bool.and_false] at h2; cases h2
        rw [hR]
        by_cases h19 : t.op = 19
        · obtain ⟨x, y, z, hxyz⟩ := aDx h19 hrow
          obtain ⟨ad1, x1, rfl, hm1, hox1, hkx1⟩ := hkid 1 y (by rw [hxyz]; rfl)
          obtain ⟨ad2, x2, e2, hm2, hox2, hkx2⟩ := hkid 2 z (by rw [hxyz]; rfl)
          cases e2
          rw [NI h19 hxyz] at hex
          have h3 : t.kids.length = 3 := by rw [hxyz]; rfl
          simp at hex
          repeat' (first | refine KO ?_ | (refine KV (b := by first | exact U1 1 | exact U1 2 | exact U4 hm1 | exact U4 hm2) (c := ?_)) | refine KI ?_ | refine KG ?_ | fail)
          all_goals exact aB rfl rfl rfl
        · by_cases h53 : t.op = 53
          · obtain ⟨x, hx⟩ := aDy h53 hrow
            obtain ⟨ad1, x1, rfl, hm1, hox1, hkx1⟩ := hkid 0 x (by rw [hx]; rfl)
            rw [NH h53 hx] at hex
            have h3 : t.kids.length = 1 := by rw [hx]; rfl
            have hsz := T.dH (t := t) (i := 0) (k := x) (by rw [hx]; rfl)
            have c7 := fun (w : World) (μc : Mem) (hw : MOk μc w) (hle : MLe μ μc) => tR 100000 (Nat.le_refl _) x _ w μc hw (hkx1.mono hle) (by omega) (hks' x (by rw [hx]; exact .head _))
            rw [hex] at c7
            repeat' (first | refine KO ?_ | ((with_reducible apply C1); exact rfl; exact EN; exact fun w μc hw hse => c7 w μc hw hse.le) | (refine KV (b := by first | exact U1 0 | exact U4 hm1) (c := ?_)) | refine KI ?_ | refine KG ?_ | fail)
            all_goals exact aB rfl rfl rfl
          · rw [sG h19 h53] at hex
            cases hex
      have hKB : bB t = true := by unfold bB; rw [hrow, hex]; rfl
      refine dY (ι := Unit) (fun _ => True) (fun _ => μ) (fun _ => [(1, .bool spine), (2, .pointer (some ⟨b, 0, none⟩))]) (fun _ => [.inl ⟨b, 24, 6, idx 0 (aD t (.slice A t.kids.length c))⟩]) ?_ ?_
      · by_cases h19 : t.op = 19
        · obtain ⟨x, y, z, hxyz⟩ := aDx h19 hrow
          obtain ⟨ad1, x1, rfl, hm1, hox1, hkx1⟩ := hkid 1 y (by rw [hxyz]; rfl)
          obtain ⟨ad2, x2, e2, hm2, hox2, hkx2⟩ := hkid 2 z (by rw [hxyz]; rfl)
          cases e2
          rw [NI h19 hxyz] at hex
          have h3 : t.kids.length = 3 := by rw [hxyz]; rfl
          simp at hex
          repeat' (first | refine KO ?_ | (refine KV (b := by first | exact U1 1 | exact U1 2 | exact U4 hm1 | exact U4 hm2) (c := ?_)) | refine KI ?_ | ((refine KB ?_ ?_ <;> intro hp)) | refine KG ?_ | fail)
          all_goals exact J1 () trivial
        · by_cases h53 : t.op = 53
          · obtain ⟨x, hx⟩ := aDy h53 hrow
            obtain ⟨ad1, x1, rfl, hm1, hox1, hkx1⟩ := hkid 0 x (by rw [hx]; rfl)
            rw [NH h53 hx] at hex
            have h3 : t.kids.length = 1 := by rw [hx]; rfl
            have hsz := T.dH (t := t) (i := 0) (k := x) (by rw [hx]; rfl)
            have c7 := fun (w : World) (μc : Mem) (hw : MOk μc w) (hle : MLe μ μc) => tR 100000 (Nat.le_refl _) x _ w μc hw (hkx1.mono hle) (by omega) (hks' x (by rw [hx]; exact .head _))
            rw [hex] at c7
            repeat' (first | refine KO ?_ | ((with_reducible apply C1); exact rfl; exact EN; exact fun w μc hw hse => c7 w μc hw hse.le) | (refine KV (b := by first | exact U1 0 | exact U4 hm1) (c := ?_)) | refine KI ?_ | refine KG ?_ | fail)
            all_goals exact J1 () trivial
          · repeat' (first | refine KK ?_ | refine KG ?_ | fail)
            all_goals exact J1 () trivial
      intro _ _
      repeat' (first | refine KK ?_ | fail)
      refine aX (ι := Nat) (fun i => i ≤ t.kids.length ∧ ∀ (j : Nat) (k : T), j < i → t.kids[j]? = some k → RA k (oU t j k spine)) (fun i => t.kids.length - i) (fun _ => μ) (fun i => [(7, .int .i64 i), (1, .bool spine), (2, .pointer (some ⟨b, 0, none⟩))]) (fun _ => [.inl ⟨b, 24, 6, idx 0 (aD t (.slice A t.kids.length c))⟩]) 0 ⟨by omega, fun j _ h => absurd h (by omega)⟩ (fun a w hs => J5 hs) ?_
      rintro i ⟨hi, hok⟩
      by_cases hlt : i < t.kids.length
      · have hkk : t.kids[i]? = some t.kids[i] := List.getElem?_eq_getElem hlt
        generalize t.kids[i] = k at hkk
        obtain ⟨ad, x, rfl, hm, hox, hkx⟩ := hkid i k hkk
        have hsz := T.dH hkk
        have hshk := mX hsh (List.mem_of_getElem? hkk)
        have hskk := zP hshk
        have ck := fun (w : World) (μc : Mem) (hw : MOk μc w) (hle : MLe μ μc) => nX k _ w μc hw (hkx.mono hle) (by omega) (by omega)
        have hnext : RA k (oU t i k spine) → ∀ (j : Nat) (k : T), j < i + 1 → t.kids[j]? = some k → RA k (oU t j k spine) := fun h j k' hj hk' => by
          rcases Nat.lt_or_ge j i with h1 | h1
          · exact hok j k' h1 hk'
          · obtain rfl : j = i := by omega
            rw [hkk] at hk'
            cases hk'
            exact h
        by_cases hi0 : i = 0
        · subst hi0
          by_cases h53 : t.op = 53
          · skip
            have hon : oU t 0 k spine = true := by simp [oU, h53]
            have hcall := fun (w : World) (μc : Mem) (hw : MOk μc w) (hle : MLe μ μc) => ih (by omega) k x true w μc hw (hkx.mono hle) (by omega) hshk
            cases hq : raB k true
            · have hR : raB t spine = false := rD fun h => lM hq (by cases h with | mk _ _ _ h4 => exact hon ▸ h4 0 k hkk)
              rw [hR]
              rw [hq] at hcall
              repeat' (first | refine KO ?_ | ((with_reducible apply F1 26); exact rfl; exact EN; (exact fun w μc hw hse => hcall w μc hw hse.le)) | (refine KV (b := by first | exact U1 0 | exact U4 hm) (c := ?_)) | refine KI ?_ | refine KG ?_ | fail)
              all_goals exact aB rfl rfl rfl
            · have hnx := hnext (by rw [hon]; exact nG hq)
              rw [hq] at hcall
              repeat' (first | refine KO ?_ | ((with_reducible apply F1 26); exact rfl; exact EN; (exact fun w μc hw hse => hcall w μc hw hse.le)) | (refine KV (b := by first | exact U1 0 | exact U4 hm) (c := ?_)) | refine KI ?_ | refine KG ?_ | fail)
              all_goals exact J2 (0 + 1) ⟨by omega, hnx⟩ (by omega)
          · cases spine
            · skip
              have hon : oU t 0 k false = false := by simp [oU, h53]
              have hcall := fun (w : World) (μc : Mem) (hw : MOk μc w) (hle : MLe μ μc) => ih (by omega) k x false w μc hw (hkx.mono hle) (by omega) hshk
              cases hq : raB k false
              · have hR : raB t false = false := rD fun h => lM hq (by cases h with | mk _ _ _ h4 => exact hon ▸ h4 0 k hkk)
                rw [hR]
                rw [hq] at hcall
                repeat' (first | refine KO ?_ | ((with_reducible apply F1 26); exact rfl; exact EN; (exact fun w μc hw hse => hcall w μc hw hse.le)) | (refine KV (b := by first | exact U1 0 | exact U4 hm) (c := ?_)) | refine KI ?_ | refine KG ?_ | fail)
                all_goals exact aB rfl rfl rfl
              · have hnx := hnext (by rw [hon]; exact nG hq)
                rw [hq] at hcall
                repeat' (first | refine KO ?_ | ((with_reducible apply F1 26); exact rfl; exact EN; (exact fun w μc hw hse => hcall w μc hw hse.le)) | (refine KV (b := by first | exact U1 0 | exact U4 hm) (c := ?_)) | refine KI ?_ | refine KG ?_ | fail)
                all_goals exact J2 (0 + 1) ⟨by omega, hnx⟩ (by omega)
            · cases hlt2 : cW t
              · rw [hlt2] at c3
                have hon : oU t 0 k true = false := by simp [oU, h53, hlt2]
                have hcall := fun (w : World) (μc : Mem) (hw : MOk μc w) (hle : MLe μ μc) => ih (by omega) k x false w μc hw (hkx.mono hle) (by omega) hshk
                cases hq : raB k false
                · have hR : raB t true = false := rD fun h => lM hq (by cases h with | mk _ _ _ h4 => exact hon ▸ h4 0 k hkk)
                  rw [hR]
                  rw [hq] at hcall
                  repeat' (first | refine KO ?_ | ((with_reducible apply F1 45); exact rfl; exact EN; (exact fun w μc hw hse => c3 w μc hw hse.le)) | ((with_reducible apply F1 26); exact rfl; exact EN; (exact fun w μc hw hse => hcall w μc hw hse.le)) | (refine KV (b := by first | exact U1 0 | exact U4 hm) (c := ?_)) | refine KI ?_ | refine KG ?_ | fail)
                  all_goals exact aB rfl rfl rfl
                · have hnx := hnext (by rw [hon]; exact nG hq)
                  rw [hq] at hcall
                  repeat' (first | refine KO ?_ | ((with_reducible apply F1 45); exact rfl; exact EN; (exact fun w μc hw hse => c3 w μc hw hse.le)) | ((with_reducible apply F1 26); exact rfl; exact EN; (exact fun w μc hw hse => hcall w μc hw hse.le)) | (refine KV (b := by first | exact U1 0 | exact U4 hm) (c := ?_)) | refine KI ?_ | refine KG ?_ | fail)
                  all_goals exact J2 (0 + 1) ⟨by omega, hnx⟩ (by omega)
              · rw [hlt2] at c3
                cases hlk : cW k
                · rw [hlk] at ck
                  have hon : oU t 0 k true = false := by simp [oU, h53, hlt2, hlk]
                  have hcall := fun (w : World) (μc : Mem) (hw : MOk μc w) (hle : MLe μ μc) => ih (by omega) k x false w μc hw (hkx.mono hle) (by omega) hshk
                  cases hq : raB k false
                  · have hR : raB t true = false := rD fun h => lM hq (by cases h with | mk _ _ _ h4 => exact hon ▸ h4 0 k hkk)
                    rw [hR]
                    rw [hq] at hcall
                    repeat' (first | refine KO ?_ | ((with_reducible apply F1 45); exact rfl; exact EN; first | (exact fun w μc hw hse => ck w μc hw hse.le) | (exact fun w μc hw hse => c3 w μc hw hse.le)) | ((with_reducible apply F1 26); exact rfl; exact EN; (exact fun w μc hw hse => hcall w μc hw hse.le)) | (refine KV (b := by first | exact U1 0 | exact U4 hm) (c := ?_)) | refine KI ?_ | refine KG ?_ | fail)
                    all_goals exact aB rfl rfl rfl
                  · have hnx := hnext (by rw [hon]; exact nG hq)
                    rw [hq] at hcall
                    repeat' (first | refine KO ?_ | ((with_reducible apply F1 45); exact rfl; exact EN; first | (exact fun w μc hw hse => ck w μc hw hse.le) | (exact fun w μc hw hse => c3 w μc hw hse.le)) | ((with_reducible apply F1 26); exact rfl; exact EN; (exact fun w μc hw hse => hcall w μc hw hse.le)) | (refine KV (b := by first | exact U1 0 | exact U4 hm) (c := ?_)) | refine KI ?_ | refine KG ?_ | fail)
                    all_goals exact J2 (0 + 1) ⟨by omega, hnx⟩ (by omega)
                · rw [hlk] at ck
                  have hon : oU t 0 k true = true := by simp [oU, h53, hlt2, hlk]
                  have hcall := fun (w : World) (μc : Mem) (hw : MOk μc w) (hle : MLe μ μc) => ih (by omega) k x true w μc hw (hkx.mono hle) (by omega) hshk
                  cases hq : raB k true
                  · have hR : raB t true = false := rD fun h => lM hq (by cases h with | mk _ _ _ h4 => exact hon ▸ h4 0 k hkk)
                    rw [hR]
                    rw [hq] at hcall
                    repeat' (first | refine KO ?_ | ((with_reducible apply F1 45); exact rfl; exact EN; first | (exact fun w μc hw hse => ck w μc hw hse.le) | (exact fun w μc hw hse => c3 w μc hw hse.le)) | ((with_reducible apply F1 26); exact rfl; exact EN; (exact fun w μc hw hse => hcall w μc hw hse.le)) | (refine KV (b := by first | exact U1 0 | exact U4 hm) (c := ?_)) | refine KI ?_ | refine KG ?_ | fail)
                    all_goals exact aB rfl rfl rfl
                  · have hnx := hnext (by rw [hon]; exact nG hq)
                    rw [hq] at hcall
                    repeat' (first | refine KO ?_ | ((with_reducible apply F1 45); exact rfl; exact EN; first | (exact fun w μc hw hse => ck w μc hw hse.le) | (exact fun w μc hw hse => c3 w μc hw hse.le)) | ((with_reducible apply F1 26); exact rfl; exact EN; (exact fun w μc hw hse => hcall w μc hw hse.le)) | (refine KV (b := by first | exact U1 0 | exact U4 hm) (c := ?_)) | refine KI ?_ | refine KG ?_ | fail)
                    all_goals exact J2 (0 + 1) ⟨by omega, hnx⟩ (by omega)
        · skip
          have hon : oU t i k spine = false := by simp [oU, hi0]
          have hcall := fun (w : World) (μc : Mem) (hw : MOk μc w) (hle : MLe μ μc) => ih (by omega) k x false w μc hw (hkx.mono hle) (by omega) hshk
          cases hq : raB k false
          · have hR : raB t spine = false := rD fun h => lM hq (by cases h with | mk _ _ _ h4 => exact hon ▸ h4 i k hkk)
            rw [hR]
            rw [hq] at hcall
            repeat' (first | refine KO ?_ | ((with_reducible apply F1 26); exact rfl; exact EN; (exact fun w μc hw hse => hcall w μc hw hse.le)) | (refine KV (b := by first | exact U1 i | exact U4 hm) (c := ?_)) | refine KI ?_ | refine KG ?_ | fail)
            all_goals exact aB rfl rfl rfl
          · have hnx := hnext (by rw [hon]; exact nG hq)
            rw [hq] at hcall
            repeat' (first | refine KO ?_ | ((with_reducible apply F1 26); exact rfl; exact EN; (exact fun w μc hw hse => hcall w μc hw hse.le)) | (refine KV (b := by first | exact U1 i | exact U4 hm) (c := ?_)) | refine KI ?_ | refine KG ?_ | fail)
            all_goals exact J2 (i + 1) ⟨by omega, hnx⟩ (by omega)
      · have hR : raB t spine = true := aAn (.mk hf hl hKB fun j k hj => hok j k (by have := (List.getElem?_eq_some_iff.1 hj).1; omega) hj)
        rw [hR]
        repeat' (first | refine KK ?_ | fail)
        all_goals exact aB rfl rfl rfl
    · have hR : raB t spine = false := rD fun h => by
        cases h with
        | mk h2 h3 _ _ => exact h1 ⟨h2, h3⟩
      rw [hR]
      repeat' (first | ((with_reducible show GC _ _ (Code.seq (Code.region 3 _ _) _) _ _ _ _); (apply bF)) | refine KO ?_ | ((with_reducible apply F1 44); exact rfl; exact EN; (exact fun w μc hw hse => c2 w μc hw hse.le)) | ((with_reducible apply F1 45); exact rfl; exact EN; (exact fun w μc hw hse => c3 w μc hw hse.le)) | refine KI ?_ | refine NB fun b => ?_ | ((refine KB ?_ ?_ <;> intro hp)) | refine KG ?_ | fail)
      all_goals first | exact aB rfl rfl rfl | (exfalso; clear c2 c3 c4 c5 c6 hk hkid hμ hks hks' hsh ih; simp_all; done)
theorem FE (t : T) (u : Value) (w : World) (μ : Mem) (hμ : MOk μ w) (hk : KR μ t.kids u) (hs : t.size ≤ 100000) (hsh : Sh t) :
    Calls Tryz.prog 14 #[.agg (aD t u).toArray] w fun e w' => e = .returned (.bool (rtB t 1 false)) ∧ Below w.heap.size w w' := by
  have ho := hk.one
  rw [OK]
  refine aA (args := [.agg (aD t u).toArray]) Tryz.func14 rfl Tryz.ntmps14 (by simp) hμ ?_
  repeat' (first | refine KO ?_ | ((with_reducible apply F1 25); exact rfl; exact EN; (exact fun w μc hw hse => FG 100000 (Nat.le_refl _) t _ w μc hw hs ⟨u, rfl, hk.mono hse.le⟩)) | ((with_reducible apply F1 26); exact rfl; exact EN; (exact fun w μc hw hse => ON 100000 (Nat.le_refl _) t u false w μc hw (hk.mono hse.le) hs hsh)) | refine KI ?_ | refine NB fun b => ?_ | ((refine KB ?_ ?_ <;> intro hp)) | refine KG ?_ | fail)
  all_goals (refine aB rfl rfl ?_; simp_all; try omega)
theorem uW (t : T) (u : Value) (w : World) (μ : Mem) (hμ : MOk μ w) (hk : KR μ t.kids u) (hs : t.size ≤ 100000) (hsh : Sh t) (hT : kX μ) :
    Calls Tryz.prog 38 #[.agg (aD t u).toArray] w fun e w' => e = .returned (.bool (rtB t 1 false)) ∧ Below w.heap.size w w' := by
  have ho := hk.one
  refine aA (args := [.agg (aD t u).toArray]) Tryz.func38 rfl Tryz.ntmps38 (by simp) hμ ?_
  repeat' (first | refine KO ?_ | ((with_reducible apply C1); exact rfl; exact EN; exact fun w μc hw hse => IW 100000 (Nat.le_refl _) t u 1 false w μc hw (hk.mono hse.le) hs (by decide) hsh (hT.mono hse.le)) | refine KI ?_ | refine NB fun b => ?_ | fail)
  exact aB rfl rfl rfl
end Go.Proofs.YtocidaibmadekaaGreatDoor
namespace Go.Proofs.YtocidaibmadekaaGreatDoor
open Go.RowKit Go.Vcg Ou
theorem HH {p : T → Bool} {r : List ((T → Bool) × Int)} {l : List T} (h : bC ((p, 0) :: r) l = true) : ∃ k l', l = k :: l' ∧ bC r l' = true := by
  rw [jX] at h
  cases l with
  | nil => cases h
  | cons k l' =>
    dsimp only at h
    split at h
    · exact ⟨k, l', rfl, h⟩
    · cases h
theorem tK {p : T → Bool} {r : List ((T → Bool) × Int)} {l : List T} (h : bC ((p, 0) :: r) l = true) : 1 ≤ l.length := by
  obtain ⟨k, l', rfl, -⟩ := HH h
  simp
theorem ZM {p q : T → Bool} {r : List ((T → Bool) × Int)} {l : List T} (h : bC ((p, 0) :: (q, 0) :: r) l = true) : 2 ≤ l.length := by
  obtain ⟨k, l', rfl, h2⟩ := HH h
  have := tK h2
  simp
  omega
theorem aAt {t : T} {d : Nat} {s : Bool} (h : Rt t d s) : Kc t := by
  cases h with
  | mk hd hn hk hr =>
    refine ⟨fun h => ?_, fun h => ?_, fun h k hkm => ?_⟩
    · rcases h with h | h | h | h | h | h
      all_goals (unfold aE stB exB fB at hk; simp [h] at hk)
      all_goals exact ZM hk
    · rcases h with h | h | h | h | h | h | h | ⟨h, h'⟩
      all_goals (unfold aE stB exB kY at hk; simp [h] at hk)
      all_goals first | exact tK hk | (simp [h'] at hk; exact tK hk)
    · unfold aE stB at hk
      simp [h] at hk
      unfold dQ at hk
      have h3 : ofT [3] k = true := List.all_eq_true.1 (Bool.and_eq_true_iff.1 hk).2 k hkm
      have h3' : k.op = 3 := by simpa [ofT] using h3
      obtain ⟨i, hi⟩ := List.mem_iff_getElem?.1 hkm
      have hrk := hr i k hi
      cases hrk with
      | mk _ _ hk2 _ =>
        unfold aE stB at hk2
        simp [h3'] at hk2
        exact tK hk2
theorem aAd (t : T) : ∀ (d : Nat) (s : Bool), Rt t d s → Sh t → dF qE t := T.YN (p := fun t => ∀ (d : Nat) (s : Bool), Rt t d s → Sh t → dF qE t) (fun t ih d s h hs => by
  refine .mk ⟨aAt h, by have := zP hs; omega⟩ fun k hk => ?_
  obtain ⟨i, hi⟩ := List.mem_iff_getElem?.1 hk
  cases h with
  | mk _ _ _ hr => exact ih k hk _ _ (hr i k hi) (mX hs hk)) t
theorem aB3 : ∀ (f : Nat) (t : T), dF qE t → t.size ≤ f → t.size ≤ 80000 → NCk (nbE wdF f).1 t ∧ BCk (nbE wdF f).2 t := by
  intro f
  induction f with
  | zero =>
    intro t _ h0
    have := aP t
    omega
  | succ f ih =>
    intro t hq hf hts
    have hgr := fun (k : T) (hk : dF qE k) => BC (F := FF) (wd := wdF) (q := qE) (fun t h => ⟨h.1, fun x => x⟩) f k hk
    have hN : ∀ k, dF qE k → k.size < t.size → NCk (nbE wdF f).1 k ∧ NG (nbE wdF f).1 k := fun k hk h => ⟨(ih k hk (by omega) (by omega)).1, (hgr k hk).1⟩
    have hB : ∀ k, dF qE k → k.size < t.size → BCk (nbE wdF f).2 k ∧ BG (nbE wdF f).2 k := fun k hk h => ⟨(ih k hk (by omega) (by omega)).2, (hgr k hk).2⟩
    have hlek : ∀ k ∈ t.kids, k.size < t.size := fun k hk => by
      have : k.size ≤ szs t.kids := T.bN (List.mem_map.2 ⟨k, hk, rfl⟩)
      have := aP t
      omega
    exact ⟨KS _ _ t hq hts hN hB, KZ _ _ t hq.here.1 hq.here.2 (by omega) (fun k hk => hN k (hq.kid hk) (hlek k hk)) (fun k hk => hB k (hq.kid hk) (hlek k hk))⟩
noncomputable def uQ (f : Nat) (t : T) : Int × Int := if t.op = 1 ∧ rtB t 1 false = true then ((zB wdF f t).at', (zB wdF f t).e) else (0, 1)
theorem XW : mkD [] 0 = [] := rfl
theorem VB : fV [] = [] := rfl
theorem IsV.SY {μ : Mem} {b t : Nat} {cs : aI} {x : Int} (h : Bk.sh (.inl ⟨b, t, 1, cs⟩) μ) (hc : lk cs 0 = some (.int .i64 x)) : IsV μ (.slice (some ⟨b, 0, none⟩) 1 1) [x] := by
  obtain ⟨arr, h1, h2, h3⟩ := h
  refine ⟨_, _, rfl, ⟨rfl, fun _ => ⟨_, rfl, fun i y hy j v hv => ?_⟩⟩, Nat.le_refl _⟩
  cases i with
  | succ i => simp at hy
  | zero =>
    cases hy
    cases j with
    | succ j => simp at hv
    | zero =>
      cases hv
      exact ⟨arr, t, (0, 0), h1, rfl, h3 0 _ hc⟩
attribute [local irreducible] wdL anI fV mkD rtB zB G GC GQ GA bX Calls IntKind.wrap Int.decLt Int.decLe
theorem HO (f : Nat) (t : T) (u : Value) (w : World) (μ : Mem) (hμ : MOk μ w) (hk : KR μ t.kids u) (hts : t.size ≤ 80000) (hf : t.size ≤ f) (hsh : Sh t) (hT : kX μ) (hm : mF μ) :
    Calls Tryz.prog 21 #[.agg (aD t u).toArray] w fun e w' => e = .returned (.tuple #[.int .i64 (uQ f t).1, .int .i64 (uQ f t).2]) ∧ Below w.heap.size w w' := by
  have ou := hk.one
  have hri := fun (w : World) (μc : Mem) (hw : MOk μc w) (hle : MLe μ μc) => uW t _ w μc hw (hk.mono hle) (by omega) hsh (hT.mono hle)
  have hstr := fun (w : World) (μc : Mem) (hw : MOk μc w) (hle : MLe μ μc) => tP t _ w μc hw (hk.mono hle) (by omega)
  unfold uQ
  obtain ⟨A, c, rfl, hcap, hget⟩ := hk.form
  refine aA (args := [.agg (aD t (.slice A t.kids.length c)).toArray]) Tryz.func21 rfl Tryz.ntmps21 (by simp) hμ ?_
  by_cases hop : t.op = 1
  rotate_left
  · rw [if_neg (fun h => hop h.1)]
    repeat' (first | refine KK ?_ | refine NB fun b => ?_ | refine KG ?_ | fail)
    all_goals try (exfalso; first | fail)
    all_goals exact rY rfl (bJ rfl) (bJ rfl) rfl rfl
  cases hrt : rtB t 1 false with
  | false =>
    rw [if_neg (fun h => by cases h.2)]
    rw [hrt] at hri
    repeat' (first | refine KO ?_ | ((with_reducible apply C1); exact rfl; exact EN; (exact fun w μc hw hse => hri w μc hw hse.le)) | refine KI ?_ | refine NB fun b => ?_ | refine KG ?_ | fail)
    all_goals try (exfalso; first | fail)
    all_goals exact rY rfl (bJ rfl) (bJ rfl) rfl rfl
  | true =>
    rw [if_pos ⟨hop, rfl⟩]
    rw [hrt] at hri
    have hq := aAd t 1 false (dZ hrt) hsh
    have hsz := aP t
    have hlen := dV t.kids
    have hlek : ∀ k ∈ t.kids, k.size < t.size := fun k hk => by
      have : k.size ≤ szs t.kids := T.bN (List.mem_map.2 ⟨k, hk, rfl⟩)
      omega
    have hN : ∀ k ∈ t.kids, NCk (nbE wdF f).1 k ∧ NG (nbE wdF f).1 k := fun k hk => ⟨(aB3 f k (hq.kid hk) (by have := hlek k hk; omega) (by have := hlek k hk; omega)).1, (BC (F := FF) (wd := wdF) (q := qE) (fun t h => ⟨h.1, fun x => x⟩) f k (hq.kid hk)).1⟩
    have hce : zB wdF f t = iD (nbE wdF f).1 t.kids (IJ t) ⟨[], 1, 0, 0⟩ := by unfold zB; rfl
    rw [hce]
    have hst : IJ t = ⟨kE t, false, false, false, [1], [], [], false, false, [], true, false⟩ := rfl
    rw [hst]
    generalize kE t = stc at hstr ⊢
    repeat' (first | ((with_reducible show GC _ _ (Code.seq (Code.region 4 _ _) _) _ _ _ _); (apply bF)) | refine KO ?_ | ((with_reducible apply C1); exact rfl; exact EN; (exact fun w μc hw hse => hri w μc hw hse.le)) | refine KI ?_ | refine NB fun b => ?_ | ((with_reducible apply DK); exact rfl; exact rfl; intro b) | refine KG ?_ | fail)
    all_goals try (exfalso; first | fail)
    rename_i bn bm
    obtain ⟨bx, hbx⟩ : ∃ y, y = b := ⟨_, rfl⟩
    rw [← hbx]
    clear hbx
    refine gcs (KC (l' := [(1, .pointer (some ⟨bn, 0, none⟩)), (4, .pointer (some ⟨bx, 0, none⟩))]) (L' := .inl ⟨bn, 24, 6, idx 0 (aD t (.slice A t.kids.length c))⟩ :: EB bx bm ⟨[], 1, 0, 0⟩ []) PU (by rw [NY, XW, VB]; exact oN (.refl _) (bW (.cells PU) (bW (.refl _) (.nil _)))) ?_)
    have hER : ∀ μ', ER μ' [] ⟨[], 1, 0, 0⟩ := fun μ' => ⟨rfl, fun f hf => by simp at hf⟩
    have hSB : SB ⟨[], 1, 0, 0⟩ (szs t.kids) := by
      show 1 + 0 + 2 * szs t.kids ≤ 900000
      omega
    have hPB : ∀ k ∈ t.kids, PB ⟨stc, false, false, false, [1], [], [], false, false, [], true, false⟩ k.size := fun k hk => ⟨Nat.succ_pos _, by show 1 + k.size ≤ 90000; have := hlek k hk; omega, by show 0 + k.size ≤ 90000; have := hlek k hk; omega, Nat.le_refl _⟩
    repeat' (first | refine KK ?_ | fail)
    refine aC 9 _ (by kernel_rfl) rfl (List.Sublist.cons_cons _ (List.nil_sublist _)) ?_
    all_goals refine DD 0 ?_
    all_goals refine DD 1 ?_
    all_goals refine DD 2 ?_
    all_goals refine DD 3 ?_
    refine dW 4 5 (by kernel_rfl) ?dr16_4 ?dr16_5
    case' dr16_4 =>
      ((refine D5 ?_; (((with_reducible apply F1 40); exact rfl; exact EN; (exact fun w μc hw hse => hstr w μc hw hse.le))); refine D9 ?_))
      all_goals ((refine D3 5 ?_; refine D5 ?_; refine NB fun b => ?_; refine D9 ?_))
      all_goals refine DD 6 ?_
      all_goals refine DD 7 ?_
      all_goals ((refine D3 8 ?_; refine D5 ?_; ((refine CF 39 ?_; (refine uM rfl ?_); (intro μ4 hle4 hsh4); (have hv := IsV.SY (x := 1) hsh4 rfl); (with_reducible apply dJ 1); (iterate 3 exact rfl); ((with_reducible apply aU); kernel_rfl; (iterate 3 exact rfl)); exact rfl; (exact hER _); (exact eD (nbE wdF f).1 t.kids _ _ ⟨stc, false, false, false, [1], [], [], false, false, [], true, false⟩ ⟨[], 1, 0, 0⟩ _ bx bm hN (hk.mono hle4) ⟨_, _, _, _, rfl, hv, SsV.nil _, SsV.nil _, SsV.nil _⟩ hPB hSB (by omega) (hm.mono hle4)); (intro v1 μ1 i1 hle1 hR); (dsimp only [List.cons_append, List.nil_append]))); refine D9 ?_))
      all_goals refine D8 ?_
    case' dr16_5 =>
      ((refine D5 ?_; refine NB fun b => ?_; refine D9 ?_))
      all_goals ((refine D3 4 ?_; refine D5 ?_; (((with_reducible apply F1 40); exact rfl; exact EN; (exact fun w μc hw hse => hstr w μc hw hse.le))); refine D9 ?_))
      all_goals refine DD 6 ?_
      all_goals refine DD 7 ?_
      all_goals ((refine D3 8 ?_; refine D5 ?_; ((refine CF 39 ?_; (refine uM rfl ?_); (intro μ4 hle4 hsh4); (have hv := IsV.SY (x := 1) hsh4 rfl); (with_reducible apply dJ 1); (iterate 3 exact rfl); ((with_reducible apply aU); kernel_rfl; (iterate 3 exact rfl)); exact rfl; (exact hER _); (exact eD (nbE wdF f).1 t.kids _ _ ⟨stc, false, false, false, [1], [], [], false, false, [], true, false⟩ ⟨[], 1, 0, 0⟩ _ bx bm hN (hk.mono hle4) ⟨_, _, _, _, rfl, hv, SsV.nil _, SsV.nil _, SsV.nil _⟩ hPB hSB (by omega) (hm.mono hle4)); (intro v1 μ1 i1 hle1 hR); (dsimp only [List.cons_append, List.nil_append]))); refine D9 ?_))
      all_goals refine D8 ?_
    all_goals generalize iD (nbE wdF f).1 t.kids ⟨stc, false, false, false, [1], [], [], false, false, [], true, false⟩ ⟨[], 1, 0, 0⟩ = s' at hR ⊢
    all_goals repeat' (first | refine KK ?_ | fail)
    all_goals refine eO (show _ = _ :: Bk.inl ⟨bx, 87, 4, [(0, .map (some bm)), (1, .int .i64 (s'.regs : Int)), (2, .int .i64 s'.at'), (3, .int .i64 s'.e)]⟩ :: .mp ⟨bm, mkD i1 0, i1.length⟩ :: fV i1 from rfl) ?_
    all_goals
      refine aC 10 _ (by kernel_rfl) rfl (List.Sublist.cons _ (List.Sublist.cons_cons _ (List.nil_sublist _))) ?_
      all_goals refine DD 0 ?_
      all_goals refine DD 1 ?_
      all_goals refine DD 2 ?_
      all_goals refine DD 3 ?_
      all_goals refine DD 4 ?_
      all_goals refine DD 5 ?_
      all_goals refine DD 6 ?_
      all_goals refine DD 7 ?_
      all_goals refine DD 8 ?_
      all_goals refine DD 9 ?_
      all_goals refine D8 ?_
    all_goals repeat' (first | refine KK ?_ | fail)
    all_goals exact rY rfl (bJ rfl) (bJ rfl) rfl rfl
end Go.Proofs.YtocidaibmadekaaGreatDoor
namespace Go.Proofs.YtocidaibmadekaaGreatDoor
open Go.RowKit Go.Vcg Go.MapKept
theorem uS (k : Int) (l : List Bd) : cM k [] l = l := rfl
theorem sM {k : Int} {xs : List ByteArray} {l : List Bd} {j : Nat} {x : ByteArray} (h : xs[j]? = some x) : cM k (xs.take (j + 1)) l = fM x k (cM k (xs.take j) l) := by
  unfold cM
  rw [List.take_add_one, List.foldl_append, h]
  rfl
theorem gL {α β : Type} (g : β → α → β) {xs : List α} {l : β} {j : Nat} {x : α} (h : xs[j]? = some x) : (xs.take (j + 1)).foldl g l = g ((xs.take j).foldl g l) x := by
  rw [List.take_add_one, List.foldl_append, h]
  rfl
attribute [local irreducible] fM cM cH bA anI FB eG G GC GQ GA bX Calls IntKind.wrap Int.decLt Int.decLe
theorem tT (t : T) (u lv : Value) (l : List Bd) (μ : Mem) (hk : KR μ t.kids u) (hn : t.n = 0 ∨ t.n = 1 ∨ t.n = 2) (hd : ∀ d ∈ t.kids, 1 ≤ d.kids.length) (hts : t.size ≤ 2000) (hl : l.length + szs t.kids ≤ 10000000) :
    RC 64 [lv, .agg (aD t u).toArray] lv l (cH t l) μ := by
  intro w hμ hO
  have hcnt := bG hO.diff
  have ou := hk.one
  have hsz := aP t
  have hlen0 := dV t.kids
  obtain ⟨A, c, rfl, hcap, hget⟩ := hk.form
  generalize hl' : cH t l = l'
  unfold cH at hl'
  refine aS (args := [lv, .agg (aD t (.slice A t.kids.length c)).toArray]) Tryz.func64 rfl Tryz.ntmps64 (by simp) hμ hO ?_
  refine fG 0 rfl ?_
  rintro Al cl rfl hok
  repeat' (first | ((with_reducible show GC _ _ (Code.seq (Code.region 1 _ _) _) _ _ _ _); (apply bF)) | refine KK ?_ | refine NB fun b => ?_ | fail)
  refine gcs (dY (ι := Unit) (fun _ => True) (fun _ => μ) (fun _ => [(5, .int .i64 t.n), (3, .pointer (some ⟨b, 0, none⟩)), (0, .slice Al l.length cl)]) (fun _ => [.inl ⟨b, 24, 6, [(5, .slice A t.kids.length c)]⟩, kK (.slice Al l.length cl) l]) ?_ ?_)
  · rcases hn with hn | hn | hn
    all_goals rw [hn]
    all_goals repeat' (first | refine KO ?_ | (refine KV (b := by first | exact U1 0 | exact U1 1 | exact U1 2) (c := ?_)) | refine KI ?_ | refine NB fun b => ?_ | fail)
    all_goals try (exfalso; first | fail)
    all_goals exact J1 () trivial
  rintro ⟨⟩ -
  repeat' (first | refine KK ?_ | fail)
  refine aX (ι := Nat × Value × Mem) (fun q => q.1 ≤ t.kids.length ∧ MLe μ q.2.2) (fun q => t.kids.length - q.1) (fun q => q.2.2) (fun q => [(18, .int .i64 (q.1 : Int)), (17, .int .i64 (t.kids.length : Int)), (16, .slice A t.kids.length c), (5, .int .i64 t.n), (0, q.2.1)]) (fun q => [kK q.2.1 ((t.kids.take q.1).foldl (fun l d => cM t.n (aR (bU d 0)) l) l)]) (0, .slice Al l.length cl, μ) ⟨Nat.zero_le _, MLe.refl _⟩ (fun a w hs => hs.sel PU (bH (.refl _) (.nil _))) ?_
  rintro ⟨i, v, μi⟩ ⟨hi, hle⟩
  dsimp only at hi hle ⊢
  by_cases hlt : i < t.kids.length
  · obtain ⟨d, hdi⟩ : ∃ d, t.kids[i]? = some d := ⟨_, List.getElem?_eq_getElem hlt⟩
    obtain ⟨ad, x, rfl, hm0, hox, hkx⟩ := hget i d hdi
    have hmm := hm0.mono hle
    have hmem := List.mem_of_getElem? hdi
    have hd1 := hd d hmem
    have hdz : d.size ≤ szs t.kids := T.bN (List.mem_map.2 ⟨d, hmem, rfl⟩)
    have hsp := eP hdi
    have hacc : ((t.kids.take i).foldl (fun l d => cM t.n (aR (bU d 0)) l) l).length ≤ l.length + szs (t.kids.take i) := by
      have := lK ⟨t.op, t.at', t.n, t.m, t.s, t.kids.take i⟩ l
      unfold cH at this
      exact this
    have hnext := gL (fun l d => cM t.n (aR (bU d 0)) l) (l := l) hdi
    generalize (t.kids.take i).foldl (fun l d => cM t.n (aR (bU d 0)) l) l = acc at hacc hnext ⊢
    obtain ⟨A0, c0, rfl, hcap0, hget0⟩ := (hkx.mono hle).form
    obtain ⟨d0, hd0⟩ : ∃ d0, d.kids[0]? = some d0 := ⟨_, List.getElem?_eq_getElem (by omega)⟩
    obtain ⟨ad0, x0, rfl, hm1, hox0, hkx0⟩ := hget0 0 d0 hd0
    have hk0 := eR hd0
    rw [hk0] at hnext
    have hz0 := T.dH hd0
    have hnl := iQ d0
    have hnm := fun (w : World) (μc : Mem) (hw : MOk μc w) (hle : MLe μi μc) => oC d0 w μc x0 hw (hkx0.mono hle) (by omega)
    repeat' (first | refine KO ?_ | ((with_reducible apply C3); exact rfl; exact EN; (exact fun w μc hw hse => hnm w μc hw hse.le); intro v2; (with_reducible apply cP 0); exact rfl; rintro A2 c2 rfl hok2) | (refine KV (b := by first | exact U1 i | exact U1 0 | exact U4 hmm | exact U4 hm1) (c := ?_)) | refine KI ?_ | refine NB fun b => ?_ | fail)
    all_goals try (exfalso; first | fail)
    refine jV rfl ?_
    intro μ2 hle2 hsh2
    have hS0 := SsV.iY (xs := aR d0) hsh2 rfl rfl
    obtain ⟨A3, c3, e3, hS, hc3⟩ := hS0
    cases e3
    refine aX (ι := Nat × Value × Mem) (fun q => q.1 ≤ (aR d0).length ∧ MLe μ2 q.2.2) (fun q => (aR d0).length - q.1) (fun q => q.2.2) (fun q => [(28, .int .i64 (q.1 : Int)), (27, .int .i64 ((aR d0).length : Int)), (26, .slice A2 (aR d0).length c2), (18, .int .i64 (i : Int)), (17, .int .i64 (t.kids.length : Int)), (16, .slice (some ad) t.kids.length c), (5, .int .i64 t.n), (0, q.2.1)]) (fun q => [kK q.2.1 (cM t.n ((aR d0).take q.1) acc)]) (0, v, μ2) ⟨Nat.zero_le _, MLe.refl _⟩ (fun a w hs => hs.sel PU (by rw [List.take_zero, uS]; exact bH (.refl _) (.nil _))) ?_
    rintro ⟨j, v3, μ3⟩ ⟨hj, hle3⟩
    dsimp only at hj hle3 ⊢
    by_cases hjl : j < (aR d0).length
    · obtain ⟨ad3, y, rfl, hy, hm3⟩ := hS.get hjl
      have hm4 := hm3.mono hle3
      have hst := sM (k := t.n) (l := acc) hy
      have hbl := iV t.n ((aR d0).take j) acc
      rw [List.length_take] at hbl
      generalize cM t.n ((aR d0).take j) acc = acc2 at hst hbl ⊢
      repeat' (first | refine KO ?_ | (refine CF 66 ?_; (with_reducible apply oW 0); (iterate 3 exact rfl); ((with_reducible apply aU); kernel_rfl; (iterate 3 exact rfl)); exact rfl; (exact tS acc2 _ y t.n _ (by omega)); (intro v4 μ4 hle4); (dsimp only [dG])) | (refine KV (b := by first | exact U1 j | exact U3 (hm4.at 0 rfl)) (c := ?_)) | refine KI ?_ | fail)
      all_goals try (exfalso; first | fail)
      all_goals rw [← hst]
      all_goals exact bD (j + 1, v4, μ4) ⟨by dsimp only; omega, hle3.trans hle4⟩ (by dsimp only; omega) rfl PU (cR _)
    · have hj2 : j = (aR d0).length := by omega
      subst hj2
      rw [List.take_of_length_le (Nat.le_refl _)]
      repeat' (first | refine KK ?_ | fail)
      all_goals try (exfalso; first | fail)
      all_goals rw [← hnext]
      all_goals exact bD (i + 1, v3, μ3) ⟨by dsimp only; omega, (hle.trans hle2).trans hle3⟩ (by dsimp only; omega) rfl PU (cR _)
  · have hil : i = t.kids.length := by omega
    subst hil
    rw [List.take_of_length_le (Nat.le_refl _)]
    repeat' (first | refine KK ?_ | fail)
    all_goals try (exfalso; first | fail)
    all_goals exact mY hcnt rfl (bJ rfl) rfl hl'
theorem nS (kids : List T) (fs : Bool) (kv lv : Value) (l : List Bd) (μ : Mem) (hk : KR μ kids kv) (hq : ∀ k ∈ kids, Ks k) (hts : szs kids ≤ 2000) (hl : l.length + szs kids ≤ 10000000) :
    RC 42 [lv, kv, .bool fs] lv l (bA kids fs l) μ := by
  intro w hμ hO
  have hcnt := bG hO.diff
  have hlen0 := dV kids
  obtain ⟨A, c, rfl, hcap, hget⟩ := hk.form
  generalize hl' : bA kids fs l = l'
  unfold bA at hl'
  refine aS (args := [lv, .slice A kids.length c, .bool fs]) Tryz.func42 rfl Tryz.ntmps42 (by simp) hμ hO ?_
  refine fG 0 rfl ?_
  rintro Al cl rfl hok
  repeat' (first | refine KK ?_ | fail)
  refine aX (ι := Nat × Value × Mem) (fun q => q.1 ≤ kids.length ∧ MLe μ q.2.2) (fun q => kids.length - q.1) (fun q => q.2.2) (fun q => [(11, .int .i64 (q.1 : Int)), (10, .int .i64 (kids.length : Int)), (9, .slice A kids.length c), (2, .bool fs), (0, q.2.1)]) (fun q => [kK q.2.1 ((kids.take q.1).foldl (fun l t => if t.op = 2 ∧ t.n ≠ 0 then cH t l else if (kW t 1 && fs) = true then fM t.s 3 l else l) l)]) (0, .slice Al l.length cl, μ) ⟨Nat.zero_le _, MLe.refl _⟩ (fun a w hs => hs.sel PU (cR _)) ?_
  rintro ⟨i, v, μi⟩ ⟨hi, hle⟩
  dsimp only at hi hle ⊢
  by_cases hlt : i < kids.length
  · obtain ⟨d, hdi⟩ : ∃ d, kids[i]? = some d := ⟨_, List.getElem?_eq_getElem hlt⟩
    obtain ⟨ad, x, rfl, hm0, hox, hkx⟩ := hget i d hdi
    have hmm := hm0.mono hle
    have hmem := List.mem_of_getElem? hdi
    have hqd := hq d hmem
    have hsp := eP hdi
    have hds := aP d
    have hacc := eF (kids.take i) fs l
    have hnext := gL (fun l (t : T) => if t.op = 2 ∧ t.n ≠ 0 then cH t l else if (kW t 1 && fs) = true then fM t.s 3 l else l) (l := l) hdi
    unfold bA at hacc
    generalize (kids.take i).foldl (fun l (t : T) => if t.op = 2 ∧ t.n ≠ 0 then cH t l else if (kW t 1 && fs) = true then fM t.s 3 l else l) l = acc at hacc hnext ⊢
    have hbit := fun (w : World) (μc : Mem) (hw : MOk μc w) => tX d x hox 1 w μc hw
    by_cases hc1 : d.op = 2 ∧ d.n ≠ 0
    · rw [if_pos hc1] at hnext
      repeat' (first | refine KO ?_ | (refine CF 64 ?_; (with_reducible apply oW 1); (iterate 3 exact rfl); ((with_reducible apply fW); kernel_rfl; exact rfl; exact rfl); exact rfl; (exact tT d x _ acc _ (hkx.mono hle) (hqd.vn hc1.1) (hqd.kc.sub hc1.1) (by omega) (by omega)); (intro v4 μ4 hle4); (dsimp only [dG])) | (refine KV (b := by first | exact U1 i | exact U4 hmm) (c := ?_)) | refine KI ?_ | refine NB fun b => ?_ | refine KG ?_ | fail)
      all_goals try (exfalso; first | fail)
      all_goals rw [← hnext]
      all_goals exact bD (i + 1, v4, μ4) ⟨by dsimp only; omega, hle.trans hle4⟩ (by dsimp only; omega) rfl PU (bH (.refl _) (.nil _))
    · rw [if_neg hc1] at hnext
      cases hb : kW d 1 with
      | false =>
        rw [hb] at hbit
        rw [hb, Bool.false_and, if_neg (by simp)] at hnext
        repeat' (first | refine KO ?_ | ((with_reducible apply F1 65); exact rfl; exact EN; (exact fun w μc hw hse => hbit w μc hw)) | (refine KV (b := by first | exact U1 i | exact U4 hmm) (c := ?_)) | refine KI ?_ | refine NB fun b => ?_ | ((refine KB ?_ ?_ <;> intro hp)) | refine KG ?_ | fail)
        all_goals try (exfalso; first | fail)
        all_goals (rw [← hnext]; exact bD (i + 1, v, μi) ⟨by dsimp only; omega, hle⟩ (by dsimp only; omega) rfl PU (bH (.refl _) (.nil _)))
      | true =>
        rw [hb] at hbit
        cases hf : fs with
        | false =>
          subst hf
          rw [hb, Bool.true_and, if_neg (by simp)] at hnext
          repeat' (first | refine KO ?_ | ((with_reducible apply F1 65); exact rfl; exact EN; (exact fun w μc hw hse => hbit w μc hw)) | (refine KV (b := by first | exact U1 i | exact U4 hmm) (c := ?_)) | refine KI ?_ | refine NB fun b => ?_ | ((refine KB ?_ ?_ <;> intro hp)) | refine KG ?_ | fail)
          all_goals try (exfalso; first | fail)
          all_goals (rw [← hnext]; exact bD (i + 1, v, μi) ⟨by dsimp only; omega, hle⟩ (by dsimp only; omega) rfl PU (bH (.refl _) (.nil _)))
        | true =>
          subst hf
          rw [hb, Bool.true_and, if_pos rfl] at hnext
          repeat' (first | refine KO ?_ | ((with_reducible apply F1 65); exact rfl; exact EN; (exact fun w μc hw hse => hbit w μc hw)) | (refine CF 66 ?_; (with_reducible apply oW 1); (iterate 3 exact rfl); ((with_reducible apply aU); kernel_rfl; (iterate 3 exact rfl)); exact rfl; (exact tS acc _ d.s 3 _ (by omega)); (intro v4 μ4 hle4); (dsimp only [dG])) | (refine KV (b := by first | exact U1 i | exact U4 hmm) (c := ?_)) | refine KI ?_ | refine NB fun b => ?_ | ((refine KB ?_ ?_ <;> intro hp)) | refine KG ?_ | fail)
          all_goals try (exfalso; first | fail)
          all_goals (rw [← hnext]; exact bD (i + 1, v4, μ4) ⟨by dsimp only; omega, hle.trans hle4⟩ (by dsimp only; omega) rfl PU (bH (.refl _) (.nil _)))
  · have hil : i = kids.length := by omega
    subst hil
    rw [List.take_of_length_le (Nat.le_refl _)]
    repeat' (first | refine KK ?_ | fail)
    all_goals try (exfalso; first | fail)
    all_goals exact mY hcnt rfl (bJ rfl) rfl hl'
end Go.Proofs.YtocidaibmadekaaGreatDoor
namespace Go.Proofs.YtocidaibmadekaaGreatDoor
open Go.RowKit Go.Vcg Go.MapKept
attribute [local irreducible] fM cM cH bA anI FB eG G GC GQ GA bX Calls IntKind.wrap Int.decLt Int.decLe
theorem oE : ∀ (f : Nat) (t : T) (u lv : Value) (l : List Bd) (μ : Mem), KR μ t.kids u → dF qS t → t.size ≤ f → t.size ≤ 2000 → l.length + 2000 * t.size ≤ 10000000 →
    RC 167 [lv, .agg (aD t u).toArray] lv l (bY f t l) μ
  | 0, t, _, _, _, _, _, _, h, _, _ => by
    have := aP t
    omega
  | f + 1, t, u, lv, l, μ, hk, hq, hf, hts, hl => by
    intro w hμ hO
    have hcnt := bG hO.diff
    have ou := hk.one
    have hsz := aP t
    have hlen0 := dV t.kids
    have hk0 := hk
    obtain ⟨A, c, rfl, hcap, hget⟩ := hk.form
    generalize hl' : bY (f + 1) t l = l'
    unfold bY at hl'
    refine aS (args := [lv, .agg (aD t (.slice A t.kids.length c)).toArray]) Tryz.func167 rfl Tryz.ntmps167 (by simp) hμ hO ?_
    refine fG 0 rfl ?_
    rintro Al cl rfl hok
    by_cases h4 : t.op = 4
    · rw [if_pos h4] at hl'
      repeat' (first | refine KK ?_ | refine NB fun b => ?_ | fail)
      all_goals try (exfalso; first | fail)
      all_goals refine fT (L' := [_]) (bH (.refl _) (.nil _)) ?_
      all_goals exact mY hcnt rfl (bJ rfl) rfl hl'
    rw [if_neg h4] at hl'
    have hvl := lK t l
    obtain ⟨l1, hl1, hb1⟩ : ∃ l1, (if t.op = 2 ∧ t.n = 0 then cH t l else l) = l1 ∧ l1.length ≤ l.length + szs t.kids := ⟨_, rfl, by split <;> omega⟩
    rw [hl1] at hl'
    repeat' (first | ((with_reducible show GC _ _ (Code.seq (Code.seq (Code.region 3 _ _) _) _) _ _ _ _); (apply bF)) | refine KK ?_ | refine NB fun b => ?_ | fail)
    all_goals try (exfalso; first | fail)
    refine gcs (dY (ι := Value × Mem) (fun q => MLe μ q.2) (fun q => q.2) (fun q => [(3, .pointer (some ⟨b, 0, none⟩)), (0, q.1)]) (fun q => [.inl ⟨b, 24, 6, idx 0 (aD t (.slice A t.kids.length c))⟩, kK q.1 l1]) ?_ ?_)
    · by_cases hc1 : t.op = 2 ∧ t.n = 0
      · rw [if_pos hc1] at hl1
        repeat' (first | refine KO ?_ | (refine CF 64 ?_; (with_reducible apply oW 1); (iterate 3 exact rfl); ((with_reducible apply fW); kernel_rfl; exact rfl; exact rfl); exact rfl; (exact tT t (.slice A t.kids.length c) _ l _ hk0 (hq.here.1.vn hc1.1) (hq.here.1.kc.sub hc1.1) hts (by omega)); (intro v4 μ4 hle4); (dsimp only [dG])) | refine KI ?_ | refine KG ?_ | fail)
        all_goals try (exfalso; first | fail)
        all_goals rw [hl1]
        all_goals exact cD (_, _) hle4 rfl PU (cR _)
      · rw [if_neg hc1] at hl1
        subst hl1
        repeat' (first | refine KK ?_ | ((refine KB ?_ ?_ <;> intro hp)) | refine KG ?_ | fail)
        all_goals try (exfalso; first | fail)
        all_goals exact cD (_, _) (MLe.refl _) rfl PU (cR _)
    rintro ⟨v1, μ1⟩ hle1
    dsimp only at hle1 ⊢
    repeat' (first | refine KK ?_ | fail)
    refine aX (ι := Nat × Value × Mem) (fun q => q.1 ≤ t.kids.length ∧ MLe μ q.2.2) (fun q => t.kids.length - q.1) (fun q => q.2.2) (fun q => [(25, .int .i64 (q.1 : Int)), (24, .int .i64 (t.kids.length : Int)), (23, .slice A t.kids.length c), (0, q.2.1)]) (fun q => [kK q.2.1 ((t.kids.take q.1).foldl (fun l k => bY f k l) l1)]) (0, v1, μ1) ⟨Nat.zero_le _, hle1⟩ (fun a w hs => hs.sel PU (bH (.refl _) (.nil _))) ?_
    rintro ⟨i, v, μi⟩ ⟨hi, hle⟩
    dsimp only at hi hle ⊢
    by_cases hlt : i < t.kids.length
    · obtain ⟨d, hdi⟩ : ∃ d, t.kids[i]? = some d := ⟨_, List.getElem?_eq_getElem hlt⟩
      obtain ⟨ad, x, rfl, hm0, hox, hkx⟩ := hget i d hdi
      have hmm := hm0.mono hle
      have hmem := List.mem_of_getElem? hdi
      have hdz : d.size ≤ szs t.kids := T.bN (List.mem_map.2 ⟨d, hmem, rfl⟩)
      have hsp := eP hdi
      have hacc : ((t.kids.take i).foldl (fun l k => bY f k l) l1).length ≤ l1.length + 2000 * szs (t.kids.take i) := by
        have h2 := gM (fun l k => bY f k l) (fun k => 2000 * k.size) (t.kids.take i) l1 fun k hk a => iK f k a (by
          have : k.size ≤ szs t.kids := T.bN (List.mem_map.2 ⟨k, List.mem_of_mem_take hk, rfl⟩)
          omega)
        have h3 : ∀ l : List T, (l.map fun k => 2000 * k.size).sum = 2000 * szs l := fun l => by
          induction l with
          | nil => rfl
          | cons x r ih => simp only [List.map_cons, List.sum_cons, aZ, ih]; omega
        rw [h3] at h2
        exact h2
      have hnext := gL (fun l k => bY f k l) (l := l1) hdi
      generalize (t.kids.take i).foldl (fun l k => bY f k l) l1 = acc at hacc hnext ⊢
      repeat' (first | refine KO ?_ | (refine CF 167 ?_; (with_reducible apply oW 1); (iterate 3 exact rfl); ((with_reducible apply fW); kernel_rfl; exact rfl; exact rfl); exact rfl; (exact oE f d x _ acc _ (hkx.mono hle) (hq.kid hmem) (by omega) (by omega) (by omega)); (intro v4 μ4 hle4); (dsimp only [dG])) | (refine KV (b := by first | exact U1 i | exact U4 hmm) (c := ?_)) | refine KI ?_ | refine NB fun b => ?_ | fail)
      all_goals try (exfalso; first | fail)
      all_goals rw [← hnext]
      all_goals exact bD (i + 1, v4, μ4) ⟨by dsimp only; omega, hle.trans hle4⟩ (by dsimp only; omega) rfl PU (bH (.refl _) (.nil _))
    · have hil : i = t.kids.length := by omega
      subst hil
      rw [List.take_of_length_le (Nat.le_refl _)]
      repeat' (first | refine KK ?_ | fail)
      all_goals try (exfalso; first | fail)
      all_goals exact mY hcnt rfl (bJ rfl) rfl hl'
end Go.Proofs.YtocidaibmadekaaGreatDoor
namespace Go.Proofs.YtocidaibmadekaaGreatDoor
open Go.RowKit Go.Vcg Go.MapKept
def PRC (f : FuncId) (args : List Value) (l' : List Bd) (μ : Mem) : Prop := ∀ (w : World), MOk μ w → Go.Vcg.Own μ [] w →
  Calls Tryz.prog f args.toArray w fun e w' => ∃ (v : Value) (μ' : Mem) (i : Value), e = .returned v ∧ fY (eS []) w w' μ [kK i l'] μ' ∧ v = i
theorem aAu {X : Ctx} {ops : Array Oper} {Q : Exit → Act → World → Prop} {rest : List Oper} {μ : Mem} {l : aI} {L : List Bk} {o : Oper} {d : Nat} {f : FuncId} {args : List Value} {bl' : List Bd} (hd : o.dst = some d) (hn : Nat.blt d X.n = true) (hw : cV ops l o = some true) (hr : Ent Tryz.prog μ l L o f args.toArray) (hc : PRC f args bl' μ)
    (h : ∀ (v : Value) (μ' : Mem), MLe μ μ' → G Tryz.prog X ops Q rest μ' ((d, v) :: l) (kK v bl' :: L)) : G Tryz.prog X ops Q (o :: rest) μ l L :=
  mP (LB := []) (Lr := L) (Ls := fun j => [kK j bl']) (Post := fun _ v j => v = j) 0 hd hn hw hr rfl (fun w hμ hO => hc w hμ hO) fun v μ' j hle hp => by subst hp; exact h v μ' hle
theorem zK (b k j : Nat) : Addr.add ⟨b, k, none⟩ j = ⟨b, k + j, none⟩ := by cases j <;> simp [Addr.add]
theorem oK {μ : Mem} {b t sz : Nat} {cs : aI} {ps : List (T × Value)} (h : Bk.sh (.inl ⟨b, t, sz, cs⟩) μ) (hc : ∀ i v, (ps.flatMap pW)[i]? = some v → lk cs i = some v) : Sl pW 6 μ (some ⟨b, 0, none⟩) ps.length ps := by
  obtain ⟨arr, h1, h2, h3⟩ := h
  refine ⟨rfl, fun _ => ⟨_, rfl, fun i y hy j v hv => ?_⟩⟩
  have hj : j < 6 := by
    have := (List.getElem?_eq_some_iff.1 hv).1
    rw [BO] at this
    exact this
  have h4 := (fK (enc := pW) BO ps i j y hy hj).trans hv
  have h5 := h3 _ _ (hc _ _ h4)
  have e : (Addr.add ⟨b, 0, none⟩ (i * 6)).add j = ⟨b, i * 6 + j, none⟩ := by rw [zK, zK, Nat.zero_add]
  rw [e]
  exact ⟨arr, t, (0, 0), h1, rfl, h5⟩
attribute [local irreducible] fM cM cH bA bY anI FB eG G GC GQ GA bX Calls IntKind.wrap Int.decLt Int.decLe
theorem FP (f : Nat) (t : T) (u : Value) (μ : Mem) (hk : KR μ t.kids u) (h4 : t.op = 4) (hq : dF qS t) (hf : t.size ≤ f) (hts : t.size ≤ 2000) :
    PRC 144 [.agg (aD t u).toArray] (cK f t) μ := by
  intro w hμ hO
  have hcnt := bG hO.diff
  have ou := hk.one
  have hsz := aP t
  have hk2 := hq.here.1.kc.two (.inl h4)
  have hbit := fun (v : Value) (hv : v.oneCell' = true) (w : World) (μc : Mem) (hw : MOk μc w) => tX t v hv 128 w μc hw
  obtain ⟨hz2, -, -⟩ := CI hk2
  obtain ⟨A, c, rfl, hcap, hget⟩ := hk.form
  obtain ⟨d0, hd0⟩ : ∃ d, t.kids[0]? = some d := ⟨_, List.getElem?_eq_getElem (by omega)⟩
  obtain ⟨d1, hd1⟩ : ∃ d, t.kids[1]? = some d := ⟨_, List.getElem?_eq_getElem (by omega)⟩
  obtain ⟨ad, x0, rfl, hm0, ho0, hx0⟩ := hget 0 d0 hd0
  obtain ⟨ad1, x1, e1, hm1, ho1, hx1⟩ := hget 1 d1 hd1
  cases e1
  have hq0 := hq.kid (List.mem_of_getElem? hd0)
  have hq1 := hq.kid (List.mem_of_getElem? hd1)
  generalize hl' : cK f t = l'
  unfold cK at hl'
  dsimp only at hl'
  rw [eR hd0, eR hd1] at hl' hz2
  have hnl := iQ d0
  have hb1 := iV 4 (aR d0) []
  rw [List.length_nil] at hb1
  have hb2 := iK f d0 (cM 4 (aR d0) []) (by omega)
  have hnm := fun (w : World) (μc : Mem) (hw : MOk μc w) (hle : MLe μ μc) => oC d0 w μc x0 hw (hx0.mono hle) (by omega)
  refine aS (args := [.agg (aD t (.slice (some ad) t.kids.length c)).toArray]) Tryz.func144 rfl Tryz.ntmps144 (by simp) hμ hO ?_
  refine qT 40 4 ?_
  repeat' (first | refine KO ?_ | ((with_reducible apply C3); exact rfl; exact EN; (exact fun w μc hw hse => hnm w μc hw hse.le); intro v2; (with_reducible apply cP 0); exact rfl; rintro A2 c2 rfl hok2) | (refine KV (b := by first | exact U1 0 | exact U4 hm0) (c := ?_)) | refine KI ?_ | refine NB fun b => ?_ | fail)
  all_goals try (exfalso; first | fail)
  refine jV rfl ?_
  intro μ2 hle2 hsh2
  have hS0 := SsV.iY (xs := aR d0) hsh2 rfl rfl
  obtain ⟨A3, c3, e3, hS, hc3⟩ := hS0
  cases e3
  refine aX (ι := Nat × Value × Mem) (fun q => q.1 ≤ (aR d0).length ∧ MLe μ2 q.2.2) (fun q => (aR d0).length - q.1) (fun q => q.2.2) (fun q => [(14, .int .i64 (q.1 : Int)), (13, .int .i64 ((aR d0).length : Int)), (12, .slice A2 (aR d0).length c2), (1, .pointer (some ⟨b, 0, none⟩)), (3, q.2.1)]) (fun q => [.inl ⟨b, 24, 6, idx 0 (aD t (.slice (some ad) t.kids.length c))⟩, kK q.2.1 (cM 4 ((aR d0).take q.1) [])]) (0, .slice none 0 0, μ2) ⟨Nat.zero_le _, MLe.refl _⟩ (fun a w hs => hs.sel PU (by rw [List.take_zero, uS]; exact cR _)) ?_
  rintro ⟨j, v3, μ3⟩ ⟨hj, hle3⟩
  dsimp only at hj hle3 ⊢
  by_cases hjl : j < (aR d0).length
  · obtain ⟨ad3, y, rfl, hy, hm3⟩ := hS.get hjl
    have hm4 := hm3.mono hle3
    have hst := sM (k := 4) (l := []) hy
    have hbl := iV 4 ((aR d0).take j) []
    rw [List.length_take, List.length_nil] at hbl
    generalize cM 4 ((aR d0).take j) [] = acc2 at hst hbl ⊢
    repeat' (first | refine KO ?_ | (refine CF 66 ?_; (with_reducible apply oW 1); (iterate 3 exact rfl); ((with_reducible apply aU); kernel_rfl; (iterate 3 exact rfl)); exact rfl; (exact tS acc2 _ y 4 _ (by omega)); (intro v4 μ4 hle4); (dsimp only [dG])) | (refine KV (b := by first | exact U1 j | exact U3 (hm4.at 0 rfl)) (c := ?_)) | refine KI ?_ | fail)
    all_goals try (exfalso; first | fail)
    all_goals rw [← hst]
    all_goals exact bD (j + 1, v4, μ4) ⟨by dsimp only; omega, hle3.trans hle4⟩ (by dsimp only; omega) rfl PU (cR _)
  have hj2 : j = (aR d0).length := by omega
  subst hj2
  rw [List.take_of_length_le (Nat.le_refl _)]
  have hle5 := hle2.trans hle3
  have hm0 := hm0.mono hle5
  have hm1 := hm1.mono hle5
  have hin0 := oE f d0 x0 v3 (cM 4 (aR d0) []) μ3 (hx0.mono hle5) hq0 (by omega) (by omega) (by omega)
  generalize bY f d0 (cM 4 (aR d0) []) = l1 at hin0 hl' hb2
  repeat' (first | ((with_reducible show GC _ _ (Code.seq (Code.seq (Code.region 8 _ _) _) _) _ _ _ _); (apply bF)) | refine KO ?_ | (refine CF 167 ?_; (with_reducible apply oW 1); (iterate 3 exact rfl); ((with_reducible apply fW); kernel_rfl; exact rfl; exact rfl); exact rfl; (exact hin0); (intro v4 μ4 hle4); (dsimp only [dG]); (have hm1 := hm1.mono hle4)) | (refine KV (b := by first | exact U1 0 | exact U4 hm0) (c := ?_)) | refine KI ?_ | fail)
  all_goals try (exfalso; first | fail)
  refine gcs ?_
  have hbit := hbit (.slice (some ad) t.kids.length c) rfl
  by_cases hc1 : d1.op ≠ 6 ∨ kW t 128 = true
  · rw [if_pos hc1] at hl'
    have hgo := oE f d1 x1 v4 l1 μ4 (hx1.mono (hle5.trans hle4)) hq1 (by omega) (by omega) (by omega)
    rw [hl'] at hgo
    have hm2 := hm1
    by_cases h6 : d1.op = 6
    · have hb6 : kW t 128 = true := hc1.resolve_left (fun h => h h6)
      rw [hb6] at hbit
      repeat' (first | refine KO ?_ | ((with_reducible apply F1 65); exact rfl; exact EN; (exact fun w μc hw hse => hbit w μc hw)) | (refine CF 167 ?_; (with_reducible apply oW 1); (iterate 3 exact rfl); ((with_reducible apply fW); kernel_rfl; exact rfl; exact rfl); exact rfl; (exact hgo); (intro v5 μ5 hle6); (dsimp only [dG])) | (refine KV (b := by first | exact U1 1 | exact U4 hm2) (c := ?_)) | refine KI ?_ | refine KG ?_ | fail)
      all_goals try (exfalso; first | fail)
      all_goals refine fT (L' := [_]) (bH (.refl _) (.nil _)) ?_
      all_goals exact mY hcnt rfl (bJ rfl) rfl rfl
    · repeat' (first | refine KO ?_ | (refine CF 167 ?_; (with_reducible apply oW 1); (iterate 3 exact rfl); ((with_reducible apply fW); kernel_rfl; exact rfl; exact rfl); exact rfl; (exact hgo); (intro v5 μ5 hle6); (dsimp only [dG])) | (refine KV (b := by first | exact U1 1 | exact U4 hm2) (c := ?_)) | refine KI ?_ | refine KG ?_ | fail)
      all_goals try (exfalso; first | fail)
      all_goals refine fT (L' := [_]) (bH (.refl _) (.nil _)) ?_
      all_goals exact mY hcnt rfl (bJ rfl) rfl rfl
  rw [if_neg hc1] at hl'
  have h6 : d1.op = 6 := by
    by_cases h : d1.op = 6
    · exact h
    · exact absurd (.inl h) hc1
  have hb6 : kW t 128 = false := by
    cases hb : kW t 128 with
    | true => exact absurd (.inr hb) hc1
    | false => rfl
  rw [hb6] at hbit
  obtain ⟨A5, c5, rfl, hcap5, hget5⟩ := (hx1.mono (hle5.trans hle4)).form
  have hd1s := aP d1
  have hd1l := dV d1.kids
  repeat' (first | refine KO ?_ | ((with_reducible apply F1 65); exact rfl; exact EN; (exact fun w μc hw hse => hbit w μc hw)) | (refine KV (b := by first | exact U1 1 | exact U4 hm1) (c := ?_)) | refine KI ?_ | refine KG ?_ | fail)
  all_goals try (exfalso; first | fail)
  refine aX (ι := Nat × Value × Mem) (fun q => q.1 ≤ d1.kids.length ∧ MLe μ4 q.2.2) (fun q => d1.kids.length - q.1) (fun q => q.2.2) (fun q => [(50, .int .i64 (q.1 : Int)), (49, .int .i64 (d1.kids.length : Int)), (48, .slice A5 d1.kids.length c5), (3, q.2.1)]) (fun q => [kK q.2.1 ((d1.kids.take q.1).foldl (fun l k => bY f k (bA [k] true l)) l1)]) (0, v4, μ4) ⟨Nat.zero_le _, MLe.refl _⟩ (fun a w hs => hs.sel PU (bH (.refl _) (.nil _))) ?_
  rintro ⟨i, v, μi⟩ ⟨hi, hle⟩
  dsimp only at hi hle ⊢
  by_cases hlt : i < d1.kids.length
  · obtain ⟨d, hdi⟩ : ∃ d, d1.kids[i]? = some d := ⟨_, List.getElem?_eq_getElem hlt⟩
    obtain ⟨ad5, x, rfl, hm5, hox, hkx⟩ := hget5 i d hdi
    have hmm := hm5.mono hle
    have hmem := List.mem_of_getElem? hdi
    have hdz : d.size ≤ szs d1.kids := T.bN (List.mem_map.2 ⟨d, hmem, rfl⟩)
    have hsp := eP hdi
    have hqd := hq1.kid hmem
    have hacc : ((d1.kids.take i).foldl (fun l k => bY f k (bA [k] true l)) l1).length ≤ l1.length + 2001 * szs (d1.kids.take i) := by
      have h2 := gM (fun l k => bY f k (bA [k] true l)) (fun k => 2001 * k.size) (d1.kids.take i) l1 fun k hk a => by
        have h7 : k.size ≤ szs d1.kids := T.bN (List.mem_map.2 ⟨k, List.mem_of_mem_take hk, rfl⟩)
        have h8 := iK f k (bA [k] true a) (by omega)
        have h9 := eF [k] true a
        have h10 : szs [k] = k.size := by simp [szs]
        omega
      have h3 : ∀ l : List T, (l.map fun k => 2001 * k.size).sum = 2001 * szs l := fun l => by
        induction l with
        | nil => rfl
        | cons x r ih => simp only [List.map_cons, List.sum_cons, aZ, ih]; omega
      rw [h3] at h2
      exact h2
    have hnext := gL (fun l k => bY f k (bA [k] true l)) (l := l1) hdi
    generalize (d1.kids.take i).foldl (fun l k => bY f k (bA [k] true l)) l1 = acc at hacc hnext ⊢
    have h9 := eF [d] true acc
    have h10 : szs [d] = d.size := by simp [szs]
    have hkd := hkx.mono hle
    repeat' (first | refine KO ?_ | (refine CF 42 ?_; (refine uM rfl ?_); (intro μ7 hle7 hsh7); (with_reducible apply oW 1); (iterate 3 exact rfl); ((with_reducible apply aU); kernel_rfl; (iterate 3 exact rfl)); exact rfl; (exact nS [d] true _ _ acc _ (KR.iA (c := 1) (ps := [(d, x)]) (oK hsh7 (fun i v hv => kF hv)) (Nat.le_refl _) (fun p hp => by rw [List.mem_singleton.1 hp]; exact hkd.mono hle7)) (fun k hk => by rw [List.mem_singleton.1 hk]; exact hqd.here.1) (by omega) (by omega)); (intro v8 μ8 hle8); (dsimp only [dG])) | (refine CF 167 ?_; (with_reducible apply oW 1); (iterate 3 exact rfl); ((with_reducible apply fW); kernel_rfl; exact rfl; exact rfl); exact rfl; (exact oE f d x _ (bA [d] true acc) _ (hkd.mono (hle7.trans hle8)) hqd (by omega) (by omega) (by omega)); (intro v9 μ9 hle9); (dsimp only [dG])) | (refine KV (b := by first | exact U1 i | exact U4 hmm) (c := ?_)) | refine KI ?_ | refine NB fun b => ?_ | fail)
    all_goals try (exfalso; first | fail)
    all_goals rw [← hnext]
    all_goals exact bD (i + 1, v9, μ9) ⟨by dsimp only; omega, ((hle.trans hle7).trans hle8).trans hle9⟩ (by dsimp only; omega) rfl PU (bH (.refl _) (.nil _))
  · have hil : i = d1.kids.length := by omega
    subst hil
    rw [List.take_of_length_le (Nat.le_refl _)]
    repeat' (first | refine KK ?_ | fail)
    all_goals try (exfalso; first | fail)
    all_goals exact mY hcnt rfl (bJ rfl) rfl hl'
end Go.Proofs.YtocidaibmadekaaGreatDoor
namespace Go.Proofs.YtocidaibmadekaaGreatDoor
open Go.RowKit Go.Vcg Go.MapKept
theorem FR'.len {q : FW} {s : FS} (h : FR' q s) : q.cs.length = s.scopes.length := by rw [← h.sc, gQ]
theorem aCt (cs : List (Sc × Value)) : (cs.flatMap cX).length = cs.length * 5 := fN (enc := cX) (s := 5) (fun _ => rfl) cs
attribute [local irreducible] fM cM cH bA bY cK anI fU eG G GC GQ GA bX Calls IntKind.wrap Int.decLt Int.decLe
theorem qM (kind at' : Int) (w0 : Wh) (l : List Bd) (lv : Value) (s : FS) (μ : Mem) (xb cb hb db : Nat) (hs : s.scopes.length ≤ 8000) :
    aDa 41 [.pointer (some ⟨xb, 0, none⟩), .int .i64 kind, .int .i64 at', WV w0, lv] xb cb hb db lv l s (gI kind at' w0 l s) μ (fun v => v = WV (pF w0 s)) := by
  intro w q hμ hR hO
  have hcnt := bG hO.diff
  have hlen := hR.len
  have hfl := aCt q.cs
  have e9 : ((q.cs.length + 1 : Nat) : Int) - 1 = (s.scopes.length : Int) := by omega
  refine aS (args := [.pointer (some ⟨xb, 0, none⟩), .int .i64 kind, .int .i64 at', WV w0, lv]) Tryz.func41 rfl Tryz.ntmps41 (by simp) hμ hO ?_
  refine eO (congrArg _ (eX xb cb hb db s q)) ?_
  refine fG 0 rfl ?_
  rintro Al cl rfl hokl
  repeat' (first | refine KK ?_ | refine NB fun b => ?_ | fail)
  refine aC 18 _ (by kernel_rfl) rfl (List.Sublist.cons _ (List.Sublist.cons_cons _ (List.nil_sublist _))) ?_
  all_goals refine DD 0 ?_
  all_goals refine DD 1 ?_
  all_goals refine DD 2 ?_
  all_goals refine DD 3 ?_
  all_goals refine DD 5 ?_
  all_goals refine DD 6 ?_
  all_goals refine DD 7 ?_
  all_goals refine DD 8 ?_
  all_goals refine DD 9 ?_
  all_goals refine DD 10 ?_
  all_goals refine DD 11 ?_
  all_goals refine DD 12 ?_
  refine dW 4 13 (by kernel_rfl) ?dr17_4 ?dr17_13
  case' dr17_4 =>
    (((with_reducible apply dL); (iterate 4 exact rfl); (((with_reducible apply oX); exact rfl; (repeat first | with_reducible exact cU | with_reducible apply gJ); exact rfl))))
    all_goals ((refine D3 13 ?_; refine D5 ?_; refine NB fun b => ?_; refine D9 ?_))
    all_goals ((refine D3 14 ?_; refine D5 ?_; (((with_reducible apply oG); (iterate 3 exact rfl); (repeat first | with_reducible exact dT | with_reducible apply eI); (iterate 6 exact rfl); (((with_reducible apply gH); exact rfl; (repeat with_reducible exact cU); exact rfl)); (exact rfl); ((exact eJ (by (repeat first | with_reducible exact dU | ((with_reducible apply dC); (exact rfl)))))); omega; omega; intro v; (refine jW 5 rfl (by omega) fun g cap hv hcap => ?_); (subst hv))); refine D9 ?_))
    all_goals refine DD 15 ?_
    all_goals refine DD 16 ?_
    all_goals ((refine D3 17 ?_; refine D5 ?_; refine Y0 ?_; refine D9 ?_))
    all_goals refine D8 ?_
  case' dr17_13 =>
    ((refine D5 ?_; refine NB fun b => ?_; refine D9 ?_))
    all_goals ((refine D3 4 ?_; (with_reducible apply dL); (iterate 4 exact rfl); (((with_reducible apply oX); exact rfl; (repeat first | with_reducible exact cU | with_reducible apply gJ); exact rfl))))
    all_goals ((refine D3 14 ?_; refine D5 ?_; (((with_reducible apply oG); (iterate 3 exact rfl); (repeat first | with_reducible exact dT | with_reducible apply eI); (iterate 6 exact rfl); (((with_reducible apply gH); exact rfl; (repeat with_reducible exact cU); exact rfl)); (exact rfl); ((exact eJ (by (repeat first | with_reducible exact dU | ((with_reducible apply dC); (exact rfl)))))); omega; omega; intro v; (refine jW 5 rfl (by omega) fun g cap hv hcap => ?_); (subst hv))); refine D9 ?_))
    all_goals refine DD 15 ?_
    all_goals refine DD 16 ?_
    all_goals ((refine D3 17 ?_; refine D5 ?_; refine Y0 ?_; refine D9 ?_))
    all_goals refine D8 ?_
  repeat' (first | refine KK ?_ | fail)
  all_goals try (exfalso; first | fail)
  all_goals rw [e9]
  all_goals refine lH ((((List.perm_append_singleton _ _).cons _).cons _).cons _) ?_
  all_goals refine fF (n' := (q.cs ++ [((⟨w0.scope, w0.fn, kind, at', l⟩ : Sc), Value.slice Al l.length cl)]).length) (xs' := (q.cs ++ [((⟨w0.scope, w0.fn, kind, at', l⟩ : Sc), Value.slice Al l.length cl)]).flatMap cX) 4 rfl (by simp) (by simp) ?_
  all_goals dsimp only [dG, List.cons_append]
  all_goals refine SQ (s := gI kind at' w0 l s) (y := .inl ⟨_, 95, 3, [(0, .int .i64 (s.scopes.length : Int)), (1, .int .i64 w0.fn), (2, .bool w0.decl)]⟩) { q with sv := .slice (some ⟨g, 0, none⟩) (q.cs.length + 1) cap, cs := q.cs ++ [((⟨w0.scope, w0.fn, kind, at', l⟩ : Sc), Value.slice Al l.length cl)] } hcnt rfl (by rw [eX]; dsimp only; rw [UR, VH]; exact (by repeat first | exact aO _ (aO _ (cR _)) | (refine bH ?_ ?_; focus ((refine eL.cells ?_; repeat first | exact cI | refine bR rfl ?_))) | (refine oN ?_ ?_; focus ((refine eL.cells ?_; repeat first | exact cI | refine bR rfl ?_))))) (nT 0 rfl rfl rfl rfl rfl (by repeat first | exact aJ | refine aF rfl ?_)) rfl ⟨?_, hR.ca, hR.hd, hR.dn⟩ rfl
  all_goals show scs (q.cs ++ [_]) = s.scopes ++ [_]
  all_goals unfold scs
  all_goals rw [List.map_append, ← hR.sc]
  all_goals rfl
theorem qI (kind at' : Int) (w0 : Wh) (l : List Bd) (lv : Value) (s : FS) (μ : Mem) (xb cb hb db : Nat) (hs : s.scopes.length ≤ 8000) :
    aDa 96 [.pointer (some ⟨xb, 0, none⟩), .int .i64 kind, .int .i64 at', WV w0, lv] xb cb hb db lv l s (eU kind at' w0 l s) μ (fun v => v = WV (gV w0 l s)) := by
  intro w q hμ hR hO
  have hcnt := bG hO.diff
  have hop := qM kind at' w0 l
  refine aS (args := [.pointer (some ⟨xb, 0, none⟩), .int .i64 kind, .int .i64 at', WV w0, lv]) Tryz.func96 rfl Tryz.ntmps96 (by simp) hμ hO ?_
  refine fG 0 rfl ?_
  rintro Al cl rfl hokl
  unfold eU gV
  by_cases h0 : l.length = 0
  · rw [if_pos h0, if_pos h0]
    repeat' (first | refine KK ?_ | refine NB fun b => ?_ | fail)
    all_goals try (exfalso; first | fail)
    all_goals exact nV (s := s) 3 q hcnt rfl (nT 0 rfl rfl rfl rfl rfl (by repeat first | exact aJ | refine aF rfl ?_)) rfl rfl hR rfl
  · rw [if_neg h0, if_neg h0]
    repeat' (first | refine KO ?_ | (refine CF 41 ?_; (with_reducible apply oT 2); (iterate 3 exact rfl); ((with_reducible apply iH); kernel_rfl; (iterate 5 exact rfl)); exact rfl; (exact hR); (exact hop _ s _ xb cb hb db hs); (rintro v1 μ1 i1 hle1 hR rfl); (dsimp only [List.cons_append, List.nil_append])) | refine KI ?_ | refine NB fun b => ?_ | fail)
    all_goals try (exfalso; first | fail)
    all_goals exact nV (s := gI kind at' w0 l s) 2 i1 hcnt rfl (nT 0 rfl rfl rfl rfl rfl (by repeat first | exact aJ | refine aF rfl ?_)) rfl rfl hR rfl
end Go.Proofs.YtocidaibmadekaaGreatDoor
namespace Go.Proofs.YtocidaibmadekaaGreatDoor
open Go.RowKit Go.Vcg Go.MapKept
def uE (s : FS) (ts tb : Nat) (fn cf : Int) : Bool :=
  match iB ((ts : Int), (tb : Int)) s.done with
  | none => false
  | some k => decide (fn = cf) && !((iB (ts : Int) s.heads).getD false) && decide (k = (iB (ts : Int) s.cases).getD 0)
theorem OP {s : FS} {ts tb : Nat} {fn : Int} {c : Sc} (h : s.scopes[ts]? = some c) : jQ s ts tb fn = uE s ts tb fn c.fn := by
  unfold jQ uE KF
  rw [h]
  rfl
theorem aD8 {P : Program} {et : TypeId} (hz : gB P et = some (.bool false)) (k : Int) {es : List MapEntry} {M : List (Int × Bool)} (h : MpI HM es M) : ∃ ok, iS P et (Instr.findNow (.int .i64) (.int .i64 k) es 0) = some (.bool ((iB k M).getD false), ok) := by
  obtain ⟨ok, h1⟩ := TI (enc := HM) hz k h
  refine ⟨ok, h1.trans ?_⟩
  cases iB k M <;> rfl
theorem aAs {P : Program} {et : TypeId} (hz : gB P et = some (.int .i64 0)) (k : Int) {es : List MapEntry} {M : List (Int × Int)} (h : MpI NJ es M) : ∃ ok, iS P et (Instr.findNow (.int .i64) (.int .i64 k) es 0) = some (.int .i64 ((iB k M).getD 0), ok) := by
  obtain ⟨ok, h1⟩ := TI (enc := NJ) hz k h
  refine ⟨ok, h1.trans ?_⟩
  cases iB k M <;> rfl
attribute [local irreducible] iB
attribute [local irreducible] fM cM cH bA bY cK anI fU eG G GC GQ GA bX Calls IntKind.wrap Int.decLt Int.decLe
theorem JD (x : Ux) (c : Sc) (v : Value) (hv : v.oneCell' = true) (s : FS) (μ : Mem) (xb cb hb db : Nat) :
    zX 143 [.pointer (some ⟨xb, 0, none⟩), .agg (mR x).toArray, .agg (cX (c, v)).toArray] xb cb hb db s s μ (fun r => r = .bool (uE s x.ts x.tb x.fn c.fn)) := by
  intro w q hμ hR hO
  have hcnt := bG hO.diff
  have hld := aB6 (P := Tryz.prog) (et := 3) (by kernel_rfl) ((x.ts : Int), (x.tb : Int)) hR.dn
  obtain ⟨okh, hlh⟩ := aD8 (P := Tryz.prog) (et := 4) (by kernel_rfl) (x.ts : Int) hR.hd
  obtain ⟨okc, hlc⟩ := aAs (P := Tryz.prog) (et := 3) (by kernel_rfl) (x.ts : Int) hR.ca
  generalize hr : uE s x.ts x.tb x.fn c.fn = r
  unfold uE at hr
  generalize (iB (x.ts : Int) s.heads).getD false = hv1 at hlh hr
  generalize (iB (x.ts : Int) s.cases).getD 0 = cv1 at hlc hr
  generalize iB ((x.ts : Int), (x.tb : Int)) s.done = dv1 at hld hr
  refine aS (args := [.pointer (some ⟨xb, 0, none⟩), .agg (mR x).toArray, .agg (cX (c, v)).toArray]) Tryz.func143 rfl Tryz.ntmps143 (by simp) hμ hO ?_
  refine eO (eX xb cb hb db s q) ?_
  cases dv1 with
  | none =>
    dsimp only [Option.getD, Option.isSome] at hld hr
    subst hr
    repeat' (first | refine KK ?_ | refine NB fun b => ?_ | fail)
    refine aC 12 _ (by kernel_rfl) rfl (List.Sublist.cons_cons _ (List.Sublist.cons_cons _ (List.Sublist.cons_cons _ (List.Sublist.cons_cons _ (List.Sublist.cons_cons _ (List.Sublist.cons_cons _ (List.Sublist.cons_cons _ (List.Sublist.cons_cons _ (List.nil_sublist _))))))))) ?_
    all_goals refine DD 0 ?_
    all_goals refine DD 1 ?_
    all_goals (first | refine D1 2 ?_ | fail)
    all_goals (first | refine DD 3 ?_ | fail)
    all_goals (first | refine D1 4 ?_ | fail)
    all_goals (first | refine DD 5 ?_ | fail)
    all_goals (first | (refine DV (k := 6) (b := by ((with_reducible apply wS (xs := kP ((x.ts : Int), (x.tb : Int)))); (iterate 3 exact rfl); (kernel_rfl); (repeat first | with_reducible exact jU | with_reducible apply jT); exact hld)) (c := ?_)) | fail)
    all_goals refine DD 7 ?_
    all_goals refine DD 8 ?_
    all_goals refine DD 9 ?_
    all_goals refine DD 10 ?_
    all_goals refine DD 11 ?_
    all_goals refine D8 ?_
    repeat' (first | refine KK ?_ | fail)
    refine aC 32 _ (by kernel_rfl) rfl (List.Sublist.cons_cons _ (List.Sublist.cons_cons _ (List.Sublist.cons_cons _ (List.Sublist.cons_cons _ (List.Sublist.cons_cons _ (List.Sublist.cons_cons _ (List.Sublist.cons_cons _ (List.Sublist.cons_cons _ (List.nil_sublist _))))))))) ?_
    all_goals refine DD 0 ?_
    all_goals refine DD 1 ?_
    all_goals (try (refine D7 2 ?_; (repeat' (first | fail))))
    all_goals refine DD 2 ?_
    all_goals refine DD 3 ?_
    all_goals refine DD 4 ?_
    all_goals refine DD 5 ?_
    all_goals refine DD 6 ?_
    all_goals refine DD 7 ?_
    all_goals refine DD 8 ?_
    all_goals (try (refine D7 9 ?_; (repeat' (first | fail))))
    all_goals refine DD 9 ?_
    all_goals refine DD 10 ?_
    all_goals refine DD 11 ?_
    all_goals refine DD 12 ?_
    all_goals refine DD 13 ?_
    all_goals refine DD 14 ?_
    all_goals refine DD 15 ?_
    all_goals refine DD 16 ?_
    all_goals refine DD 17 ?_
    all_goals refine DD 18 ?_
    all_goals refine DD 19 ?_
    all_goals (try (refine D7 20 ?_; (repeat' (first | fail))))
    all_goals refine DD 20 ?_
    all_goals refine DD 21 ?_
    all_goals refine DD 22 ?_
    all_goals refine DD 23 ?_
    all_goals refine DD 24 ?_
    all_goals refine DD 25 ?_
    all_goals refine DD 26 ?_
    all_goals refine DD 27 ?_
    all_goals refine DD 28 ?_
    all_goals refine DD 29 ?_
    all_goals refine DD 30 ?_
    all_goals refine DD 31 ?_
    all_goals refine D8 ?_
    all_goals repeat' (first | refine KK ?_ | fail)
    all_goals exact nV (s := s) 2 q hcnt rfl (bJ rfl) rfl rfl hR rfl
  | some k =>
    dsimp only [Option.getD, Option.isSome] at hld hr
    subst hr
    repeat' (first | refine KK ?_ | refine NB fun b => ?_ | fail)
    refine aC 12 _ (by kernel_rfl) rfl (List.Sublist.cons_cons _ (List.Sublist.cons_cons _ (List.Sublist.cons_cons _ (List.Sublist.cons_cons _ (List.Sublist.cons_cons _ (List.Sublist.cons_cons _ (List.Sublist.cons_cons _ (List.Sublist.cons_cons _ (List.nil_sublist _))))))))) ?_
    all_goals refine DD 0 ?_
    all_goals refine DD 1 ?_
    all_goals (first | refine D1 2 ?_ | fail)
    all_goals (first | refine DD 3 ?_ | fail)
    all_goals (first | refine D1 4 ?_ | fail)
    all_goals (first | refine DD 5 ?_ | fail)
    all_goals (first | (refine DV (k := 6) (b := by ((with_reducible apply wS (xs := kP ((x.ts : Int), (x.tb : Int)))); (iterate 3 exact rfl); (kernel_rfl); (repeat first | with_reducible exact jU | with_reducible apply jT); exact hld)) (c := ?_)) | fail)
    all_goals refine DD 7 ?_
    all_goals refine DD 8 ?_
    all_goals refine DD 9 ?_
    all_goals refine DD 10 ?_
    all_goals refine DD 11 ?_
    all_goals refine D8 ?_
    repeat' (first | refine KK ?_ | fail)
    by_cases hfn : x.fn = c.fn
    · cases hv1 with
      | false =>
        refine aC 32 _ (by kernel_rfl) rfl (List.Sublist.cons_cons _ (List.Sublist.cons_cons _ (List.Sublist.cons_cons _ (List.Sublist.cons_cons _ (List.Sublist.cons_cons _ (List.Sublist.cons_cons _ (List.Sublist.cons_cons _ (List.Sublist.cons_cons _ (List.nil_sublist _))))))))) ?_
        all_goals refine DD 0 ?_
        all_goals refine DD 1 ?_
        all_goals (try (refine D7 2 ?_; (repeat' (first | fail))))
        all_goals (first | refine D1 2 ?_ | fail)
        all_goals (first | refine DD 3 ?_ | fail)
        all_goals (first | refine D1 4 ?_ | fail)
        all_goals (first | refine DD 5 ?_ | fail)
        all_goals (first | refine D1 6 ?_ | fail)
        all_goals refine DD 7 ?_
        all_goals refine DD 8 ?_
        all_goals (try (refine D7 9 ?_; (repeat' (refine KO ?_))))
        all_goals refine DD 9 ?_
        all_goals refine DD 10 ?_
        all_goals (first | refine D1 11 ?_ | fail)
        all_goals (first | refine DD 12 ?_ | fail)
        all_goals (first | refine D1 13 ?_ | fail)
        all_goals (first | refine D1 14 ?_ | fail)
        all_goals (first | refine DD 15 ?_ | fail)
        all_goals (first | (refine DV (k := 16) (b := by ((with_reducible apply gG); (iterate 4 exact rfl); (exact rfl); (repeat first | with_reducible exact jU | with_reducible apply jT); exact hlh)) (c := ?_)) | fail)
        all_goals refine DD 17 ?_
        all_goals refine DD 18 ?_
        all_goals refine DD 19 ?_
        all_goals (try (refine D7 20 ?_; (repeat' (refine KO ?_))))
        all_goals refine DD 20 ?_
        all_goals refine DD 21 ?_
        all_goals refine DD 22 ?_
        all_goals (first | refine D1 23 ?_ | fail)
        all_goals (first | refine DD 24 ?_ | fail)
        all_goals (first | refine D1 25 ?_ | fail)
        all_goals (first | refine D1 26 ?_ | fail)
        all_goals (first | refine DD 27 ?_ | fail)
        all_goals (first | (refine DV (k := 28) (b := by ((with_reducible apply gG); (iterate 4 exact rfl); (exact rfl); (repeat first | with_reducible exact jU | with_reducible apply jT); exact hlc)) (c := ?_)) | fail)
        all_goals (first | refine D1 29 ?_ | fail)
        all_goals refine DD 30 ?_
        all_goals refine DD 31 ?_
        all_goals refine D8 ?_
        all_goals try (exfalso; first | fail)
        all_goals repeat' (first | refine KK ?_ | fail)
        all_goals exact nV (s := s) 2 q hcnt rfl (bJ rfl) rfl rfl hR (by simp_all)
      | true =>
        refine aC 32 _ (by kernel_rfl) rfl (List.Sublist.cons_cons _ (List.Sublist.cons_cons _ (List.Sublist.cons_cons _ (List.Sublist.cons_cons _ (List.Sublist.cons_cons _ (List.Sublist.cons_cons _ (List.Sublist.cons_cons _ (List.Sublist.cons_cons _ (List.nil_sublist _))))))))) ?_
        all_goals refine DD 0 ?_
        all_goals refine DD 1 ?_
        all_goals (try (refine D7 2 ?_; (repeat' (first | fail))))
        all_goals (first | refine D1 2 ?_ | fail)
        all_goals (first | refine DD 3 ?_ | fail)
        all_goals (first | refine D1 4 ?_ | fail)
        all_goals (first | refine DD 5 ?_ | fail)
        all_goals (first | refine D1 6 ?_ | fail)
        all_goals refine DD 7 ?_
        all_goals refine DD 8 ?_
        all_goals (try (refine D7 9 ?_; (repeat' (refine KO ?_))))
        all_goals refine DD 9 ?_
        all_goals refine DD 10 ?_
        all_goals (first | refine D1 11 ?_ | fail)
        all_goals (first | refine DD 12 ?_ | fail)
        all_goals (first | refine D1 13 ?_ | fail)
        all_goals (first | refine D1 14 ?_ | fail)
        all_goals (first | refine DD 15 ?_ | fail)
        all_goals (first | (refine DV (k := 16) (b := by ((with_reducible apply gG); (iterate 4 exact rfl); (exact rfl); (repeat first | with_reducible exact jU | with_reducible apply jT); exact hlh)) (c := ?_)) | fail)
        all_goals refine DD 17 ?_
        all_goals refine DD 18 ?_
        all_goals refine DD 19 ?_
        all_goals (try (refine D7 20 ?_; (repeat' (refine KO ?_))))
        all_goals refine DD 20 ?_
        all_goals refine DD 21 ?_
        all_goals refine DD 22 ?_
        all_goals (first | refine D1 23 ?_ | fail)
        all_goals (first | refine D1 24 ?_ | fail)
        all_goals (first | refine D1 25 ?_ | fail)
        all_goals (first | refine D1 26 ?_ | fail)
        all_goals (first | refine D1 27 ?_ | fail)
        all_goals (first | refine D1 28 ?_ | fail)
        all_goals (first | refine D1 29 ?_ | fail)
        all_goals refine DD 30 ?_
        all_goals refine DD 31 ?_
        all_goals refine D8 ?_
        all_goals try (exfalso; first | fail)
        all_goals repeat' (first | refine KK ?_ | fail)
        all_goals exact nV (s := s) 2 q hcnt rfl (bJ rfl) rfl rfl hR (by simp_all)
    · refine aC 32 _ (by kernel_rfl) rfl (List.Sublist.cons_cons _ (List.Sublist.cons_cons _ (List.Sublist.cons_cons _ (List.Sublist.cons_cons _ (List.Sublist.cons_cons _ (List.Sublist.cons_cons _ (List.Sublist.cons_cons _ (List.Sublist.cons_cons _ (List.nil_sublist _))))))))) ?_
      all_goals refine DD 0 ?_
      all_goals refine DD 1 ?_
      all_goals (try (refine D7 2 ?_; (repeat' (first | fail))))
      all_goals (first | refine D1 2 ?_ | fail)
      all_goals (first | refine DD 3 ?_ | fail)
      all_goals (first | refine D1 4 ?_ | fail)
      all_goals (first | refine DD 5 ?_ | fail)
      all_goals (first | refine D1 6 ?_ | fail)
      all_goals refine DD 7 ?_
      all_goals refine DD 8 ?_
      all_goals (try (refine D7 9 ?_; (repeat' (refine KO ?_))))
      all_goals refine DD 9 ?_
      all_goals refine DD 10 ?_
      all_goals (first | refine D1 11 ?_ | fail)
      all_goals (first | refine D1 12 ?_ | fail)
      all_goals (first | refine D1 13 ?_ | fail)
      all_goals (first | refine D1 14 ?_ | fail)
      all_goals (first | refine D1 15 ?_ | fail)
      all_goals (first | refine D1 16 ?_ | fail)
      all_goals refine DD 17 ?_
      all_goals refine DD 18 ?_
      all_goals refine DD 19 ?_
      all_goals (try (refine D7 20 ?_; (repeat' (first | fail))))
      all_goals refine DD 20 ?_
      all_goals refine DD 21 ?_
      all_goals refine DD 22 ?_
      all_goals (first | refine D1 23 ?_ | fail)
      all_goals (first | refine D1 24 ?_ | fail)
      all_goals (first | refine D1 25 ?_ | fail)
      all_goals (first | refine D1 26 ?_ | fail)
      all_goals (first | refine D1 27 ?_ | fail)
      all_goals (first | refine D1 28 ?_ | fail)
      all_goals (first | refine D1 29 ?_ | fail)
      all_goals refine DD 30 ?_
      all_goals refine DD 31 ?_
      all_goals refine D8 ?_
      all_goals try (exfalso; first | fail)
      all_goals repeat' (first | refine KK ?_ | fail)
      all_goals exact nV (s := s) 2 q hcnt rfl (bJ rfl) rfl rfl hR (by simp_all)
end Go.Proofs.YtocidaibmadekaaGreatDoor
