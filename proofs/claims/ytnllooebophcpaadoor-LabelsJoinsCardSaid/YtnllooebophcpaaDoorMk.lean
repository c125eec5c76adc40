/- The reference's Row. (and what leans on it). No statement of the seat is proved here. -/
import Derived.Test.YtnllooebophcpaaDoorMj
import Derived.Test.YtnllooebophcpaaDoorSt
set_option maxRecDepth 20000
set_option maxHeartbeats 2000000
namespace Go.Proofs.YtnllooebophcpaaDoor
open Go.RowKit Go.Vcg
noncomputable def rowP : List UInt8 → List T → Bool
  | [], l => decide (l.length = 0)
  | [c], l => match l with
    | k :: r => if isT (c.toNat : Int) k = true then decide (r.length = 0) else false
    | [] => false
  | c :: d :: rr, l =>
    if d = 42 then rowP rr (l.dropWhile (isT (c.toNat : Int)))
    else match l with
      | k :: r => if isT (c.toNat : Int) k = true then (if d = 63 then rowP rr r else rowP (d :: rr) r) else (if d = 63 then rowP rr (k :: r) else false)
      | [] => if d = 63 then rowP rr [] else false
theorem rowP_star (c : UInt8) (rr : List UInt8) (l : List T) : rowP (c :: 42 :: rr) l = rowP rr (l.dropWhile (isT (c.toNat : Int))) := by
  rw [rowP.eq_def]
  simp
theorem rowP_q (c : UInt8) (rr : List UInt8) (l : List T) : rowP (c :: 63 :: rr) l = rowP rr (match l with | k :: r => if isT (c.toNat : Int) k = true then r else k :: r | [] => []) := by
  rw [rowP.eq_def]
  cases l with
  | nil => simp
  | cons k r => cases h : isT (c.toNat : Int) k <;> simp [h]
theorem rowP_d {c d : UInt8} {rr : List UInt8} {l : List T} (h1 : d ≠ 42) (h2 : d ≠ 63) : rowP (c :: d :: rr) l = match l with | k :: r => if isT (c.toNat : Int) k = true then rowP (d :: rr) r else false | [] => false := by
  rw [rowP.eq_def]
  cases l with
  | nil => simp [h1, h2]
  | cons k r => cases h : isT (c.toNat : Int) k <;> simp [h, h1, h2]
theorem rowP_nil (l : List T) : rowP [] l = decide (l.length = 0) := by rw [rowP.eq_def]
theorem rowP_1 (c : UInt8) (l : List T) : rowP [c] l = match l with | k :: r => if isT (c.toNat : Int) k = true then rowP [] r else false | [] => false := by
  rw [rowP.eq_def]
  cases l with
  | nil => simp
  | cons k r => simp [rowP_nil]
attribute [local irreducible] isT G GC GQ GA GAop Calls IntKind.wrap Int.decLt Int.decLe
theorem row_spec (s : ByteArray) (hsz : s.size ≤ 1000) (ks : List T) (A : Option Addr) (n c : Nat) (w : World) (μ : Mem) (hμ : MOk μ w) (hk : KR μ ks (.slice A n c)) (hkn : ks.length = n) (hn : n ≤ 100000) (hks : ∀ k ∈ ks, T.size k ≤ 100000 ∧ k.s.size ≤ 65536) :
    Calls Tryd.prog 26 #[.string s, .slice A n c] w fun e w' => e = .returned (.bool (rowP (bl s) ks)) ∧ Below w.heap.size w w' := by
  refine call_intro (args := [.string s, .slice A n c]) Tryd.func26 rfl Tryd.ntmps26 (by simp) hμ ?_
  have his := fun (c : Int) (t : T) (u : Value) (w : World) (μc : Mem) (hw : MOk μc w) (hk : KR μc t.kids u) (h1 : t.size ≤ 100000) (h2 : t.s.size ≤ 65536) => is_spec rest_spec c t u w μc hw hk h1 h2
  generalize hR : rowP (bl s) ks = R
  repeat' (first | refine KK ?_ | ((refine KB ?_ ?_ <;> intro hp)) | refine KG ?_ | fail)
  refine gc_loop (ι := Nat × Nat × Option Addr × Nat) (fun i => i.1 ≤ s.size ∧ i.2.1 ≤ n ∧ KR μ (ks.drop i.2.1) (.slice i.2.2.1 (n - i.2.1) i.2.2.2) ∧ rowP ((bl s).drop i.1) (ks.drop i.2.1) = R) (fun i => s.size - i.1) (fun _ => μ) (fun i => [(5, .int .i64 i.1), (0, .string s), (1, .slice i.2.2.1 (n - i.2.1) i.2.2.2)]) (fun _ => []) (0, 0, A, c) ⟨by simp, by simp, by simpa using hk, by simpa using hR⟩ (fun a w hs => J6 hs) ?_
  rintro ⟨i, j, Aj, cj⟩ ⟨hi, hj, hkj, hRj⟩
  dsimp only at hi hj hkj hRj ⊢
  by_cases hlt : i < s.size
  · obtain ⟨x, hx1, hx2⟩ := bl_at (s := s) (i := i) hlt
    have hxd := drop_cons hx1
    rw [hxd] at hRj
    have hkl : (ks.drop j).length = n - j := by rw [List.length_drop, hkn]
    by_cases hlt2 : i + 1 < s.size
    · obtain ⟨y, hy1, hy2⟩ := bl_at (s := s) (i := i + 1) hlt2
      have hyd := drop_cons hy1
      rw [hyd] at hRj
      have hyl := y.toNat_lt
      by_cases hst : y = 42
      · subst hst
        have hy3 : bAt s (i + 1) = 42 := hy2
        repeat' (first | refine KO ?_ | (refine KV (b := by first | exact U2 (i + 1)) (c := ?_)) | refine KI ?_ | ((refine KB ?_ ?_ <;> intro hp)) | refine KG ?_ | fail)
        rw [rowP_star, ← hx2] at hRj
        refine gc_loop (ι := Nat × Option Addr × Nat) (fun q => q.1 ≤ n ∧ KR μ (ks.drop q.1) (.slice q.2.1 (n - q.1) q.2.2) ∧ (ks.drop q.1).dropWhile (isT (bAt s i)) = (ks.drop j).dropWhile (isT (bAt s i))) (fun q => n - q.1) (fun _ => μ) (fun q => [(5, .int .i64 i), (0, .string s), (1, .slice q.2.1 (n - q.1) q.2.2)]) (fun _ => []) (j, Aj, cj) ⟨hj, hkj, rfl⟩ (fun a w hs => J5 hs) ?_
        rintro ⟨j2, A2, c2⟩ ⟨hj2, hk2, he2⟩
        dsimp only at hj2 hk2 he2 ⊢
        have hend : (ks.drop j2).dropWhile (isT (bAt s i)) = ks.drop j2 → rowP ((bl s).drop (i + 2)) (ks.drop j2) = R := fun h => by rw [← hRj, ← he2, h]
        by_cases hlt3 : j2 < n
        · have hkk : ks[j2]? = some ks[j2] := List.getElem?_eq_getElem (by omega)
          generalize ks[j2] = t at hkk
          have hdt := drop_cons' hkk
          have hkt := hk2.drop1 (by omega)
          rw [List.drop_drop] at hkt
          obtain ⟨A', c', e, hlc, hget⟩ := hk2.form
          have hkl2 : (ks.drop j2).length = n - j2 := by rw [List.length_drop, hkn]
          rw [hkl2] at e hlc
          cases e
          obtain ⟨ad2, u2, rfl, hm2, ho2, hkx⟩ := hget 0 t (by rw [hdt]; rfl)
          have hts := hks t (List.mem_of_getElem? hkk)
          have hcall := fun (w : World) (μc : Mem) (hw : MOk μc w) (hle : MLe μ μc) => his (bAt s i) t u2 w μc hw (hkx.mono hle) hts.1 hts.2
          cases hp1 : isT (bAt s i) t
          · have hE := hend (by rw [hdt, List.dropWhile_cons, if_neg (by simp [hp1])])
            rw [hp1] at hcall
            repeat' (first | refine KK ?_ | ((refine KB ?_ ?_ <;> intro hp)) | refine KG ?_ | fail)
            refine gc_draw 12 ([]) (by kernel_rfl) rfl (by first | exact List.Sublist.refl _ | simp) ?_
            all_goals refine DD 0 ?_
            all_goals (first | refine D1 1 ?_ | (refine DV (k := 1) (b := by first | exact U2 i | exact U1 0 | exact U4 hm2) (c := ?_)) | refine DD 1 ?_ | fail)
            all_goals (first | refine D1 2 ?_ | (refine DV (k := 2) (b := by first | exact U2 i | exact U1 0 | exact U4 hm2) (c := ?_)) | refine DD 2 ?_ | fail)
            all_goals refine DD 3 ?_
            all_goals (try (refine D7 4 ?_; (repeat' (first | refine KO ?_ | (refine KB ?_ ?_ <;> intro hp)))))
            all_goals refine DD 4 ?_
            all_goals refine DD 5 ?_
            all_goals (first | refine D1 6 ?_ | (refine DV (k := 6) (b := by first | exact U2 i | exact U1 0 | exact U4 hm2) (c := ?_)) | refine DD 6 ?_ | fail)
            all_goals refine DD 7 ?_
            all_goals (first | refine D1 8 ?_ | (refine DV (k := 8) (b := by first | exact U2 i | exact U1 0 | exact U4 hm2) (c := ?_)) | refine DD 8 ?_ | fail)
            all_goals (first | refine D1 9 ?_ | (refine DV (k := 9) (b := by first | exact U2 i | exact U1 0 | exact U4 hm2) (c := ?_)) | (refine D3 9 (DW (b := by first | exact U2 i | exact U1 0 | exact U4 hm2) (c := ?_))) | refine DD 9 ?_ | fail)
            all_goals (first | (refine D3 10 ?_; refine D5 ?_; (with_reducible apply C1); exact rfl; exact EN; exact fun w μc hw hse => hcall w μc hw hse.le; refine D9 ?_) | refine D3 10 (D6 ?_))
            all_goals refine DD 11 ?_
            all_goals refine D8 ?_
            all_goals
              repeat' (first | refine KK ?_ | ((refine KB ?_ ?_ <;> intro hp)) | refine KG ?_ | fail)
            all_goals first
              | exact J2 (i + 2, j2, _, _) ⟨by show i + 2 ≤ s.size; omega, hj2, hk2, hE⟩ (by show s.size - (i + 2) < s.size - i; omega)
              | (exfalso; omega)
          · rw [hp1] at hcall
            have hE : (ks.drop (j2 + 1)).dropWhile (isT (bAt s i)) = (ks.drop j).dropWhile (isT (bAt s i)) := by rw [← he2, hdt, List.dropWhile_cons, if_pos hp1]
            repeat' (first | refine KK ?_ | ((refine KB ?_ ?_ <;> intro hp)) | refine KG ?_ | fail)
            refine gc_draw 12 ([]) (by kernel_rfl) rfl (by first | exact List.Sublist.refl _ | simp) ?_
            all_goals refine DD 0 ?_
            all_goals (first | refine D1 1 ?_ | (refine DV (k := 1) (b := by first | exact U2 i | exact U1 0 | exact U4 hm2) (c := ?_)) | refine DD 1 ?_ | fail)
            all_goals (first | refine D1 2 ?_ | (refine DV (k := 2) (b := by first | exact U2 i | exact U1 0 | exact U4 hm2) (c := ?_)) | refine DD 2 ?_ | fail)
            all_goals refine DD 3 ?_
            all_goals (try (refine D7 4 ?_; (repeat' (first | refine KO ?_ | (refine KB ?_ ?_ <;> intro hp)))))
            all_goals refine DD 4 ?_
            all_goals refine DD 5 ?_
            all_goals (first | refine D1 6 ?_ | (refine DV (k := 6) (b := by first | exact U2 i | exact U1 0 | exact U4 hm2) (c := ?_)) | refine DD 6 ?_ | fail)
            all_goals refine DD 7 ?_
            all_goals (first | refine D1 8 ?_ | (refine DV (k := 8) (b := by first | exact U2 i | exact U1 0 | exact U4 hm2) (c := ?_)) | refine DD 8 ?_ | fail)
            all_goals (first | refine D1 9 ?_ | (refine DV (k := 9) (b := by first | exact U2 i | exact U1 0 | exact U4 hm2) (c := ?_)) | (refine D3 9 (DW (b := by first | exact U2 i | exact U1 0 | exact U4 hm2) (c := ?_))) | refine DD 9 ?_ | fail)
            all_goals (first | (refine D3 10 ?_; refine D5 ?_; (with_reducible apply C1); exact rfl; exact EN; exact fun w μc hw hse => hcall w μc hw hse.le; refine D9 ?_) | refine D3 10 (D6 ?_))
            all_goals refine DD 11 ?_
            all_goals refine D8 ?_
            all_goals
              repeat' (first | refine KO ?_ | (refine KV (b := by first | ((with_reducible apply v_slice_lo 1); exact rfl; exact rfl; exact rfl; exact rfl; exact rfl; omega)) (c := ?_)) | refine KI ?_ | ((refine KB ?_ ?_ <;> intro hp)) | refine KG ?_ | fail)
            all_goals first
              | exact J2 (j2 + 1, _, _) ⟨by show j2 + 1 ≤ n; omega, hkt, hE⟩ (by show n - (j2 + 1) < n - j2; omega)
              | (exfalso; omega)
        · obtain rfl : j2 = n := by omega
          have hdt : ks.drop j2 = [] := List.drop_of_length_le (by omega)
          have hE := hend (by rw [hdt]; rfl)
          repeat' (first | refine KK ?_ | ((refine KB ?_ ?_ <;> intro hp)) | refine KG ?_ | fail)
          refine gc_draw 12 ([]) (by kernel_rfl) rfl (by first | exact List.Sublist.refl _ | simp) ?_
          all_goals refine DD 0 ?_
          all_goals (first | refine D1 1 ?_ | (refine DV (k := 1) (b := by first | exact U2 i | exact U1 0) (c := ?_)) | refine DD 1 ?_ | fail)
          all_goals (first | refine D1 2 ?_ | (refine DV (k := 2) (b := by first | exact U2 i | exact U1 0) (c := ?_)) | refine DD 2 ?_ | fail)
          all_goals refine DD 3 ?_
          all_goals (try (refine D7 4 ?_; (repeat' (first | refine KO ?_ | (refine KB ?_ ?_ <;> intro hp)))))
          all_goals refine DD 4 ?_
          all_goals refine DD 5 ?_
          all_goals (first | refine D1 6 ?_ | (refine DV (k := 6) (b := by first | exact U2 i | exact U1 0) (c := ?_)) | refine DD 6 ?_ | fail)
          all_goals refine DD 7 ?_
          all_goals (first | refine D1 8 ?_ | (refine DV (k := 8) (b := by first | exact U2 i | exact U1 0) (c := ?_)) | refine DD 8 ?_ | fail)
          all_goals (first | refine D1 9 ?_ | (refine DV (k := 9) (b := by first | exact U2 i | exact U1 0) (c := ?_)) | (refine D3 9 (DW (b := by first | exact U2 i | exact U1 0) (c := ?_))) | refine DD 9 ?_ | fail)
          all_goals (first | (refine D3 10 ?_; refine D5 ?_; (with_reducible apply C1); exact rfl; exact EN; fail; refine D9 ?_) | refine D3 10 (D6 ?_))
          all_goals refine DD 11 ?_
          all_goals refine D8 ?_
          all_goals
            repeat' (first | refine KK ?_ | ((refine KB ?_ ?_ <;> intro hp)) | refine KG ?_ | fail)
          all_goals first
            | exact J2 (i + 2, j2, _, _) ⟨by show i + 2 ≤ s.size; omega, hj2, hk2, hE⟩ (by show s.size - (i + 2) < s.size - i; omega)
            | (exfalso; omega)
      · have hy42 : bAt s (i + 1) ≠ 42 := fun h => hst (UInt8.toNat_inj.1 (by rw [hy2] at h; simpa using (by omega : y.toNat = 42)))
        by_cases hqm : y = 63
        · subst hqm
          have hy3 : bAt s (i + 1) = 63 := hy2
          rw [rowP_q, ← hx2] at hRj
          by_cases hlt3 : j < n
          · have hkk : ks[j]? = some ks[j] := List.getElem?_eq_getElem (by omega)
            generalize ks[j] = t at hkk
            have hdt := drop_cons' hkk
            have hkt := hkj.drop1 (by omega)
            rw [List.drop_drop] at hkt
            obtain ⟨A', c', e, hlc, hget⟩ := hkj.form
            rw [hkl] at e hlc
            cases e
            obtain ⟨ad2, u2, rfl, hm2, ho2, hkx⟩ := hget 0 t (by rw [hdt]; rfl)
            have hts := hks t (List.mem_of_getElem? hkk)
            have hcall := fun (w : World) (μc : Mem) (hw : MOk μc w) (hle : MLe μ μc) => his (bAt s i) t u2 w μc hw (hkx.mono hle) hts.1 hts.2
            rw [hdt] at hRj
            dsimp only at hRj
            cases hp1 : isT (bAt s i) t
            · rw [hp1, if_neg (by simp)] at hRj
              rw [hp1] at hcall
              rw [← hdt] at hRj
              repeat' (first | refine KO ?_ | (refine KV (b := by first | exact U2 i | exact U2 (i + 1) | exact U1 0) (c := ?_)) | refine KI ?_ | ((refine KB ?_ ?_ <;> intro hp)) | refine KG ?_ | fail)
              refine gc_draw 13 ([]) (by kernel_rfl) rfl (by first | exact List.Sublist.refl _ | simp) ?_
              all_goals refine DD 0 ?_
              all_goals (first | refine D1 1 ?_ | (refine DV (k := 1) (b := by first | exact U2 i | exact U2 (i + 1) | exact U1 0 | exact U4 hm2) (c := ?_)) | refine DD 1 ?_ | fail)
              all_goals (first | refine D1 2 ?_ | (refine DV (k := 2) (b := by first | exact U2 i | exact U2 (i + 1) | exact U1 0 | exact U4 hm2) (c := ?_)) | refine DD 2 ?_ | fail)
              all_goals refine DD 3 ?_
              all_goals (try (refine D7 4 ?_; (repeat' (first | refine KO ?_ | (refine KB ?_ ?_ <;> intro hp)))))
              all_goals refine DD 4 ?_
              all_goals refine DD 5 ?_
              all_goals (first | refine D1 6 ?_ | (refine DV (k := 6) (b := by first | exact U2 i | exact U2 (i + 1) | exact U1 0 | exact U4 hm2) (c := ?_)) | refine DD 6 ?_ | fail)
              all_goals refine DD 7 ?_
              all_goals (first | refine D1 8 ?_ | (refine DV (k := 8) (b := by first | exact U2 i | exact U2 (i + 1) | exact U1 0 | exact U4 hm2) (c := ?_)) | refine DD 8 ?_ | fail)
              all_goals (first | refine D1 9 ?_ | (refine DV (k := 9) (b := by first | exact U2 i | exact U2 (i + 1) | exact U1 0 | exact U4 hm2) (c := ?_)) | (refine D3 9 (DW (b := by first | exact U2 i | exact U2 (i + 1) | exact U1 0 | exact U4 hm2) (c := ?_))) | refine DD 9 ?_ | fail)
              all_goals (first | (refine D3 10 ?_; refine D5 ?_; (with_reducible apply C1); exact rfl; exact EN; exact fun w μc hw hse => hcall w μc hw hse.le; refine D9 ?_) | refine D3 10 (D6 ?_))
              all_goals refine DD 11 ?_
              all_goals refine DD 12 ?_
              all_goals refine D8 ?_
              all_goals
                repeat' (first | refine KO ?_ | (refine KV (b := by first | ((with_reducible apply v_slice_lo 1); exact rfl; exact rfl; exact rfl; exact rfl; exact rfl; omega)) (c := ?_)) | refine KI ?_ | ((refine KB ?_ ?_ <;> intro hp)) | refine KG ?_ | fail)
              all_goals first | exact J2 (i + 2, j, _, _) ⟨by show i + 2 ≤ s.size; omega, hj, hkj, hRj⟩ (by show s.size - (i + 2) < s.size - i; omega) | (exfalso; omega)
            · rw [hp1, if_pos rfl] at hRj
              rw [hp1] at hcall
              repeat' (first | refine KO ?_ | (refine KV (b := by first | exact U2 i | exact U2 (i + 1) | exact U1 0) (c := ?_)) | refine KI ?_ | ((refine KB ?_ ?_ <;> intro hp)) | refine KG ?_ | fail)
              refine gc_draw 13 ([]) (by kernel_rfl) rfl (by first | exact List.Sublist.refl _ | simp) ?_
              all_goals refine DD 0 ?_
              all_goals (first | refine D1 1 ?_ | (refine DV (k := 1) (b := by first | exact U2 i | exact U2 (i + 1) | exact U1 0 | exact U4 hm2) (c := ?_)) | refine DD 1 ?_ | fail)
              all_goals (first | refine D1 2 ?_ | (refine DV (k := 2) (b := by first | exact U2 i | exact U2 (i + 1) | exact U1 0 | exact U4 hm2) (c := ?_)) | refine DD 2 ?_ | fail)
              all_goals refine DD 3 ?_
              all_goals (try (refine D7 4 ?_; (repeat' (first | refine KO ?_ | (refine KB ?_ ?_ <;> intro hp)))))
              all_goals refine DD 4 ?_
              all_goals refine DD 5 ?_
              all_goals (first | refine D1 6 ?_ | (refine DV (k := 6) (b := by first | exact U2 i | exact U2 (i + 1) | exact U1 0 | exact U4 hm2) (c := ?_)) | refine DD 6 ?_ | fail)
              all_goals refine DD 7 ?_
              all_goals (first | refine D1 8 ?_ | (refine DV (k := 8) (b := by first | exact U2 i | exact U2 (i + 1) | exact U1 0 | exact U4 hm2) (c := ?_)) | refine DD 8 ?_ | fail)
              all_goals (first | refine D1 9 ?_ | (refine DV (k := 9) (b := by first | exact U2 i | exact U2 (i + 1) | exact U1 0 | exact U4 hm2) (c := ?_)) | (refine D3 9 (DW (b := by first | exact U2 i | exact U2 (i + 1) | exact U1 0 | exact U4 hm2) (c := ?_))) | refine DD 9 ?_ | fail)
              all_goals (first | (refine D3 10 ?_; refine D5 ?_; (with_reducible apply C1); exact rfl; exact EN; exact fun w μc hw hse => hcall w μc hw hse.le; refine D9 ?_) | refine D3 10 (D6 ?_))
              all_goals refine DD 11 ?_
              all_goals refine DD 12 ?_
              all_goals refine D8 ?_
              all_goals
                repeat' (first | refine KO ?_ | (refine KV (b := by first | ((with_reducible apply v_slice_lo 1); exact rfl; exact rfl; exact rfl; exact rfl; exact rfl; omega)) (c := ?_)) | refine KI ?_ | ((refine KB ?_ ?_ <;> intro hp)) | refine KG ?_ | fail)
              all_goals first | exact J2 (i + 2, j + 1, _, _) ⟨by show i + 2 ≤ s.size; omega, by show j + 1 ≤ n; omega, hkt, hRj⟩ (by show s.size - (i + 2) < s.size - i; omega) | (exfalso; omega)
          · obtain rfl : j = n := by omega
            have hdt : ks.drop j = [] := List.drop_of_length_le (by omega)
            rw [hdt] at hRj
            dsimp only at hRj
            rw [← hdt] at hRj
            repeat' (first | refine KO ?_ | (refine KV (b := by first | exact U2 i | exact U2 (i + 1) | exact U1 0) (c := ?_)) | refine KI ?_ | ((refine KB ?_ ?_ <;> intro hp)) | refine KG ?_ | fail)
            refine gc_draw 13 ([]) (by kernel_rfl) rfl (by first | exact List.Sublist.refl _ | simp) ?_
            all_goals refine DD 0 ?_
            all_goals (first | refine D1 1 ?_ | (refine DV (k := 1) (b := by first | exact U2 i | exact U2 (i + 1) | exact U1 0) (c := ?_)) | refine DD 1 ?_ | fail)
            all_goals (first | refine D1 2 ?_ | (refine DV (k := 2) (b := by first | exact U2 i | exact U2 (i + 1) | exact U1 0) (c := ?_)) | refine DD 2 ?_ | fail)
            all_goals refine DD 3 ?_
            all_goals (try (refine D7 4 ?_; (repeat' (first | refine KO ?_ | (refine KB ?_ ?_ <;> intro hp)))))
            all_goals refine DD 4 ?_
            all_goals refine DD 5 ?_
            all_goals (first | refine D1 6 ?_ | (refine DV (k := 6) (b := by first | exact U2 i | exact U2 (i + 1) | exact U1 0) (c := ?_)) | refine DD 6 ?_ | fail)
            all_goals refine DD 7 ?_
            all_goals (first | refine D1 8 ?_ | (refine DV (k := 8) (b := by first | exact U2 i | exact U2 (i + 1) | exact U1 0) (c := ?_)) | refine DD 8 ?_ | fail)
            all_goals (first | refine D1 9 ?_ | (refine DV (k := 9) (b := by first | exact U2 i | exact U2 (i + 1) | exact U1 0) (c := ?_)) | (refine D3 9 (DW (b := by first | exact U2 i | exact U2 (i + 1) | exact U1 0) (c := ?_))) | refine DD 9 ?_ | fail)
            all_goals (first | (refine D3 10 ?_; refine D5 ?_; (with_reducible apply C1); exact rfl; exact EN; fail; refine D9 ?_) | refine D3 10 (D6 ?_))
            all_goals refine DD 11 ?_
            all_goals refine DD 12 ?_
            all_goals refine D8 ?_
            all_goals
              repeat' (first | refine KK ?_ | ((refine KB ?_ ?_ <;> intro hp)) | refine KG ?_ | fail)
            all_goals first | exact J2 (i + 2, j, _, _) ⟨by show i + 2 ≤ s.size; omega, hj, hkj, hRj⟩ (by show s.size - (i + 2) < s.size - i; omega) | (exfalso; omega)
        · have hy63 : bAt s (i + 1) ≠ 63 := fun h => hqm (UInt8.toNat_inj.1 (by rw [hy2] at h; simpa using (by omega : y.toNat = 63)))
          rw [rowP_d hst hqm, ← hx2, ← hyd] at hRj
          by_cases hlt3 : j < n
          · have hkk : ks[j]? = some ks[j] := List.getElem?_eq_getElem (by omega)
            generalize ks[j] = t at hkk
            have hdt := drop_cons' hkk
            have hkt := hkj.drop1 (by omega)
            rw [List.drop_drop] at hkt
            obtain ⟨A', c', e, hlc, hget⟩ := hkj.form
            rw [hkl] at e hlc
            cases e
            obtain ⟨ad2, u2, rfl, hm2, ho2, hkx⟩ := hget 0 t (by rw [hdt]; rfl)
            have hts := hks t (List.mem_of_getElem? hkk)
            have hcall := fun (w : World) (μc : Mem) (hw : MOk μc w) (hle : MLe μ μc) => his (bAt s i) t u2 w μc hw (hkx.mono hle) hts.1 hts.2
            rw [hdt] at hRj
            dsimp only at hRj
            cases hp1 : isT (bAt s i) t
            · rw [hp1, if_neg (by simp)] at hRj
              rw [hp1] at hcall
              repeat' (first | refine KO ?_ | (refine KV (b := by first | exact U2 i | exact U2 (i + 1) | exact U1 0) (c := ?_)) | refine KI ?_ | ((refine KB ?_ ?_ <;> intro hp)) | refine KG ?_ | fail)
              refine gc_draw 13 ([]) (by kernel_rfl) rfl (by first | exact List.Sublist.refl _ | simp) ?_
              all_goals refine DD 0 ?_
              all_goals (first | refine D1 1 ?_ | (refine DV (k := 1) (b := by first | exact U2 i | exact U2 (i + 1) | exact U1 0 | exact U4 hm2) (c := ?_)) | refine DD 1 ?_ | fail)
              all_goals (first | refine D1 2 ?_ | (refine DV (k := 2) (b := by first | exact U2 i | exact U2 (i + 1) | exact U1 0 | exact U4 hm2) (c := ?_)) | refine DD 2 ?_ | fail)
              all_goals refine DD 3 ?_
              all_goals (try (refine D7 4 ?_; (repeat' (first | refine KO ?_ | (refine KB ?_ ?_ <;> intro hp)))))
              all_goals refine DD 4 ?_
              all_goals refine DD 5 ?_
              all_goals (first | refine D1 6 ?_ | (refine DV (k := 6) (b := by first | exact U2 i | exact U2 (i + 1) | exact U1 0 | exact U4 hm2) (c := ?_)) | refine DD 6 ?_ | fail)
              all_goals refine DD 7 ?_
              all_goals (first | refine D1 8 ?_ | (refine DV (k := 8) (b := by first | exact U2 i | exact U2 (i + 1) | exact U1 0 | exact U4 hm2) (c := ?_)) | refine DD 8 ?_ | fail)
              all_goals (first | refine D1 9 ?_ | (refine DV (k := 9) (b := by first | exact U2 i | exact U2 (i + 1) | exact U1 0 | exact U4 hm2) (c := ?_)) | (refine D3 9 (DW (b := by first | exact U2 i | exact U2 (i + 1) | exact U1 0 | exact U4 hm2) (c := ?_))) | refine DD 9 ?_ | fail)
              all_goals (first | (refine D3 10 ?_; refine D5 ?_; (with_reducible apply C1); exact rfl; exact EN; exact fun w μc hw hse => hcall w μc hw hse.le; refine D9 ?_) | refine D3 10 (D6 ?_))
              all_goals refine DD 11 ?_
              all_goals refine DD 12 ?_
              all_goals refine D8 ?_
              all_goals
                repeat' (first | refine KO ?_ | (refine KV (b := by first | ((with_reducible apply v_slice_lo 1); exact rfl; exact rfl; exact rfl; exact rfl; exact rfl; omega)) (c := ?_)) | refine KI ?_ | ((refine KB ?_ ?_ <;> intro hp)) | refine KG ?_ | fail)
              all_goals first | exact ret_s rfl rfl (congrArg _ hRj) | (exfalso; omega)
            · rw [hp1, if_pos rfl] at hRj
              rw [hp1] at hcall
              repeat' (first | refine KO ?_ | (refine KV (b := by first | exact U2 i | exact U2 (i + 1) | exact U1 0) (c := ?_)) | refine KI ?_ | ((refine KB ?_ ?_ <;> intro hp)) | refine KG ?_ | fail)
              refine gc_draw 13 ([]) (by kernel_rfl) rfl (by first | exact List.Sublist.refl _ | simp) ?_
              all_goals refine DD 0 ?_
              all_goals (first | refine D1 1 ?_ | (refine DV (k := 1) (b := by first | exact U2 i | exact U2 (i + 1) | exact U1 0 | exact U4 hm2) (c := ?_)) | refine DD 1 ?_ | fail)
              all_goals (first | refine D1 2 ?_ | (refine DV (k := 2) (b := by first | exact U2 i | exact U2 (i + 1) | exact U1 0 | exact U4 hm2) (c := ?_)) | refine DD 2 ?_ | fail)
              all_goals refine DD 3 ?_
              all_goals (try (refine D7 4 ?_; (repeat' (first | refine KO ?_ | (refine KB ?_ ?_ <;> intro hp)))))
              all_goals refine DD 4 ?_
              all_goals refine DD 5 ?_
              all_goals (first | refine D1 6 ?_ | (refine DV (k := 6) (b := by first | exact U2 i | exact U2 (i + 1) | exact U1 0 | exact U4 hm2) (c := ?_)) | refine DD 6 ?_ | fail)
              all_goals refine DD 7 ?_
              all_goals (first | refine D1 8 ?_ | (refine DV (k := 8) (b := by first | exact U2 i | exact U2 (i + 1) | exact U1 0 | exact U4 hm2) (c := ?_)) | refine DD 8 ?_ | fail)
              all_goals (first | refine D1 9 ?_ | (refine DV (k := 9) (b := by first | exact U2 i | exact U2 (i + 1) | exact U1 0 | exact U4 hm2) (c := ?_)) | (refine D3 9 (DW (b := by first | exact U2 i | exact U2 (i + 1) | exact U1 0 | exact U4 hm2) (c := ?_))) | refine DD 9 ?_ | fail)
              all_goals (first | (refine D3 10 ?_; refine D5 ?_; (with_reducible apply C1); exact rfl; exact EN; exact fun w μc hw hse => hcall w μc hw hse.le; refine D9 ?_) | refine D3 10 (D6 ?_))
              all_goals refine DD 11 ?_
              all_goals refine DD 12 ?_
              all_goals refine D8 ?_
              all_goals
                repeat' (first | refine KO ?_ | (refine KV (b := by first | ((with_reducible apply v_slice_lo 1); exact rfl; exact rfl; exact rfl; exact rfl; exact rfl; omega)) (c := ?_)) | refine KI ?_ | ((refine KB ?_ ?_ <;> intro hp)) | refine KG ?_ | fail)
              all_goals first | exact J2 (i + 1, j + 1, _, _) ⟨by show i + 1 ≤ s.size; omega, by show j + 1 ≤ n; omega, hkt, hRj⟩ (by show s.size - (i + 1) < s.size - i; omega) | (exfalso; omega)
          · obtain rfl : j = n := by omega
            have hdt : ks.drop j = [] := List.drop_of_length_le (by omega)
            rw [hdt] at hRj
            dsimp only at hRj
            repeat' (first | refine KO ?_ | (refine KV (b := by first | exact U2 i | exact U2 (i + 1) | exact U1 0) (c := ?_)) | refine KI ?_ | ((refine KB ?_ ?_ <;> intro hp)) | refine KG ?_ | fail)
            refine gc_draw 13 ([]) (by kernel_rfl) rfl (by first | exact List.Sublist.refl _ | simp) ?_
            all_goals refine DD 0 ?_
            all_goals (first | refine D1 1 ?_ | (refine DV (k := 1) (b := by first | exact U2 i | exact U2 (i + 1) | exact U1 0) (c := ?_)) | refine DD 1 ?_ | fail)
            all_goals (first | refine D1 2 ?_ | (refine DV (k := 2) (b := by first | exact U2 i | exact U2 (i + 1) | exact U1 0) (c := ?_)) | refine DD 2 ?_ | fail)
            all_goals refine DD 3 ?_
            all_goals (try (refine D7 4 ?_; (repeat' (first | refine KO ?_ | (refine KB ?_ ?_ <;> intro hp)))))
            all_goals refine DD 4 ?_
            all_goals refine DD 5 ?_
            all_goals (first | refine D1 6 ?_ | (refine DV (k := 6) (b := by first | exact U2 i | exact U2 (i + 1) | exact U1 0) (c := ?_)) | refine DD 6 ?_ | fail)
            all_goals refine DD 7 ?_
            all_goals (first | refine D1 8 ?_ | (refine DV (k := 8) (b := by first | exact U2 i | exact U2 (i + 1) | exact U1 0) (c := ?_)) | refine DD 8 ?_ | fail)
            all_goals (first | refine D1 9 ?_ | (refine DV (k := 9) (b := by first | exact U2 i | exact U2 (i + 1) | exact U1 0) (c := ?_)) | (refine D3 9 (DW (b := by first | exact U2 i | exact U2 (i + 1) | exact U1 0) (c := ?_))) | refine DD 9 ?_ | fail)
            all_goals (first | (refine D3 10 ?_; refine D5 ?_; (with_reducible apply C1); exact rfl; exact EN; fail; refine D9 ?_) | refine D3 10 (D6 ?_))
            all_goals refine DD 11 ?_
            all_goals refine DD 12 ?_
            all_goals refine D8 ?_
            all_goals
              repeat' (first | refine KK ?_ | ((refine KB ?_ ?_ <;> intro hp)) | refine KG ?_ | fail)
            all_goals first | exact ret_s rfl rfl (congrArg _ hRj) | (exfalso; omega)
    · have hd1 : (bl s).drop (i + 1) = [] := List.drop_of_length_le (by rw [bl_len]; omega)
      rw [hd1, rowP_1, ← hx2, ← hd1] at hRj
      by_cases hlt3 : j < n
      · have hkk : ks[j]? = some ks[j] := List.getElem?_eq_getElem (by omega)
        generalize ks[j] = t at hkk
        have hdt := drop_cons' hkk
        have hkt := hkj.drop1 (by omega)
        rw [List.drop_drop] at hkt
        obtain ⟨A', c', e, hlc, hget⟩ := hkj.form
        rw [hkl] at e hlc
        cases e
        obtain ⟨ad2, u2, rfl, hm2, ho2, hkx⟩ := hget 0 t (by rw [hdt]; rfl)
        have hts := hks t (List.mem_of_getElem? hkk)
        have hcall := fun (w : World) (μc : Mem) (hw : MOk μc w) (hle : MLe μ μc) => his (bAt s i) t u2 w μc hw (hkx.mono hle) hts.1 hts.2
        rw [hdt] at hRj
        dsimp only at hRj
        cases hp1 : isT (bAt s i) t
        · rw [hp1, if_neg (by simp)] at hRj
          rw [hp1] at hcall
          repeat' (first | refine KO ?_ | (refine KV (b := by first | exact U2 i | exact U2 (i + 1) | exact U1 0) (c := ?_)) | refine KI ?_ | ((refine KB ?_ ?_ <;> intro hp)) | refine KG ?_ | fail)
          refine gc_draw 13 ([]) (by kernel_rfl) rfl (by first | exact List.Sublist.refl _ | simp) ?_
          all_goals refine DD 0 ?_
          all_goals (first | refine D1 1 ?_ | (refine DV (k := 1) (b := by first | exact U2 i | exact U2 (i + 1) | exact U1 0 | exact U4 hm2) (c := ?_)) | refine DD 1 ?_ | fail)
          all_goals (first | refine D1 2 ?_ | (refine DV (k := 2) (b := by first | exact U2 i | exact U2 (i + 1) | exact U1 0 | exact U4 hm2) (c := ?_)) | refine DD 2 ?_ | fail)
          all_goals refine DD 3 ?_
          all_goals (try (refine D7 4 ?_; (repeat' (first | refine KO ?_ | (refine KB ?_ ?_ <;> intro hp)))))
          all_goals refine DD 4 ?_
          all_goals refine DD 5 ?_
          all_goals (first | refine D1 6 ?_ | (refine DV (k := 6) (b := by first | exact U2 i | exact U2 (i + 1) | exact U1 0 | exact U4 hm2) (c := ?_)) | refine DD 6 ?_ | fail)
          all_goals refine DD 7 ?_
          all_goals (first | refine D1 8 ?_ | (refine DV (k := 8) (b := by first | exact U2 i | exact U2 (i + 1) | exact U1 0 | exact U4 hm2) (c := ?_)) | refine DD 8 ?_ | fail)
          all_goals (first | refine D1 9 ?_ | (refine DV (k := 9) (b := by first | exact U2 i | exact U2 (i + 1) | exact U1 0 | exact U4 hm2) (c := ?_)) | (refine D3 9 (DW (b := by first | exact U2 i | exact U2 (i + 1) | exact U1 0 | exact U4 hm2) (c := ?_))) | refine DD 9 ?_ | fail)
          all_goals (first | (refine D3 10 ?_; refine D5 ?_; (with_reducible apply C1); exact rfl; exact EN; exact fun w μc hw hse => hcall w μc hw hse.le; refine D9 ?_) | refine D3 10 (D6 ?_))
          all_goals refine DD 11 ?_
          all_goals refine DD 12 ?_
          all_goals refine D8 ?_
          all_goals
            repeat' (first | refine KO ?_ | (refine KV (b := by first | ((with_reducible apply v_slice_lo 1); exact rfl; exact rfl; exact rfl; exact rfl; exact rfl; omega)) (c := ?_)) | refine KI ?_ | ((refine KB ?_ ?_ <;> intro hp)) | refine KG ?_ | fail)
          all_goals first | exact ret_s rfl rfl (congrArg _ hRj) | (exfalso; omega)
        · rw [hp1, if_pos rfl] at hRj
          rw [hp1] at hcall
          repeat' (first | refine KO ?_ | (refine KV (b := by first | exact U2 i | exact U2 (i + 1) | exact U1 0) (c := ?_)) | refine KI ?_ | ((refine KB ?_ ?_ <;> intro hp)) | refine KG ?_ | fail)
          refine gc_draw 13 ([]) (by kernel_rfl) rfl (by first | exact List.Sublist.refl _ | simp) ?_
          all_goals refine DD 0 ?_
          all_goals (first | refine D1 1 ?_ | (refine DV (k := 1) (b := by first | exact U2 i | exact U2 (i + 1) | exact U1 0 | exact U4 hm2) (c := ?_)) | refine DD 1 ?_ | fail)
          all_goals (first | refine D1 2 ?_ | (refine DV (k := 2) (b := by first | exact U2 i | exact U2 (i + 1) | exact U1 0 | exact U4 hm2) (c := ?_)) | refine DD 2 ?_ | fail)
          all_goals refine DD 3 ?_
          all_goals (try (refine D7 4 ?_; (repeat' (first | refine KO ?_ | (refine KB ?_ ?_ <;> intro hp)))))
          all_goals refine DD 4 ?_
          all_goals refine DD 5 ?_
          all_goals (first | refine D1 6 ?_ | (refine DV (k := 6) (b := by first | exact U2 i | exact U2 (i + 1) | exact U1 0 | exact U4 hm2) (c := ?_)) | refine DD 6 ?_ | fail)
          all_goals refine DD 7 ?_
          all_goals (first | refine D1 8 ?_ | (refine DV (k := 8) (b := by first | exact U2 i | exact U2 (i + 1) | exact U1 0 | exact U4 hm2) (c := ?_)) | refine DD 8 ?_ | fail)
          all_goals (first | refine D1 9 ?_ | (refine DV (k := 9) (b := by first | exact U2 i | exact U2 (i + 1) | exact U1 0 | exact U4 hm2) (c := ?_)) | (refine D3 9 (DW (b := by first | exact U2 i | exact U2 (i + 1) | exact U1 0 | exact U4 hm2) (c := ?_))) | refine DD 9 ?_ | fail)
          all_goals (first | (refine D3 10 ?_; refine D5 ?_; (with_reducible apply C1); exact rfl; exact EN; exact fun w μc hw hse => hcall w μc hw hse.le; refine D9 ?_) | refine D3 10 (D6 ?_))
          all_goals refine DD 11 ?_
          all_goals refine DD 12 ?_
          all_goals refine D8 ?_
          all_goals
            repeat' (first | refine KO ?_ | (refine KV (b := by first | ((with_reducible apply v_slice_lo 1); exact rfl; exact rfl; exact rfl; exact rfl; exact rfl; omega)) (c := ?_)) | refine KI ?_ | ((refine KB ?_ ?_ <;> intro hp)) | refine KG ?_ | fail)
          all_goals first | exact J2 (i + 1, j + 1, _, _) ⟨by show i + 1 ≤ s.size; omega, by show j + 1 ≤ n; omega, hkt, hRj⟩ (by show s.size - (i + 1) < s.size - i; omega) | (exfalso; omega)
      · obtain rfl : j = n := by omega
        have hdt : ks.drop j = [] := List.drop_of_length_le (by omega)
        rw [hdt] at hRj
        dsimp only at hRj
        repeat' (first | refine KO ?_ | (refine KV (b := by first | exact U2 i | exact U2 (i + 1) | exact U1 0) (c := ?_)) | refine KI ?_ | ((refine KB ?_ ?_ <;> intro hp)) | refine KG ?_ | fail)
        refine gc_draw 13 ([]) (by kernel_rfl) rfl (by first | exact List.Sublist.refl _ | simp) ?_
        all_goals refine DD 0 ?_
        all_goals (first | refine D1 1 ?_ | (refine DV (k := 1) (b := by first | exact U2 i | exact U2 (i + 1) | exact U1 0) (c := ?_)) | refine DD 1 ?_ | fail)
        all_goals (first | refine D1 2 ?_ | (refine DV (k := 2) (b := by first | exact U2 i | exact U2 (i + 1) | exact U1 0) (c := ?_)) | refine DD 2 ?_ | fail)
        all_goals refine DD 3 ?_
        all_goals (try (refine D7 4 ?_; (repeat' (first | refine KO ?_ | (refine KB ?_ ?_ <;> intro hp)))))
        all_goals refine DD 4 ?_
        all_goals refine DD 5 ?_
        all_goals (first | refine D1 6 ?_ | (refine DV (k := 6) (b := by first | exact U2 i | exact U2 (i + 1) | exact U1 0) (c := ?_)) | refine DD 6 ?_ | fail)
        all_goals refine DD 7 ?_
        all_goals (first | refine D1 8 ?_ | (refine DV (k := 8) (b := by first | exact U2 i | exact U2 (i + 1) | exact U1 0) (c := ?_)) | refine DD 8 ?_ | fail)
        all_goals (first | refine D1 9 ?_ | (refine DV (k := 9) (b := by first | exact U2 i | exact U2 (i + 1) | exact U1 0) (c := ?_)) | (refine D3 9 (DW (b := by first | exact U2 i | exact U2 (i + 1) | exact U1 0) (c := ?_))) | refine DD 9 ?_ | fail)
        all_goals (first | (refine D3 10 ?_; refine D5 ?_; (with_reducible apply C1); exact rfl; exact EN; fail; refine D9 ?_) | refine D3 10 (D6 ?_))
        all_goals refine DD 11 ?_
        all_goals refine DD 12 ?_
        all_goals refine D8 ?_
        all_goals
          repeat' (first | refine KK ?_ | ((refine KB ?_ ?_ <;> intro hp)) | refine KG ?_ | fail)
        all_goals first | exact ret_s rfl rfl (congrArg _ hRj) | (exfalso; omega)
  · obtain rfl : i = s.size := by omega
    rw [List.drop_of_length_le (by rw [bl_len]; omega)] at hRj
    have hR2 : decide (n - j = 0) = R := by rw [← hRj, ← hkn, ← List.length_drop, rowP_nil]
    repeat' (first | refine KK ?_ | ((refine KB ?_ ?_ <;> intro hp)) | refine KG ?_ | fail)
    refine ret_s rfl rfl ?_
    rw [← hR2]
    congr 1
    simp
    try omega
end Go.Proofs.YtnllooebophcpaaDoor
namespace Go.Proofs.YtnllooebophcpaaDoor
open Go.RowKit Go.Vcg
def bodyT (t : T) : T → Bool := if hasT t 128 = true then exprT else ofT [6]
def keyT (t : T) : T → Bool := if t.m = 1 then exprT else ofT [31, 30]
def argsT : T → Bool := eiT [exprT, ofT [41]]
theorem Cls.form {μ : Mem} {v : Value} {p : T → Bool} (h : Cls μ v p) : ∃ (f : FuncId) (cap : List Value), v = .func (.func f) #[] cap.toArray := let ⟨f, cap, e, _⟩ := h; ⟨f, cap, e⟩
theorem cls_expr (μ : Mem) : Cls μ (.func (.func 54) #[] #[]) exprT := Cls.of expression_spec (by kernel_rfl) μ
attribute [local irreducible] G GC GQ GA GAop Calls IntKind.wrap Int.decLt Int.decLe
theorem body_spec (t : T) (u : Value) (w : World) (μ : Mem) (hμ : MOk μ w) (hk : KR μ t.kids u) (hs : t.size ≤ 100000) :
    Calls Tryd.prog 65 #[.agg (encT t u).toArray] w fun e w' => ∃ v μ', e = .returned v ∧ Grow w w' μ μ' ∧ OfPost (bodyT t) μ' v := by
  have ho := hk.one
  refine call_intro (args := [.agg (encT t u).toArray]) Tryd.func65 rfl Tryd.ntmps65 (by simp) hμ ?_
  unfold bodyT
  cases hh : hasT t 128
  · rw [if_neg (by simp)]
    repeat' (first | refine KO ?_ | ((with_reducible apply F1 79); exact rfl; exact EN; (exact fun w μc hw hse => hh ▸ tHas_spec 128 t u w μc hw (hk.mono hse.le) hs)) | (refine CF 55 ?_; (with_reducible apply g_share); exact rfl; intro μs hles hshs; (with_reducible apply g_enter_m); exact rfl; exact rfl; exact rfl; ((with_reducible apply e_call1); kernel_rfl; exact rfl); (exact fun w hw => of_spec [6] _ _ _ w _ hw (sl_lit hshs rfl (by simp) (by repeat first | exact lc_nil | refine lc_cons rfl ?_)) (by omega)); rintro v3 μ3 hle3 hc3) | refine KI ?_ | refine NB fun b => ?_ | ((refine KB ?_ ?_ <;> intro hp)) | refine KG ?_ | fail)
    exact ret_m1 rfl (rv_tmp rfl) (fun μ' hle' hL => Cls.mono hc3 hle')
  · rw [if_pos rfl]
    repeat' (first | refine KO ?_ | ((with_reducible apply F1 79); exact rfl; exact EN; (exact fun w μc hw hse => hh ▸ tHas_spec 128 t u w μc hw (hk.mono hse.le) hs)) | refine KI ?_ | refine NB fun b => ?_ | ((refine KB ?_ ?_ <;> intro hp)) | refine KG ?_ | fail)
    exact ret_m1 rfl (rv_tmp rfl) (fun μ' hle' hL => cls_expr μ')
theorem key_spec (t : T) (u : Value) (w : World) (μ : Mem) (hμ : MOk μ w) (hk : KR μ t.kids u) :
    Calls Tryd.prog 87 #[.agg (encT t u).toArray] w fun e w' => ∃ v μ', e = .returned v ∧ Grow w w' μ μ' ∧ OfPost (keyT t) μ' v := by
  have ho := hk.one
  refine call_intro (args := [.agg (encT t u).toArray]) Tryd.func87 rfl Tryd.ntmps87 (by simp) hμ ?_
  unfold keyT
  by_cases h1 : t.m = 1
  · rw [if_pos h1]
    repeat' (first | refine KK ?_ | refine NB fun b => ?_ | ((refine KB ?_ ?_ <;> intro hp)) | refine KG ?_ | fail)
    exact ret_m1 rfl (rv_tmp rfl) (fun μ' hle' hL => cls_expr μ')
  · rw [if_neg h1]
    repeat' (first | refine KO ?_ | (refine CF 55 ?_; (with_reducible apply g_share); exact rfl; intro μs hles hshs; (with_reducible apply g_enter_m); exact rfl; exact rfl; exact rfl; ((with_reducible apply e_call1); kernel_rfl; exact rfl); (exact fun w hw => of_spec [31, 30] _ _ _ w _ hw (sl_lit hshs rfl (by simp) (by repeat first | exact lc_nil | refine lc_cons rfl ?_)) (by omega)); rintro v3 μ3 hle3 hc3) | refine KI ?_ | refine NB fun b => ?_ | ((refine KB ?_ ?_ <;> intro hp)) | refine KG ?_ | fail)
    exact ret_m1 rfl (rv_tmp rfl) (fun μ' hle' hL => Cls.mono hc3 hle')
theorem args_spec (w : World) (μ : Mem) (hμ : MOk μ w) :
    Calls Tryd.prog 61 #[] w fun e w' => ∃ v μ', e = .returned v ∧ Grow w w' μ μ' ∧ OfPost argsT μ' v := by
  refine call_intro (args := []) Tryd.func61 rfl Tryd.ntmps61 (by simp) hμ ?_
  repeat' (first | refine KO ?_ | (refine CF 55 ?_; (with_reducible apply g_share); exact rfl; intro μs hles hshs; (with_reducible apply g_enter_m); exact rfl; exact rfl; exact rfl; ((with_reducible apply e_call1); kernel_rfl; exact rfl); (exact fun w hw => of_spec [41] _ _ _ w _ hw (sl_lit hshs rfl (by simp) (by repeat first | exact lc_nil | refine lc_cons rfl ?_)) (by omega)); rintro v3 μ3 hle3 hc3; (obtain ⟨f3, cap3, rfl⟩ := Cls.form hc3)) | (refine CF 53 ?_; (with_reducible apply g_share); exact rfl; intro μt hlet hsht; (with_reducible apply g_enter_m); exact rfl; exact rfl; exact rfl; ((with_reducible apply e_call1); kernel_rfl; exact rfl); (exact fun w hw => either_spec [.func (.func 54) #[] #[], .func (.func f3) #[] cap3.toArray] [exprT, ofT [41]] _ _ _ w _ hw (sl_lit hsht rfl (by simp) (by repeat first | exact lc_nil | refine lc_cons rfl ?_)) (Clss.cons (cls_expr _) (Clss.cons (Cls.mono hc3 hlet) (Clss.nil _))) (by omega)); rintro v4 μ4 hle4 hc4) | refine KI ?_ | refine NB fun b => ?_ | ((refine KB ?_ ?_ <;> intro hp)) | refine KG ?_ | fail)
  exact ret_m1 rfl (rv_tmp rfl) (fun μ' hle' hL => Cls.mono hc4 hle')
end Go.Proofs.YtnllooebophcpaaDoor
namespace Go.Proofs.YtnllooebophcpaaDoor
open Go.RowKit Go.Vcg
def tmOk (i : Nat) (e : T → Bool) (t : T) : Prop := if i % 2 = 0 then t.op = 31 else e t = true
def templP (e : T → Bool) (ks : List T) : Prop := ks.length % 2 = 1 ∧ ∀ (i : Nat) (t : T), ks[i]? = some t → tmOk i e t
noncomputable def templB (e : T → Bool) (ks : List T) : Bool := dB (templP e ks)
theorem templB_t {e : T → Bool} {ks : List T} (h : templP e ks) : templB e ks = true := by unfold templB; exact dB_t h
theorem templB_f {e : T → Bool} {ks : List T} (h : ¬templP e ks) : templB e ks = false := by unfold templB; exact dB_f h
inductive Chained : T → Prop
  | one {t : T} (h : linkT t = true) (hn : t.n = 1) : Chained t
  | more {t k : T} (h : linkT t = true) (hk : t.kids[0]? = some k) (hc : Chained k) : Chained t
noncomputable def chB (t : T) : Bool := dB (Chained t)
theorem chB_t {t : T} (h : Chained t) : chB t = true := by unfold chB; exact dB_t h
theorem chB_f {t : T} (h : ¬Chained t) : chB t = false := by unfold chB; exact dB_f h
theorem ch_link {t : T} (h : linkT t = false) : ¬Chained t := fun hc => by
  cases hc with
  | one h2 _ => rw [h] at h2; cases h2
  | more h2 _ _ => rw [h] at h2; cases h2
theorem ch_nil {t : T} (h : t.n ≠ 1) (hk : t.kids[0]? = none) : ¬Chained t := fun hc => by
  cases hc with
  | one _ h2 => exact h h2
  | more _ h2 _ => rw [hk] at h2; cases h2
theorem ch_iff {t k : T} (hl : linkT t = true) (h : t.n ≠ 1) (hk : t.kids[0]? = some k) : Chained t ↔ Chained k := by
  constructor
  · intro hc
    cases hc with
    | one _ h2 => exact absurd h2 h
    | more _ h2 h3 => rw [hk] at h2; cases h2; exact h3
  · exact fun hc => .more hl hk hc
noncomputable def chainT (ks : List T) : Bool := match ks with | [k] => chB k | _ => false
inductive Sh' : T → Prop
  | mk {t : T} (h : t.s.size ≤ 65536) (hk : ∀ k ∈ t.kids, Sh' k) : Sh' t
theorem Sh'.s {t : T} (h : Sh' t) : t.s.size ≤ 65536 := by cases h; assumption
theorem Sh'.kid {t k : T} (h : Sh' t) (hk : k ∈ t.kids) : Sh' k := by
  cases h with
  | mk _ h => exact h k hk
attribute [local irreducible] templB chB G GC GQ GA GAop Calls IntKind.wrap Int.decLt Int.decLe
theorem template_spec (ks : List T) (A : Option Addr) (n c : Nat) (w : World) (μ : Mem) (hμ : MOk μ w) (hk : KR μ ks (.slice A n c)) (hkn : ks.length = n) (hn : n ≤ 100000) (hks : ∀ k ∈ ks, T.size k ≤ 100000 ∧ k.s.size ≤ 65536) :
    Calls Tryd.prog 51 #[.slice A n c] w fun e w' => e = .returned (.bool (templB exprT ks)) ∧ Below w.heap.size w w' := by
  refine call_intro (args := [.slice A n c]) Tryd.func51 rfl Tryd.ntmps51 (by simp) hμ ?_
  have hget : ∀ (i : Nat) (t : T), ks[i]? = some t → ∃ a u, A = some a ∧ MCells μ (a.add (i * 6)) (encT t u) ∧ u.oneCell' = true ∧ KR μ t.kids u := by
    obtain ⟨A', c', e, _, hg⟩ := hk.form
    cases e
    exact hg
  repeat' (first | refine KK ?_ | refine NB fun b => ?_ | ((refine KB ?_ ?_ <;> intro hp)) | refine KG ?_ | fail)
  refine gc_loop (ι := Nat) (fun i => i ≤ n ∧ ∀ (j : Nat) (t : T), j < i → ks[j]? = some t → tmOk j exprT t) (fun i => n - i) (fun _ => μ) (fun i => [(7, .int .i64 i), (6, .int .i64 n), (5, .slice A n c), (0, .slice A n c)]) (fun _ => []) 0 ⟨by omega, fun j _ h => absurd h (by omega)⟩ (fun a w hs => J6 hs) ?_
  rintro i ⟨hi, hok⟩
  by_cases hlt : i < n
  · have hkk : ks[i]? = some ks[i] := List.getElem?_eq_getElem (by omega)
    generalize ks[i] = t at hkk
    obtain ⟨ad, x, rfl, hm, ho, hkx⟩ := hget i t hkk
    have hts := hks t (List.mem_of_getElem? hkk)
    have hr : (i : Int).tmod 2 = ((i % 2 : Nat) : Int) := rfl
    have hcall := fun (w : World) (μc : Mem) (hw : MOk μc w) (hle : MLe μ μc) => expression_spec t x w μc hw (hkx.mono hle) hts.1 hts.2
    by_cases hp1 : tmOk i exprT t
    · have hnext : ∀ (j : Nat) (t : T), j < i + 1 → ks[j]? = some t → tmOk j exprT t := fun j t' hj ht => by
        rcases Nat.lt_or_ge j i with h | h
        · exact hok j t' h ht
        · obtain rfl : j = i := by omega
          rw [hkk] at ht
          cases ht
          exact hp1
      unfold tmOk at hp1
      by_cases h2 : i % 2 = 0
      · rw [if_pos h2] at hp1
        repeat' (first | refine KO ?_ | ((with_reducible apply C1); exact rfl; exact EN; exact fun w μc hw hse => hcall w μc hw hse.le) | (refine KV (b := by first | exact U1 i | exact U4 hm) (c := ?_)) | refine KI ?_ | refine NB fun b => ?_ | ((refine KB ?_ ?_ <;> intro hp)) | refine KG ?_ | fail)
        all_goals first
          | exact J2 (i + 1) ⟨by omega, hnext⟩ (by omega)
          | (exfalso; omega)
      · rw [if_neg h2] at hp1
        rw [hp1] at hcall
        repeat' (first | refine KO ?_ | ((with_reducible apply C1); exact rfl; exact EN; exact fun w μc hw hse => hcall w μc hw hse.le) | (refine KV (b := by first | exact U1 i | exact U4 hm) (c := ?_)) | refine KI ?_ | refine NB fun b => ?_ | ((refine KB ?_ ?_ <;> intro hp)) | refine KG ?_ | fail)
        all_goals first
          | exact J2 (i + 1) ⟨by omega, hnext⟩ (by omega)
          | (exfalso; omega)
    · rw [templB_f fun h => hp1 (h.2 i t hkk)]
      unfold tmOk at hp1
      by_cases h2 : i % 2 = 0
      · rw [if_pos h2] at hp1
        repeat' (first | refine KO ?_ | ((with_reducible apply C1); exact rfl; exact EN; exact fun w μc hw hse => hcall w μc hw hse.le) | (refine KV (b := by first | exact U1 i | exact U4 hm) (c := ?_)) | refine KI ?_ | refine NB fun b => ?_ | ((refine KB ?_ ?_ <;> intro hp)) | refine KG ?_ | fail)
        all_goals first
          | exact ret_s rfl rfl rfl
          | (exfalso; omega)
      · rw [if_neg h2] at hp1
        rw [Bool.not_eq_true _ |>.mp hp1] at hcall
        repeat' (first | refine KO ?_ | ((with_reducible apply C1); exact rfl; exact EN; exact fun w μc hw hse => hcall w μc hw hse.le) | (refine KV (b := by first | exact U1 i | exact U4 hm) (c := ?_)) | refine KI ?_ | refine NB fun b => ?_ | ((refine KB ?_ ?_ <;> intro hp)) | refine KG ?_ | fail)
        all_goals first
          | exact ret_s rfl rfl rfl
          | (exfalso; omega)
  · obtain rfl : i = n := by omega
    have hr : (i : Int).tmod 2 = ((i % 2 : Nat) : Int) := rfl
    have hg : templB exprT ks = decide ((i : Int).tmod 2 = 1) := by
      by_cases h : i % 2 = 1
      · rw [templB_t ⟨by rw [hkn]; exact h, fun j t hj => hok j t (by have := (List.getElem?_eq_some_iff.1 hj).1; omega) hj⟩]
        symm
        rw [decide_eq_true_eq]
        omega
      · rw [templB_f fun hf => h (by rw [← hkn]; exact hf.1)]
        symm
        rw [decide_eq_false_iff_not]
        omega
    rw [hg]
    repeat' (first | refine KK ?_ | refine NB fun b => ?_ | ((refine KB ?_ ?_ <;> intro hp)) | refine KG ?_ | fail)
    exact ret_s rfl rfl rfl
structure ChS where
  bb : Nat
  t : T
  u : Value
theorem chain_spec (ks : List T) (A : Option Addr) (n c : Nat) (w : World) (μ : Mem) (hμ : MOk μ w) (hk : KR μ ks (.slice A n c)) (hkn : ks.length = n) (hn : n ≤ 100000) (hks : ∀ k ∈ ks, T.size k ≤ 100000 ∧ Sh' k) :
    Calls Tryd.prog 62 #[.slice A n c] w fun e w' => e = .returned (.bool (chainT ks)) ∧ Below w.heap.size w w' := by
  refine call_intro (args := [.slice A n c]) Tryd.func62 rfl Tryd.ntmps62 (by simp) hμ ?_
  by_cases h1 : n = 1
  · subst h1
    obtain ⟨t0, rfl⟩ := List.length_eq_one_iff.1 hkn
    obtain ⟨A', c', e, _, hget⟩ := hk.form
    cases e
    obtain ⟨ad, x, rfl, hm, ho, hkx⟩ := hget 0 t0 rfl
    have hts := hks t0 (List.mem_singleton.2 rfl)
    have hg : chainT [t0] = chB t0 := rfl
    rw [hg]
    have hcall := fun (w : World) (μc : Mem) (hw : MOk μc w) (hle : MLe μ μc) => link_spec t0 x w μc hw (hkx.mono hle) hts.1 (hts.2.s)
    cases hl : linkT t0
    · rw [chB_f (ch_link hl)]
      rw [hl] at hcall
      repeat' (first | refine KO ?_ | ((with_reducible apply C1); exact rfl; exact EN; exact fun w μc hw hse => hcall w μc hw hse.le) | (refine KV (b := by first | exact U1 0 | exact U4 hm) (c := ?_)) | refine KI ?_ | refine NB fun b => ?_ | ((refine KB ?_ ?_ <;> intro hp)) | refine KG ?_ | fail)
      all_goals first | exact ret_s rfl rfl rfl | (exfalso; omega)
    · rw [hl] at hcall
      generalize hB : chB t0 = B
      repeat' (first | refine KO ?_ | ((with_reducible apply C1); exact rfl; exact EN; exact fun w μc hw hse => hcall w μc hw hse.le) | (refine KV (b := by first | exact U1 0 | exact U4 hm) (c := ?_)) | refine KI ?_ | refine NB fun b => ?_ | ((refine KB ?_ ?_ <;> intro hp)) | refine KG ?_ | fail)
      refine gc_loop (ι := ChS) (fun j => chB j.t = B ∧ KR μ j.t.kids j.u ∧ j.t.size ≤ 100000 ∧ Sh' j.t) (fun j => j.t.size) (fun _ => μ) (fun j => [(3, .pointer (some ⟨j.bb, 0, none⟩))]) (fun j => [.inl ⟨j.bb, 24, 6, idx 0 (encT j.t j.u)⟩]) ⟨b, t0, x⟩ ⟨hB, hkx, hts⟩ (fun a w hs => J5 hs) ?_
      clear hcall hl hB hts hkx ho hm hget hk hks
      rintro ⟨bb, t, u⟩ ⟨hB, hkt, hsz, hsh⟩
      dsimp only at hB hkt hsz hsh ⊢
      have hot := hkt.one
      obtain ⟨A2, c2, rfl, hlc2, hget⟩ := hkt.form
      have hlen := kidsLe t
      have hcall := fun (w : World) (μc : Mem) (hw : MOk μc w) (hle : MLe μ μc) => link_spec t _ w μc hw (hkt.mono hle) hsz hsh.s
      cases hl : linkT t
      · rw [chB_f (ch_link hl)] at hB
        subst hB
        rw [hl] at hcall
        repeat' (first | refine KO ?_ | ((with_reducible apply C1); exact rfl; exact EN; exact fun w μc hw hse => hcall w μc hw hse.le) | refine KI ?_ | refine NB fun b => ?_ | ((refine KB ?_ ?_ <;> intro hp)) | refine KG ?_ | fail)
        all_goals first | exact ret_s rfl rfl rfl | (exfalso; omega)
      · rw [hl] at hcall
        by_cases hn1 : t.n = 1
        · rw [chB_t (.one hl hn1)] at hB
          subst hB
          repeat' (first | refine KO ?_ | ((with_reducible apply C1); exact rfl; exact EN; exact fun w μc hw hse => hcall w μc hw hse.le) | refine KI ?_ | refine NB fun b => ?_ | ((refine KB ?_ ?_ <;> intro hp)) | refine KG ?_ | fail)
          all_goals first | exact ret_s rfl rfl rfl | (exfalso; omega)
        · by_cases h0 : t.kids.length = 0
          · rw [chB_f (ch_nil hn1 (by rw [List.getElem?_eq_none_iff]; omega))] at hB
            subst hB
            repeat' (first | refine KO ?_ | ((with_reducible apply C1); exact rfl; exact EN; exact fun w μc hw hse => hcall w μc hw hse.le) | refine KI ?_ | refine NB fun b => ?_ | ((refine KB ?_ ?_ <;> intro hp)) | refine KG ?_ | fail)
            all_goals first | exact ret_s rfl rfl rfl | (exfalso; omega)
          · have hk0 : t.kids[0]? = some t.kids[0] := List.getElem?_eq_getElem (by omega)
            generalize t.kids[0] = k at hk0
            obtain ⟨ad2, x2, rfl, hm2, ho2, hkx2⟩ := hget 0 k hk0
            have hks := T.size_kid hk0
            have hBk : chB k = B := by
              by_cases hc : Chained k
              · rw [chB_t hc, ← hB, chB_t ((ch_iff hl hn1 hk0).2 hc)]
              · rw [chB_f hc, ← hB, chB_f fun h => hc ((ch_iff hl hn1 hk0).1 h)]
            have hshk := hsh.kid (List.mem_of_getElem? hk0)
            repeat' (first | refine KO ?_ | ((with_reducible apply C1); exact rfl; exact EN; exact fun w μc hw hse => hcall w μc hw hse.le) | (refine KV (b := by first | exact U1 0 | exact U4 hm2) (c := ?_)) | refine KI ?_ | refine NB fun b => ?_ | ((refine KB ?_ ?_ <;> intro hp)) | refine KG ?_ | fail)
            all_goals first
              | exact J2 ⟨_, k, x2⟩ ⟨hBk, hkx2, (by show k.size ≤ 100000; omega), hshk⟩ hks
              | (exfalso; omega)
  · have hg : chainT ks = false := by
      unfold chainT
      split
      · exact absurd hkn.symm h1
      · rfl
    rw [hg]
    repeat' (first | refine KO ?_ | ((with_reducible apply C1); exact rfl; exact EN; fail) | refine KI ?_ | refine NB fun b => ?_ | ((refine KB ?_ ?_ <;> intro hp)) | refine KG ?_ | fail)
    all_goals first | exact ret_s rfl rfl rfl | (exfalso; omega)
end Go.Proofs.YtnllooebophcpaaDoor
namespace Go.Proofs.YtnllooebophcpaaDoor
open Go.RowKit Go.Vcg
theorem Clss.forms {μ : Mem} {vs : List Value} {ps : List (T → Bool)} (h : Clss μ vs ps) : ∀ v ∈ vs, ∃ (f : FuncId) (cap : List Value), v = .func (.func f) #[] cap.toArray := fun v hv => by
  obtain ⟨i, hi⟩ := List.mem_iff_getElem?.1 hv
  have hlt := (List.getElem?_eq_some_iff.1 hi).1
  have hlt2 : i < ps.length := by rw [← h.1]; exact hlt
  exact (h.2 i v ps[i] hi (List.getElem?_eq_getElem hlt2)).form
def Rws (μ : Mem) (parts : List (Value × Int)) (rows : List ((T → Bool) × Int)) : Prop := parts.length = rows.length ∧ ∀ (i : Nat) (x : Value × Int) (y : (T → Bool) × Int), parts[i]? = some x → rows[i]? = some y → x.2 = y.2 ∧ Cls μ x.1 y.1
theorem Rws.nil (μ : Mem) : Rws μ [] [] := ⟨rfl, fun i x y h => by simp at h⟩
theorem Rws.cons {μ : Mem} {v : Value} {p : T → Bool} {m : Int} {ps : List (Value × Int)} {rs : List ((T → Bool) × Int)} (h : Cls μ v p) (hr : Rws μ ps rs) : Rws μ ((v, m) :: ps) ((p, m) :: rs) :=
  ⟨by simp [hr.1], fun i x y hx hy => by
    cases i with
    | zero => simp at hx hy; subst hx; subst hy; exact ⟨rfl, h⟩
    | succ i => exact hr.2 i x y (by simpa using hx) (by simpa using hy)⟩
theorem Rws.each {μ : Mem} {vs : List Value} {ps : List (T → Bool)} (h : Clss μ vs ps) : Rws μ (vs.map fun v => (v, (0 : Int))) (ps.map fun p => (p, (0 : Int))) :=
  ⟨by simp [h.1], fun i x y hx hy => by
    rw [List.getElem?_map] at hx hy
    cases hv : vs[i]? with
    | none => rw [hv] at hx; cases hx
    | some v =>
      cases hp : ps[i]? with
      | none => rw [hp] at hy; cases hy
      | some p =>
        rw [hv] at hx
        rw [hp] at hy
        cases hx
        cases hy
        exact ⟨rfl, h.2 i v p hv hp⟩⟩
theorem fits_rows (parts : List (Value × Int)) (rows : List ((T → Bool) × Int)) (ks : List T) (A B : Option Addr) (c m d : Nat) (w : World) (μ : Mem) (hμ : MOk μ w) {n : Nat} (hk : KR μ ks (.slice A n c)) (hkn : ks.length = n) (hn : n ≤ 100000) (hS : Sl encP 2 μ B m parts) (_hl : parts.length = m) (hm : m ≤ 1000) (hr : Rws μ parts rows) (hks : ∀ k ∈ ks, T.size k ≤ 100000 ∧ k.s.size ≤ 65536) :
    Calls Tryd.prog 57 #[.slice A n c, .slice B m d] w fun e w' => e = .returned (.bool (fitP rows ks)) ∧ Below w.heap.size w w' :=
  fits_spec parts rows ks A B n c m d w μ hμ hk hkn hn hS hm (by rw [← hr.1]; exact hS.1) hr.2 hks
def eachP (ps : List (T → Bool)) : List ((T → Bool) × Int) := ps.map fun p => (p, (0 : Int))
theorem fits_each (vs : List Value) (ps : List (T → Bool)) (ks : List T) (A B : Option Addr) (c m d : Nat) (w : World) (μ : Mem) (hμ : MOk μ w) {n : Nat} (hk : KR μ ks (.slice A n c)) (hkn : ks.length = n) (hn : n ≤ 100000) (hS : Sl encP 2 μ B m (vs.map fun v => (v, (0 : Int)))) (_hl : vs.length = m) (hm : m ≤ 1000) (hr : Clss μ vs ps) (hks : ∀ k ∈ ks, T.size k ≤ 100000 ∧ k.s.size ≤ 65536) :
    Calls Tryd.prog 57 #[.slice A n c, .slice B m d] w fun e w' => e = .returned (.bool (fitP (eachP ps) ks)) ∧ Below w.heap.size w w' :=
  fits_rows _ _ ks A B c m d w μ hμ hk hkn hn hS (by simpa using _hl) hm (Rws.each hr) hks
theorem cls_target (μ : Mem) : Cls μ (.func (.func 60) #[] #[]) targetT := Cls.of target_spec (by kernel_rfl) μ
theorem cls_expression (μ : Mem) : Cls μ (.func (.func 54) #[] #[]) exprT := Cls.of expression_spec (by kernel_rfl) μ
theorem cls_statement (μ : Mem) : Cls μ (.func (.func 64) #[] #[]) stmtT := Cls.of statement_spec (by kernel_rfl) μ
theorem cls_simple (μ : Mem) : Cls μ (.func (.func 59) #[] #[]) simpleT := Cls.of simple_spec (by kernel_rfl) μ
theorem cls_left (μ : Mem) : Cls μ (.func (.func 66) #[] #[]) leftT := Cls.of left_spec (by kernel_rfl) μ
theorem cls_getter (μ : Mem) : Cls μ (.func (.func 88) #[] #[]) getT := Cls.of getter_spec (by kernel_rfl) μ
theorem cls_setter (μ : Mem) : Cls μ (.func (.func 89) #[] #[]) setT := Cls.of setter_spec (by kernel_rfl) μ
theorem cls_method (μ : Mem) : Cls μ (.func (.func 90) #[] #[]) methT := Cls.of method_spec (by kernel_rfl) μ
theorem cls_named (μ : Mem) : Cls μ (.func (.func 91) #[] #[]) namedT := Cls.of named_spec (by kernel_rfl) μ
end Go.Proofs.YtnllooebophcpaaDoor
namespace Go.Proofs.YtnllooebophcpaaDoor
open Go.RowKit Go.Vcg
def itemT : T → Bool := eiT [targetT, ofT [63]]
def patternsT (t : T) : Bool :=
  if t.op = 60 then fitP [(eiT [itemT, ofT [40]], 2), (ofT [64], 1)] t.kids
  else if t.op = 61 then fitP [(ofT [62], 2), (ofT [64], 1)] t.kids
  else if t.op = 62 then fitP (eachP [keyT t, itemT]) t.kids
  else if t.op = 63 then fitP (eachP [targetT, exprT]) t.kids
  else if t.op = 64 then fitP (eachP [targetT]) t.kids
  else false
attribute [local irreducible] fitP G GC GQ GA GAop Calls IntKind.wrap Int.decLt Int.decLe
theorem patterns_spec (t : T) (u : Value) (w : World) (μ : Mem) (hμ : MOk μ w) (hk : KR μ t.kids u) (hs : t.size ≤ 100000) (hks : ∀ k ∈ t.kids, T.size k ≤ 100000 ∧ k.s.size ≤ 65536) :
    Calls Tryd.prog 63 #[.agg (encT t u).toArray] w fun e w' => e = .returned (.bool (patternsT t)) ∧ Below w.heap.size w w' := by
  have ho := hk.one
  obtain ⟨A, c, rfl, hlc, -⟩ := hk.form
  have hlen := kidsLe t
  have hkk : ∀ {μc : Mem}, MLe μ μc → KR μc t.kids (.slice A t.kids.length c) := fun h => hk.mono h
  refine call_intro (args := [.agg (encT t (.slice A t.kids.length c)).toArray]) Tryd.func63 rfl Tryd.ntmps63 (by simp) hμ ?_
  unfold patternsT
  by_cases h60 : t.op = 60
  · rw [if_pos h60]
    repeat' (first | refine KO ?_ | (refine CF 55 ?_; (fail_if_success (have := hca)); (with_reducible apply g_share); exact rfl; intro μsa hlesa hsha; (with_reducible apply g_enter_m); exact rfl; exact rfl; exact rfl; ((with_reducible apply e_call1); kernel_rfl; exact rfl); (exact fun w hw => of_spec [63] _ _ _ w _ hw (sl_lit hsha rfl (by simp) (by repeat first | exact lc_nil | refine lc_cons rfl ?_)) (by omega)); rintro va μa hlea hca; (obtain ⟨fa, capa, rfl⟩ := Cls.form hca)) | (refine CF 53 ?_; (fail_if_success (have := hci)); (with_reducible apply g_share); exact rfl; intro μsi hlesi hshi; (with_reducible apply g_enter_m); exact rfl; exact rfl; exact rfl; ((with_reducible apply e_call1); kernel_rfl; exact rfl); (exact fun w hw => either_spec [.func (.func 60) #[] #[], .func (.func fa) #[] capa.toArray] [targetT, ofT [63]] _ _ _ w _ hw (sl_lit hshi rfl (by simp) (by repeat first | exact lc_nil | refine lc_cons rfl ?_)) (Clss.cons (cls_target _) (Clss.cons (Cls.mono hca (by (repeat first | exact MLe.refl _ | assumption | refine MLe.trans ?_ ‹MLe _ _›))) (Clss.nil _))) (by omega)); rintro vi μi hlei hci; (obtain ⟨fi, capi, rfl⟩ := Cls.form hci)) | (refine CF 55 ?_; (fail_if_success (have := hcq)); (with_reducible apply g_share); exact rfl; intro μsq hlesq hshq; (with_reducible apply g_enter_m); exact rfl; exact rfl; exact rfl; ((with_reducible apply e_call1); kernel_rfl; exact rfl); (exact fun w hw => of_spec [40] _ _ _ w _ hw (sl_lit hshq rfl (by simp) (by repeat first | exact lc_nil | refine lc_cons rfl ?_)) (by omega)); rintro vq μq hleq hcq; (obtain ⟨fq, capq, rfl⟩ := Cls.form hcq)) | (refine CF 55 ?_; (fail_if_success (have := hcr)); (with_reducible apply g_share); exact rfl; intro μsr hlesr hshr; (with_reducible apply g_enter_m); exact rfl; exact rfl; exact rfl; ((with_reducible apply e_call1); kernel_rfl; exact rfl); (exact fun w hw => of_spec [64] _ _ _ w _ hw (sl_lit hshr rfl (by simp) (by repeat first | exact lc_nil | refine lc_cons rfl ?_)) (by omega)); rintro vr μr hler hcr; (obtain ⟨fr, capr, rfl⟩ := Cls.form hcr)) | (refine CF 53 ?_; (fail_if_success (have := hce)); (with_reducible apply g_share); exact rfl; intro μse hlese hshe; (with_reducible apply g_enter_m); exact rfl; exact rfl; exact rfl; ((with_reducible apply e_call1); kernel_rfl; exact rfl); (exact fun w hw => either_spec [.func (.func fi) #[] capi.toArray, .func (.func fq) #[] capq.toArray] [itemT, ofT [40]] _ _ _ w _ hw (sl_lit hshe rfl (by simp) (by repeat first | exact lc_nil | refine lc_cons rfl ?_)) (Clss.cons (Cls.mono hci (by (repeat first | exact MLe.refl _ | assumption | refine MLe.trans ?_ ‹MLe _ _›))) (Clss.cons (Cls.mono hcq (by (repeat first | exact MLe.refl _ | assumption | refine MLe.trans ?_ ‹MLe _ _›))) (Clss.nil _))) (by omega)); rintro ve μe hlee hce; (obtain ⟨fe, cape, rfl⟩ := Cls.form hce)) | ((with_reducible apply F1 57); exact rfl; exact EN; (exact fun w μc hw hse => by have hle9 := hse.le; exact fits_rows [(.func (.func fe) #[] cape.toArray, 2), (.func (.func fr) #[] capr.toArray, 1)] [(eiT [itemT, ofT [40]], 2), (ofT [64], 1)] t.kids _ _ _ _ _ w μc hw (KR.mono (by (repeat first | exact MLe.refl _ | assumption | refine MLe.trans ?_ ‹MLe _ _›)) hk) rfl (by omega) (sl_lit hse.hd rfl (by simp) (by repeat first | exact lc_nil | refine lc_cons rfl ?_)) rfl (by decide) (Rws.cons (Cls.mono hce (by (repeat first | exact MLe.refl _ | assumption | refine MLe.trans ?_ ‹MLe _ _›))) (Rws.cons (Cls.mono hcr (by (repeat first | exact MLe.refl _ | assumption | refine MLe.trans ?_ ‹MLe _ _›))) (Rws.nil _))) hks)) | refine KI ?_ | refine NB fun b => ?_ | ((refine KB ?_ ?_ <;> intro hp)) | refine KG ?_ | fail)
    all_goals first | exact ret_s rfl rfl rfl | (exfalso; omega)
  rw [if_neg h60]
  by_cases h61 : t.op = 61
  · rw [if_pos h61]
    repeat' (first | refine KO ?_ | (refine CF 55 ?_; (fail_if_success (have := hca)); (with_reducible apply g_share); exact rfl; intro μsa hlesa hsha; (with_reducible apply g_enter_m); exact rfl; exact rfl; exact rfl; ((with_reducible apply e_call1); kernel_rfl; exact rfl); (exact fun w hw => of_spec [63] _ _ _ w _ hw (sl_lit hsha rfl (by simp) (by repeat first | exact lc_nil | refine lc_cons rfl ?_)) (by omega)); rintro va μa hlea hca; (obtain ⟨fa, capa, rfl⟩ := Cls.form hca)) | (refine CF 53 ?_; (fail_if_success (have := hci)); (with_reducible apply g_share); exact rfl; intro μsi hlesi hshi; (with_reducible apply g_enter_m); exact rfl; exact rfl; exact rfl; ((with_reducible apply e_call1); kernel_rfl; exact rfl); (exact fun w hw => either_spec [.func (.func 60) #[] #[], .func (.func fa) #[] capa.toArray] [targetT, ofT [63]] _ _ _ w _ hw (sl_lit hshi rfl (by simp) (by repeat first | exact lc_nil | refine lc_cons rfl ?_)) (Clss.cons (cls_target _) (Clss.cons (Cls.mono hca (by (repeat first | exact MLe.refl _ | assumption | refine MLe.trans ?_ ‹MLe _ _›))) (Clss.nil _))) (by omega)); rintro vi μi hlei hci; (obtain ⟨fi, capi, rfl⟩ := Cls.form hci)) | (refine CF 55 ?_; (fail_if_success (have := hcq)); (with_reducible apply g_share); exact rfl; intro μsq hlesq hshq; (with_reducible apply g_enter_m); exact rfl; exact rfl; exact rfl; ((with_reducible apply e_call1); kernel_rfl; exact rfl); (exact fun w hw => of_spec [62] _ _ _ w _ hw (sl_lit hshq rfl (by simp) (by repeat first | exact lc_nil | refine lc_cons rfl ?_)) (by omega)); rintro vq μq hleq hcq; (obtain ⟨fq, capq, rfl⟩ := Cls.form hcq)) | (refine CF 55 ?_; (fail_if_success (have := hcr)); (with_reducible apply g_share); exact rfl; intro μsr hlesr hshr; (with_reducible apply g_enter_m); exact rfl; exact rfl; exact rfl; ((with_reducible apply e_call1); kernel_rfl; exact rfl); (exact fun w hw => of_spec [64] _ _ _ w _ hw (sl_lit hshr rfl (by simp) (by repeat first | exact lc_nil | refine lc_cons rfl ?_)) (by omega)); rintro vr μr hler hcr; (obtain ⟨fr, capr, rfl⟩ := Cls.form hcr)) | ((with_reducible apply F1 57); exact rfl; exact EN; (exact fun w μc hw hse => by have hle9 := hse.le; exact fits_rows [(.func (.func fq) #[] capq.toArray, 2), (.func (.func fr) #[] capr.toArray, 1)] [(ofT [62], 2), (ofT [64], 1)] t.kids _ _ _ _ _ w μc hw (KR.mono (by (repeat first | exact MLe.refl _ | assumption | refine MLe.trans ?_ ‹MLe _ _›)) hk) rfl (by omega) (sl_lit hse.hd rfl (by simp) (by repeat first | exact lc_nil | refine lc_cons rfl ?_)) rfl (by decide) (Rws.cons (Cls.mono hcq (by (repeat first | exact MLe.refl _ | assumption | refine MLe.trans ?_ ‹MLe _ _›))) (Rws.cons (Cls.mono hcr (by (repeat first | exact MLe.refl _ | assumption | refine MLe.trans ?_ ‹MLe _ _›))) (Rws.nil _))) hks)) | refine KI ?_ | refine NB fun b => ?_ | ((refine KB ?_ ?_ <;> intro hp)) | refine KG ?_ | fail)
    all_goals first | exact ret_s rfl rfl rfl | (exfalso; omega)
  rw [if_neg h61]
  by_cases h62 : t.op = 62
  · rw [if_pos h62]
    repeat' (first | refine KO ?_ | (refine CF 55 ?_; (fail_if_success (have := hca)); (with_reducible apply g_share); exact rfl; intro μsa hlesa hsha; (with_reducible apply g_enter_m); exact rfl; exact rfl; exact rfl; ((with_reducible apply e_call1); kernel_rfl; exact rfl); (exact fun w hw => of_spec [63] _ _ _ w _ hw (sl_lit hsha rfl (by simp) (by repeat first | exact lc_nil | refine lc_cons rfl ?_)) (by omega)); rintro va μa hlea hca; (obtain ⟨fa, capa, rfl⟩ := Cls.form hca)) | (refine CF 53 ?_; (fail_if_success (have := hci)); (with_reducible apply g_share); exact rfl; intro μsi hlesi hshi; (with_reducible apply g_enter_m); exact rfl; exact rfl; exact rfl; ((with_reducible apply e_call1); kernel_rfl; exact rfl); (exact fun w hw => either_spec [.func (.func 60) #[] #[], .func (.func fa) #[] capa.toArray] [targetT, ofT [63]] _ _ _ w _ hw (sl_lit hshi rfl (by simp) (by repeat first | exact lc_nil | refine lc_cons rfl ?_)) (Clss.cons (cls_target _) (Clss.cons (Cls.mono hca (by (repeat first | exact MLe.refl _ | assumption | refine MLe.trans ?_ ‹MLe _ _›))) (Clss.nil _))) (by omega)); rintro vi μi hlei hci; (obtain ⟨fi, capi, rfl⟩ := Cls.form hci)) | (refine CF 87 ?_; (fail_if_success (have := hck)); (with_reducible apply g_enter_m); exact rfl; exact rfl; exact rfl; ((with_reducible apply e_call1); kernel_rfl; exact rfl); (exact fun w hw => key_spec t _ w _ hw (KR.mono (by (repeat first | exact MLe.refl _ | assumption | refine MLe.trans ?_ ‹MLe _ _›)) hk)); rintro vk μk hlek hck; (obtain ⟨fk, capk, rfl⟩ := Cls.form hck)) | ((with_reducible apply F3 58); exact rfl; exact EN; (exact fun w μc hw hse => by have hle9 := hse.le; exact each_spec [.func (.func fk) #[] capk.toArray, .func (.func fi) #[] capi.toArray] _ _ _ w μc hw (sl_lit hse.hd rfl (by simp) (by repeat first | exact lc_nil | refine lc_cons rfl ?_)) (Clss.forms (μ := μc) (ps := [keyT t, itemT]) (Clss.cons (Cls.mono hck (by (repeat first | exact MLe.refl _ | assumption | refine MLe.trans ?_ ‹MLe _ _›))) (Clss.cons (Cls.mono hci (by (repeat first | exact MLe.refl _ | assumption | refine MLe.trans ?_ ‹MLe _ _›))) (Clss.nil _)))) (by omega)); intro v9; (with_reducible apply g_rowOk 0); exact rfl; rintro A9 c9 rfl hok9) | ((with_reducible apply F1 57); exact rfl; exact EN; (exact fun w μc hw hse => by have hle9 := hse.le; exact fits_each [.func (.func fk) #[] capk.toArray, .func (.func fi) #[] capi.toArray] [keyT t, itemT] t.kids _ _ _ _ _ w μc hw (KR.mono (by (repeat first | exact MLe.refl _ | assumption | refine MLe.trans ?_ ‹MLe _ _›)) hk) rfl (by omega) (sl_of_row (enc := encP) (xs := [.func (.func fk) #[] capk.toArray, .func (.func fi) #[] capi.toArray].map fun v => (v, (0 : Int))) hse.hd rfl (by simp) rfl) rfl (by decide) (Clss.cons (Cls.mono hck (by (repeat first | exact MLe.refl _ | assumption | refine MLe.trans ?_ ‹MLe _ _›))) (Clss.cons (Cls.mono hci (by (repeat first | exact MLe.refl _ | assumption | refine MLe.trans ?_ ‹MLe _ _›))) (Clss.nil _))) hks)) | refine KI ?_ | refine NB fun b => ?_ | ((refine KB ?_ ?_ <;> intro hp)) | refine KG ?_ | fail)
    all_goals first | exact ret_s rfl rfl rfl | (exfalso; omega)
  rw [if_neg h62]
  by_cases h63 : t.op = 63
  · rw [if_pos h63]
    repeat' (first | refine KO ?_ | (refine CF 55 ?_; (fail_if_success (have := hca)); (with_reducible apply g_share); exact rfl; intro μsa hlesa hsha; (with_reducible apply g_enter_m); exact rfl; exact rfl; exact rfl; ((with_reducible apply e_call1); kernel_rfl; exact rfl); (exact fun w hw => of_spec [63] _ _ _ w _ hw (sl_lit hsha rfl (by simp) (by repeat first | exact lc_nil | refine lc_cons rfl ?_)) (by omega)); rintro va μa hlea hca; (obtain ⟨fa, capa, rfl⟩ := Cls.form hca)) | (refine CF 53 ?_; (fail_if_success (have := hci)); (with_reducible apply g_share); exact rfl; intro μsi hlesi hshi; (with_reducible apply g_enter_m); exact rfl; exact rfl; exact rfl; ((with_reducible apply e_call1); kernel_rfl; exact rfl); (exact fun w hw => either_spec [.func (.func 60) #[] #[], .func (.func fa) #[] capa.toArray] [targetT, ofT [63]] _ _ _ w _ hw (sl_lit hshi rfl (by simp) (by repeat first | exact lc_nil | refine lc_cons rfl ?_)) (Clss.cons (cls_target _) (Clss.cons (Cls.mono hca (by (repeat first | exact MLe.refl _ | assumption | refine MLe.trans ?_ ‹MLe _ _›))) (Clss.nil _))) (by omega)); rintro vi μi hlei hci; (obtain ⟨fi, capi, rfl⟩ := Cls.form hci)) | ((with_reducible apply F3 58); exact rfl; exact EN; (exact fun w μc hw hse => by have hle9 := hse.le; exact each_spec [.func (.func 60) #[] #[], .func (.func 54) #[] #[]] _ _ _ w μc hw (sl_lit hse.hd rfl (by simp) (by repeat first | exact lc_nil | refine lc_cons rfl ?_)) (Clss.forms (μ := μc) (ps := [targetT, exprT]) (Clss.cons (cls_target _) (Clss.cons (cls_expression _) (Clss.nil _)))) (by omega)); intro v9; (with_reducible apply g_rowOk 0); exact rfl; rintro A9 c9 rfl hok9) | ((with_reducible apply F1 57); exact rfl; exact EN; (exact fun w μc hw hse => by have hle9 := hse.le; exact fits_each [.func (.func 60) #[] #[], .func (.func 54) #[] #[]] [targetT, exprT] t.kids _ _ _ _ _ w μc hw (KR.mono (by (repeat first | exact MLe.refl _ | assumption | refine MLe.trans ?_ ‹MLe _ _›)) hk) rfl (by omega) (sl_of_row (enc := encP) (xs := [.func (.func 60) #[] #[], .func (.func 54) #[] #[]].map fun v => (v, (0 : Int))) hse.hd rfl (by simp) rfl) rfl (by decide) (Clss.cons (cls_target _) (Clss.cons (cls_expression _) (Clss.nil _))) hks)) | refine KI ?_ | refine NB fun b => ?_ | ((refine KB ?_ ?_ <;> intro hp)) | refine KG ?_ | fail)
    all_goals first | exact ret_s rfl rfl rfl | (exfalso; omega)
  rw [if_neg h63]
  by_cases h64 : t.op = 64
  · rw [if_pos h64]
    repeat' (first | refine KO ?_ | (refine CF 55 ?_; (fail_if_success (have := hca)); (with_reducible apply g_share); exact rfl; intro μsa hlesa hsha; (with_reducible apply g_enter_m); exact rfl; exact rfl; exact rfl; ((with_reducible apply e_call1); kernel_rfl; exact rfl); (exact fun w hw => of_spec [63] _ _ _ w _ hw (sl_lit hsha rfl (by simp) (by repeat first | exact lc_nil | refine lc_cons rfl ?_)) (by omega)); rintro va μa hlea hca; (obtain ⟨fa, capa, rfl⟩ := Cls.form hca)) | (refine CF 53 ?_; (fail_if_success (have := hci)); (with_reducible apply g_share); exact rfl; intro μsi hlesi hshi; (with_reducible apply g_enter_m); exact rfl; exact rfl; exact rfl; ((with_reducible apply e_call1); kernel_rfl; exact rfl); (exact fun w hw => either_spec [.func (.func 60) #[] #[], .func (.func fa) #[] capa.toArray] [targetT, ofT [63]] _ _ _ w _ hw (sl_lit hshi rfl (by simp) (by repeat first | exact lc_nil | refine lc_cons rfl ?_)) (Clss.cons (cls_target _) (Clss.cons (Cls.mono hca (by (repeat first | exact MLe.refl _ | assumption | refine MLe.trans ?_ ‹MLe _ _›))) (Clss.nil _))) (by omega)); rintro vi μi hlei hci; (obtain ⟨fi, capi, rfl⟩ := Cls.form hci)) | ((with_reducible apply F3 58); exact rfl; exact EN; (exact fun w μc hw hse => by have hle9 := hse.le; exact each_spec [.func (.func 60) #[] #[]] _ _ _ w μc hw (sl_lit hse.hd rfl (by simp) (by repeat first | exact lc_nil | refine lc_cons rfl ?_)) (Clss.forms (μ := μc) (ps := [targetT]) (Clss.cons (cls_target _) (Clss.nil _))) (by omega)); intro v9; (with_reducible apply g_rowOk 0); exact rfl; rintro A9 c9 rfl hok9) | ((with_reducible apply F1 57); exact rfl; exact EN; (exact fun w μc hw hse => by have hle9 := hse.le; exact fits_each [.func (.func 60) #[] #[]] [targetT] t.kids _ _ _ _ _ w μc hw (KR.mono (by (repeat first | exact MLe.refl _ | assumption | refine MLe.trans ?_ ‹MLe _ _›)) hk) rfl (by omega) (sl_of_row (enc := encP) (xs := [.func (.func 60) #[] #[]].map fun v => (v, (0 : Int))) hse.hd rfl (by simp) rfl) rfl (by decide) (Clss.cons (cls_target _) (Clss.nil _)) hks)) | refine KI ?_ | refine NB fun b => ?_ | ((refine KB ?_ ?_ <;> intro hp)) | refine KG ?_ | fail)
    all_goals first | exact ret_s rfl rfl rfl | (exfalso; omega)
  rw [if_neg h64]
  repeat' (first | refine KO ?_ | (refine CF 55 ?_; (fail_if_success (have := hca)); (with_reducible apply g_share); exact rfl; intro μsa hlesa hsha; (with_reducible apply g_enter_m); exact rfl; exact rfl; exact rfl; ((with_reducible apply e_call1); kernel_rfl; exact rfl); (exact fun w hw => of_spec [63] _ _ _ w _ hw (sl_lit hsha rfl (by simp) (by repeat first | exact lc_nil | refine lc_cons rfl ?_)) (by omega)); rintro va μa hlea hca; (obtain ⟨fa, capa, rfl⟩ := Cls.form hca)) | (refine CF 53 ?_; (fail_if_success (have := hci)); (with_reducible apply g_share); exact rfl; intro μsi hlesi hshi; (with_reducible apply g_enter_m); exact rfl; exact rfl; exact rfl; ((with_reducible apply e_call1); kernel_rfl; exact rfl); (exact fun w hw => either_spec [.func (.func 60) #[] #[], .func (.func fa) #[] capa.toArray] [targetT, ofT [63]] _ _ _ w _ hw (sl_lit hshi rfl (by simp) (by repeat first | exact lc_nil | refine lc_cons rfl ?_)) (Clss.cons (cls_target _) (Clss.cons (Cls.mono hca (by (repeat first | exact MLe.refl _ | assumption | refine MLe.trans ?_ ‹MLe _ _›))) (Clss.nil _))) (by omega)); rintro vi μi hlei hci; (obtain ⟨fi, capi, rfl⟩ := Cls.form hci)) | refine KI ?_ | refine NB fun b => ?_ | ((refine KB ?_ ?_ <;> intro hp)) | refine KG ?_ | fail)
  all_goals first | exact ret_s rfl rfl rfl | (exfalso; omega)
end Go.Proofs.YtnllooebophcpaaDoor
namespace Go.Proofs.YtnllooebophcpaaDoor
open Go.RowKit Go.Vcg
noncomputable def propT (t : T) : Bool :=
  if t.n = 0 then fitP (eachP [keyT t, exprT]) t.kids
  else if t.n = 1 then fitP (eachP [keyT t, getT]) t.kids
  else if t.n = 2 then fitP (eachP [keyT t, setT]) t.kids
  else if t.n = 5 then fitP (eachP [keyT t, methT]) t.kids
  else if t.n = 3 then fitP (eachP [namedT]) t.kids
  else fitP (eachP [exprT]) t.kids
attribute [local irreducible] fitP G GC GQ GA GAop Calls IntKind.wrap Int.decLt Int.decLe
theorem prop_spec (t : T) (u : Value) (w : World) (μ : Mem) (hμ : MOk μ w) (hk : KR μ t.kids u) (hs : t.size ≤ 100000) (hks : ∀ k ∈ t.kids, T.size k ≤ 100000 ∧ k.s.size ≤ 65536) :
    Calls Tryd.prog 56 #[.agg (encT t u).toArray] w fun e w' => e = .returned (.bool (propT t)) ∧ Below w.heap.size w w' := by
  have ho := hk.one
  obtain ⟨A, c, rfl, hlc, -⟩ := hk.form
  have hlen := kidsLe t
  refine call_intro (args := [.agg (encT t (.slice A t.kids.length c)).toArray]) Tryd.func56 rfl Tryd.ntmps56 (by simp) hμ ?_
  unfold propT
  by_cases h0 : t.n = 0
  · rw [if_pos h0]
    repeat' (first | refine KK ?_ | refine NB fun b => ?_ | ((refine KB ?_ ?_ <;> intro hp)) | refine KG ?_ | fail)
    refine gc_draw 8 _ (by kernel_rfl) rfl (List.Sublist.cons_cons _ (List.nil_sublist _)) ?_
    all_goals refine DD 0 ?_
    all_goals refine DD 1 ?_
    all_goals refine DD 2 ?_
    all_goals (first | (refine D3 3 ?_; refine D5 ?_; (first | (refine CF 87 ?_; (fail_if_success (have := hck)); (with_reducible apply g_enter_m); exact rfl; exact rfl; exact rfl; ((with_reducible apply e_call1); kernel_rfl; exact rfl); (exact fun w hw => key_spec t _ w _ hw (KR.mono (by (repeat first | exact MLe.refl _ | assumption | refine MLe.trans ?_ ‹MLe _ _›)) hk)); rintro vk μk hlek hck; (obtain ⟨fk, capk, rfl⟩ := Cls.form hck)) | ((with_reducible apply F3 58); exact rfl; exact EN; (exact fun w μc hw hse => by have hle9 := hse.le; exact each_spec [.func (.func fk) #[] capk.toArray, .func (.func 54) #[] #[]] _ _ _ w μc hw (sl_lit hse.hd rfl (by simp) (by repeat first | exact lc_nil | refine lc_cons rfl ?_)) (Clss.forms (μ := μc) (ps := [keyT t, exprT]) (Clss.cons (Cls.mono hck (by (repeat first | exact MLe.refl _ | assumption | refine MLe.trans ?_ ‹MLe _ _›))) (Clss.cons (cls_expression _) (Clss.nil _)))) (by omega)); intro v9; (with_reducible apply g_rowOk 0); exact rfl; rintro A9 c9 rfl hok9) | ((with_reducible apply F1 57); exact rfl; exact EN; (exact fun w μc hw hse => by have hle9 := hse.le; exact fits_each [.func (.func fk) #[] capk.toArray, .func (.func 54) #[] #[]] [keyT t, exprT] t.kids _ _ _ _ _ w μc hw (KR.mono (by (repeat first | exact MLe.refl _ | assumption | refine MLe.trans ?_ ‹MLe _ _›)) hk) rfl (by omega) (sl_of_row (enc := encP) (xs := [.func (.func fk) #[] capk.toArray, .func (.func 54) #[] #[]].map fun v => (v, (0 : Int))) hse.hd rfl (by simp) rfl) rfl (by decide) (Clss.cons (Cls.mono hck (by (repeat first | exact MLe.refl _ | assumption | refine MLe.trans ?_ ‹MLe _ _›))) (Clss.cons (cls_expression _) (Clss.nil _))) hks))); refine D9 ?_))
    all_goals (first | (refine D3 4 ?_; refine D5 ?_; refine NB fun b => ?_; refine D9 ?_))
    all_goals (first | (refine D3 5 ?_; refine D5 ?_; (first | (refine CF 87 ?_; (fail_if_success (have := hck)); (with_reducible apply g_enter_m); exact rfl; exact rfl; exact rfl; ((with_reducible apply e_call1); kernel_rfl; exact rfl); (exact fun w hw => key_spec t _ w _ hw (KR.mono (by (repeat first | exact MLe.refl _ | assumption | refine MLe.trans ?_ ‹MLe _ _›)) hk)); rintro vk μk hlek hck; (obtain ⟨fk, capk, rfl⟩ := Cls.form hck)) | ((with_reducible apply F3 58); exact rfl; exact EN; (exact fun w μc hw hse => by have hle9 := hse.le; exact each_spec [.func (.func fk) #[] capk.toArray, .func (.func 54) #[] #[]] _ _ _ w μc hw (sl_lit hse.hd rfl (by simp) (by repeat first | exact lc_nil | refine lc_cons rfl ?_)) (Clss.forms (μ := μc) (ps := [keyT t, exprT]) (Clss.cons (Cls.mono hck (by (repeat first | exact MLe.refl _ | assumption | refine MLe.trans ?_ ‹MLe _ _›))) (Clss.cons (cls_expression _) (Clss.nil _)))) (by omega)); intro v9; (with_reducible apply g_rowOk 0); exact rfl; rintro A9 c9 rfl hok9) | ((with_reducible apply F1 57); exact rfl; exact EN; (exact fun w μc hw hse => by have hle9 := hse.le; exact fits_each [.func (.func fk) #[] capk.toArray, .func (.func 54) #[] #[]] [keyT t, exprT] t.kids _ _ _ _ _ w μc hw (KR.mono (by (repeat first | exact MLe.refl _ | assumption | refine MLe.trans ?_ ‹MLe _ _›)) hk) rfl (by omega) (sl_of_row (enc := encP) (xs := [.func (.func fk) #[] capk.toArray, .func (.func 54) #[] #[]].map fun v => (v, (0 : Int))) hse.hd rfl (by simp) rfl) rfl (by decide) (Clss.cons (Cls.mono hck (by (repeat first | exact MLe.refl _ | assumption | refine MLe.trans ?_ ‹MLe _ _›))) (Clss.cons (cls_expression _) (Clss.nil _))) hks))); refine D9 ?_))
    all_goals (first | (refine D3 6 ?_; refine D5 ?_; (first | (refine CF 87 ?_; (fail_if_success (have := hck)); (with_reducible apply g_enter_m); exact rfl; exact rfl; exact rfl; ((with_reducible apply e_call1); kernel_rfl; exact rfl); (exact fun w hw => key_spec t _ w _ hw (KR.mono (by (repeat first | exact MLe.refl _ | assumption | refine MLe.trans ?_ ‹MLe _ _›)) hk)); rintro vk μk hlek hck; (obtain ⟨fk, capk, rfl⟩ := Cls.form hck)) | ((with_reducible apply F3 58); exact rfl; exact EN; (exact fun w μc hw hse => by have hle9 := hse.le; exact each_spec [.func (.func fk) #[] capk.toArray, .func (.func 54) #[] #[]] _ _ _ w μc hw (sl_lit hse.hd rfl (by simp) (by repeat first | exact lc_nil | refine lc_cons rfl ?_)) (Clss.forms (μ := μc) (ps := [keyT t, exprT]) (Clss.cons (Cls.mono hck (by (repeat first | exact MLe.refl _ | assumption | refine MLe.trans ?_ ‹MLe _ _›))) (Clss.cons (cls_expression _) (Clss.nil _)))) (by omega)); intro v9; (with_reducible apply g_rowOk 0); exact rfl; rintro A9 c9 rfl hok9) | ((with_reducible apply F1 57); exact rfl; exact EN; (exact fun w μc hw hse => by have hle9 := hse.le; exact fits_each [.func (.func fk) #[] capk.toArray, .func (.func 54) #[] #[]] [keyT t, exprT] t.kids _ _ _ _ _ w μc hw (KR.mono (by (repeat first | exact MLe.refl _ | assumption | refine MLe.trans ?_ ‹MLe _ _›)) hk) rfl (by omega) (sl_of_row (enc := encP) (xs := [.func (.func fk) #[] capk.toArray, .func (.func 54) #[] #[]].map fun v => (v, (0 : Int))) hse.hd rfl (by simp) rfl) rfl (by decide) (Clss.cons (Cls.mono hck (by (repeat first | exact MLe.refl _ | assumption | refine MLe.trans ?_ ‹MLe _ _›))) (Clss.cons (cls_expression _) (Clss.nil _))) hks))); refine D9 ?_))
    all_goals refine DD 7 ?_
    all_goals refine D8 ?_
    repeat' (first | refine KK ?_ | refine NB fun b => ?_ | ((refine KB ?_ ?_ <;> intro hp)) | refine KG ?_ | fail)
    all_goals first | exact ret_s rfl rfl rfl | (exfalso; omega)
  rw [if_neg h0]
  by_cases h1 : t.n = 1
  · rw [if_pos h1]
    repeat' (first | refine KK ?_ | refine NB fun b => ?_ | ((refine KB ?_ ?_ <;> intro hp)) | refine KG ?_ | fail)
    refine gc_draw 8 _ (by kernel_rfl) rfl (List.Sublist.cons_cons _ (List.nil_sublist _)) ?_
    all_goals refine DD 0 ?_
    all_goals refine DD 1 ?_
    all_goals refine DD 2 ?_
    all_goals (first | (refine D3 3 ?_; refine D5 ?_; (first | (refine CF 87 ?_; (fail_if_success (have := hck)); (with_reducible apply g_enter_m); exact rfl; exact rfl; exact rfl; ((with_reducible apply e_call1); kernel_rfl; exact rfl); (exact fun w hw => key_spec t _ w _ hw (KR.mono (by (repeat first | exact MLe.refl _ | assumption | refine MLe.trans ?_ ‹MLe _ _›)) hk)); rintro vk μk hlek hck; (obtain ⟨fk, capk, rfl⟩ := Cls.form hck)) | ((with_reducible apply F3 58); exact rfl; exact EN; (exact fun w μc hw hse => by have hle9 := hse.le; exact each_spec [.func (.func fk) #[] capk.toArray, .func (.func 88) #[] #[]] _ _ _ w μc hw (sl_lit hse.hd rfl (by simp) (by repeat first | exact lc_nil | refine lc_cons rfl ?_)) (Clss.forms (μ := μc) (ps := [keyT t, getT]) (Clss.cons (Cls.mono hck (by (repeat first | exact MLe.refl _ | assumption | refine MLe.trans ?_ ‹MLe _ _›))) (Clss.cons (cls_getter _) (Clss.nil _)))) (by omega)); intro v9; (with_reducible apply g_rowOk 0); exact rfl; rintro A9 c9 rfl hok9) | ((with_reducible apply F1 57); exact rfl; exact EN; (exact fun w μc hw hse => by have hle9 := hse.le; exact fits_each [.func (.func fk) #[] capk.toArray, .func (.func 88) #[] #[]] [keyT t, getT] t.kids _ _ _ _ _ w μc hw (KR.mono (by (repeat first | exact MLe.refl _ | assumption | refine MLe.trans ?_ ‹MLe _ _›)) hk) rfl (by omega) (sl_of_row (enc := encP) (xs := [.func (.func fk) #[] capk.toArray, .func (.func 88) #[] #[]].map fun v => (v, (0 : Int))) hse.hd rfl (by simp) rfl) rfl (by decide) (Clss.cons (Cls.mono hck (by (repeat first | exact MLe.refl _ | assumption | refine MLe.trans ?_ ‹MLe _ _›))) (Clss.cons (cls_getter _) (Clss.nil _))) hks))); refine D9 ?_))
    all_goals (first | (refine D3 4 ?_; refine D5 ?_; refine NB fun b => ?_; refine D9 ?_))
    all_goals (first | (refine D3 5 ?_; refine D5 ?_; (first | (refine CF 87 ?_; (fail_if_success (have := hck)); (with_reducible apply g_enter_m); exact rfl; exact rfl; exact rfl; ((with_reducible apply e_call1); kernel_rfl; exact rfl); (exact fun w hw => key_spec t _ w _ hw (KR.mono (by (repeat first | exact MLe.refl _ | assumption | refine MLe.trans ?_ ‹MLe _ _›)) hk)); rintro vk μk hlek hck; (obtain ⟨fk, capk, rfl⟩ := Cls.form hck)) | ((with_reducible apply F3 58); exact rfl; exact EN; (exact fun w μc hw hse => by have hle9 := hse.le; exact each_spec [.func (.func fk) #[] capk.toArray, .func (.func 88) #[] #[]] _ _ _ w μc hw (sl_lit hse.hd rfl (by simp) (by repeat first | exact lc_nil | refine lc_cons rfl ?_)) (Clss.forms (μ := μc) (ps := [keyT t, getT]) (Clss.cons (Cls.mono hck (by (repeat first | exact MLe.refl _ | assumption | refine MLe.trans ?_ ‹MLe _ _›))) (Clss.cons (cls_getter _) (Clss.nil _)))) (by omega)); intro v9; (with_reducible apply g_rowOk 0); exact rfl; rintro A9 c9 rfl hok9) | ((with_reducible apply F1 57); exact rfl; exact EN; (exact fun w μc hw hse => by have hle9 := hse.le; exact fits_each [.func (.func fk) #[] capk.toArray, .func (.func 88) #[] #[]] [keyT t, getT] t.kids _ _ _ _ _ w μc hw (KR.mono (by (repeat first | exact MLe.refl _ | assumption | refine MLe.trans ?_ ‹MLe _ _›)) hk) rfl (by omega) (sl_of_row (enc := encP) (xs := [.func (.func fk) #[] capk.toArray, .func (.func 88) #[] #[]].map fun v => (v, (0 : Int))) hse.hd rfl (by simp) rfl) rfl (by decide) (Clss.cons (Cls.mono hck (by (repeat first | exact MLe.refl _ | assumption | refine MLe.trans ?_ ‹MLe _ _›))) (Clss.cons (cls_getter _) (Clss.nil _))) hks))); refine D9 ?_))
    all_goals (first | (refine D3 6 ?_; refine D5 ?_; (first | (refine CF 87 ?_; (fail_if_success (have := hck)); (with_reducible apply g_enter_m); exact rfl; exact rfl; exact rfl; ((with_reducible apply e_call1); kernel_rfl; exact rfl); (exact fun w hw => key_spec t _ w _ hw (KR.mono (by (repeat first | exact MLe.refl _ | assumption | refine MLe.trans ?_ ‹MLe _ _›)) hk)); rintro vk μk hlek hck; (obtain ⟨fk, capk, rfl⟩ := Cls.form hck)) | ((with_reducible apply F3 58); exact rfl; exact EN; (exact fun w μc hw hse => by have hle9 := hse.le; exact each_spec [.func (.func fk) #[] capk.toArray, .func (.func 88) #[] #[]] _ _ _ w μc hw (sl_lit hse.hd rfl (by simp) (by repeat first | exact lc_nil | refine lc_cons rfl ?_)) (Clss.forms (μ := μc) (ps := [keyT t, getT]) (Clss.cons (Cls.mono hck (by (repeat first | exact MLe.refl _ | assumption | refine MLe.trans ?_ ‹MLe _ _›))) (Clss.cons (cls_getter _) (Clss.nil _)))) (by omega)); intro v9; (with_reducible apply g_rowOk 0); exact rfl; rintro A9 c9 rfl hok9) | ((with_reducible apply F1 57); exact rfl; exact EN; (exact fun w μc hw hse => by have hle9 := hse.le; exact fits_each [.func (.func fk) #[] capk.toArray, .func (.func 88) #[] #[]] [keyT t, getT] t.kids _ _ _ _ _ w μc hw (KR.mono (by (repeat first | exact MLe.refl _ | assumption | refine MLe.trans ?_ ‹MLe _ _›)) hk) rfl (by omega) (sl_of_row (enc := encP) (xs := [.func (.func fk) #[] capk.toArray, .func (.func 88) #[] #[]].map fun v => (v, (0 : Int))) hse.hd rfl (by simp) rfl) rfl (by decide) (Clss.cons (Cls.mono hck (by (repeat first | exact MLe.refl _ | assumption | refine MLe.trans ?_ ‹MLe _ _›))) (Clss.cons (cls_getter _) (Clss.nil _))) hks))); refine D9 ?_))
    all_goals refine DD 7 ?_
    all_goals refine D8 ?_
    repeat' (first | refine KK ?_ | refine NB fun b => ?_ | ((refine KB ?_ ?_ <;> intro hp)) | refine KG ?_ | fail)
    all_goals first | exact ret_s rfl rfl rfl | (exfalso; omega)
  rw [if_neg h1]
  by_cases h2 : t.n = 2
  · rw [if_pos h2]
    repeat' (first | refine KK ?_ | refine NB fun b => ?_ | ((refine KB ?_ ?_ <;> intro hp)) | refine KG ?_ | fail)
    refine gc_draw 8 _ (by kernel_rfl) rfl (List.Sublist.cons_cons _ (List.nil_sublist _)) ?_
    all_goals refine DD 0 ?_
    all_goals refine DD 1 ?_
    all_goals refine DD 2 ?_
    all_goals (first | (refine D3 3 ?_; refine D5 ?_; (first | (refine CF 87 ?_; (fail_if_success (have := hck)); (with_reducible apply g_enter_m); exact rfl; exact rfl; exact rfl; ((with_reducible apply e_call1); kernel_rfl; exact rfl); (exact fun w hw => key_spec t _ w _ hw (KR.mono (by (repeat first | exact MLe.refl _ | assumption | refine MLe.trans ?_ ‹MLe _ _›)) hk)); rintro vk μk hlek hck; (obtain ⟨fk, capk, rfl⟩ := Cls.form hck)) | ((with_reducible apply F3 58); exact rfl; exact EN; (exact fun w μc hw hse => by have hle9 := hse.le; exact each_spec [.func (.func fk) #[] capk.toArray, .func (.func 89) #[] #[]] _ _ _ w μc hw (sl_lit hse.hd rfl (by simp) (by repeat first | exact lc_nil | refine lc_cons rfl ?_)) (Clss.forms (μ := μc) (ps := [keyT t, setT]) (Clss.cons (Cls.mono hck (by (repeat first | exact MLe.refl _ | assumption | refine MLe.trans ?_ ‹MLe _ _›))) (Clss.cons (cls_setter _) (Clss.nil _)))) (by omega)); intro v9; (with_reducible apply g_rowOk 0); exact rfl; rintro A9 c9 rfl hok9) | ((with_reducible apply F1 57); exact rfl; exact EN; (exact fun w μc hw hse => by have hle9 := hse.le; exact fits_each [.func (.func fk) #[] capk.toArray, .func (.func 89) #[] #[]] [keyT t, setT] t.kids _ _ _ _ _ w μc hw (KR.mono (by (repeat first | exact MLe.refl _ | assumption | refine MLe.trans ?_ ‹MLe _ _›)) hk) rfl (by omega) (sl_of_row (enc := encP) (xs := [.func (.func fk) #[] capk.toArray, .func (.func 89) #[] #[]].map fun v => (v, (0 : Int))) hse.hd rfl (by simp) rfl) rfl (by decide) (Clss.cons (Cls.mono hck (by (repeat first | exact MLe.refl _ | assumption | refine MLe.trans ?_ ‹MLe _ _›))) (Clss.cons (cls_setter _) (Clss.nil _))) hks))); refine D9 ?_))
    all_goals (first | (refine D3 4 ?_; refine D5 ?_; refine NB fun b => ?_; refine D9 ?_))
    all_goals (first | (refine D3 5 ?_; refine D5 ?_; (first | (refine CF 87 ?_; (fail_if_success (have := hck)); (with_reducible apply g_enter_m); exact rfl; exact rfl; exact rfl; ((with_reducible apply e_call1); kernel_rfl; exact rfl); (exact fun w hw => key_spec t _ w _ hw (KR.mono (by (repeat first | exact MLe.refl _ | assumption | refine MLe.trans ?_ ‹MLe _ _›)) hk)); rintro vk μk hlek hck; (obtain ⟨fk, capk, rfl⟩ := Cls.form hck)) | ((with_reducible apply F3 58); exact rfl; exact EN; (exact fun w μc hw hse => by have hle9 := hse.le; exact each_spec [.func (.func fk) #[] capk.toArray, .func (.func 89) #[] #[]] _ _ _ w μc hw (sl_lit hse.hd rfl (by simp) (by repeat first | exact lc_nil | refine lc_cons rfl ?_)) (Clss.forms (μ := μc) (ps := [keyT t, setT]) (Clss.cons (Cls.mono hck (by (repeat first | exact MLe.refl _ | assumption | refine MLe.trans ?_ ‹MLe _ _›))) (Clss.cons (cls_setter _) (Clss.nil _)))) (by omega)); intro v9; (with_reducible apply g_rowOk 0); exact rfl; rintro A9 c9 rfl hok9) | ((with_reducible apply F1 57); exact rfl; exact EN; (exact fun w μc hw hse => by have hle9 := hse.le; exact fits_each [.func (.func fk) #[] capk.toArray, .func (.func 89) #[] #[]] [keyT t, setT] t.kids _ _ _ _ _ w μc hw (KR.mono (by (repeat first | exact MLe.refl _ | assumption | refine MLe.trans ?_ ‹MLe _ _›)) hk) rfl (by omega) (sl_of_row (enc := encP) (xs := [.func (.func fk) #[] capk.toArray, .func (.func 89) #[] #[]].map fun v => (v, (0 : Int))) hse.hd rfl (by simp) rfl) rfl (by decide) (Clss.cons (Cls.mono hck (by (repeat first | exact MLe.refl _ | assumption | refine MLe.trans ?_ ‹MLe _ _›))) (Clss.cons (cls_setter _) (Clss.nil _))) hks))); refine D9 ?_))
    all_goals (first | (refine D3 6 ?_; refine D5 ?_; (first | (refine CF 87 ?_; (fail_if_success (have := hck)); (with_reducible apply g_enter_m); exact rfl; exact rfl; exact rfl; ((with_reducible apply e_call1); kernel_rfl; exact rfl); (exact fun w hw => key_spec t _ w _ hw (KR.mono (by (repeat first | exact MLe.refl _ | assumption | refine MLe.trans ?_ ‹MLe _ _›)) hk)); rintro vk μk hlek hck; (obtain ⟨fk, capk, rfl⟩ := Cls.form hck)) | ((with_reducible apply F3 58); exact rfl; exact EN; (exact fun w μc hw hse => by have hle9 := hse.le; exact each_spec [.func (.func fk) #[] capk.toArray, .func (.func 89) #[] #[]] _ _ _ w μc hw (sl_lit hse.hd rfl (by simp) (by repeat first | exact lc_nil | refine lc_cons rfl ?_)) (Clss.forms (μ := μc) (ps := [keyT t, setT]) (Clss.cons (Cls.mono hck (by (repeat first | exact MLe.refl _ | assumption | refine MLe.trans ?_ ‹MLe _ _›))) (Clss.cons (cls_setter _) (Clss.nil _)))) (by omega)); intro v9; (with_reducible apply g_rowOk 0); exact rfl; rintro A9 c9 rfl hok9) | ((with_reducible apply F1 57); exact rfl; exact EN; (exact fun w μc hw hse => by have hle9 := hse.le; exact fits_each [.func (.func fk) #[] capk.toArray, .func (.func 89) #[] #[]] [keyT t, setT] t.kids _ _ _ _ _ w μc hw (KR.mono (by (repeat first | exact MLe.refl _ | assumption | refine MLe.trans ?_ ‹MLe _ _›)) hk) rfl (by omega) (sl_of_row (enc := encP) (xs := [.func (.func fk) #[] capk.toArray, .func (.func 89) #[] #[]].map fun v => (v, (0 : Int))) hse.hd rfl (by simp) rfl) rfl (by decide) (Clss.cons (Cls.mono hck (by (repeat first | exact MLe.refl _ | assumption | refine MLe.trans ?_ ‹MLe _ _›))) (Clss.cons (cls_setter _) (Clss.nil _))) hks))); refine D9 ?_))
    all_goals refine DD 7 ?_
    all_goals refine D8 ?_
    repeat' (first | refine KK ?_ | refine NB fun b => ?_ | ((refine KB ?_ ?_ <;> intro hp)) | refine KG ?_ | fail)
    all_goals first | exact ret_s rfl rfl rfl | (exfalso; omega)
  rw [if_neg h2]
  by_cases h5 : t.n = 5
  · rw [if_pos h5]
    repeat' (first | refine KK ?_ | refine NB fun b => ?_ | ((refine KB ?_ ?_ <;> intro hp)) | refine KG ?_ | fail)
    refine gc_draw 8 _ (by kernel_rfl) rfl (List.Sublist.cons_cons _ (List.nil_sublist _)) ?_
    all_goals refine DD 0 ?_
    all_goals refine DD 1 ?_
    all_goals refine DD 2 ?_
    all_goals (first | (refine D3 3 ?_; refine D5 ?_; (first | (refine CF 87 ?_; (fail_if_success (have := hck)); (with_reducible apply g_enter_m); exact rfl; exact rfl; exact rfl; ((with_reducible apply e_call1); kernel_rfl; exact rfl); (exact fun w hw => key_spec t _ w _ hw (KR.mono (by (repeat first | exact MLe.refl _ | assumption | refine MLe.trans ?_ ‹MLe _ _›)) hk)); rintro vk μk hlek hck; (obtain ⟨fk, capk, rfl⟩ := Cls.form hck)) | ((with_reducible apply F3 58); exact rfl; exact EN; (exact fun w μc hw hse => by have hle9 := hse.le; exact each_spec [.func (.func fk) #[] capk.toArray, .func (.func 90) #[] #[]] _ _ _ w μc hw (sl_lit hse.hd rfl (by simp) (by repeat first | exact lc_nil | refine lc_cons rfl ?_)) (Clss.forms (μ := μc) (ps := [keyT t, methT]) (Clss.cons (Cls.mono hck (by (repeat first | exact MLe.refl _ | assumption | refine MLe.trans ?_ ‹MLe _ _›))) (Clss.cons (cls_method _) (Clss.nil _)))) (by omega)); intro v9; (with_reducible apply g_rowOk 0); exact rfl; rintro A9 c9 rfl hok9) | ((with_reducible apply F1 57); exact rfl; exact EN; (exact fun w μc hw hse => by have hle9 := hse.le; exact fits_each [.func (.func fk) #[] capk.toArray, .func (.func 90) #[] #[]] [keyT t, methT] t.kids _ _ _ _ _ w μc hw (KR.mono (by (repeat first | exact MLe.refl _ | assumption | refine MLe.trans ?_ ‹MLe _ _›)) hk) rfl (by omega) (sl_of_row (enc := encP) (xs := [.func (.func fk) #[] capk.toArray, .func (.func 90) #[] #[]].map fun v => (v, (0 : Int))) hse.hd rfl (by simp) rfl) rfl (by decide) (Clss.cons (Cls.mono hck (by (repeat first | exact MLe.refl _ | assumption | refine MLe.trans ?_ ‹MLe _ _›))) (Clss.cons (cls_method _) (Clss.nil _))) hks))); refine D9 ?_))
    all_goals (first | (refine D3 4 ?_; refine D5 ?_; refine NB fun b => ?_; refine D9 ?_))
    all_goals (first | (refine D3 5 ?_; refine D5 ?_; (first | (refine CF 87 ?_; (fail_if_success (have := hck)); (with_reducible apply g_enter_m); exact rfl; exact rfl; exact rfl; ((with_reducible apply e_call1); kernel_rfl; exact rfl); (exact fun w hw => key_spec t _ w _ hw (KR.mono (by (repeat first | exact MLe.refl _ | assumption | refine MLe.trans ?_ ‹MLe _ _›)) hk)); rintro vk μk hlek hck; (obtain ⟨fk, capk, rfl⟩ := Cls.form hck)) | ((with_reducible apply F3 58); exact rfl; exact EN; (exact fun w μc hw hse => by have hle9 := hse.le; exact each_spec [.func (.func fk) #[] capk.toArray, .func (.func 90) #[] #[]] _ _ _ w μc hw (sl_lit hse.hd rfl (by simp) (by repeat first | exact lc_nil | refine lc_cons rfl ?_)) (Clss.forms (μ := μc) (ps := [keyT t, methT]) (Clss.cons (Cls.mono hck (by (repeat first | exact MLe.refl _ | assumption | refine MLe.trans ?_ ‹MLe _ _›))) (Clss.cons (cls_method _) (Clss.nil _)))) (by omega)); intro v9; (with_reducible apply g_rowOk 0); exact rfl; rintro A9 c9 rfl hok9) | ((with_reducible apply F1 57); exact rfl; exact EN; (exact fun w μc hw hse => by have hle9 := hse.le; exact fits_each [.func (.func fk) #[] capk.toArray, .func (.func 90) #[] #[]] [keyT t, methT] t.kids _ _ _ _ _ w μc hw (KR.mono (by (repeat first | exact MLe.refl _ | assumption | refine MLe.trans ?_ ‹MLe _ _›)) hk) rfl (by omega) (sl_of_row (enc := encP) (xs := [.func (.func fk) #[] capk.toArray, .func (.func 90) #[] #[]].map fun v => (v, (0 : Int))) hse.hd rfl (by simp) rfl) rfl (by decide) (Clss.cons (Cls.mono hck (by (repeat first | exact MLe.refl _ | assumption | refine MLe.trans ?_ ‹MLe _ _›))) (Clss.cons (cls_method _) (Clss.nil _))) hks))); refine D9 ?_))
    all_goals (first | (refine D3 6 ?_; refine D5 ?_; (first | (refine CF 87 ?_; (fail_if_success (have := hck)); (with_reducible apply g_enter_m); exact rfl; exact rfl; exact rfl; ((with_reducible apply e_call1); kernel_rfl; exact rfl); (exact fun w hw => key_spec t _ w _ hw (KR.mono (by (repeat first | exact MLe.refl _ | assumption | refine MLe.trans ?_ ‹MLe _ _›)) hk)); rintro vk μk hlek hck; (obtain ⟨fk, capk, rfl⟩ := Cls.form hck)) | ((with_reducible apply F3 58); exact rfl; exact EN; (exact fun w μc hw hse => by have hle9 := hse.le; exact each_spec [.func (.func fk) #[] capk.toArray, .func (.func 90) #[] #[]] _ _ _ w μc hw (sl_lit hse.hd rfl (by simp) (by repeat first | exact lc_nil | refine lc_cons rfl ?_)) (Clss.forms (μ := μc) (ps := [keyT t, methT]) (Clss.cons (Cls.mono hck (by (repeat first | exact MLe.refl _ | assumption | refine MLe.trans ?_ ‹MLe _ _›))) (Clss.cons (cls_method _) (Clss.nil _)))) (by omega)); intro v9; (with_reducible apply g_rowOk 0); exact rfl; rintro A9 c9 rfl hok9) | ((with_reducible apply F1 57); exact rfl; exact EN; (exact fun w μc hw hse => by have hle9 := hse.le; exact fits_each [.func (.func fk) #[] capk.toArray, .func (.func 90) #[] #[]] [keyT t, methT] t.kids _ _ _ _ _ w μc hw (KR.mono (by (repeat first | exact MLe.refl _ | assumption | refine MLe.trans ?_ ‹MLe _ _›)) hk) rfl (by omega) (sl_of_row (enc := encP) (xs := [.func (.func fk) #[] capk.toArray, .func (.func 90) #[] #[]].map fun v => (v, (0 : Int))) hse.hd rfl (by simp) rfl) rfl (by decide) (Clss.cons (Cls.mono hck (by (repeat first | exact MLe.refl _ | assumption | refine MLe.trans ?_ ‹MLe _ _›))) (Clss.cons (cls_method _) (Clss.nil _))) hks))); refine D9 ?_))
    all_goals refine DD 7 ?_
    all_goals refine D8 ?_
    repeat' (first | refine KK ?_ | refine NB fun b => ?_ | ((refine KB ?_ ?_ <;> intro hp)) | refine KG ?_ | fail)
    all_goals first | exact ret_s rfl rfl rfl | (exfalso; omega)
  rw [if_neg h5]
  by_cases h3 : t.n = 3
  · rw [if_pos h3]
    repeat' (first | refine KK ?_ | refine NB fun b => ?_ | ((refine KB ?_ ?_ <;> intro hp)) | refine KG ?_ | fail)
    refine gc_draw 6 _ (by kernel_rfl) rfl (List.Sublist.cons_cons _ (List.nil_sublist _)) ?_
    all_goals refine DD 0 ?_
    all_goals refine DD 1 ?_
    all_goals (first | (refine D3 2 ?_; refine D5 ?_; refine NB fun b => ?_; refine D9 ?_))
    all_goals (first | (refine D3 3 ?_; refine D5 ?_; (first | ((with_reducible apply F3 58); exact rfl; exact EN; (exact fun w μc hw hse => by have hle9 := hse.le; exact each_spec [.func (.func 91) #[] #[]] _ _ _ w μc hw (sl_lit hse.hd rfl (by simp) (by repeat first | exact lc_nil | refine lc_cons rfl ?_)) (Clss.forms (μ := μc) (ps := [namedT]) (Clss.cons (cls_named _) (Clss.nil _))) (by omega)); intro v9; (with_reducible apply g_rowOk 0); exact rfl; rintro A9 c9 rfl hok9) | ((with_reducible apply F1 57); exact rfl; exact EN; (exact fun w μc hw hse => by have hle9 := hse.le; exact fits_each [.func (.func 91) #[] #[]] [namedT] t.kids _ _ _ _ _ w μc hw (KR.mono (by (repeat first | exact MLe.refl _ | assumption | refine MLe.trans ?_ ‹MLe _ _›)) hk) rfl (by omega) (sl_of_row (enc := encP) (xs := [.func (.func 91) #[] #[]].map fun v => (v, (0 : Int))) hse.hd rfl (by simp) rfl) rfl (by decide) (Clss.cons (cls_named _) (Clss.nil _)) hks))); refine D9 ?_))
    all_goals (first | (refine D3 4 ?_; refine D5 ?_; (first | ((with_reducible apply F3 58); exact rfl; exact EN; (exact fun w μc hw hse => by have hle9 := hse.le; exact each_spec [.func (.func 91) #[] #[]] _ _ _ w μc hw (sl_lit hse.hd rfl (by simp) (by repeat first | exact lc_nil | refine lc_cons rfl ?_)) (Clss.forms (μ := μc) (ps := [namedT]) (Clss.cons (cls_named _) (Clss.nil _))) (by omega)); intro v9; (with_reducible apply g_rowOk 0); exact rfl; rintro A9 c9 rfl hok9) | ((with_reducible apply F1 57); exact rfl; exact EN; (exact fun w μc hw hse => by have hle9 := hse.le; exact fits_each [.func (.func 91) #[] #[]] [namedT] t.kids _ _ _ _ _ w μc hw (KR.mono (by (repeat first | exact MLe.refl _ | assumption | refine MLe.trans ?_ ‹MLe _ _›)) hk) rfl (by omega) (sl_of_row (enc := encP) (xs := [.func (.func 91) #[] #[]].map fun v => (v, (0 : Int))) hse.hd rfl (by simp) rfl) rfl (by decide) (Clss.cons (cls_named _) (Clss.nil _)) hks))); refine D9 ?_))
    all_goals refine DD 5 ?_
    all_goals refine D8 ?_
    repeat' (first | refine KK ?_ | refine NB fun b => ?_ | ((refine KB ?_ ?_ <;> intro hp)) | refine KG ?_ | fail)
    all_goals first | exact ret_s rfl rfl rfl | (exfalso; omega)
  rw [if_neg h3]
  repeat' (first | refine KK ?_ | refine NB fun b => ?_ | ((refine KB ?_ ?_ <;> intro hp)) | refine KG ?_ | fail)
  refine gc_draw 6 _ (by kernel_rfl) rfl (List.Sublist.cons_cons _ (List.nil_sublist _)) ?_
  all_goals refine DD 0 ?_
  all_goals refine DD 1 ?_
  all_goals (first | (refine D3 2 ?_; refine D5 ?_; refine NB fun b => ?_; refine D9 ?_))
  all_goals (first | (refine D3 3 ?_; refine D5 ?_; (first | ((with_reducible apply F3 58); exact rfl; exact EN; (exact fun w μc hw hse => by have hle9 := hse.le; exact each_spec [.func (.func 54) #[] #[]] _ _ _ w μc hw (sl_lit hse.hd rfl (by simp) (by repeat first | exact lc_nil | refine lc_cons rfl ?_)) (Clss.forms (μ := μc) (ps := [exprT]) (Clss.cons (cls_expression _) (Clss.nil _))) (by omega)); intro v9; (with_reducible apply g_rowOk 0); exact rfl; rintro A9 c9 rfl hok9) | ((with_reducible apply F1 57); exact rfl; exact EN; (exact fun w μc hw hse => by have hle9 := hse.le; exact fits_each [.func (.func 54) #[] #[]] [exprT] t.kids _ _ _ _ _ w μc hw (KR.mono (by (repeat first | exact MLe.refl _ | assumption | refine MLe.trans ?_ ‹MLe _ _›)) hk) rfl (by omega) (sl_of_row (enc := encP) (xs := [.func (.func 54) #[] #[]].map fun v => (v, (0 : Int))) hse.hd rfl (by simp) rfl) rfl (by decide) (Clss.cons (cls_expression _) (Clss.nil _)) hks))); refine D9 ?_))
  all_goals (first | (refine D3 4 ?_; refine D5 ?_; (first | ((with_reducible apply F3 58); exact rfl; exact EN; (exact fun w μc hw hse => by have hle9 := hse.le; exact each_spec [.func (.func 54) #[] #[]] _ _ _ w μc hw (sl_lit hse.hd rfl (by simp) (by repeat first | exact lc_nil | refine lc_cons rfl ?_)) (Clss.forms (μ := μc) (ps := [exprT]) (Clss.cons (cls_expression _) (Clss.nil _))) (by omega)); intro v9; (with_reducible apply g_rowOk 0); exact rfl; rintro A9 c9 rfl hok9) | ((with_reducible apply F1 57); exact rfl; exact EN; (exact fun w μc hw hse => by have hle9 := hse.le; exact fits_each [.func (.func 54) #[] #[]] [exprT] t.kids _ _ _ _ _ w μc hw (KR.mono (by (repeat first | exact MLe.refl _ | assumption | refine MLe.trans ?_ ‹MLe _ _›)) hk) rfl (by omega) (sl_of_row (enc := encP) (xs := [.func (.func 54) #[] #[]].map fun v => (v, (0 : Int))) hse.hd rfl (by simp) rfl) rfl (by decide) (Clss.cons (cls_expression _) (Clss.nil _)) hks))); refine D9 ?_))
  all_goals refine DD 5 ?_
  all_goals refine D8 ?_
  repeat' (first | refine KK ?_ | refine NB fun b => ?_ | ((refine KB ?_ ?_ <;> intro hp)) | refine KG ?_ | fail)
  all_goals first | exact ret_s rfl rfl rfl | (exfalso; omega)
end Go.Proofs.YtnllooebophcpaaDoor
namespace Go.Proofs.YtnllooebophcpaaDoor
open Go.RowKit Go.Vcg
attribute [local irreducible] fitP fewP G GC GQ GA GAop Calls IntKind.wrap Int.decLt Int.decLe
theorem st_prog (t : T) (u : Value) (w : World) (μ : Mem) (hμ : MOk μ w) (hk : KR μ t.kids u) (hs : t.size ≤ 100000) (hks : ∀ k ∈ t.kids, T.size k ≤ 100000 ∧ k.s.size ≤ 65536) (hop : t.op = 1 ∨ t.op = 6) :
    Calls Tryd.prog 33 #[.agg (encT t u).toArray] w fun e w' => e = .returned (.bool (fewP stmtT 0 (-1) t.kids)) ∧ Below w.heap.size w w' := by
  have ho := hk.one
  obtain ⟨A, c, rfl, hlc, -⟩ := hk.form
  have hlen := kidsLe t
  refine call_intro (args := [.agg (encT t (.slice A t.kids.length c)).toArray]) Tryd.func33 rfl Tryd.ntmps33 (by simp) hμ ?_
  repeat' (first | refine KO ?_ | (refine CF 55 ?_; (fail_if_success (have := hce)); (with_reducible apply g_share); exact rfl; intro μse hlese hshe; (with_reducible apply g_enter_m); exact rfl; exact rfl; exact rfl; ((with_reducible apply e_call1); kernel_rfl; exact rfl); (exact fun w hw => of_spec [7] _ _ _ w _ hw (sl_lit hshe rfl (by simp) (by repeat first | exact lc_nil | refine lc_cons rfl ?_)) (by omega)); rintro ve μe hlee hce; (obtain ⟨fe, cape, rfl⟩ := Cls.form hce)) | ((with_reducible apply F1 52); exact rfl; exact EN; (exact fun w μc hw hse => by have hle9 := hse.le; exact few_spec' (stmtT) _ _ _ t.kids _ _ _ w μc hw (cls_statement _) (KR.mono (by (repeat first | exact MLe.refl _ | assumption | refine MLe.trans ?_ ‹MLe _ _›)) hk) rfl (by omega) hks)) | refine KI ?_ | refine NB fun b => ?_ | ((refine KB ?_ ?_ <;> intro hp)) | refine KG ?_ | fail)
  all_goals first | exact ret_s rfl rfl rfl | (exfalso; omega) | (refine ret_s rfl rfl ?_; simp)
theorem st_var (t : T) (u : Value) (w : World) (μ : Mem) (hμ : MOk μ w) (hk : KR μ t.kids u) (hs : t.size ≤ 100000) (hks : ∀ k ∈ t.kids, T.size k ≤ 100000 ∧ k.s.size ≤ 65536) (hop : t.op = 2) :
    Calls Tryd.prog 33 #[.agg (encT t u).toArray] w fun e w' => e = .returned (.bool (fewP (ofT [3]) 1 (-1) t.kids)) ∧ Below w.heap.size w w' := by
  have ho := hk.one
  obtain ⟨A, c, rfl, hlc, -⟩ := hk.form
  have hlen := kidsLe t
  refine call_intro (args := [.agg (encT t (.slice A t.kids.length c)).toArray]) Tryd.func33 rfl Tryd.ntmps33 (by simp) hμ ?_
  repeat' (first | refine KO ?_ | (refine CF 55 ?_; (fail_if_success (have := hce)); (with_reducible apply g_share); exact rfl; intro μse hlese hshe; (with_reducible apply g_enter_m); exact rfl; exact rfl; exact rfl; ((with_reducible apply e_call1); kernel_rfl; exact rfl); (exact fun w hw => of_spec [7] _ _ _ w _ hw (sl_lit hshe rfl (by simp) (by repeat first | exact lc_nil | refine lc_cons rfl ?_)) (by omega)); rintro ve μe hlee hce; (obtain ⟨fe, cape, rfl⟩ := Cls.form hce)) | (refine CF 55 ?_; (fail_if_success (have := hcq)); (with_reducible apply g_share); exact rfl; intro μsq hlesq hshq; (with_reducible apply g_enter_m); exact rfl; exact rfl; exact rfl; ((with_reducible apply e_call1); kernel_rfl; exact rfl); (exact fun w hw => of_spec [3] _ _ _ w _ hw (sl_lit hshq rfl (by simp) (by repeat first | exact lc_nil | refine lc_cons rfl ?_)) (by omega)); rintro vq μq hleq hcq; (obtain ⟨fq, capq, rfl⟩ := Cls.form hcq)) | ((with_reducible apply F1 52); exact rfl; exact EN; (exact fun w μc hw hse => by have hle9 := hse.le; exact few_spec' (ofT [3]) _ _ _ t.kids _ _ _ w μc hw (Cls.mono hcq (by (repeat first | exact MLe.refl _ | assumption | refine MLe.trans ?_ ‹MLe _ _›))) (KR.mono (by (repeat first | exact MLe.refl _ | assumption | refine MLe.trans ?_ ‹MLe _ _›)) hk) rfl (by omega) hks)) | refine KI ?_ | refine NB fun b => ?_ | ((refine KB ?_ ?_ <;> intro hp)) | refine KG ?_ | fail)
  all_goals first | exact ret_s rfl rfl rfl | (exfalso; omega) | (refine ret_s rfl rfl ?_; simp)
theorem st_decl (t : T) (u : Value) (w : World) (μ : Mem) (hμ : MOk μ w) (hk : KR μ t.kids u) (hs : t.size ≤ 100000) (hks : ∀ k ∈ t.kids, T.size k ≤ 100000 ∧ k.s.size ≤ 65536) (hop : t.op = 3) :
    Calls Tryd.prog 33 #[.agg (encT t u).toArray] w fun e w' => e = .returned (.bool (fitP [(targetT, 0), (exprT, 1)] t.kids)) ∧ Below w.heap.size w w' := by
  have ho := hk.one
  obtain ⟨A, c, rfl, hlc, -⟩ := hk.form
  have hlen := kidsLe t
  refine call_intro (args := [.agg (encT t (.slice A t.kids.length c)).toArray]) Tryd.func33 rfl Tryd.ntmps33 (by simp) hμ ?_
  repeat' (first | refine KO ?_ | (refine CF 55 ?_; (fail_if_success (have := hce)); (with_reducible apply g_share); exact rfl; intro μse hlese hshe; (with_reducible apply g_enter_m); exact rfl; exact rfl; exact rfl; ((with_reducible apply e_call1); kernel_rfl; exact rfl); (exact fun w hw => of_spec [7] _ _ _ w _ hw (sl_lit hshe rfl (by simp) (by repeat first | exact lc_nil | refine lc_cons rfl ?_)) (by omega)); rintro ve μe hlee hce; (obtain ⟨fe, cape, rfl⟩ := Cls.form hce)) | ((with_reducible apply F1 57); exact rfl; exact EN; (exact fun w μc hw hse => by have hle9 := hse.le; exact fits_rows [(.func (.func 60) #[] #[], 0), (.func (.func 54) #[] #[], 1)] [(targetT, 0), (exprT, 1)] t.kids _ _ _ _ _ w μc hw (KR.mono (by (repeat first | exact MLe.refl _ | assumption | refine MLe.trans ?_ ‹MLe _ _›)) hk) rfl (by omega) (sl_lit hse.hd rfl (by simp) (by repeat first | exact lc_nil | refine lc_cons rfl ?_)) rfl (by decide) (Rws.cons (cls_target _) (Rws.cons (cls_expression _) (Rws.nil _))) hks)) | refine KI ?_ | refine NB fun b => ?_ | ((refine KB ?_ ?_ <;> intro hp)) | refine KG ?_ | fail)
  all_goals first | exact ret_s rfl rfl rfl | (exfalso; omega) | (refine ret_s rfl rfl ?_; simp)
theorem st_func (t : T) (u : Value) (w : World) (μ : Mem) (hμ : MOk μ w) (hk : KR μ t.kids u) (hs : t.size ≤ 100000) (hks : ∀ k ∈ t.kids, T.size k ≤ 100000 ∧ k.s.size ≤ 65536) (hop : t.op = 4) :
    Calls Tryd.prog 33 #[.agg (encT t u).toArray] w fun e w' => e = .returned (.bool (fitP (eachP [ofT [5], bodyT t]) t.kids)) ∧ Below w.heap.size w w' := by
  have ho := hk.one
  obtain ⟨A, c, rfl, hlc, -⟩ := hk.form
  have hlen := kidsLe t
  refine call_intro (args := [.agg (encT t (.slice A t.kids.length c)).toArray]) Tryd.func33 rfl Tryd.ntmps33 (by simp) hμ ?_
  repeat' (first | refine KO ?_ | (refine CF 55 ?_; (fail_if_success (have := hce)); (with_reducible apply g_share); exact rfl; intro μse hlese hshe; (with_reducible apply g_enter_m); exact rfl; exact rfl; exact rfl; ((with_reducible apply e_call1); kernel_rfl; exact rfl); (exact fun w hw => of_spec [7] _ _ _ w _ hw (sl_lit hshe rfl (by simp) (by repeat first | exact lc_nil | refine lc_cons rfl ?_)) (by omega)); rintro ve μe hlee hce; (obtain ⟨fe, cape, rfl⟩ := Cls.form hce)) | refine KI ?_ | refine NB fun b => ?_ | ((refine KB ?_ ?_ <;> intro hp)) | refine KG ?_ | fail)
  refine gc_draw 9 _ (by kernel_rfl) rfl (List.Sublist.cons_cons _ (List.nil_sublist _)) ?_
  all_goals refine DD 0 ?_
  all_goals refine DD 3 ?_
  all_goals (first | (refine D3 1 ?_; refine D5 ?_; refine NB fun b => ?_; refine D9 ?_))
  all_goals (first | (refine D3 2 ?_; refine D5 ?_; (first | (refine CF 55 ?_; (fail_if_success (have := hcq)); (with_reducible apply g_share); exact rfl; intro μsq hlesq hshq; (with_reducible apply g_enter_m); exact rfl; exact rfl; exact rfl; ((with_reducible apply e_call1); kernel_rfl; exact rfl); (exact fun w hw => of_spec [5] _ _ _ w _ hw (sl_lit hshq rfl (by simp) (by repeat first | exact lc_nil | refine lc_cons rfl ?_)) (by omega)); rintro vq μq hleq hcq; (obtain ⟨fq, capq, rfl⟩ := Cls.form hcq)) | (refine CF 65 ?_; (fail_if_success (have := hck)); (with_reducible apply g_enter_m); exact rfl; exact rfl; exact rfl; ((with_reducible apply e_call1); kernel_rfl; exact rfl); (exact fun w hw => body_spec t _ w _ hw (KR.mono (by (repeat first | exact MLe.refl _ | assumption | refine MLe.trans ?_ ‹MLe _ _›)) hk) hs); rintro vk μk hlek hck; (obtain ⟨fk, capk, rfl⟩ := Cls.form hck)) | ((with_reducible apply F3 58); exact rfl; exact EN; (exact fun w μc hw hse => by have hle9 := hse.le; exact each_spec [.func (.func fq) #[] capq.toArray, .func (.func fk) #[] capk.toArray] _ _ _ w μc hw (sl_lit hse.hd rfl (by simp) (by repeat first | exact lc_nil | refine lc_cons rfl ?_)) (Clss.forms (μ := μc) (ps := [ofT [5], bodyT t]) (Clss.cons (Cls.mono hcq (by (repeat first | exact MLe.refl _ | assumption | refine MLe.trans ?_ ‹MLe _ _›))) (Clss.cons (Cls.mono hck (by (repeat first | exact MLe.refl _ | assumption | refine MLe.trans ?_ ‹MLe _ _›))) (Clss.nil _)))) (by omega)); intro v9; (with_reducible apply g_rowOk 0); exact rfl; rintro A9 c9 rfl hok9) | ((with_reducible apply F1 57); exact rfl; exact EN; (exact fun w μc hw hse => by have hle9 := hse.le; exact fits_each [.func (.func fq) #[] capq.toArray, .func (.func fk) #[] capk.toArray] [ofT [5], bodyT t] t.kids _ _ _ _ _ w μc hw (KR.mono (by (repeat first | exact MLe.refl _ | assumption | refine MLe.trans ?_ ‹MLe _ _›)) hk) rfl (by omega) (sl_of_row (enc := encP) (xs := [.func (.func fq) #[] capq.toArray, .func (.func fk) #[] capk.toArray].map fun v => (v, (0 : Int))) hse.hd rfl (by simp) rfl) rfl (by decide) (Clss.cons (Cls.mono hcq (by (repeat first | exact MLe.refl _ | assumption | refine MLe.trans ?_ ‹MLe _ _›))) (Clss.cons (Cls.mono hck (by (repeat first | exact MLe.refl _ | assumption | refine MLe.trans ?_ ‹MLe _ _›))) (Clss.nil _))) hks))); refine D9 ?_))
  all_goals (first | (refine D3 4 ?_; refine D5 ?_; (first | (refine CF 55 ?_; (fail_if_success (have := hcq)); (with_reducible apply g_share); exact rfl; intro μsq hlesq hshq; (with_reducible apply g_enter_m); exact rfl; exact rfl; exact rfl; ((with_reducible apply e_call1); kernel_rfl; exact rfl); (exact fun w hw => of_spec [5] _ _ _ w _ hw (sl_lit hshq rfl (by simp) (by repeat first | exact lc_nil | refine lc_cons rfl ?_)) (by omega)); rintro vq μq hleq hcq; (obtain ⟨fq, capq, rfl⟩ := Cls.form hcq)) | (refine CF 65 ?_; (fail_if_success (have := hck)); (with_reducible apply g_enter_m); exact rfl; exact rfl; exact rfl; ((with_reducible apply e_call1); kernel_rfl; exact rfl); (exact fun w hw => body_spec t _ w _ hw (KR.mono (by (repeat first | exact MLe.refl _ | assumption | refine MLe.trans ?_ ‹MLe _ _›)) hk) hs); rintro vk μk hlek hck; (obtain ⟨fk, capk, rfl⟩ := Cls.form hck)) | ((with_reducible apply F3 58); exact rfl; exact EN; (exact fun w μc hw hse => by have hle9 := hse.le; exact each_spec [.func (.func fq) #[] capq.toArray, .func (.func fk) #[] capk.toArray] _ _ _ w μc hw (sl_lit hse.hd rfl (by simp) (by repeat first | exact lc_nil | refine lc_cons rfl ?_)) (Clss.forms (μ := μc) (ps := [ofT [5], bodyT t]) (Clss.cons (Cls.mono hcq (by (repeat first | exact MLe.refl _ | assumption | refine MLe.trans ?_ ‹MLe _ _›))) (Clss.cons (Cls.mono hck (by (repeat first | exact MLe.refl _ | assumption | refine MLe.trans ?_ ‹MLe _ _›))) (Clss.nil _)))) (by omega)); intro v9; (with_reducible apply g_rowOk 0); exact rfl; rintro A9 c9 rfl hok9) | ((with_reducible apply F1 57); exact rfl; exact EN; (exact fun w μc hw hse => by have hle9 := hse.le; exact fits_each [.func (.func fq) #[] capq.toArray, .func (.func fk) #[] capk.toArray] [ofT [5], bodyT t] t.kids _ _ _ _ _ w μc hw (KR.mono (by (repeat first | exact MLe.refl _ | assumption | refine MLe.trans ?_ ‹MLe _ _›)) hk) rfl (by omega) (sl_of_row (enc := encP) (xs := [.func (.func fq) #[] capq.toArray, .func (.func fk) #[] capk.toArray].map fun v => (v, (0 : Int))) hse.hd rfl (by simp) rfl) rfl (by decide) (Clss.cons (Cls.mono hcq (by (repeat first | exact MLe.refl _ | assumption | refine MLe.trans ?_ ‹MLe _ _›))) (Clss.cons (Cls.mono hck (by (repeat first | exact MLe.refl _ | assumption | refine MLe.trans ?_ ‹MLe _ _›))) (Clss.nil _))) hks))); refine D9 ?_))
  all_goals (first | (refine D3 5 ?_; refine D5 ?_; refine NB fun b => ?_; refine D9 ?_))
  all_goals (first | (refine D3 6 ?_; refine D5 ?_; (first | (refine CF 55 ?_; (fail_if_success (have := hcq)); (with_reducible apply g_share); exact rfl; intro μsq hlesq hshq; (with_reducible apply g_enter_m); exact rfl; exact rfl; exact rfl; ((with_reducible apply e_call1); kernel_rfl; exact rfl); (exact fun w hw => of_spec [5] _ _ _ w _ hw (sl_lit hshq rfl (by simp) (by repeat first | exact lc_nil | refine lc_cons rfl ?_)) (by omega)); rintro vq μq hleq hcq; (obtain ⟨fq, capq, rfl⟩ := Cls.form hcq)) | (refine CF 65 ?_; (fail_if_success (have := hck)); (with_reducible apply g_enter_m); exact rfl; exact rfl; exact rfl; ((with_reducible apply e_call1); kernel_rfl; exact rfl); (exact fun w hw => body_spec t _ w _ hw (KR.mono (by (repeat first | exact MLe.refl _ | assumption | refine MLe.trans ?_ ‹MLe _ _›)) hk) hs); rintro vk μk hlek hck; (obtain ⟨fk, capk, rfl⟩ := Cls.form hck)) | ((with_reducible apply F3 58); exact rfl; exact EN; (exact fun w μc hw hse => by have hle9 := hse.le; exact each_spec [.func (.func fq) #[] capq.toArray, .func (.func fk) #[] capk.toArray] _ _ _ w μc hw (sl_lit hse.hd rfl (by simp) (by repeat first | exact lc_nil | refine lc_cons rfl ?_)) (Clss.forms (μ := μc) (ps := [ofT [5], bodyT t]) (Clss.cons (Cls.mono hcq (by (repeat first | exact MLe.refl _ | assumption | refine MLe.trans ?_ ‹MLe _ _›))) (Clss.cons (Cls.mono hck (by (repeat first | exact MLe.refl _ | assumption | refine MLe.trans ?_ ‹MLe _ _›))) (Clss.nil _)))) (by omega)); intro v9; (with_reducible apply g_rowOk 0); exact rfl; rintro A9 c9 rfl hok9) | ((with_reducible apply F1 57); exact rfl; exact EN; (exact fun w μc hw hse => by have hle9 := hse.le; exact fits_each [.func (.func fq) #[] capq.toArray, .func (.func fk) #[] capk.toArray] [ofT [5], bodyT t] t.kids _ _ _ _ _ w μc hw (KR.mono (by (repeat first | exact MLe.refl _ | assumption | refine MLe.trans ?_ ‹MLe _ _›)) hk) rfl (by omega) (sl_of_row (enc := encP) (xs := [.func (.func fq) #[] capq.toArray, .func (.func fk) #[] capk.toArray].map fun v => (v, (0 : Int))) hse.hd rfl (by simp) rfl) rfl (by decide) (Clss.cons (Cls.mono hcq (by (repeat first | exact MLe.refl _ | assumption | refine MLe.trans ?_ ‹MLe _ _›))) (Clss.cons (Cls.mono hck (by (repeat first | exact MLe.refl _ | assumption | refine MLe.trans ?_ ‹MLe _ _›))) (Clss.nil _))) hks))); refine D9 ?_))
  all_goals (first | (refine D3 7 ?_; refine D5 ?_; (first | (refine CF 55 ?_; (fail_if_success (have := hcq)); (with_reducible apply g_share); exact rfl; intro μsq hlesq hshq; (with_reducible apply g_enter_m); exact rfl; exact rfl; exact rfl; ((with_reducible apply e_call1); kernel_rfl; exact rfl); (exact fun w hw => of_spec [5] _ _ _ w _ hw (sl_lit hshq rfl (by simp) (by repeat first | exact lc_nil | refine lc_cons rfl ?_)) (by omega)); rintro vq μq hleq hcq; (obtain ⟨fq, capq, rfl⟩ := Cls.form hcq)) | (refine CF 65 ?_; (fail_if_success (have := hck)); (with_reducible apply g_enter_m); exact rfl; exact rfl; exact rfl; ((with_reducible apply e_call1); kernel_rfl; exact rfl); (exact fun w hw => body_spec t _ w _ hw (KR.mono (by (repeat first | exact MLe.refl _ | assumption | refine MLe.trans ?_ ‹MLe _ _›)) hk) hs); rintro vk μk hlek hck; (obtain ⟨fk, capk, rfl⟩ := Cls.form hck)) | ((with_reducible apply F3 58); exact rfl; exact EN; (exact fun w μc hw hse => by have hle9 := hse.le; exact each_spec [.func (.func fq) #[] capq.toArray, .func (.func fk) #[] capk.toArray] _ _ _ w μc hw (sl_lit hse.hd rfl (by simp) (by repeat first | exact lc_nil | refine lc_cons rfl ?_)) (Clss.forms (μ := μc) (ps := [ofT [5], bodyT t]) (Clss.cons (Cls.mono hcq (by (repeat first | exact MLe.refl _ | assumption | refine MLe.trans ?_ ‹MLe _ _›))) (Clss.cons (Cls.mono hck (by (repeat first | exact MLe.refl _ | assumption | refine MLe.trans ?_ ‹MLe _ _›))) (Clss.nil _)))) (by omega)); intro v9; (with_reducible apply g_rowOk 0); exact rfl; rintro A9 c9 rfl hok9) | ((with_reducible apply F1 57); exact rfl; exact EN; (exact fun w μc hw hse => by have hle9 := hse.le; exact fits_each [.func (.func fq) #[] capq.toArray, .func (.func fk) #[] capk.toArray] [ofT [5], bodyT t] t.kids _ _ _ _ _ w μc hw (KR.mono (by (repeat first | exact MLe.refl _ | assumption | refine MLe.trans ?_ ‹MLe _ _›)) hk) rfl (by omega) (sl_of_row (enc := encP) (xs := [.func (.func fq) #[] capq.toArray, .func (.func fk) #[] capk.toArray].map fun v => (v, (0 : Int))) hse.hd rfl (by simp) rfl) rfl (by decide) (Clss.cons (Cls.mono hcq (by (repeat first | exact MLe.refl _ | assumption | refine MLe.trans ?_ ‹MLe _ _›))) (Clss.cons (Cls.mono hck (by (repeat first | exact MLe.refl _ | assumption | refine MLe.trans ?_ ‹MLe _ _›))) (Clss.nil _))) hks))); refine D9 ?_))
  all_goals refine DD 8 ?_
  all_goals refine D8 ?_
  repeat' (first | refine KK ?_ | refine NB fun b => ?_ | ((refine KB ?_ ?_ <;> intro hp)) | refine KG ?_ | fail)
  all_goals first | exact ret_s rfl rfl rfl | (exfalso; omega) | (refine ret_s rfl rfl ?_; simp)
theorem st_params (t : T) (u : Value) (w : World) (μ : Mem) (hμ : MOk μ w) (hk : KR μ t.kids u) (hs : t.size ≤ 100000) (hks : ∀ k ∈ t.kids, T.size k ≤ 100000 ∧ k.s.size ≤ 65536) (hop : t.op = 5) :
    Calls Tryd.prog 33 #[.agg (encT t u).toArray] w fun e w' => e = .returned (.bool (fitP [(eiT [targetT, ofT [63]], 2), (ofT [64], 1)] t.kids)) ∧ Below w.heap.size w w' := by
  have ho := hk.one
  obtain ⟨A, c, rfl, hlc, -⟩ := hk.form
  have hlen := kidsLe t
  refine call_intro (args := [.agg (encT t (.slice A t.kids.length c)).toArray]) Tryd.func33 rfl Tryd.ntmps33 (by simp) hμ ?_
  repeat' (first | refine KO ?_ | (refine CF 55 ?_; (fail_if_success (have := hce)); (with_reducible apply g_share); exact rfl; intro μse hlese hshe; (with_reducible apply g_enter_m); exact rfl; exact rfl; exact rfl; ((with_reducible apply e_call1); kernel_rfl; exact rfl); (exact fun w hw => of_spec [7] _ _ _ w _ hw (sl_lit hshe rfl (by simp) (by repeat first | exact lc_nil | refine lc_cons rfl ?_)) (by omega)); rintro ve μe hlee hce; (obtain ⟨fe, cape, rfl⟩ := Cls.form hce)) | (refine CF 55 ?_; (fail_if_success (have := hca)); (with_reducible apply g_share); exact rfl; intro μsa hlesa hsha; (with_reducible apply g_enter_m); exact rfl; exact rfl; exact rfl; ((with_reducible apply e_call1); kernel_rfl; exact rfl); (exact fun w hw => of_spec [63] _ _ _ w _ hw (sl_lit hsha rfl (by simp) (by repeat first | exact lc_nil | refine lc_cons rfl ?_)) (by omega)); rintro va μa hlea hca; (obtain ⟨fa, capa, rfl⟩ := Cls.form hca)) | (refine CF 53 ?_; (fail_if_success (have := hci)); (with_reducible apply g_share); exact rfl; intro μsi hlesi hshi; (with_reducible apply g_enter_m); exact rfl; exact rfl; exact rfl; ((with_reducible apply e_call1); kernel_rfl; exact rfl); (exact fun w hw => either_spec [.func (.func 60) #[] #[], .func (.func fa) #[] capa.toArray] [targetT, ofT [63]] _ _ _ w _ hw (sl_lit hshi rfl (by simp) (by repeat first | exact lc_nil | refine lc_cons rfl ?_)) (Clss.cons (cls_target _) (Clss.cons (Cls.mono hca (by (repeat first | exact MLe.refl _ | assumption | refine MLe.trans ?_ ‹MLe _ _›))) (Clss.nil _))) (by omega)); rintro vi μi hlei hci; (obtain ⟨fi, capi, rfl⟩ := Cls.form hci)) | (refine CF 55 ?_; (fail_if_success (have := hcr)); (with_reducible apply g_share); exact rfl; intro μsr hlesr hshr; (with_reducible apply g_enter_m); exact rfl; exact rfl; exact rfl; ((with_reducible apply e_call1); kernel_rfl; exact rfl); (exact fun w hw => of_spec [64] _ _ _ w _ hw (sl_lit hshr rfl (by simp) (by repeat first | exact lc_nil | refine lc_cons rfl ?_)) (by omega)); rintro vr μr hler hcr; (obtain ⟨fr, capr, rfl⟩ := Cls.form hcr)) | ((with_reducible apply F1 57); exact rfl; exact EN; (exact fun w μc hw hse => by have hle9 := hse.le; exact fits_rows [(.func (.func fi) #[] capi.toArray, 2), (.func (.func fr) #[] capr.toArray, 1)] [(eiT [targetT, ofT [63]], 2), (ofT [64], 1)] t.kids _ _ _ _ _ w μc hw (KR.mono (by (repeat first | exact MLe.refl _ | assumption | refine MLe.trans ?_ ‹MLe _ _›)) hk) rfl (by omega) (sl_lit hse.hd rfl (by simp) (by repeat first | exact lc_nil | refine lc_cons rfl ?_)) rfl (by decide) (Rws.cons (Cls.mono hci (by (repeat first | exact MLe.refl _ | assumption | refine MLe.trans ?_ ‹MLe _ _›))) (Rws.cons (Cls.mono hcr (by (repeat first | exact MLe.refl _ | assumption | refine MLe.trans ?_ ‹MLe _ _›))) (Rws.nil _))) hks)) | refine KI ?_ | refine NB fun b => ?_ | ((refine KB ?_ ?_ <;> intro hp)) | refine KG ?_ | fail)
  all_goals first | exact ret_s rfl rfl rfl | (exfalso; omega) | (refine ret_s rfl rfl ?_; simp)
theorem st_none (t : T) (u : Value) (w : World) (μ : Mem) (hμ : MOk μ w) (hk : KR μ t.kids u) (hs : t.size ≤ 100000) (hks : ∀ k ∈ t.kids, T.size k ≤ 100000 ∧ k.s.size ≤ 65536) (hop : t.op = 7 ∨ t.op = 15 ∨ t.op = 16) :
    Calls Tryd.prog 33 #[.agg (encT t u).toArray] w fun e w' => e = .returned (.bool (decide (t.kids.length = 0))) ∧ Below w.heap.size w w' := by
  have ho := hk.one
  obtain ⟨A, c, rfl, hlc, -⟩ := hk.form
  have hlen := kidsLe t
  refine call_intro (args := [.agg (encT t (.slice A t.kids.length c)).toArray]) Tryd.func33 rfl Tryd.ntmps33 (by simp) hμ ?_
  repeat' (first | refine KO ?_ | (refine CF 55 ?_; (fail_if_success (have := hce)); (with_reducible apply g_share); exact rfl; intro μse hlese hshe; (with_reducible apply g_enter_m); exact rfl; exact rfl; exact rfl; ((with_reducible apply e_call1); kernel_rfl; exact rfl); (exact fun w hw => of_spec [7] _ _ _ w _ hw (sl_lit hshe rfl (by simp) (by repeat first | exact lc_nil | refine lc_cons rfl ?_)) (by omega)); rintro ve μe hlee hce; (obtain ⟨fe, cape, rfl⟩ := Cls.form hce)) | refine KI ?_ | refine NB fun b => ?_ | ((refine KB ?_ ?_ <;> intro hp)) | refine KG ?_ | fail)
  all_goals first | exact ret_s rfl rfl rfl | (exfalso; omega) | (refine ret_s rfl rfl ?_; simp)
theorem st_expr (t : T) (u : Value) (w : World) (μ : Mem) (hμ : MOk μ w) (hk : KR μ t.kids u) (hs : t.size ≤ 100000) (hks : ∀ k ∈ t.kids, T.size k ≤ 100000 ∧ k.s.size ≤ 65536) (hop : t.op = 8 ∨ t.op = 18) :
    Calls Tryd.prog 33 #[.agg (encT t u).toArray] w fun e w' => e = .returned (.bool (fitP (eachP [exprT]) t.kids)) ∧ Below w.heap.size w w' := by
  have ho := hk.one
  obtain ⟨A, c, rfl, hlc, -⟩ := hk.form
  have hlen := kidsLe t
  refine call_intro (args := [.agg (encT t (.slice A t.kids.length c)).toArray]) Tryd.func33 rfl Tryd.ntmps33 (by simp) hμ ?_
  repeat' (first | refine KO ?_ | (refine CF 55 ?_; (fail_if_success (have := hce)); (with_reducible apply g_share); exact rfl; intro μse hlese hshe; (with_reducible apply g_enter_m); exact rfl; exact rfl; exact rfl; ((with_reducible apply e_call1); kernel_rfl; exact rfl); (exact fun w hw => of_spec [7] _ _ _ w _ hw (sl_lit hshe rfl (by simp) (by repeat first | exact lc_nil | refine lc_cons rfl ?_)) (by omega)); rintro ve μe hlee hce; (obtain ⟨fe, cape, rfl⟩ := Cls.form hce)) | ((with_reducible apply F3 58); exact rfl; exact EN; (exact fun w μc hw hse => by have hle9 := hse.le; exact each_spec [.func (.func 54) #[] #[]] _ _ _ w μc hw (sl_lit hse.hd rfl (by simp) (by repeat first | exact lc_nil | refine lc_cons rfl ?_)) (Clss.forms (μ := μc) (ps := [exprT]) (Clss.cons (cls_expression _) (Clss.nil _))) (by omega)); intro v9; (with_reducible apply g_rowOk 0); exact rfl; rintro A9 c9 rfl hok9) | ((with_reducible apply F1 57); exact rfl; exact EN; (exact fun w μc hw hse => by have hle9 := hse.le; exact fits_each [.func (.func 54) #[] #[]] [exprT] t.kids _ _ _ _ _ w μc hw (KR.mono (by (repeat first | exact MLe.refl _ | assumption | refine MLe.trans ?_ ‹MLe _ _›)) hk) rfl (by omega) (sl_of_row (enc := encP) (xs := [.func (.func 54) #[] #[]].map fun v => (v, (0 : Int))) hse.hd rfl (by simp) rfl) rfl (by decide) (Clss.cons (cls_expression _) (Clss.nil _)) hks)) | refine KI ?_ | refine NB fun b => ?_ | ((refine KB ?_ ?_ <;> intro hp)) | refine KG ?_ | fail)
  all_goals first | exact ret_s rfl rfl rfl | (exfalso; omega) | (refine ret_s rfl rfl ?_; simp)
theorem st_if (t : T) (u : Value) (w : World) (μ : Mem) (hμ : MOk μ w) (hk : KR μ t.kids u) (hs : t.size ≤ 100000) (hks : ∀ k ∈ t.kids, T.size k ≤ 100000 ∧ k.s.size ≤ 65536) (hop : t.op = 9) :
    Calls Tryd.prog 33 #[.agg (encT t u).toArray] w fun e w' => e = .returned (.bool (fitP [(exprT, 0), (stmtT, 0), (stmtT, 1)] t.kids)) ∧ Below w.heap.size w w' := by
  have ho := hk.one
  obtain ⟨A, c, rfl, hlc, -⟩ := hk.form
  have hlen := kidsLe t
  refine call_intro (args := [.agg (encT t (.slice A t.kids.length c)).toArray]) Tryd.func33 rfl Tryd.ntmps33 (by simp) hμ ?_
  repeat' (first | refine KO ?_ | (refine CF 55 ?_; (fail_if_success (have := hce)); (with_reducible apply g_share); exact rfl; intro μse hlese hshe; (with_reducible apply g_enter_m); exact rfl; exact rfl; exact rfl; ((with_reducible apply e_call1); kernel_rfl; exact rfl); (exact fun w hw => of_spec [7] _ _ _ w _ hw (sl_lit hshe rfl (by simp) (by repeat first | exact lc_nil | refine lc_cons rfl ?_)) (by omega)); rintro ve μe hlee hce; (obtain ⟨fe, cape, rfl⟩ := Cls.form hce)) | ((with_reducible apply F1 57); exact rfl; exact EN; (exact fun w μc hw hse => by have hle9 := hse.le; exact fits_rows [(.func (.func 54) #[] #[], 0), (.func (.func 64) #[] #[], 0), (.func (.func 64) #[] #[], 1)] [(exprT, 0), (stmtT, 0), (stmtT, 1)] t.kids _ _ _ _ _ w μc hw (KR.mono (by (repeat first | exact MLe.refl _ | assumption | refine MLe.trans ?_ ‹MLe _ _›)) hk) rfl (by omega) (sl_lit hse.hd rfl (by simp) (by repeat first | exact lc_nil | refine lc_cons rfl ?_)) rfl (by decide) (Rws.cons (cls_expression _) (Rws.cons (cls_statement _) (Rws.cons (cls_statement _) (Rws.nil _)))) hks)) | refine KI ?_ | refine NB fun b => ?_ | ((refine KB ?_ ?_ <;> intro hp)) | refine KG ?_ | fail)
  all_goals first | exact ret_s rfl rfl rfl | (exfalso; omega) | (refine ret_s rfl rfl ?_; simp)
theorem st_for (t : T) (u : Value) (w : World) (μ : Mem) (hμ : MOk μ w) (hk : KR μ t.kids u) (hs : t.size ≤ 100000) (hks : ∀ k ∈ t.kids, T.size k ≤ 100000 ∧ k.s.size ≤ 65536) (hop : t.op = 10) :
    Calls Tryd.prog 33 #[.agg (encT t u).toArray] w fun e w' => e = .returned (.bool (fitP (eachP [ofT [2, 8, 7], eiT [exprT, ofT [7]], eiT [exprT, ofT [7]], stmtT]) t.kids)) ∧ Below w.heap.size w w' := by
  have ho := hk.one
  obtain ⟨A, c, rfl, hlc, -⟩ := hk.form
  have hlen := kidsLe t
  refine call_intro (args := [.agg (encT t (.slice A t.kids.length c)).toArray]) Tryd.func33 rfl Tryd.ntmps33 (by simp) hμ ?_
  repeat' (first | refine KO ?_ | (refine CF 55 ?_; (fail_if_success (have := hce)); (with_reducible apply g_share); exact rfl; intro μse hlese hshe; (with_reducible apply g_enter_m); exact rfl; exact rfl; exact rfl; ((with_reducible apply e_call1); kernel_rfl; exact rfl); (exact fun w hw => of_spec [7] _ _ _ w _ hw (sl_lit hshe rfl (by simp) (by repeat first | exact lc_nil | refine lc_cons rfl ?_)) (by omega)); rintro ve μe hlee hce; (obtain ⟨fe, cape, rfl⟩ := Cls.form hce)) | (refine CF 55 ?_; (fail_if_success (have := hcq)); (with_reducible apply g_share); exact rfl; intro μsq hlesq hshq; (with_reducible apply g_enter_m); exact rfl; exact rfl; exact rfl; ((with_reducible apply e_call1); kernel_rfl; exact rfl); (exact fun w hw => of_spec [2, 8, 7] _ _ _ w _ hw (sl_lit hshq rfl (by simp) (by repeat first | exact lc_nil | refine lc_cons rfl ?_)) (by omega)); rintro vq μq hleq hcq; (obtain ⟨fq, capq, rfl⟩ := Cls.form hcq)) | (refine CF 53 ?_; (fail_if_success (have := hcx)); (with_reducible apply g_share); exact rfl; intro μsx hlesx hshx; (with_reducible apply g_enter_m); exact rfl; exact rfl; exact rfl; ((with_reducible apply e_call1); kernel_rfl; exact rfl); (exact fun w hw => either_spec [.func (.func 54) #[] #[], .func (.func fe) #[] cape.toArray] [exprT, ofT [7]] _ _ _ w _ hw (sl_lit hshx rfl (by simp) (by repeat first | exact lc_nil | refine lc_cons rfl ?_)) (Clss.cons (cls_expression _) (Clss.cons (Cls.mono hce (by (repeat first | exact MLe.refl _ | assumption | refine MLe.trans ?_ ‹MLe _ _›))) (Clss.nil _))) (by omega)); rintro vx μx hlex hcx; (obtain ⟨fx, capx, rfl⟩ := Cls.form hcx)) | (refine CF 53 ?_; (fail_if_success (have := hcy)); (with_reducible apply g_share); exact rfl; intro μsy hlesy hshy; (with_reducible apply g_enter_m); exact rfl; exact rfl; exact rfl; ((with_reducible apply e_call1); kernel_rfl; exact rfl); (exact fun w hw => either_spec [.func (.func 54) #[] #[], .func (.func fe) #[] cape.toArray] [exprT, ofT [7]] _ _ _ w _ hw (sl_lit hshy rfl (by simp) (by repeat first | exact lc_nil | refine lc_cons rfl ?_)) (Clss.cons (cls_expression _) (Clss.cons (Cls.mono hce (by (repeat first | exact MLe.refl _ | assumption | refine MLe.trans ?_ ‹MLe _ _›))) (Clss.nil _))) (by omega)); rintro vy μy hley hcy; (obtain ⟨fy, capy, rfl⟩ := Cls.form hcy)) | ((with_reducible apply F3 58); exact rfl; exact EN; (exact fun w μc hw hse => by have hle9 := hse.le; exact each_spec [.func (.func fq) #[] capq.toArray, .func (.func fx) #[] capx.toArray, .func (.func fy) #[] capy.toArray, .func (.func 64) #[] #[]] _ _ _ w μc hw (sl_lit hse.hd rfl (by simp) (by repeat first | exact lc_nil | refine lc_cons rfl ?_)) (Clss.forms (μ := μc) (ps := [ofT [2, 8, 7], eiT [exprT, ofT [7]], eiT [exprT, ofT [7]], stmtT]) (Clss.cons (Cls.mono hcq (by (repeat first | exact MLe.refl _ | assumption | refine MLe.trans ?_ ‹MLe _ _›))) (Clss.cons (Cls.mono hcx (by (repeat first | exact MLe.refl _ | assumption | refine MLe.trans ?_ ‹MLe _ _›))) (Clss.cons (Cls.mono hcy (by (repeat first | exact MLe.refl _ | assumption | refine MLe.trans ?_ ‹MLe _ _›))) (Clss.cons (cls_statement _) (Clss.nil _)))))) (by omega)); intro v9; (with_reducible apply g_rowOk 0); exact rfl; rintro A9 c9 rfl hok9) | ((with_reducible apply F1 57); exact rfl; exact EN; (exact fun w μc hw hse => by have hle9 := hse.le; exact fits_each [.func (.func fq) #[] capq.toArray, .func (.func fx) #[] capx.toArray, .func (.func fy) #[] capy.toArray, .func (.func 64) #[] #[]] [ofT [2, 8, 7], eiT [exprT, ofT [7]], eiT [exprT, ofT [7]], stmtT] t.kids _ _ _ _ _ w μc hw (KR.mono (by (repeat first | exact MLe.refl _ | assumption | refine MLe.trans ?_ ‹MLe _ _›)) hk) rfl (by omega) (sl_of_row (enc := encP) (xs := [.func (.func fq) #[] capq.toArray, .func (.func fx) #[] capx.toArray, .func (.func fy) #[] capy.toArray, .func (.func 64) #[] #[]].map fun v => (v, (0 : Int))) hse.hd rfl (by simp) rfl) rfl (by decide) (Clss.cons (Cls.mono hcq (by (repeat first | exact MLe.refl _ | assumption | refine MLe.trans ?_ ‹MLe _ _›))) (Clss.cons (Cls.mono hcx (by (repeat first | exact MLe.refl _ | assumption | refine MLe.trans ?_ ‹MLe _ _›))) (Clss.cons (Cls.mono hcy (by (repeat first | exact MLe.refl _ | assumption | refine MLe.trans ?_ ‹MLe _ _›))) (Clss.cons (cls_statement _) (Clss.nil _))))) hks)) | refine KI ?_ | refine NB fun b => ?_ | ((refine KB ?_ ?_ <;> intro hp)) | refine KG ?_ | fail)
  all_goals first | exact ret_s rfl rfl rfl | (exfalso; omega) | (refine ret_s rfl rfl ?_; simp)
theorem st_forin (t : T) (u : Value) (w : World) (μ : Mem) (hμ : MOk μ w) (hk : KR μ t.kids u) (hs : t.size ≤ 100000) (hks : ∀ k ∈ t.kids, T.size k ≤ 100000 ∧ k.s.size ≤ 65536) (hop : t.op = 11 ∨ t.op = 12) :
    Calls Tryd.prog 33 #[.agg (encT t u).toArray] w fun e w' => e = .returned (.bool (fitP (eachP [leftT, exprT, stmtT]) t.kids)) ∧ Below w.heap.size w w' := by
  have ho := hk.one
  obtain ⟨A, c, rfl, hlc, -⟩ := hk.form
  have hlen := kidsLe t
  refine call_intro (args := [.agg (encT t (.slice A t.kids.length c)).toArray]) Tryd.func33 rfl Tryd.ntmps33 (by simp) hμ ?_
  repeat' (first | refine KO ?_ | (refine CF 55 ?_; (fail_if_success (have := hce)); (with_reducible apply g_share); exact rfl; intro μse hlese hshe; (with_reducible apply g_enter_m); exact rfl; exact rfl; exact rfl; ((with_reducible apply e_call1); kernel_rfl; exact rfl); (exact fun w hw => of_spec [7] _ _ _ w _ hw (sl_lit hshe rfl (by simp) (by repeat first | exact lc_nil | refine lc_cons rfl ?_)) (by omega)); rintro ve μe hlee hce; (obtain ⟨fe, cape, rfl⟩ := Cls.form hce)) | ((with_reducible apply F3 58); exact rfl; exact EN; (exact fun w μc hw hse => by have hle9 := hse.le; exact each_spec [.func (.func 66) #[] #[], .func (.func 54) #[] #[], .func (.func 64) #[] #[]] _ _ _ w μc hw (sl_lit hse.hd rfl (by simp) (by repeat first | exact lc_nil | refine lc_cons rfl ?_)) (Clss.forms (μ := μc) (ps := [leftT, exprT, stmtT]) (Clss.cons (cls_left _) (Clss.cons (cls_expression _) (Clss.cons (cls_statement _) (Clss.nil _))))) (by omega)); intro v9; (with_reducible apply g_rowOk 0); exact rfl; rintro A9 c9 rfl hok9) | ((with_reducible apply F1 57); exact rfl; exact EN; (exact fun w μc hw hse => by have hle9 := hse.le; exact fits_each [.func (.func 66) #[] #[], .func (.func 54) #[] #[], .func (.func 64) #[] #[]] [leftT, exprT, stmtT] t.kids _ _ _ _ _ w μc hw (KR.mono (by (repeat first | exact MLe.refl _ | assumption | refine MLe.trans ?_ ‹MLe _ _›)) hk) rfl (by omega) (sl_of_row (enc := encP) (xs := [.func (.func 66) #[] #[], .func (.func 54) #[] #[], .func (.func 64) #[] #[]].map fun v => (v, (0 : Int))) hse.hd rfl (by simp) rfl) rfl (by decide) (Clss.cons (cls_left _) (Clss.cons (cls_expression _) (Clss.cons (cls_statement _) (Clss.nil _)))) hks)) | refine KI ?_ | refine NB fun b => ?_ | ((refine KB ?_ ?_ <;> intro hp)) | refine KG ?_ | fail)
  all_goals first | exact ret_s rfl rfl rfl | (exfalso; omega) | (refine ret_s rfl rfl ?_; simp)
theorem st_while (t : T) (u : Value) (w : World) (μ : Mem) (hμ : MOk μ w) (hk : KR μ t.kids u) (hs : t.size ≤ 100000) (hks : ∀ k ∈ t.kids, T.size k ≤ 100000 ∧ k.s.size ≤ 65536) (hop : t.op = 13) :
    Calls Tryd.prog 33 #[.agg (encT t u).toArray] w fun e w' => e = .returned (.bool (fitP (eachP [exprT, stmtT]) t.kids)) ∧ Below w.heap.size w w' := by
  have ho := hk.one
  obtain ⟨A, c, rfl, hlc, -⟩ := hk.form
  have hlen := kidsLe t
  refine call_intro (args := [.agg (encT t (.slice A t.kids.length c)).toArray]) Tryd.func33 rfl Tryd.ntmps33 (by simp) hμ ?_
  repeat' (first | refine KO ?_ | (refine CF 55 ?_; (fail_if_success (have := hce)); (with_reducible apply g_share); exact rfl; intro μse hlese hshe; (with_reducible apply g_enter_m); exact rfl; exact rfl; exact rfl; ((with_reducible apply e_call1); kernel_rfl; exact rfl); (exact fun w hw => of_spec [7] _ _ _ w _ hw (sl_lit hshe rfl (by simp) (by repeat first | exact lc_nil | refine lc_cons rfl ?_)) (by omega)); rintro ve μe hlee hce; (obtain ⟨fe, cape, rfl⟩ := Cls.form hce)) | ((with_reducible apply F3 58); exact rfl; exact EN; (exact fun w μc hw hse => by have hle9 := hse.le; exact each_spec [.func (.func 54) #[] #[], .func (.func 64) #[] #[]] _ _ _ w μc hw (sl_lit hse.hd rfl (by simp) (by repeat first | exact lc_nil | refine lc_cons rfl ?_)) (Clss.forms (μ := μc) (ps := [exprT, stmtT]) (Clss.cons (cls_expression _) (Clss.cons (cls_statement _) (Clss.nil _)))) (by omega)); intro v9; (with_reducible apply g_rowOk 0); exact rfl; rintro A9 c9 rfl hok9) | ((with_reducible apply F1 57); exact rfl; exact EN; (exact fun w μc hw hse => by have hle9 := hse.le; exact fits_each [.func (.func 54) #[] #[], .func (.func 64) #[] #[]] [exprT, stmtT] t.kids _ _ _ _ _ w μc hw (KR.mono (by (repeat first | exact MLe.refl _ | assumption | refine MLe.trans ?_ ‹MLe _ _›)) hk) rfl (by omega) (sl_of_row (enc := encP) (xs := [.func (.func 54) #[] #[], .func (.func 64) #[] #[]].map fun v => (v, (0 : Int))) hse.hd rfl (by simp) rfl) rfl (by decide) (Clss.cons (cls_expression _) (Clss.cons (cls_statement _) (Clss.nil _))) hks)) | refine KI ?_ | refine NB fun b => ?_ | ((refine KB ?_ ?_ <;> intro hp)) | refine KG ?_ | fail)
  all_goals first | exact ret_s rfl rfl rfl | (exfalso; omega) | (refine ret_s rfl rfl ?_; simp)
theorem st_do (t : T) (u : Value) (w : World) (μ : Mem) (hμ : MOk μ w) (hk : KR μ t.kids u) (hs : t.size ≤ 100000) (hks : ∀ k ∈ t.kids, T.size k ≤ 100000 ∧ k.s.size ≤ 65536) (hop : t.op = 14) :
    Calls Tryd.prog 33 #[.agg (encT t u).toArray] w fun e w' => e = .returned (.bool (fitP (eachP [stmtT, exprT]) t.kids)) ∧ Below w.heap.size w w' := by
  have ho := hk.one
  obtain ⟨A, c, rfl, hlc, -⟩ := hk.form
  have hlen := kidsLe t
  refine call_intro (args := [.agg (encT t (.slice A t.kids.length c)).toArray]) Tryd.func33 rfl Tryd.ntmps33 (by simp) hμ ?_
  repeat' (first | refine KO ?_ | (refine CF 55 ?_; (fail_if_success (have := hce)); (with_reducible apply g_share); exact rfl; intro μse hlese hshe; (with_reducible apply g_enter_m); exact rfl; exact rfl; exact rfl; ((with_reducible apply e_call1); kernel_rfl; exact rfl); (exact fun w hw => of_spec [7] _ _ _ w _ hw (sl_lit hshe rfl (by simp) (by repeat first | exact lc_nil | refine lc_cons rfl ?_)) (by omega)); rintro ve μe hlee hce; (obtain ⟨fe, cape, rfl⟩ := Cls.form hce)) | ((with_reducible apply F3 58); exact rfl; exact EN; (exact fun w μc hw hse => by have hle9 := hse.le; exact each_spec [.func (.func 64) #[] #[], .func (.func 54) #[] #[]] _ _ _ w μc hw (sl_lit hse.hd rfl (by simp) (by repeat first | exact lc_nil | refine lc_cons rfl ?_)) (Clss.forms (μ := μc) (ps := [stmtT, exprT]) (Clss.cons (cls_statement _) (Clss.cons (cls_expression _) (Clss.nil _)))) (by omega)); intro v9; (with_reducible apply g_rowOk 0); exact rfl; rintro A9 c9 rfl hok9) | ((with_reducible apply F1 57); exact rfl; exact EN; (exact fun w μc hw hse => by have hle9 := hse.le; exact fits_each [.func (.func 64) #[] #[], .func (.func 54) #[] #[]] [stmtT, exprT] t.kids _ _ _ _ _ w μc hw (KR.mono (by (repeat first | exact MLe.refl _ | assumption | refine MLe.trans ?_ ‹MLe _ _›)) hk) rfl (by omega) (sl_of_row (enc := encP) (xs := [.func (.func 64) #[] #[], .func (.func 54) #[] #[]].map fun v => (v, (0 : Int))) hse.hd rfl (by simp) rfl) rfl (by decide) (Clss.cons (cls_statement _) (Clss.cons (cls_expression _) (Clss.nil _))) hks)) | refine KI ?_ | refine NB fun b => ?_ | ((refine KB ?_ ?_ <;> intro hp)) | refine KG ?_ | fail)
  all_goals first | exact ret_s rfl rfl rfl | (exfalso; omega) | (refine ret_s rfl rfl ?_; simp)
theorem st_ret (t : T) (u : Value) (w : World) (μ : Mem) (hμ : MOk μ w) (hk : KR μ t.kids u) (hs : t.size ≤ 100000) (hks : ∀ k ∈ t.kids, T.size k ≤ 100000 ∧ k.s.size ≤ 65536) (hop : t.op = 17) :
    Calls Tryd.prog 33 #[.agg (encT t u).toArray] w fun e w' => e = .returned (.bool (fewP exprT 0 1 t.kids)) ∧ Below w.heap.size w w' := by
  have ho := hk.one
  obtain ⟨A, c, rfl, hlc, -⟩ := hk.form
  have hlen := kidsLe t
  refine call_intro (args := [.agg (encT t (.slice A t.kids.length c)).toArray]) Tryd.func33 rfl Tryd.ntmps33 (by simp) hμ ?_
  repeat' (first | refine KO ?_ | (refine CF 55 ?_; (fail_if_success (have := hce)); (with_reducible apply g_share); exact rfl; intro μse hlese hshe; (with_reducible apply g_enter_m); exact rfl; exact rfl; exact rfl; ((with_reducible apply e_call1); kernel_rfl; exact rfl); (exact fun w hw => of_spec [7] _ _ _ w _ hw (sl_lit hshe rfl (by simp) (by repeat first | exact lc_nil | refine lc_cons rfl ?_)) (by omega)); rintro ve μe hlee hce; (obtain ⟨fe, cape, rfl⟩ := Cls.form hce)) | ((with_reducible apply F1 52); exact rfl; exact EN; (exact fun w μc hw hse => by have hle9 := hse.le; exact few_spec' (exprT) _ _ _ t.kids _ _ _ w μc hw (cls_expression _) (KR.mono (by (repeat first | exact MLe.refl _ | assumption | refine MLe.trans ?_ ‹MLe _ _›)) hk) rfl (by omega) hks)) | refine KI ?_ | refine NB fun b => ?_ | ((refine KB ?_ ?_ <;> intro hp)) | refine KG ?_ | fail)
  all_goals first | exact ret_s rfl rfl rfl | (exfalso; omega) | (refine ret_s rfl rfl ?_; simp)
theorem st_catch (t : T) (u : Value) (w : World) (μ : Mem) (hμ : MOk μ w) (hk : KR μ t.kids u) (hs : t.size ≤ 100000) (hks : ∀ k ∈ t.kids, T.size k ≤ 100000 ∧ k.s.size ≤ 65536) (hop : t.op = 20) :
    Calls Tryd.prog 33 #[.agg (encT t u).toArray] w fun e w' => e = .returned (.bool (fitP (eachP [eiT [targetT, ofT [7]], ofT [6]]) t.kids)) ∧ Below w.heap.size w w' := by
  have ho := hk.one
  obtain ⟨A, c, rfl, hlc, -⟩ := hk.form
  have hlen := kidsLe t
  refine call_intro (args := [.agg (encT t (.slice A t.kids.length c)).toArray]) Tryd.func33 rfl Tryd.ntmps33 (by simp) hμ ?_
  repeat' (first | refine KO ?_ | (refine CF 55 ?_; (fail_if_success (have := hce)); (with_reducible apply g_share); exact rfl; intro μse hlese hshe; (with_reducible apply g_enter_m); exact rfl; exact rfl; exact rfl; ((with_reducible apply e_call1); kernel_rfl; exact rfl); (exact fun w hw => of_spec [7] _ _ _ w _ hw (sl_lit hshe rfl (by simp) (by repeat first | exact lc_nil | refine lc_cons rfl ?_)) (by omega)); rintro ve μe hlee hce; (obtain ⟨fe, cape, rfl⟩ := Cls.form hce)) | (refine CF 53 ?_; (fail_if_success (have := hcx)); (with_reducible apply g_share); exact rfl; intro μsx hlesx hshx; (with_reducible apply g_enter_m); exact rfl; exact rfl; exact rfl; ((with_reducible apply e_call1); kernel_rfl; exact rfl); (exact fun w hw => either_spec [.func (.func 60) #[] #[], .func (.func fe) #[] cape.toArray] [targetT, ofT [7]] _ _ _ w _ hw (sl_lit hshx rfl (by simp) (by repeat first | exact lc_nil | refine lc_cons rfl ?_)) (Clss.cons (cls_target _) (Clss.cons (Cls.mono hce (by (repeat first | exact MLe.refl _ | assumption | refine MLe.trans ?_ ‹MLe _ _›))) (Clss.nil _))) (by omega)); rintro vx μx hlex hcx; (obtain ⟨fx, capx, rfl⟩ := Cls.form hcx)) | (refine CF 55 ?_; (fail_if_success (have := hcq)); (with_reducible apply g_share); exact rfl; intro μsq hlesq hshq; (with_reducible apply g_enter_m); exact rfl; exact rfl; exact rfl; ((with_reducible apply e_call1); kernel_rfl; exact rfl); (exact fun w hw => of_spec [6] _ _ _ w _ hw (sl_lit hshq rfl (by simp) (by repeat first | exact lc_nil | refine lc_cons rfl ?_)) (by omega)); rintro vq μq hleq hcq; (obtain ⟨fq, capq, rfl⟩ := Cls.form hcq)) | ((with_reducible apply F3 58); exact rfl; exact EN; (exact fun w μc hw hse => by have hle9 := hse.le; exact each_spec [.func (.func fx) #[] capx.toArray, .func (.func fq) #[] capq.toArray] _ _ _ w μc hw (sl_lit hse.hd rfl (by simp) (by repeat first | exact lc_nil | refine lc_cons rfl ?_)) (Clss.forms (μ := μc) (ps := [eiT [targetT, ofT [7]], ofT [6]]) (Clss.cons (Cls.mono hcx (by (repeat first | exact MLe.refl _ | assumption | refine MLe.trans ?_ ‹MLe _ _›))) (Clss.cons (Cls.mono hcq (by (repeat first | exact MLe.refl _ | assumption | refine MLe.trans ?_ ‹MLe _ _›))) (Clss.nil _)))) (by omega)); intro v9; (with_reducible apply g_rowOk 0); exact rfl; rintro A9 c9 rfl hok9) | ((with_reducible apply F1 57); exact rfl; exact EN; (exact fun w μc hw hse => by have hle9 := hse.le; exact fits_each [.func (.func fx) #[] capx.toArray, .func (.func fq) #[] capq.toArray] [eiT [targetT, ofT [7]], ofT [6]] t.kids _ _ _ _ _ w μc hw (KR.mono (by (repeat first | exact MLe.refl _ | assumption | refine MLe.trans ?_ ‹MLe _ _›)) hk) rfl (by omega) (sl_of_row (enc := encP) (xs := [.func (.func fx) #[] capx.toArray, .func (.func fq) #[] capq.toArray].map fun v => (v, (0 : Int))) hse.hd rfl (by simp) rfl) rfl (by decide) (Clss.cons (Cls.mono hcx (by (repeat first | exact MLe.refl _ | assumption | refine MLe.trans ?_ ‹MLe _ _›))) (Clss.cons (Cls.mono hcq (by (repeat first | exact MLe.refl _ | assumption | refine MLe.trans ?_ ‹MLe _ _›))) (Clss.nil _))) hks)) | refine KI ?_ | refine NB fun b => ?_ | ((refine KB ?_ ?_ <;> intro hp)) | refine KG ?_ | fail)
  all_goals first | exact ret_s rfl rfl rfl | (exfalso; omega) | (refine ret_s rfl rfl ?_; simp)
theorem st_switch (t : T) (u : Value) (w : World) (μ : Mem) (hμ : MOk μ w) (hk : KR μ t.kids u) (hs : t.size ≤ 100000) (hks : ∀ k ∈ t.kids, T.size k ≤ 100000 ∧ k.s.size ≤ 65536) (hop : t.op = 21) :
    Calls Tryd.prog 33 #[.agg (encT t u).toArray] w fun e w' => e = .returned (.bool (fitP [(exprT, 0), (ofT [22], 2)] t.kids)) ∧ Below w.heap.size w w' := by
  have ho := hk.one
  obtain ⟨A, c, rfl, hlc, -⟩ := hk.form
  have hlen := kidsLe t
  refine call_intro (args := [.agg (encT t (.slice A t.kids.length c)).toArray]) Tryd.func33 rfl Tryd.ntmps33 (by simp) hμ ?_
  repeat' (first | refine KO ?_ | (refine CF 55 ?_; (fail_if_success (have := hce)); (with_reducible apply g_share); exact rfl; intro μse hlese hshe; (with_reducible apply g_enter_m); exact rfl; exact rfl; exact rfl; ((with_reducible apply e_call1); kernel_rfl; exact rfl); (exact fun w hw => of_spec [7] _ _ _ w _ hw (sl_lit hshe rfl (by simp) (by repeat first | exact lc_nil | refine lc_cons rfl ?_)) (by omega)); rintro ve μe hlee hce; (obtain ⟨fe, cape, rfl⟩ := Cls.form hce)) | (refine CF 55 ?_; (fail_if_success (have := hcq)); (with_reducible apply g_share); exact rfl; intro μsq hlesq hshq; (with_reducible apply g_enter_m); exact rfl; exact rfl; exact rfl; ((with_reducible apply e_call1); kernel_rfl; exact rfl); (exact fun w hw => of_spec [22] _ _ _ w _ hw (sl_lit hshq rfl (by simp) (by repeat first | exact lc_nil | refine lc_cons rfl ?_)) (by omega)); rintro vq μq hleq hcq; (obtain ⟨fq, capq, rfl⟩ := Cls.form hcq)) | ((with_reducible apply F1 57); exact rfl; exact EN; (exact fun w μc hw hse => by have hle9 := hse.le; exact fits_rows [(.func (.func 54) #[] #[], 0), (.func (.func fq) #[] capq.toArray, 2)] [(exprT, 0), (ofT [22], 2)] t.kids _ _ _ _ _ w μc hw (KR.mono (by (repeat first | exact MLe.refl _ | assumption | refine MLe.trans ?_ ‹MLe _ _›)) hk) rfl (by omega) (sl_lit hse.hd rfl (by simp) (by repeat first | exact lc_nil | refine lc_cons rfl ?_)) rfl (by decide) (Rws.cons (cls_expression _) (Rws.cons (Cls.mono hcq (by (repeat first | exact MLe.refl _ | assumption | refine MLe.trans ?_ ‹MLe _ _›))) (Rws.nil _))) hks)) | refine KI ?_ | refine NB fun b => ?_ | ((refine KB ?_ ?_ <;> intro hp)) | refine KG ?_ | fail)
  all_goals first | exact ret_s rfl rfl rfl | (exfalso; omega) | (refine ret_s rfl rfl ?_; simp)
theorem st_case (t : T) (u : Value) (w : World) (μ : Mem) (hμ : MOk μ w) (hk : KR μ t.kids u) (hs : t.size ≤ 100000) (hks : ∀ k ∈ t.kids, T.size k ≤ 100000 ∧ k.s.size ≤ 65536) (hop : t.op = 22) :
    Calls Tryd.prog 33 #[.agg (encT t u).toArray] w fun e w' => e = .returned (.bool ((if t.n = 1 then fewP stmtT 0 (-1) t.kids else fitP [(exprT, 0), (stmtT, 2)] t.kids))) ∧ Below w.heap.size w w' := by
  have ho := hk.one
  obtain ⟨A, c, rfl, hlc, -⟩ := hk.form
  have hlen := kidsLe t
  refine call_intro (args := [.agg (encT t (.slice A t.kids.length c)).toArray]) Tryd.func33 rfl Tryd.ntmps33 (by simp) hμ ?_
  by_cases hn1 : t.n = 1
  · rw [if_pos hn1]
    repeat' (first | refine KO ?_ | (refine CF 55 ?_; (fail_if_success (have := hce)); (with_reducible apply g_share); exact rfl; intro μse hlese hshe; (with_reducible apply g_enter_m); exact rfl; exact rfl; exact rfl; ((with_reducible apply e_call1); kernel_rfl; exact rfl); (exact fun w hw => of_spec [7] _ _ _ w _ hw (sl_lit hshe rfl (by simp) (by repeat first | exact lc_nil | refine lc_cons rfl ?_)) (by omega)); rintro ve μe hlee hce; (obtain ⟨fe, cape, rfl⟩ := Cls.form hce)) | ((with_reducible apply F1 52); exact rfl; exact EN; (exact fun w μc hw hse => by have hle9 := hse.le; exact few_spec' (stmtT) _ _ _ t.kids _ _ _ w μc hw (cls_statement _) (KR.mono (by (repeat first | exact MLe.refl _ | assumption | refine MLe.trans ?_ ‹MLe _ _›)) hk) rfl (by omega) hks)) | ((with_reducible apply F1 57); exact rfl; exact EN; (exact fun w μc hw hse => by have hle9 := hse.le; exact fits_rows [(.func (.func 54) #[] #[], 0), (.func (.func 64) #[] #[], 2)] [(exprT, 0), (stmtT, 2)] t.kids _ _ _ _ _ w μc hw (KR.mono (by (repeat first | exact MLe.refl _ | assumption | refine MLe.trans ?_ ‹MLe _ _›)) hk) rfl (by omega) (sl_lit hse.hd rfl (by simp) (by repeat first | exact lc_nil | refine lc_cons rfl ?_)) rfl (by decide) (Rws.cons (cls_expression _) (Rws.cons (cls_statement _) (Rws.nil _))) hks)) | refine KI ?_ | refine NB fun b => ?_ | ((refine KB ?_ ?_ <;> intro hp)) | refine KG ?_ | fail)
    all_goals first | exact ret_s rfl rfl rfl | (exfalso; omega) | (refine ret_s rfl rfl ?_; simp)
  · rw [if_neg hn1]
    repeat' (first | refine KO ?_ | (refine CF 55 ?_; (fail_if_success (have := hce)); (with_reducible apply g_share); exact rfl; intro μse hlese hshe; (with_reducible apply g_enter_m); exact rfl; exact rfl; exact rfl; ((with_reducible apply e_call1); kernel_rfl; exact rfl); (exact fun w hw => of_spec [7] _ _ _ w _ hw (sl_lit hshe rfl (by simp) (by repeat first | exact lc_nil | refine lc_cons rfl ?_)) (by omega)); rintro ve μe hlee hce; (obtain ⟨fe, cape, rfl⟩ := Cls.form hce)) | ((with_reducible apply F1 52); exact rfl; exact EN; (exact fun w μc hw hse => by have hle9 := hse.le; exact few_spec' (stmtT) _ _ _ t.kids _ _ _ w μc hw (cls_statement _) (KR.mono (by (repeat first | exact MLe.refl _ | assumption | refine MLe.trans ?_ ‹MLe _ _›)) hk) rfl (by omega) hks)) | ((with_reducible apply F1 57); exact rfl; exact EN; (exact fun w μc hw hse => by have hle9 := hse.le; exact fits_rows [(.func (.func 54) #[] #[], 0), (.func (.func 64) #[] #[], 2)] [(exprT, 0), (stmtT, 2)] t.kids _ _ _ _ _ w μc hw (KR.mono (by (repeat first | exact MLe.refl _ | assumption | refine MLe.trans ?_ ‹MLe _ _›)) hk) rfl (by omega) (sl_lit hse.hd rfl (by simp) (by repeat first | exact lc_nil | refine lc_cons rfl ?_)) rfl (by decide) (Rws.cons (cls_expression _) (Rws.cons (cls_statement _) (Rws.nil _))) hks)) | refine KI ?_ | refine NB fun b => ?_ | ((refine KB ?_ ?_ <;> intro hp)) | refine KG ?_ | fail)
    all_goals first | exact ret_s rfl rfl rfl | (exfalso; omega) | (refine ret_s rfl rfl ?_; simp)
theorem st_rest (t : T) (u : Value) (w : World) (μ : Mem) (hμ : MOk μ w) (hk : KR μ t.kids u) (hs : t.size ≤ 100000) (hks : ∀ k ∈ t.kids, T.size k ≤ 100000 ∧ k.s.size ≤ 65536) (hop : t.op ≠ 1 ∧ t.op ≠ 2 ∧ t.op ≠ 3 ∧ t.op ≠ 4 ∧ t.op ≠ 5 ∧ t.op ≠ 6 ∧ t.op ≠ 7 ∧ t.op ≠ 8 ∧ t.op ≠ 9 ∧ t.op ≠ 10 ∧ t.op ≠ 11 ∧ t.op ≠ 12 ∧ t.op ≠ 13 ∧ t.op ≠ 14 ∧ t.op ≠ 15 ∧ t.op ≠ 16 ∧ t.op ≠ 17 ∧ t.op ≠ 18 ∧ t.op ≠ 19 ∧ t.op ≠ 20 ∧ t.op ≠ 21 ∧ t.op ≠ 22) :
    Calls Tryd.prog 33 #[.agg (encT t u).toArray] w fun e w' => e = .returned (.bool (fitP (eachP [stmtT]) t.kids)) ∧ Below w.heap.size w w' := by
  have ho := hk.one
  obtain ⟨A, c, rfl, hlc, -⟩ := hk.form
  have hlen := kidsLe t
  refine call_intro (args := [.agg (encT t (.slice A t.kids.length c)).toArray]) Tryd.func33 rfl Tryd.ntmps33 (by simp) hμ ?_
  repeat' (first | refine KO ?_ | (refine CF 55 ?_; (fail_if_success (have := hce)); (with_reducible apply g_share); exact rfl; intro μse hlese hshe; (with_reducible apply g_enter_m); exact rfl; exact rfl; exact rfl; ((with_reducible apply e_call1); kernel_rfl; exact rfl); (exact fun w hw => of_spec [7] _ _ _ w _ hw (sl_lit hshe rfl (by simp) (by repeat first | exact lc_nil | refine lc_cons rfl ?_)) (by omega)); rintro ve μe hlee hce; (obtain ⟨fe, cape, rfl⟩ := Cls.form hce)) | ((with_reducible apply F3 58); exact rfl; exact EN; (exact fun w μc hw hse => by have hle9 := hse.le; exact each_spec [.func (.func 64) #[] #[]] _ _ _ w μc hw (sl_lit hse.hd rfl (by simp) (by repeat first | exact lc_nil | refine lc_cons rfl ?_)) (Clss.forms (μ := μc) (ps := [stmtT]) (Clss.cons (cls_statement _) (Clss.nil _))) (by omega)); intro v9; (with_reducible apply g_rowOk 0); exact rfl; rintro A9 c9 rfl hok9) | ((with_reducible apply F1 57); exact rfl; exact EN; (exact fun w μc hw hse => by have hle9 := hse.le; exact fits_each [.func (.func 64) #[] #[]] [stmtT] t.kids _ _ _ _ _ w μc hw (KR.mono (by (repeat first | exact MLe.refl _ | assumption | refine MLe.trans ?_ ‹MLe _ _›)) hk) rfl (by omega) (sl_of_row (enc := encP) (xs := [.func (.func 64) #[] #[]].map fun v => (v, (0 : Int))) hse.hd rfl (by simp) rfl) rfl (by decide) (Clss.cons (cls_statement _) (Clss.nil _)) hks)) | refine KI ?_ | refine NB fun b => ?_ | ((refine KB ?_ ?_ <;> intro hp)) | refine KG ?_ | fail)
  all_goals first | exact ret_s rfl rfl rfl | (exfalso; omega) | (refine ret_s rfl rfl ?_; simp)
end Go.Proofs.YtnllooebophcpaaDoor
namespace Go.Proofs.YtnllooebophcpaaDoor
open Go.RowKit Go.Vcg
theorem eatF_one (p : T → Bool) (l : List T) : eatF p 0 1 l = (1, l) := by
  cases l with
  | nil => rfl
  | cons k r => rw [eatF, if_neg (by simp)]
theorem fitP_cons {p : T → Bool} {ps : List (T → Bool)} {l : List T} (h : fitP (eachP (p :: ps)) l = true) : ∃ k r, l = k :: r ∧ p k = true ∧ fitP (eachP ps) r = true := by
  unfold eachP at h
  rw [List.map_cons, fitP] at h
  cases l with
  | nil => simp [eatF] at h
  | cons k r =>
    cases hp : p k with
    | false =>
      have e : eatF p 0 0 (k :: r) = (0, k :: r) := by rw [eatF, if_neg (by simp [hp])]
      rw [e] at h
      simp at h
    | true =>
      have e : eatF p 0 0 (k :: r) = (1, r) := by rw [eatF, if_pos ⟨hp, .inl rfl⟩, eatF_one]
      rw [e, if_neg (by simp)] at h
      exact ⟨k, r, rfl, hp, h⟩
theorem fitP_nil {l : List T} (h : fitP (eachP []) l = true) : l = [] := by
  unfold eachP at h
  rw [List.map_nil, fitP, decide_eq_true_eq] at h
  exact List.eq_nil_of_length_eq_zero h
def tryT (l : List T) : Bool := fitP (eachP [ofT [6], ofT [20, 7], ofT [6, 7]]) l && (match l with | [_, y, z] => decide (y.op ≠ 7) || decide (z.op ≠ 7) | _ => false)
theorem fit3 {a b c : T → Bool} {l : List T} (h : fitP (eachP [a, b, c]) l = true) : ∃ x y z, l = [x, y, z] := by
  obtain ⟨x, r, rfl, _, h⟩ := fitP_cons h
  obtain ⟨y, r, rfl, _, h⟩ := fitP_cons h
  obtain ⟨z, r, rfl, _, h⟩ := fitP_cons h
  rw [fitP_nil h]
  exact ⟨x, y, z, rfl⟩
attribute [local irreducible] fitP fewP G GC GQ GA GAop Calls IntKind.wrap Int.decLt Int.decLe
theorem st_try (t : T) (u : Value) (w : World) (μ : Mem) (hμ : MOk μ w) (hk : KR μ t.kids u) (hs : t.size ≤ 100000) (hks : ∀ k ∈ t.kids, T.size k ≤ 100000 ∧ k.s.size ≤ 65536) (hop : t.op = 19) :
    Calls Tryd.prog 33 #[.agg (encT t u).toArray] w fun e w' => e = .returned (.bool (tryT t.kids)) ∧ Below w.heap.size w w' := by
  have ho := hk.one
  obtain ⟨A, c, rfl, hlc, hkid⟩ := hk.form
  have hlen := kidsLe t
  refine call_intro (args := [.agg (encT t (.slice A t.kids.length c)).toArray]) Tryd.func33 rfl Tryd.ntmps33 (by simp) hμ ?_
  cases hB : fitP (eachP [ofT [6], ofT [20, 7], ofT [6, 7]]) t.kids
  · have hg : tryT t.kids = false := by unfold tryT; rw [hB, Bool.false_and]
    rw [hg]
    repeat' (first | refine KO ?_ | (refine CF 55 ?_; (fail_if_success (have := hce)); (with_reducible apply g_share); exact rfl; intro μse hlese hshe; (with_reducible apply g_enter_m); exact rfl; exact rfl; exact rfl; ((with_reducible apply e_call1); kernel_rfl; exact rfl); (exact fun w hw => of_spec [7] _ _ _ w _ hw (sl_lit hshe rfl (by simp) (by repeat first | exact lc_nil | refine lc_cons rfl ?_)) (by omega)); rintro ve μe hlee hce; (obtain ⟨fe, cape, rfl⟩ := Cls.form hce)) | (refine CF 55 ?_; (fail_if_success (have := hcq)); (with_reducible apply g_share); exact rfl; intro μsq hlesq hshq; (with_reducible apply g_enter_m); exact rfl; exact rfl; exact rfl; ((with_reducible apply e_call1); kernel_rfl; exact rfl); (exact fun w hw => of_spec [6] _ _ _ w _ hw (sl_lit hshq rfl (by simp) (by repeat first | exact lc_nil | refine lc_cons rfl ?_)) (by omega)); rintro vq μq hleq hcq; (obtain ⟨fq, capq, rfl⟩ := Cls.form hcq)) | (refine CF 55 ?_; (fail_if_success (have := hcr)); (with_reducible apply g_share); exact rfl; intro μsr hlesr hshr; (with_reducible apply g_enter_m); exact rfl; exact rfl; exact rfl; ((with_reducible apply e_call1); kernel_rfl; exact rfl); (exact fun w hw => of_spec [20, 7] _ _ _ w _ hw (sl_lit hshr rfl (by simp) (by repeat first | exact lc_nil | refine lc_cons rfl ?_)) (by omega)); rintro vr μr hler hcr; (obtain ⟨fr, capr, rfl⟩ := Cls.form hcr)) | (refine CF 55 ?_; (fail_if_success (have := hcz)); (with_reducible apply g_share); exact rfl; intro μsz hlesz hshz; (with_reducible apply g_enter_m); exact rfl; exact rfl; exact rfl; ((with_reducible apply e_call1); kernel_rfl; exact rfl); (exact fun w hw => of_spec [6, 7] _ _ _ w _ hw (sl_lit hshz rfl (by simp) (by repeat first | exact lc_nil | refine lc_cons rfl ?_)) (by omega)); rintro vz μz hlez hcz; (obtain ⟨fz, capz, rfl⟩ := Cls.form hcz)) | ((with_reducible apply F3 58); exact rfl; exact EN; (exact fun w μc hw hse => by have hle9 := hse.le; exact each_spec [.func (.func fq) #[] capq.toArray, .func (.func fr) #[] capr.toArray, .func (.func fz) #[] capz.toArray] _ _ _ w μc hw (sl_lit hse.hd rfl (by simp) (by repeat first | exact lc_nil | refine lc_cons rfl ?_)) (Clss.forms (μ := μc) (ps := [ofT [6], ofT [20, 7], ofT [6, 7]]) (Clss.cons (Cls.mono hcq (by (repeat first | exact MLe.refl _ | assumption | refine MLe.trans ?_ ‹MLe _ _›))) (Clss.cons (Cls.mono hcr (by (repeat first | exact MLe.refl _ | assumption | refine MLe.trans ?_ ‹MLe _ _›))) (Clss.cons (Cls.mono hcz (by (repeat first | exact MLe.refl _ | assumption | refine MLe.trans ?_ ‹MLe _ _›))) (Clss.nil _))))) (by omega)); intro v9; (with_reducible apply g_rowOk 0); exact rfl; rintro A9 c9 rfl hok9) | ((with_reducible apply F1 57); exact rfl; exact EN; (exact fun w μc hw hse => by have hle9 := hse.le; exact fits_each [.func (.func fq) #[] capq.toArray, .func (.func fr) #[] capr.toArray, .func (.func fz) #[] capz.toArray] [ofT [6], ofT [20, 7], ofT [6, 7]] t.kids _ _ _ _ _ w μc hw (KR.mono (by (repeat first | exact MLe.refl _ | assumption | refine MLe.trans ?_ ‹MLe _ _›)) hk) rfl (by omega) (sl_of_row (enc := encP) (xs := [.func (.func fq) #[] capq.toArray, .func (.func fr) #[] capr.toArray, .func (.func fz) #[] capz.toArray].map fun v => (v, (0 : Int))) hse.hd rfl (by simp) rfl) rfl (by decide) (Clss.cons (Cls.mono hcq (by (repeat first | exact MLe.refl _ | assumption | refine MLe.trans ?_ ‹MLe _ _›))) (Clss.cons (Cls.mono hcr (by (repeat first | exact MLe.refl _ | assumption | refine MLe.trans ?_ ‹MLe _ _›))) (Clss.cons (Cls.mono hcz (by (repeat first | exact MLe.refl _ | assumption | refine MLe.trans ?_ ‹MLe _ _›))) (Clss.nil _)))) hks)) | refine KI ?_ | refine NB fun b => ?_ | ((refine KB ?_ ?_ <;> intro hp)) | refine KG ?_ | fail)
    all_goals first | exact ret_s rfl rfl rfl | (refine ret_s rfl rfl ?_; rw [hB]; done) | (exfalso; rw [hB] at hp; cases hp; done) | (exfalso; simp_all; done)
  · obtain ⟨x, y, z, hl⟩ := fit3 hB
    obtain ⟨ad, u1, rfl, hm1, ho1, hk1⟩ := hkid 1 y (by rw [hl]; rfl)
    obtain ⟨ad2, u2, e, hm2, ho2, hk2⟩ := hkid 2 z (by rw [hl]; rfl)
    cases e
    have hg : tryT t.kids = (decide (y.op ≠ 7) || decide (z.op ≠ 7)) := by unfold tryT; rw [hB, hl, Bool.true_and]
    have hl3 : t.kids.length = 3 := by rw [hl]; rfl
    rw [hg]
    repeat' (first | refine KO ?_ | (refine CF 55 ?_; (fail_if_success (have := hce)); (with_reducible apply g_share); exact rfl; intro μse hlese hshe; (with_reducible apply g_enter_m); exact rfl; exact rfl; exact rfl; ((with_reducible apply e_call1); kernel_rfl; exact rfl); (exact fun w hw => of_spec [7] _ _ _ w _ hw (sl_lit hshe rfl (by simp) (by repeat first | exact lc_nil | refine lc_cons rfl ?_)) (by omega)); rintro ve μe hlee hce; (obtain ⟨fe, cape, rfl⟩ := Cls.form hce)) | (refine CF 55 ?_; (fail_if_success (have := hcq)); (with_reducible apply g_share); exact rfl; intro μsq hlesq hshq; (with_reducible apply g_enter_m); exact rfl; exact rfl; exact rfl; ((with_reducible apply e_call1); kernel_rfl; exact rfl); (exact fun w hw => of_spec [6] _ _ _ w _ hw (sl_lit hshq rfl (by simp) (by repeat first | exact lc_nil | refine lc_cons rfl ?_)) (by omega)); rintro vq μq hleq hcq; (obtain ⟨fq, capq, rfl⟩ := Cls.form hcq)) | (refine CF 55 ?_; (fail_if_success (have := hcr)); (with_reducible apply g_share); exact rfl; intro μsr hlesr hshr; (with_reducible apply g_enter_m); exact rfl; exact rfl; exact rfl; ((with_reducible apply e_call1); kernel_rfl; exact rfl); (exact fun w hw => of_spec [20, 7] _ _ _ w _ hw (sl_lit hshr rfl (by simp) (by repeat first | exact lc_nil | refine lc_cons rfl ?_)) (by omega)); rintro vr μr hler hcr; (obtain ⟨fr, capr, rfl⟩ := Cls.form hcr)) | (refine CF 55 ?_; (fail_if_success (have := hcz)); (with_reducible apply g_share); exact rfl; intro μsz hlesz hshz; (with_reducible apply g_enter_m); exact rfl; exact rfl; exact rfl; ((with_reducible apply e_call1); kernel_rfl; exact rfl); (exact fun w hw => of_spec [6, 7] _ _ _ w _ hw (sl_lit hshz rfl (by simp) (by repeat first | exact lc_nil | refine lc_cons rfl ?_)) (by omega)); rintro vz μz hlez hcz; (obtain ⟨fz, capz, rfl⟩ := Cls.form hcz)) | ((with_reducible apply F3 58); exact rfl; exact EN; (exact fun w μc hw hse => by have hle9 := hse.le; exact each_spec [.func (.func fq) #[] capq.toArray, .func (.func fr) #[] capr.toArray, .func (.func fz) #[] capz.toArray] _ _ _ w μc hw (sl_lit hse.hd rfl (by simp) (by repeat first | exact lc_nil | refine lc_cons rfl ?_)) (Clss.forms (μ := μc) (ps := [ofT [6], ofT [20, 7], ofT [6, 7]]) (Clss.cons (Cls.mono hcq (by (repeat first | exact MLe.refl _ | assumption | refine MLe.trans ?_ ‹MLe _ _›))) (Clss.cons (Cls.mono hcr (by (repeat first | exact MLe.refl _ | assumption | refine MLe.trans ?_ ‹MLe _ _›))) (Clss.cons (Cls.mono hcz (by (repeat first | exact MLe.refl _ | assumption | refine MLe.trans ?_ ‹MLe _ _›))) (Clss.nil _))))) (by omega)); intro v9; (with_reducible apply g_rowOk 0); exact rfl; rintro A9 c9 rfl hok9) | ((with_reducible apply F1 57); exact rfl; exact EN; (exact fun w μc hw hse => by have hle9 := hse.le; exact fits_each [.func (.func fq) #[] capq.toArray, .func (.func fr) #[] capr.toArray, .func (.func fz) #[] capz.toArray] [ofT [6], ofT [20, 7], ofT [6, 7]] t.kids _ _ _ _ _ w μc hw (KR.mono (by (repeat first | exact MLe.refl _ | assumption | refine MLe.trans ?_ ‹MLe _ _›)) hk) rfl (by omega) (sl_of_row (enc := encP) (xs := [.func (.func fq) #[] capq.toArray, .func (.func fr) #[] capr.toArray, .func (.func fz) #[] capz.toArray].map fun v => (v, (0 : Int))) hse.hd rfl (by simp) rfl) rfl (by decide) (Clss.cons (Cls.mono hcq (by (repeat first | exact MLe.refl _ | assumption | refine MLe.trans ?_ ‹MLe _ _›))) (Clss.cons (Cls.mono hcr (by (repeat first | exact MLe.refl _ | assumption | refine MLe.trans ?_ ‹MLe _ _›))) (Clss.cons (Cls.mono hcz (by (repeat first | exact MLe.refl _ | assumption | refine MLe.trans ?_ ‹MLe _ _›))) (Clss.nil _)))) hks)) | (refine KV (b := by first | exact U1 1 | exact U1 2 | ((with_reducible apply v_ld_sh); exact rfl; exact rfl; exact rfl; exact (hm1.mono (by (repeat first | exact MLe.refl _ | assumption | refine MLe.trans ?_ ‹MLe _ _›))); exact rfl) | ((with_reducible apply v_ld_sh); exact rfl; exact rfl; exact rfl; exact (hm2.mono (by (repeat first | exact MLe.refl _ | assumption | refine MLe.trans ?_ ‹MLe _ _›))); exact rfl)) (c := ?_)) | refine KI ?_ | refine NB fun b => ?_ | ((refine KB ?_ ?_ <;> intro hp)) | refine KG ?_ | fail)
    all_goals first | (refine ret_s rfl rfl ?_; simp_all; done) | (exfalso; simp_all; done) | (exfalso; omega)
end Go.Proofs.YtnllooebophcpaaDoor
namespace Go.Proofs.YtnllooebophcpaaDoor
open Go.RowKit Go.Vcg
attribute [local irreducible] fitP fewP propT patternsT templB chainT G GC GQ GA GAop Calls IntKind.wrap Int.decLt Int.decLe
theorem ex_none (t : T) (u : Value) (w : World) (μ : Mem) (hμ : MOk μ w) (hk : KR μ t.kids u) (hs : t.size ≤ 100000) (hks : ∀ k ∈ t.kids, T.size k ≤ 100000 ∧ k.s.size ≤ 65536) (hop : t.op = 30 ∨ t.op = 31 ∨ t.op = 32 ∨ t.op = 33 ∨ t.op = 34 ∨ t.op = 35 ∨ t.op = 40) :
    Calls Tryd.prog 32 #[.agg (encT t u).toArray] w fun e w' => e = .returned (.bool (decide (t.kids.length = 0))) ∧ Below w.heap.size w w' := by
  have ho := hk.one
  obtain ⟨A, c, rfl, hlc, -⟩ := hk.form
  have hlen := kidsLe t
  refine call_intro (args := [.agg (encT t (.slice A t.kids.length c)).toArray]) Tryd.func32 rfl Tryd.ntmps32 (by simp) hμ ?_
  repeat' (first | refine KK ?_ | refine NB fun b => ?_ | ((refine KB ?_ ?_ <;> intro hp)) | refine KG ?_ | fail)
  all_goals first | exact ret_s rfl rfl rfl | (exfalso; omega) | (refine ret_s rfl rfl ?_; simp)
theorem ex_tmpl (t : T) (u : Value) (w : World) (μ : Mem) (hμ : MOk μ w) (hk : KR μ t.kids u) (hs : t.size ≤ 100000) (hks : ∀ k ∈ t.kids, T.size k ≤ 100000 ∧ k.s.size ≤ 65536) (hop : t.op = 36) :
    Calls Tryd.prog 32 #[.agg (encT t u).toArray] w fun e w' => e = .returned (.bool (templB exprT t.kids)) ∧ Below w.heap.size w w' := by
  have ho := hk.one
  obtain ⟨A, c, rfl, hlc, -⟩ := hk.form
  have hlen := kidsLe t
  refine call_intro (args := [.agg (encT t (.slice A t.kids.length c)).toArray]) Tryd.func32 rfl Tryd.ntmps32 (by simp) hμ ?_
  repeat' (first | refine KO ?_ | ((with_reducible apply F1 51); exact rfl; exact EN; (exact fun w μc hw hse => by have hle9 := hse.le; exact template_spec t.kids _ _ _ w μc hw (KR.mono (by (repeat first | exact MLe.refl _ | assumption | refine MLe.trans ?_ ‹MLe _ _›)) hk) rfl (by omega) hks)) | refine KI ?_ | refine NB fun b => ?_ | ((refine KB ?_ ?_ <;> intro hp)) | refine KG ?_ | fail)
  all_goals first | exact ret_s rfl rfl rfl | (exfalso; omega) | (refine ret_s rfl rfl ?_; simp)
theorem ex_array (t : T) (u : Value) (w : World) (μ : Mem) (hμ : MOk μ w) (hk : KR μ t.kids u) (hs : t.size ≤ 100000) (hks : ∀ k ∈ t.kids, T.size k ≤ 100000 ∧ k.s.size ≤ 65536) (hop : t.op = 37) :
    Calls Tryd.prog 32 #[.agg (encT t u).toArray] w fun e w' => e = .returned (.bool (fewP (eiT [exprT, ofT [40, 41]]) 0 (-1) t.kids)) ∧ Below w.heap.size w w' := by
  have ho := hk.one
  obtain ⟨A, c, rfl, hlc, -⟩ := hk.form
  have hlen := kidsLe t
  refine call_intro (args := [.agg (encT t (.slice A t.kids.length c)).toArray]) Tryd.func32 rfl Tryd.ntmps32 (by simp) hμ ?_
  repeat' (first | refine KO ?_ | (refine CF 55 ?_; (fail_if_success (have := hcq)); (with_reducible apply g_share); exact rfl; intro μsq hlesq hshq; (with_reducible apply g_enter_m); exact rfl; exact rfl; exact rfl; ((with_reducible apply e_call1); kernel_rfl; exact rfl); (exact fun w hw => of_spec [40, 41] _ _ _ w _ hw (sl_lit hshq rfl (by simp) (by repeat first | exact lc_nil | refine lc_cons rfl ?_)) (by omega)); rintro vq μq hleq hcq; (obtain ⟨fq, capq, rfl⟩ := Cls.form hcq)) | (refine CF 53 ?_; (fail_if_success (have := hcx)); (with_reducible apply g_share); exact rfl; intro μsx hlesx hshx; (with_reducible apply g_enter_m); exact rfl; exact rfl; exact rfl; ((with_reducible apply e_call1); kernel_rfl; exact rfl); (exact fun w hw => either_spec [.func (.func 54) #[] #[], .func (.func fq) #[] capq.toArray] [exprT, ofT [40, 41]] _ _ _ w _ hw (sl_lit hshx rfl (by simp) (by repeat first | exact lc_nil | refine lc_cons rfl ?_)) (Clss.cons (cls_expression _) (Clss.cons (Cls.mono hcq (by (repeat first | exact MLe.refl _ | assumption | refine MLe.trans ?_ ‹MLe _ _›))) (Clss.nil _))) (by omega)); rintro vx μx hlex hcx; (obtain ⟨fx, capx, rfl⟩ := Cls.form hcx)) | ((with_reducible apply F1 52); exact rfl; exact EN; (exact fun w μc hw hse => by have hle9 := hse.le; exact few_spec' (eiT [exprT, ofT [40, 41]]) _ _ _ t.kids _ _ _ w μc hw (Cls.mono hcx (by (repeat first | exact MLe.refl _ | assumption | refine MLe.trans ?_ ‹MLe _ _›))) (KR.mono (by (repeat first | exact MLe.refl _ | assumption | refine MLe.trans ?_ ‹MLe _ _›)) hk) rfl (by omega) hks)) | refine KI ?_ | refine NB fun b => ?_ | ((refine KB ?_ ?_ <;> intro hp)) | refine KG ?_ | fail)
  all_goals first | exact ret_s rfl rfl rfl | (exfalso; omega) | (refine ret_s rfl rfl ?_; simp)
theorem ex_object (t : T) (u : Value) (w : World) (μ : Mem) (hμ : MOk μ w) (hk : KR μ t.kids u) (hs : t.size ≤ 100000) (hks : ∀ k ∈ t.kids, T.size k ≤ 100000 ∧ k.s.size ≤ 65536) (hop : t.op = 38) :
    Calls Tryd.prog 32 #[.agg (encT t u).toArray] w fun e w' => e = .returned (.bool (fewP (ofT [39]) 0 (-1) t.kids)) ∧ Below w.heap.size w w' := by
  have ho := hk.one
  obtain ⟨A, c, rfl, hlc, -⟩ := hk.form
  have hlen := kidsLe t
  refine call_intro (args := [.agg (encT t (.slice A t.kids.length c)).toArray]) Tryd.func32 rfl Tryd.ntmps32 (by simp) hμ ?_
  repeat' (first | refine KO ?_ | (refine CF 55 ?_; (fail_if_success (have := hcq)); (with_reducible apply g_share); exact rfl; intro μsq hlesq hshq; (with_reducible apply g_enter_m); exact rfl; exact rfl; exact rfl; ((with_reducible apply e_call1); kernel_rfl; exact rfl); (exact fun w hw => of_spec [39] _ _ _ w _ hw (sl_lit hshq rfl (by simp) (by repeat first | exact lc_nil | refine lc_cons rfl ?_)) (by omega)); rintro vq μq hleq hcq; (obtain ⟨fq, capq, rfl⟩ := Cls.form hcq)) | ((with_reducible apply F1 52); exact rfl; exact EN; (exact fun w μc hw hse => by have hle9 := hse.le; exact few_spec' (ofT [39]) _ _ _ t.kids _ _ _ w μc hw (Cls.mono hcq (by (repeat first | exact MLe.refl _ | assumption | refine MLe.trans ?_ ‹MLe _ _›))) (KR.mono (by (repeat first | exact MLe.refl _ | assumption | refine MLe.trans ?_ ‹MLe _ _›)) hk) rfl (by omega) hks)) | refine KI ?_ | refine NB fun b => ?_ | ((refine KB ?_ ?_ <;> intro hp)) | refine KG ?_ | fail)
  all_goals first | exact ret_s rfl rfl rfl | (exfalso; omega) | (refine ret_s rfl rfl ?_; simp)
theorem ex_prop (t : T) (u : Value) (w : World) (μ : Mem) (hμ : MOk μ w) (hk : KR μ t.kids u) (hs : t.size ≤ 100000) (hks : ∀ k ∈ t.kids, T.size k ≤ 100000 ∧ k.s.size ≤ 65536) (hop : t.op = 39) :
    Calls Tryd.prog 32 #[.agg (encT t u).toArray] w fun e w' => e = .returned (.bool (propT t)) ∧ Below w.heap.size w w' := by
  have ho := hk.one
  obtain ⟨A, c, rfl, hlc, -⟩ := hk.form
  have hlen := kidsLe t
  refine call_intro (args := [.agg (encT t (.slice A t.kids.length c)).toArray]) Tryd.func32 rfl Tryd.ntmps32 (by simp) hμ ?_
  repeat' (first | refine KO ?_ | ((with_reducible apply F1 56); exact rfl; exact EN; (exact fun w μc hw hse => by have hle9 := hse.le; exact prop_spec t _ w μc hw (KR.mono (by (repeat first | exact MLe.refl _ | assumption | refine MLe.trans ?_ ‹MLe _ _›)) hk) hs hks)) | refine KI ?_ | refine NB fun b => ?_ | ((refine KB ?_ ?_ <;> intro hp)) | refine KG ?_ | fail)
  all_goals first | exact ret_s rfl rfl rfl | (exfalso; omega) | (refine ret_s rfl rfl ?_; simp)
theorem ex_spread (t : T) (u : Value) (w : World) (μ : Mem) (hμ : MOk μ w) (hk : KR μ t.kids u) (hs : t.size ≤ 100000) (hks : ∀ k ∈ t.kids, T.size k ≤ 100000 ∧ k.s.size ≤ 65536) (hop : t.op = 41 ∨ t.op = 42) :
    Calls Tryd.prog 32 #[.agg (encT t u).toArray] w fun e w' => e = .returned (.bool (fitP (eachP [exprT]) t.kids)) ∧ Below w.heap.size w w' := by
  have ho := hk.one
  obtain ⟨A, c, rfl, hlc, -⟩ := hk.form
  have hlen := kidsLe t
  refine call_intro (args := [.agg (encT t (.slice A t.kids.length c)).toArray]) Tryd.func32 rfl Tryd.ntmps32 (by simp) hμ ?_
  repeat' (first | refine KO ?_ | ((with_reducible apply F3 58); exact rfl; exact EN; (exact fun w μc hw hse => by have hle9 := hse.le; exact each_spec [.func (.func 54) #[] #[]] _ _ _ w μc hw (sl_lit hse.hd rfl (by simp) (by repeat first | exact lc_nil | refine lc_cons rfl ?_)) (Clss.forms (μ := μc) (ps := [exprT]) (Clss.cons (cls_expression _) (Clss.nil _))) (by omega)); intro v9; (with_reducible apply g_rowOk 0); exact rfl; rintro A9 c9 rfl hok9) | ((with_reducible apply F1 57); exact rfl; exact EN; (exact fun w μc hw hse => by have hle9 := hse.le; exact fits_each [.func (.func 54) #[] #[]] [exprT] t.kids _ _ _ _ _ w μc hw (KR.mono (by (repeat first | exact MLe.refl _ | assumption | refine MLe.trans ?_ ‹MLe _ _›)) hk) rfl (by omega) (sl_of_row (enc := encP) (xs := [.func (.func 54) #[] #[]].map fun v => (v, (0 : Int))) hse.hd rfl (by simp) rfl) rfl (by decide) (Clss.cons (cls_expression _) (Clss.nil _)) hks)) | refine KI ?_ | refine NB fun b => ?_ | ((refine KB ?_ ?_ <;> intro hp)) | refine KG ?_ | fail)
  all_goals first | exact ret_s rfl rfl rfl | (exfalso; omega) | (refine ret_s rfl rfl ?_; simp)
theorem ex_update (t : T) (u : Value) (w : World) (μ : Mem) (hμ : MOk μ w) (hk : KR μ t.kids u) (hs : t.size ≤ 100000) (hks : ∀ k ∈ t.kids, T.size k ≤ 100000 ∧ k.s.size ≤ 65536) (hop : t.op = 43) :
    Calls Tryd.prog 32 #[.agg (encT t u).toArray] w fun e w' => e = .returned (.bool (fitP (eachP [simpleT]) t.kids)) ∧ Below w.heap.size w w' := by
  have ho := hk.one
  obtain ⟨A, c, rfl, hlc, -⟩ := hk.form
  have hlen := kidsLe t
  refine call_intro (args := [.agg (encT t (.slice A t.kids.length c)).toArray]) Tryd.func32 rfl Tryd.ntmps32 (by simp) hμ ?_
  repeat' (first | refine KO ?_ | ((with_reducible apply F3 58); exact rfl; exact EN; (exact fun w μc hw hse => by have hle9 := hse.le; exact each_spec [.func (.func 59) #[] #[]] _ _ _ w μc hw (sl_lit hse.hd rfl (by simp) (by repeat first | exact lc_nil | refine lc_cons rfl ?_)) (Clss.forms (μ := μc) (ps := [simpleT]) (Clss.cons (cls_simple _) (Clss.nil _))) (by omega)); intro v9; (with_reducible apply g_rowOk 0); exact rfl; rintro A9 c9 rfl hok9) | ((with_reducible apply F1 57); exact rfl; exact EN; (exact fun w μc hw hse => by have hle9 := hse.le; exact fits_each [.func (.func 59) #[] #[]] [simpleT] t.kids _ _ _ _ _ w μc hw (KR.mono (by (repeat first | exact MLe.refl _ | assumption | refine MLe.trans ?_ ‹MLe _ _›)) hk) rfl (by omega) (sl_of_row (enc := encP) (xs := [.func (.func 59) #[] #[]].map fun v => (v, (0 : Int))) hse.hd rfl (by simp) rfl) rfl (by decide) (Clss.cons (cls_simple _) (Clss.nil _)) hks)) | refine KI ?_ | refine NB fun b => ?_ | ((refine KB ?_ ?_ <;> intro hp)) | refine KG ?_ | fail)
  all_goals first | exact ret_s rfl rfl rfl | (exfalso; omega) | (refine ret_s rfl rfl ?_; simp)
theorem ex_bin (t : T) (u : Value) (w : World) (μ : Mem) (hμ : MOk μ w) (hk : KR μ t.kids u) (hs : t.size ≤ 100000) (hks : ∀ k ∈ t.kids, T.size k ≤ 100000 ∧ k.s.size ≤ 65536) (hop : t.op = 44 ∨ t.op = 45 ∨ t.op = 52) :
    Calls Tryd.prog 32 #[.agg (encT t u).toArray] w fun e w' => e = .returned (.bool (fewP exprT 2 2 t.kids)) ∧ Below w.heap.size w w' := by
  have ho := hk.one
  obtain ⟨A, c, rfl, hlc, -⟩ := hk.form
  have hlen := kidsLe t
  refine call_intro (args := [.agg (encT t (.slice A t.kids.length c)).toArray]) Tryd.func32 rfl Tryd.ntmps32 (by simp) hμ ?_
  repeat' (first | refine KO ?_ | ((with_reducible apply F1 52); exact rfl; exact EN; (exact fun w μc hw hse => by have hle9 := hse.le; exact few_spec' (exprT) _ _ _ t.kids _ _ _ w μc hw (cls_expression _) (KR.mono (by (repeat first | exact MLe.refl _ | assumption | refine MLe.trans ?_ ‹MLe _ _›)) hk) rfl (by omega) hks)) | refine KI ?_ | refine NB fun b => ?_ | ((refine KB ?_ ?_ <;> intro hp)) | refine KG ?_ | fail)
  all_goals first | exact ret_s rfl rfl rfl | (exfalso; omega) | (refine ret_s rfl rfl ?_; simp)
theorem ex_assignT (t : T) (u : Value) (w : World) (μ : Mem) (hμ : MOk μ w) (hk : KR μ t.kids u) (hs : t.size ≤ 100000) (hks : ∀ k ∈ t.kids, T.size k ≤ 100000 ∧ k.s.size ≤ 65536) (hop : t.op = 46) (hss : t.s = ⟨#[61]⟩) :
    Calls Tryd.prog 32 #[.agg (encT t u).toArray] w fun e w' => e = .returned (.bool (fitP (eachP [targetT, exprT]) t.kids)) ∧ Below w.heap.size w w' := by
  have ho := hk.one
  obtain ⟨A, c, rfl, hlc, -⟩ := hk.form
  have hlen := kidsLe t
  refine call_intro (args := [.agg (encT t (.slice A t.kids.length c)).toArray]) Tryd.func32 rfl Tryd.ntmps32 (by simp) hμ ?_
  repeat' (first | refine KO ?_ | ((with_reducible apply F3 58); exact rfl; exact EN; (exact fun w μc hw hse => by have hle9 := hse.le; exact each_spec [.func (.func 60) #[] #[], .func (.func 54) #[] #[]] _ _ _ w μc hw (sl_lit hse.hd rfl (by simp) (by repeat first | exact lc_nil | refine lc_cons rfl ?_)) (Clss.forms (μ := μc) (ps := [targetT, exprT]) (Clss.cons (cls_target _) (Clss.cons (cls_expression _) (Clss.nil _)))) (by omega)); intro v9; (with_reducible apply g_rowOk 0); exact rfl; rintro A9 c9 rfl hok9) | ((with_reducible apply F1 57); exact rfl; exact EN; (exact fun w μc hw hse => by have hle9 := hse.le; exact fits_each [.func (.func 60) #[] #[], .func (.func 54) #[] #[]] [targetT, exprT] t.kids _ _ _ _ _ w μc hw (KR.mono (by (repeat first | exact MLe.refl _ | assumption | refine MLe.trans ?_ ‹MLe _ _›)) hk) rfl (by omega) (sl_of_row (enc := encP) (xs := [.func (.func 60) #[] #[], .func (.func 54) #[] #[]].map fun v => (v, (0 : Int))) hse.hd rfl (by simp) rfl) rfl (by decide) (Clss.cons (cls_target _) (Clss.cons (cls_expression _) (Clss.nil _))) hks)) | refine KI ?_ | refine NB fun b => ?_ | ((refine KB ?_ ?_ <;> intro hp)) | refine KG ?_ | fail)
  all_goals first | exact ret_s rfl rfl rfl | (exfalso; omega) | exact absurd ‹t.s = _› hss | exact absurd hss ‹t.s ≠ _› | (refine ret_s rfl rfl ?_; simp)
theorem ex_assignS (t : T) (u : Value) (w : World) (μ : Mem) (hμ : MOk μ w) (hk : KR μ t.kids u) (hs : t.size ≤ 100000) (hks : ∀ k ∈ t.kids, T.size k ≤ 100000 ∧ k.s.size ≤ 65536) (hop : t.op = 46) (hss : t.s ≠ ⟨#[61]⟩) :
    Calls Tryd.prog 32 #[.agg (encT t u).toArray] w fun e w' => e = .returned (.bool (fitP (eachP [simpleT, exprT]) t.kids)) ∧ Below w.heap.size w w' := by
  have ho := hk.one
  obtain ⟨A, c, rfl, hlc, -⟩ := hk.form
  have hlen := kidsLe t
  refine call_intro (args := [.agg (encT t (.slice A t.kids.length c)).toArray]) Tryd.func32 rfl Tryd.ntmps32 (by simp) hμ ?_
  repeat' (first | refine KO ?_ | ((with_reducible apply F3 58); exact rfl; exact EN; (exact fun w μc hw hse => by have hle9 := hse.le; exact each_spec [.func (.func 59) #[] #[], .func (.func 54) #[] #[]] _ _ _ w μc hw (sl_lit hse.hd rfl (by simp) (by repeat first | exact lc_nil | refine lc_cons rfl ?_)) (Clss.forms (μ := μc) (ps := [simpleT, exprT]) (Clss.cons (cls_simple _) (Clss.cons (cls_expression _) (Clss.nil _)))) (by omega)); intro v9; (with_reducible apply g_rowOk 0); exact rfl; rintro A9 c9 rfl hok9) | ((with_reducible apply F1 57); exact rfl; exact EN; (exact fun w μc hw hse => by have hle9 := hse.le; exact fits_each [.func (.func 59) #[] #[], .func (.func 54) #[] #[]] [simpleT, exprT] t.kids _ _ _ _ _ w μc hw (KR.mono (by (repeat first | exact MLe.refl _ | assumption | refine MLe.trans ?_ ‹MLe _ _›)) hk) rfl (by omega) (sl_of_row (enc := encP) (xs := [.func (.func 59) #[] #[], .func (.func 54) #[] #[]].map fun v => (v, (0 : Int))) hse.hd rfl (by simp) rfl) rfl (by decide) (Clss.cons (cls_simple _) (Clss.cons (cls_expression _) (Clss.nil _))) hks)) | refine KI ?_ | refine NB fun b => ?_ | ((refine KB ?_ ?_ <;> intro hp)) | refine KG ?_ | fail)
  all_goals first | exact ret_s rfl rfl rfl | (exfalso; omega) | exact absurd ‹t.s = _› hss | exact absurd hss ‹t.s ≠ _› | (refine ret_s rfl rfl ?_; simp)
theorem ex_cond (t : T) (u : Value) (w : World) (μ : Mem) (hμ : MOk μ w) (hk : KR μ t.kids u) (hs : t.size ≤ 100000) (hks : ∀ k ∈ t.kids, T.size k ≤ 100000 ∧ k.s.size ≤ 65536) (hop : t.op = 47) :
    Calls Tryd.prog 32 #[.agg (encT t u).toArray] w fun e w' => e = .returned (.bool (fewP exprT 3 3 t.kids)) ∧ Below w.heap.size w w' := by
  have ho := hk.one
  obtain ⟨A, c, rfl, hlc, -⟩ := hk.form
  have hlen := kidsLe t
  refine call_intro (args := [.agg (encT t (.slice A t.kids.length c)).toArray]) Tryd.func32 rfl Tryd.ntmps32 (by simp) hμ ?_
  repeat' (first | refine KO ?_ | ((with_reducible apply F1 52); exact rfl; exact EN; (exact fun w μc hw hse => by have hle9 := hse.le; exact few_spec' (exprT) _ _ _ t.kids _ _ _ w μc hw (cls_expression _) (KR.mono (by (repeat first | exact MLe.refl _ | assumption | refine MLe.trans ?_ ‹MLe _ _›)) hk) rfl (by omega) hks)) | refine KI ?_ | refine NB fun b => ?_ | ((refine KB ?_ ?_ <;> intro hp)) | refine KG ?_ | fail)
  all_goals first | exact ret_s rfl rfl rfl | (exfalso; omega) | (refine ret_s rfl rfl ?_; simp)
theorem ex_seq (t : T) (u : Value) (w : World) (μ : Mem) (hμ : MOk μ w) (hk : KR μ t.kids u) (hs : t.size ≤ 100000) (hks : ∀ k ∈ t.kids, T.size k ≤ 100000 ∧ k.s.size ≤ 65536) (hop : t.op = 48) :
    Calls Tryd.prog 32 #[.agg (encT t u).toArray] w fun e w' => e = .returned (.bool (fewP exprT 2 (-1) t.kids)) ∧ Below w.heap.size w w' := by
  have ho := hk.one
  obtain ⟨A, c, rfl, hlc, -⟩ := hk.form
  have hlen := kidsLe t
  refine call_intro (args := [.agg (encT t (.slice A t.kids.length c)).toArray]) Tryd.func32 rfl Tryd.ntmps32 (by simp) hμ ?_
  repeat' (first | refine KO ?_ | ((with_reducible apply F1 52); exact rfl; exact EN; (exact fun w μc hw hse => by have hle9 := hse.le; exact few_spec' (exprT) _ _ _ t.kids _ _ _ w μc hw (cls_expression _) (KR.mono (by (repeat first | exact MLe.refl _ | assumption | refine MLe.trans ?_ ‹MLe _ _›)) hk) rfl (by omega) hks)) | refine KI ?_ | refine NB fun b => ?_ | ((refine KB ?_ ?_ <;> intro hp)) | refine KG ?_ | fail)
  all_goals first | exact ret_s rfl rfl rfl | (exfalso; omega) | (refine ret_s rfl rfl ?_; simp)
theorem ex_call (t : T) (u : Value) (w : World) (μ : Mem) (hμ : MOk μ w) (hk : KR μ t.kids u) (hs : t.size ≤ 100000) (hks : ∀ k ∈ t.kids, T.size k ≤ 100000 ∧ k.s.size ≤ 65536) (hop : t.op = 49 ∨ t.op = 50) :
    Calls Tryd.prog 32 #[.agg (encT t u).toArray] w fun e w' => e = .returned (.bool (fitP [(exprT, 0), (argsT, 2)] t.kids)) ∧ Below w.heap.size w w' := by
  have ho := hk.one
  obtain ⟨A, c, rfl, hlc, -⟩ := hk.form
  have hlen := kidsLe t
  refine call_intro (args := [.agg (encT t (.slice A t.kids.length c)).toArray]) Tryd.func32 rfl Tryd.ntmps32 (by simp) hμ ?_
  repeat' (first | refine KO ?_ | (refine CF 61 ?_; (fail_if_success (have := hck)); (with_reducible apply g_enter_m); exact rfl; exact rfl; exact rfl; ((with_reducible apply e_call0); kernel_rfl); (exact fun w hw => args_spec w _ hw); rintro vk μk hlek hck; (obtain ⟨fk, capk, rfl⟩ := Cls.form hck)) | ((with_reducible apply F1 57); exact rfl; exact EN; (exact fun w μc hw hse => by have hle9 := hse.le; exact fits_rows [(.func (.func 54) #[] #[], 0), (.func (.func fk) #[] capk.toArray, 2)] [(exprT, 0), (argsT, 2)] t.kids _ _ _ _ _ w μc hw (KR.mono (by (repeat first | exact MLe.refl _ | assumption | refine MLe.trans ?_ ‹MLe _ _›)) hk) rfl (by omega) (sl_lit hse.hd rfl (by simp) (by repeat first | exact lc_nil | refine lc_cons rfl ?_)) rfl (by decide) (Rws.cons (cls_expression _) (Rws.cons (Cls.mono hck (by (repeat first | exact MLe.refl _ | assumption | refine MLe.trans ?_ ‹MLe _ _›))) (Rws.nil _))) hks)) | refine KI ?_ | refine NB fun b => ?_ | ((refine KB ?_ ?_ <;> intro hp)) | refine KG ?_ | fail)
  all_goals first | exact ret_s rfl rfl rfl | (exfalso; omega) | (refine ret_s rfl rfl ?_; simp)
theorem ex_dot (t : T) (u : Value) (w : World) (μ : Mem) (hμ : MOk μ w) (hk : KR μ t.kids u) (hs : t.size ≤ 100000) (hks : ∀ k ∈ t.kids, T.size k ≤ 100000 ∧ k.s.size ≤ 65536) (hop : t.op = 51) :
    Calls Tryd.prog 32 #[.agg (encT t u).toArray] w fun e w' => e = .returned (.bool (fewP exprT 1 1 t.kids)) ∧ Below w.heap.size w w' := by
  have ho := hk.one
  obtain ⟨A, c, rfl, hlc, -⟩ := hk.form
  have hlen := kidsLe t
  refine call_intro (args := [.agg (encT t (.slice A t.kids.length c)).toArray]) Tryd.func32 rfl Tryd.ntmps32 (by simp) hμ ?_
  repeat' (first | refine KO ?_ | ((with_reducible apply F1 52); exact rfl; exact EN; (exact fun w μc hw hse => by have hle9 := hse.le; exact few_spec' (exprT) _ _ _ t.kids _ _ _ w μc hw (cls_expression _) (KR.mono (by (repeat first | exact MLe.refl _ | assumption | refine MLe.trans ?_ ‹MLe _ _›)) hk) rfl (by omega) hks)) | refine KI ?_ | refine NB fun b => ?_ | ((refine KB ?_ ?_ <;> intro hp)) | refine KG ?_ | fail)
  all_goals first | exact ret_s rfl rfl rfl | (exfalso; omega) | (refine ret_s rfl rfl ?_; simp)
theorem ex_chain (t : T) (u : Value) (w : World) (μ : Mem) (hμ : MOk μ w) (hk : KR μ t.kids u) (hs : t.size ≤ 100000) (hks : ∀ k ∈ t.kids, T.size k ≤ 100000 ∧ k.s.size ≤ 65536) (hop : t.op = 53) (hsh : ∀ k ∈ t.kids, Sh' k) :
    Calls Tryd.prog 32 #[.agg (encT t u).toArray] w fun e w' => e = .returned (.bool (chainT t.kids)) ∧ Below w.heap.size w w' := by
  have ho := hk.one
  obtain ⟨A, c, rfl, hlc, -⟩ := hk.form
  have hlen := kidsLe t
  refine call_intro (args := [.agg (encT t (.slice A t.kids.length c)).toArray]) Tryd.func32 rfl Tryd.ntmps32 (by simp) hμ ?_
  repeat' (first | refine KO ?_ | ((with_reducible apply F1 62); exact rfl; exact EN; (exact fun w μc hw hse => by have hle9 := hse.le; exact chain_spec t.kids _ _ _ w μc hw (KR.mono (by (repeat first | exact MLe.refl _ | assumption | refine MLe.trans ?_ ‹MLe _ _›)) hk) rfl (by omega) (fun k hk => ⟨(hks k hk).1, hsh k hk⟩))) | refine KI ?_ | refine NB fun b => ?_ | ((refine KB ?_ ?_ <;> intro hp)) | refine KG ?_ | fail)
  all_goals first | exact ret_s rfl rfl rfl | (exfalso; omega) | (refine ret_s rfl rfl ?_; simp)
theorem ex_yield (t : T) (u : Value) (w : World) (μ : Mem) (hμ : MOk μ w) (hk : KR μ t.kids u) (hs : t.size ≤ 100000) (hks : ∀ k ∈ t.kids, T.size k ≤ 100000 ∧ k.s.size ≤ 65536) (hop : t.op = 54) :
    Calls Tryd.prog 32 #[.agg (encT t u).toArray] w fun e w' => e = .returned (.bool (fewP exprT t.n 1 t.kids)) ∧ Below w.heap.size w w' := by
  have ho := hk.one
  obtain ⟨A, c, rfl, hlc, -⟩ := hk.form
  have hlen := kidsLe t
  refine call_intro (args := [.agg (encT t (.slice A t.kids.length c)).toArray]) Tryd.func32 rfl Tryd.ntmps32 (by simp) hμ ?_
  repeat' (first | refine KO ?_ | ((with_reducible apply F1 52); exact rfl; exact EN; (exact fun w μc hw hse => by have hle9 := hse.le; exact few_spec' (exprT) _ _ _ t.kids _ _ _ w μc hw (cls_expression _) (KR.mono (by (repeat first | exact MLe.refl _ | assumption | refine MLe.trans ?_ ‹MLe _ _›)) hk) rfl (by omega) hks)) | refine KI ?_ | refine NB fun b => ?_ | ((refine KB ?_ ?_ <;> intro hp)) | refine KG ?_ | fail)
  all_goals first | exact ret_s rfl rfl rfl | (exfalso; omega) | (refine ret_s rfl rfl ?_; simp)
theorem ex_rest (t : T) (u : Value) (w : World) (μ : Mem) (hμ : MOk μ w) (hk : KR μ t.kids u) (hs : t.size ≤ 100000) (hks : ∀ k ∈ t.kids, T.size k ≤ 100000 ∧ k.s.size ≤ 65536) (hop : t.op ≠ 30 ∧ t.op ≠ 31 ∧ t.op ≠ 32 ∧ t.op ≠ 33 ∧ t.op ≠ 34 ∧ t.op ≠ 35 ∧ t.op ≠ 36 ∧ t.op ≠ 37 ∧ t.op ≠ 38 ∧ t.op ≠ 39 ∧ t.op ≠ 40 ∧ t.op ≠ 41 ∧ t.op ≠ 42 ∧ t.op ≠ 43 ∧ t.op ≠ 44 ∧ t.op ≠ 45 ∧ t.op ≠ 46 ∧ t.op ≠ 47 ∧ t.op ≠ 48 ∧ t.op ≠ 49 ∧ t.op ≠ 50 ∧ t.op ≠ 51 ∧ t.op ≠ 52 ∧ t.op ≠ 53 ∧ t.op ≠ 54) :
    Calls Tryd.prog 32 #[.agg (encT t u).toArray] w fun e w' => e = .returned (.bool (patternsT t)) ∧ Below w.heap.size w w' := by
  have ho := hk.one
  obtain ⟨A, c, rfl, hlc, -⟩ := hk.form
  have hlen := kidsLe t
  refine call_intro (args := [.agg (encT t (.slice A t.kids.length c)).toArray]) Tryd.func32 rfl Tryd.ntmps32 (by simp) hμ ?_
  repeat' (first | refine KO ?_ | ((with_reducible apply F1 63); exact rfl; exact EN; (exact fun w μc hw hse => by have hle9 := hse.le; exact patterns_spec t _ w μc hw (KR.mono (by (repeat first | exact MLe.refl _ | assumption | refine MLe.trans ?_ ‹MLe _ _›)) hk) hs hks)) | refine KI ?_ | refine NB fun b => ?_ | ((refine KB ?_ ?_ <;> intro hp)) | refine KG ?_ | fail)
  all_goals first | exact ret_s rfl rfl rfl | (exfalso; omega) | (refine ret_s rfl rfl ?_; simp)
end Go.Proofs.YtnllooebophcpaaDoor
namespace Go.Proofs.YtnllooebophcpaaDoor
open Go.RowKit Go.Vcg Go.Shelf
def eqsT (s : ByteArray) (ws : List (List UInt8)) : List Bool := ws.map fun l => decide (s = ⟨l.toArray⟩)
def oneT (s : ByteArray) (ws : List (List UInt8)) : Bool := (eqsT s ws).any id
def words42 : List (List UInt8) := [[100, 101, 108, 101, 116, 101], [118, 111, 105, 100], [116, 121, 112, 101, 111, 102], [43], [45], [33], [126]]
def words43 : List (List UInt8) := [[43, 43], [45, 45]]
def words44 : List (List UInt8) := [[124], [94], [38], [61, 61], [33, 61], [61, 61, 61], [33, 61, 61], [60], [62], [60, 61], [62, 61], [105, 110, 115, 116, 97, 110, 99, 101, 111, 102], [105, 110], [60, 60], [62, 62], [43], [45], [42], [47], [37]]
def words45 : List (List UInt8) := [[38, 38], [124, 124], [63, 63]]
def words46 : List (List UInt8) := [[61], [43, 61], [45, 61], [42, 61], [47, 61], [37, 61], [38, 61], [124, 61], [94, 61], [60, 60, 61], [62, 62, 61], [38, 38, 61], [124, 124, 61], [63, 63, 61]]
def mostT (op : Int) : Int :=
  if op = 1 ∨ op = 22 ∨ op = 32 ∨ op = 43 ∨ op = 49 ∨ op = 51 ∨ op = 52 ∨ op = 54 then 1 else if op = 2 then 2 else if op = 30 then 9007199254740992 else if op = 39 then 5 else 0
noncomputable def wordT (t : T) : Bool :=
  if t.op = 15 ∨ t.op = 16 then decide (t.s = ⟨#[]⟩) || formB t.s
  else if t.op = 23 ∨ t.op = 34 ∨ t.op = 51 then formB t.s
  else if t.op = 31 then true
  else if t.op = 42 then oneT t.s words42
  else if t.op = 43 then oneT t.s words43
  else if t.op = 44 then oneT t.s words44
  else if t.op = 45 then oneT t.s words45
  else if t.op = 46 then oneT t.s words46
  else decide (t.s = ⟨#[]⟩)
attribute [local irreducible] formB oneT G GC GQ GA GAop Calls IntKind.wrap Int.decLt Int.decLe
theorem indexS_spec (s : ByteArray) (ws : List (List UInt8)) (A : Option Addr) (n c : Nat) (w : World) (μ : Mem) (hμ : MOk μ w) (hS : Sl encB 1 μ A n ws) (hn : n ≤ 100000) :
    Calls Tryd.prog 99 #[.slice A n c, .string s] w fun e w' => e = .returned (.int .i64 (firstT (eqsT s ws))) ∧ Below w.heap.size w w' := by
  refine call_intro (args := [.slice A n c, .string s]) Tryd.func99 rfl Tryd.ntmps99 (by simp) hμ ?_
  have hqn : (eqsT s ws).length = n := by unfold eqsT; rw [List.length_map]; exact hS.1
  repeat' (first | refine KK ?_ | ((refine KB ?_ ?_ <;> intro hp)) | refine KG ?_ | fail)
  refine gc_loop (ι := Nat) (fun k => k ≤ n ∧ ∀ (j : Nat) (q : Bool), j < k → (eqsT s ws)[j]? = some q → q = false) (fun k => n - k) (fun _ => μ) (fun k => [(8, .int .i64 k), (7, .int .i64 n), (6, .slice A n c), (0, .slice A n c), (1, .string s)]) (fun _ => []) 0 ⟨by omega, fun j _ h => absurd h (by omega)⟩ (fun a w hs => J6 hs) ?_
  rintro k ⟨hk, hf⟩
  by_cases hlt : k < n
  · have hqk : (eqsT s ws)[k]? = some ((eqsT s ws)[k]'(by omega)) := List.getElem?_eq_getElem (by omega)
    generalize (eqsT s ws)[k]'(by omega) = q at hqk
    have hnext : q = false → ∀ (j : Nat) (q : Bool), j < k + 1 → (eqsT s ws)[j]? = some q → q = false := fun h j p hj hp => by
      rcases Nat.lt_or_ge j k with h1 | h1
      · exact hf j p h1 hp
      · obtain rfl : j = k := by omega
        rw [hqk] at hp
        cases hp
        exact h
    obtain ⟨ad, y, rfl, hy, hm⟩ := hS.get hlt
    have hqv : q = decide (s = ⟨y.toArray⟩) := by
      have h := hqk
      unfold eqsT at h
      rw [List.getElem?_map, hy] at h
      exact (Option.some.inj h).symm
    cases hq : q
    · have hb := hnext hq
      rw [hq] at hqv
      have hne : ¬ s = ⟨y.toArray⟩ := of_decide_eq_false hqv.symm
      repeat' (first | refine KO ?_ | (refine KV (b := by first | exact U1 k | exact U3 (hm.at 0 rfl)) (c := ?_)) | refine KI ?_ | ((refine KB ?_ ?_ <;> intro hp)) | refine KG ?_ | fail)
      all_goals first | exact J4 (k + 1) ⟨by omega, hb⟩ (by omega) | exact absurd ‹s = _› hne
    · rw [hq] at hqv hqk
      have he : s = ⟨y.toArray⟩ := of_decide_eq_true hqv.symm
      repeat' (first | refine KO ?_ | (refine KV (b := by first | exact U1 k | exact U3 (hm.at 0 rfl)) (c := ?_)) | refine KI ?_ | ((refine KB ?_ ?_ <;> intro hp)) | refine KG ?_ | fail)
      all_goals first | (refine ret_s rfl rfl ?_; rw [firstT_at hqk hf]) | exact absurd he ‹¬s = _› | exact absurd he ‹s ≠ _›
  · repeat' (first | refine KK ?_ | ((refine KB ?_ ?_ <;> intro hp)) | refine KG ?_ | fail)
    refine ret_s rfl rfl ?_
    rw [firstT_none fun j q hq => hf j q (by have := (List.getElem?_eq_some_iff.1 hq).1; omega) hq]
theorem containsS_spec (s : ByteArray) (ws : List (List UInt8)) (A : Option Addr) (n c : Nat) (w : World) (μ : Mem) (hμ : MOk μ w) (hS : Sl encB 1 μ A n ws) (hn : n ≤ 100000) :
    Calls Tryd.prog 95 #[.slice A n c, .string s] w fun e w' => e = .returned (.bool (oneT s ws)) ∧ Below w.heap.size w w' := by
  refine call_intro (args := [.slice A n c, .string s]) Tryd.func95 rfl Tryd.ntmps95 (by simp) hμ ?_
  rw [show oneT s ws = decide (0 ≤ firstT (eqsT s ws)) from by rw [firstT_any]; unfold oneT; rfl]
  repeat' (first | refine KO ?_ | ((with_reducible apply C1); exact rfl; exact EN; exact fun w μc hw hse => indexS_spec s ws A n c w μc hw (hS.mono hse.le) hn) | refine KI ?_ | ((refine KB ?_ ?_ <;> intro hp)) | refine KG ?_ | fail)
  exact ret_s rfl rfl rfl
theorem one_spec (s l : ByteArray) (ws : List (List UInt8)) (hs : Nat.blt l.data.toList.length 4294967281 = true) (ha : l.data.toList.all (fun b => Nat.blt b.toNat 128) = true) (hf : Lib.fields l.data.toList = ws) (hwn : ws.length ≤ 100000) (w : World) (μ : Mem) (hμ : MOk μ w) (hT : TabA μ) :
    Calls Tryd.prog 80 #[.string s, .string l] w fun e w' => e = .returned (.bool (oneT s ws)) ∧ Below w.heap.size w w' := by
  refine call_intro (args := [.string s, .string l]) Tryd.func80 rfl Tryd.ntmps80 (by simp) hμ ?_
  repeat' (first | refine KO ?_ | ((with_reducible apply F2 77); exact rfl; exact EN; (exact fun w hw => fields_spec l ws hs ha hf w _ hw hT); rintro v2 μ2 hle2 ⟨bf, rfl, hS⟩) | ((with_reducible apply C1); exact rfl; exact EN; exact fun w μc hw hse => containsS_spec s ws _ _ _ w μc hw (hS.mono hse.le) hwn) | refine KI ?_ | ((refine KB ?_ ?_ <;> intro hp)) | refine KG ?_ | fail)
  exact ret_s rfl rfl rfl
theorem most_spec (op : Int) (w : World) (μ : Mem) (hμ : MOk μ w) :
    Calls Tryd.prog 49 #[.int .i64 op] w fun e w' => e = .returned (.int .i64 (mostT op)) ∧ Below w.heap.size w w' := by
  refine call_intro (args := [.int .i64 op]) Tryd.func49 rfl Tryd.ntmps49 (by simp) hμ ?_
  repeat' (first | refine KK ?_ | ((refine KB ?_ ?_ <;> intro hp)) | refine KG ?_ | fail)
  all_goals (refine ret_s rfl rfl ?_; simp_all [mostT])
noncomputable def knownT (op : Int) : Bool := decide ((⟨(nameB op).toArray⟩ : ByteArray) ≠ ⟨#[]⟩)
theorem known_spec (op : Int) (hop : -9223372036854775808 ≤ op ∧ op ≤ 9223372036854775807) (w : World) (μ : Mem) (hμ : MOk μ w) (hT : TabA μ) :
    Calls Tryd.prog 29 #[.int .i64 op] w fun e w' => e = .returned (.bool (knownT op)) ∧ Below w.heap.size w w' := by
  refine call_intro (args := [.int .i64 op]) Tryd.func29 rfl Tryd.ntmps29 (by simp) hμ ?_
  repeat' (first | refine KO ?_ | ((with_reducible apply C1); exact rfl; exact EN; exact fun w μc hw hse => name_spec op hop w μc hw (hT.mono hse.le)) | refine KI ?_ | ((refine KB ?_ ?_ <;> intro hp)) | refine KG ?_ | fail)
  exact ret_s rfl rfl rfl
theorem wd_42 (t : T) (u : Value) (w : World) (μ : Mem) (hμ : MOk μ w) (hk : KR μ t.kids u) (hT : TabA μ) (hop : t.op = 42) :
    Calls Tryd.prog 50 #[.agg (encT t u).toArray] w fun e w' => e = .returned (.bool (oneT t.s words42)) ∧ Below w.heap.size w w' := by
  have ho := hk.one
  refine call_intro (args := [.agg (encT t u).toArray]) Tryd.func50 rfl Tryd.ntmps50 (by simp) hμ ?_
  repeat' (first | refine KO ?_ | ((with_reducible apply F1 80); exact rfl; exact EN; exact fun w μc hw hse => one_spec t.s _ words42 (by kernel_rfl) (by kernel_rfl) (by kernel_rfl) (by decide) w μc hw (hT.mono hse.le)) | refine KI ?_ | refine NB fun b => ?_ | ((refine KB ?_ ?_ <;> intro hp)) | refine KG ?_ | fail)
  all_goals first | exact ret_s rfl rfl rfl | (exfalso; omega)
theorem wd_43 (t : T) (u : Value) (w : World) (μ : Mem) (hμ : MOk μ w) (hk : KR μ t.kids u) (hT : TabA μ) (hop : t.op = 43) :
    Calls Tryd.prog 50 #[.agg (encT t u).toArray] w fun e w' => e = .returned (.bool (oneT t.s words43)) ∧ Below w.heap.size w w' := by
  have ho := hk.one
  refine call_intro (args := [.agg (encT t u).toArray]) Tryd.func50 rfl Tryd.ntmps50 (by simp) hμ ?_
  repeat' (first | refine KO ?_ | ((with_reducible apply F1 80); exact rfl; exact EN; exact fun w μc hw hse => one_spec t.s _ words43 (by kernel_rfl) (by kernel_rfl) (by kernel_rfl) (by decide) w μc hw (hT.mono hse.le)) | refine KI ?_ | refine NB fun b => ?_ | ((refine KB ?_ ?_ <;> intro hp)) | refine KG ?_ | fail)
  all_goals first | exact ret_s rfl rfl rfl | (exfalso; omega)
theorem wd_44 (t : T) (u : Value) (w : World) (μ : Mem) (hμ : MOk μ w) (hk : KR μ t.kids u) (hT : TabA μ) (hop : t.op = 44) :
    Calls Tryd.prog 50 #[.agg (encT t u).toArray] w fun e w' => e = .returned (.bool (oneT t.s words44)) ∧ Below w.heap.size w w' := by
  have ho := hk.one
  refine call_intro (args := [.agg (encT t u).toArray]) Tryd.func50 rfl Tryd.ntmps50 (by simp) hμ ?_
  repeat' (first | refine KO ?_ | ((with_reducible apply F1 80); exact rfl; exact EN; exact fun w μc hw hse => one_spec t.s _ words44 (by kernel_rfl) (by kernel_rfl) (by kernel_rfl) (by decide) w μc hw (hT.mono hse.le)) | refine KI ?_ | refine NB fun b => ?_ | ((refine KB ?_ ?_ <;> intro hp)) | refine KG ?_ | fail)
  all_goals first | exact ret_s rfl rfl rfl | (exfalso; omega)
theorem wd_45 (t : T) (u : Value) (w : World) (μ : Mem) (hμ : MOk μ w) (hk : KR μ t.kids u) (hT : TabA μ) (hop : t.op = 45) :
    Calls Tryd.prog 50 #[.agg (encT t u).toArray] w fun e w' => e = .returned (.bool (oneT t.s words45)) ∧ Below w.heap.size w w' := by
  have ho := hk.one
  refine call_intro (args := [.agg (encT t u).toArray]) Tryd.func50 rfl Tryd.ntmps50 (by simp) hμ ?_
  repeat' (first | refine KO ?_ | ((with_reducible apply F1 80); exact rfl; exact EN; exact fun w μc hw hse => one_spec t.s _ words45 (by kernel_rfl) (by kernel_rfl) (by kernel_rfl) (by decide) w μc hw (hT.mono hse.le)) | refine KI ?_ | refine NB fun b => ?_ | ((refine KB ?_ ?_ <;> intro hp)) | refine KG ?_ | fail)
  all_goals first | exact ret_s rfl rfl rfl | (exfalso; omega)
theorem wd_46 (t : T) (u : Value) (w : World) (μ : Mem) (hμ : MOk μ w) (hk : KR μ t.kids u) (hT : TabA μ) (hop : t.op = 46) :
    Calls Tryd.prog 50 #[.agg (encT t u).toArray] w fun e w' => e = .returned (.bool (oneT t.s words46)) ∧ Below w.heap.size w w' := by
  have ho := hk.one
  refine call_intro (args := [.agg (encT t u).toArray]) Tryd.func50 rfl Tryd.ntmps50 (by simp) hμ ?_
  repeat' (first | refine KO ?_ | ((with_reducible apply F1 80); exact rfl; exact EN; exact fun w μc hw hse => one_spec t.s _ words46 (by kernel_rfl) (by kernel_rfl) (by kernel_rfl) (by decide) w μc hw (hT.mono hse.le)) | refine KI ?_ | refine NB fun b => ?_ | ((refine KB ?_ ?_ <;> intro hp)) | refine KG ?_ | fail)
  all_goals first | exact ret_s rfl rfl rfl | (exfalso; omega)
theorem word_spec (t : T) (u : Value) (w : World) (μ : Mem) (hμ : MOk μ w) (hk : KR μ t.kids u) (hss : t.s.size ≤ 65536) (hT : TabA μ) :
    Calls Tryd.prog 50 #[.agg (encT t u).toArray] w fun e w' => e = .returned (.bool (wordT t)) ∧ Below w.heap.size w w' := by
  by_cases h42 : t.op = 42
  · simpa [wordT, h42] using wd_42 t u w μ hμ hk hT h42
  by_cases h43 : t.op = 43
  · simpa [wordT, h43] using wd_43 t u w μ hμ hk hT h43
  by_cases h44 : t.op = 44
  · simpa [wordT, h44] using wd_44 t u w μ hμ hk hT h44
  by_cases h45 : t.op = 45
  · simpa [wordT, h45] using wd_45 t u w μ hμ hk hT h45
  by_cases h46 : t.op = 46
  · simpa [wordT, h46] using wd_46 t u w μ hμ hk hT h46
  have ho := hk.one
  refine call_intro (args := [.agg (encT t u).toArray]) Tryd.func50 rfl Tryd.ntmps50 (by simp) hμ ?_
  repeat' (first | refine KO ?_ | ((with_reducible apply F1 78); exact rfl; exact EN; (exact fun w μc hw hse => form_spec t.s hss w μc hw)) | ((with_reducible apply F1 80); exact rfl; exact EN; fail) | refine KI ?_ | refine NB fun b => ?_ | ((refine KB ?_ ?_ <;> intro hp)) | refine KG ?_ | fail)
  all_goals first | (exfalso; omega) | (refine ret_s rfl rfl ?_; simp_all [wordT])
end Go.Proofs.YtnllooebophcpaaDoor
namespace Go.Proofs.YtnllooebophcpaaDoor
open Go.RowKit Go.Vcg
attribute [local irreducible] templB chB rExprT linkT G GC GQ GA GAop Calls IntKind.wrap Int.decLt Int.decLe
theorem rOne_spec (s : ByteArray) (ws : List (List UInt8)) (A : Option Addr) (n c : Nat) (w : World) (μ : Mem) (hμ : MOk μ w) (hS : Sl encB 1 μ A n ws) (hn : n ≤ 100000) :
    Calls Tryd.prog 70 #[.string s, .slice A n c] w fun e w' => e = .returned (.bool (oneT s ws)) ∧ Below w.heap.size w w' := by
  refine call_intro (args := [.string s, .slice A n c]) Tryd.func70 rfl Tryd.ntmps70 (by simp) hμ ?_
  have hqn : (eqsT s ws).length = n := by unfold eqsT; rw [List.length_map]; exact hS.1
  repeat' (first | refine KK ?_ | ((refine KB ?_ ?_ <;> intro hp)) | refine KG ?_ | fail)
  refine gc_loop (ι := Nat) (fun k => k ≤ n ∧ ∀ (j : Nat) (q : Bool), j < k → (eqsT s ws)[j]? = some q → q = false) (fun k => n - k) (fun _ => μ) (fun k => [(5, .int .i64 k), (1, .slice A n c), (0, .string s)]) (fun _ => []) 0 ⟨by omega, fun j _ h => absurd h (by omega)⟩ (fun a w hs => J6 hs) ?_
  rintro k ⟨hk, hf⟩
  by_cases hlt : k < n
  · have hqk : (eqsT s ws)[k]? = some ((eqsT s ws)[k]'(by omega)) := List.getElem?_eq_getElem (by omega)
    generalize (eqsT s ws)[k]'(by omega) = q at hqk
    have hnext : q = false → ∀ (j : Nat) (q : Bool), j < k + 1 → (eqsT s ws)[j]? = some q → q = false := fun h j p hj hp => by
      rcases Nat.lt_or_ge j k with h1 | h1
      · exact hf j p h1 hp
      · obtain rfl : j = k := by omega
        rw [hqk] at hp
        cases hp
        exact h
    obtain ⟨ad, y, rfl, hy, hm⟩ := hS.get hlt
    have hqv : q = decide (s = ⟨y.toArray⟩) := by
      have h := hqk
      unfold eqsT at h
      rw [List.getElem?_map, hy] at h
      exact (Option.some.inj h).symm
    cases hq : q
    · have hb := hnext hq
      rw [hq] at hqv
      have hne : ¬ (⟨y.toArray⟩ : ByteArray) = s := fun h => of_decide_eq_false hqv.symm h.symm
      repeat' (first | refine KO ?_ | (refine KV (b := by first | exact U1 k | exact U3 (hm.at 0 rfl)) (c := ?_)) | refine KI ?_ | ((refine KB ?_ ?_ <;> intro hp)) | refine KG ?_ | fail)
      all_goals first | exact J4 (k + 1) ⟨by omega, hb⟩ (by omega) | exact absurd hp hne | exact absurd hne hp
    · rw [hq] at hqv hqk
      have he : (⟨y.toArray⟩ : ByteArray) = s := (of_decide_eq_true hqv.symm).symm
      have ht : oneT s ws = true := by
        unfold oneT
        rw [List.any_eq_true]
        exact ⟨true, List.mem_of_getElem? hqk, rfl⟩
      rw [ht]
      repeat' (first | refine KO ?_ | (refine KV (b := by first | exact U1 k | exact U3 (hm.at 0 rfl)) (c := ?_)) | refine KI ?_ | ((refine KB ?_ ?_ <;> intro hp)) | refine KG ?_ | fail)
      all_goals first | exact ret_s rfl rfl rfl | exact absurd he hp | exact absurd hp (fun h => h he)
  · have ht : oneT s ws = false := by
      unfold oneT
      rw [List.any_eq_false]
      intro q hq
      obtain ⟨i, hi⟩ := List.mem_iff_getElem?.1 hq
      have h1 := hf i q (by have := (List.getElem?_eq_some_iff.1 hi).1; omega) hi
      simp [h1]
    rw [ht]
    repeat' (first | refine KK ?_ | ((refine KB ?_ ?_ <;> intro hp)) | refine KG ?_ | fail)
    exact ret_s rfl rfl rfl
theorem rTemplate_spec (ks : List T) (A : Option Addr) (n c : Nat) (w : World) (μ : Mem) (hμ : MOk μ w) (hk : KR μ ks (.slice A n c)) (hkn : ks.length = n) (hn : n ≤ 100000) (hks : ∀ k ∈ ks, T.size k ≤ 100000 ∧ k.s.size ≤ 65536) :
    Calls Tryd.prog 24 #[.slice A n c] w fun e w' => e = .returned (.bool (templB rExprT ks)) ∧ Below w.heap.size w w' := by
  refine call_intro (args := [.slice A n c]) Tryd.func24 rfl Tryd.ntmps24 (by simp) hμ ?_
  have hget : ∀ (i : Nat) (t : T), ks[i]? = some t → ∃ a u, A = some a ∧ MCells μ (a.add (i * 6)) (encT t u) ∧ u.oneCell' = true ∧ KR μ t.kids u := by
    obtain ⟨A', c', e, _, hg⟩ := hk.form
    cases e
    exact hg
  repeat' (first | refine KK ?_ | ((refine KB ?_ ?_ <;> intro hp)) | refine KG ?_ | fail)
  refine gc_loop (ι := Nat) (fun i => i ≤ n ∧ ∀ (j : Nat) (t : T), j < i → ks[j]? = some t → tmOk j rExprT t) (fun i => n - i) (fun _ => μ) (fun i => [(3, .int .i64 i), (0, .slice A n c)]) (fun _ => []) 0 ⟨by omega, fun j _ h => absurd h (by omega)⟩ (fun a w hs => J6 hs) ?_
  rintro i ⟨hi, hok⟩
  by_cases hlt : i < n
  · have hkk : ks[i]? = some ks[i] := List.getElem?_eq_getElem (by omega)
    generalize ks[i] = t at hkk
    obtain ⟨ad, x, rfl, hm, ho, hkx⟩ := hget i t hkk
    have hts := hks t (List.mem_of_getElem? hkk)
    have hr : (i : Int).tmod 2 = ((i % 2 : Nat) : Int) := rfl
    have hcall := fun (w : World) (μc : Mem) (hw : MOk μc w) (hle : MLe μ μc) => rExpr_spec t x w μc hw (hkx.mono hle) hts.1 hts.2
    by_cases hp1 : tmOk i rExprT t
    · have hnext : ∀ (j : Nat) (t : T), j < i + 1 → ks[j]? = some t → tmOk j rExprT t := fun j t' hj ht => by
        rcases Nat.lt_or_ge j i with h | h
        · exact hok j t' h ht
        · obtain rfl : j = i := by omega
          rw [hkk] at ht
          cases ht
          exact hp1
      unfold tmOk at hp1
      by_cases h2 : i % 2 = 0
      · rw [if_pos h2] at hp1
        repeat' (first | refine KO ?_ | ((with_reducible apply C1); exact rfl; exact EN; exact fun w μc hw hse => hcall w μc hw hse.le) | (refine KV (b := by first | exact U1 i | exact U4 hm) (c := ?_)) | refine KI ?_ | ((refine KB ?_ ?_ <;> intro hp)) | refine KG ?_ | fail)
        all_goals first
          | exact J2 (i + 1) ⟨by omega, hnext⟩ (by omega)
          | (exfalso; omega)
      · rw [if_neg h2] at hp1
        rw [hp1] at hcall
        repeat' (first | refine KO ?_ | ((with_reducible apply C1); exact rfl; exact EN; exact fun w μc hw hse => hcall w μc hw hse.le) | (refine KV (b := by first | exact U1 i | exact U4 hm) (c := ?_)) | refine KI ?_ | ((refine KB ?_ ?_ <;> intro hp)) | refine KG ?_ | fail)
        all_goals first
          | exact J2 (i + 1) ⟨by omega, hnext⟩ (by omega)
          | (exfalso; omega)
    · rw [templB_f fun h => hp1 (h.2 i t hkk)]
      unfold tmOk at hp1
      by_cases h2 : i % 2 = 0
      · rw [if_pos h2] at hp1
        repeat' (first | refine KO ?_ | ((with_reducible apply C1); exact rfl; exact EN; exact fun w μc hw hse => hcall w μc hw hse.le) | (refine KV (b := by first | exact U1 i | exact U4 hm) (c := ?_)) | refine KI ?_ | ((refine KB ?_ ?_ <;> intro hp)) | refine KG ?_ | fail)
        all_goals first
          | exact ret_s rfl rfl rfl
          | (exfalso; omega)
      · rw [if_neg h2] at hp1
        rw [Bool.not_eq_true _ |>.mp hp1] at hcall
        repeat' (first | refine KO ?_ | ((with_reducible apply C1); exact rfl; exact EN; exact fun w μc hw hse => hcall w μc hw hse.le) | (refine KV (b := by first | exact U1 i | exact U4 hm) (c := ?_)) | refine KI ?_ | ((refine KB ?_ ?_ <;> intro hp)) | refine KG ?_ | fail)
        all_goals first
          | exact ret_s rfl rfl rfl
          | (exfalso; omega)
  · obtain rfl : i = n := by omega
    have hr : (i : Int).tmod 2 = ((i % 2 : Nat) : Int) := rfl
    have hg : templB rExprT ks = decide ((i : Int).tmod 2 = 1) := by
      by_cases h : i % 2 = 1
      · rw [templB_t ⟨by rw [hkn]; exact h, fun j t hj => hok j t (by have := (List.getElem?_eq_some_iff.1 hj).1; omega) hj⟩]
        symm
        rw [decide_eq_true_eq]
        omega
      · rw [templB_f fun hf => h (by rw [← hkn]; exact hf.1)]
        symm
        rw [decide_eq_false_iff_not]
        omega
    rw [hg]
    repeat' (first | refine KK ?_ | ((refine KB ?_ ?_ <;> intro hp)) | refine KG ?_ | fail)
    exact ret_s rfl rfl rfl
theorem chained_spec : ∀ (n : Nat), n ≤ 100000 → ∀ (t : T) (u : Value) (w : World) (μ : Mem), MOk μ w → KR μ t.kids u → t.size ≤ n → Sh' t →
    Calls Tryd.prog 27 #[.agg (encT t u).toArray] w fun e w' => e = .returned (.bool (chB t)) ∧ Below w.heap.size w w' := by
  intro n
  induction n with
  | zero => intro _ t u w μ hμ hk hn; exact absurd hn (by rw [T.size_eq]; omega)
  | succ n ih =>
    intro hnb t u w μ hμ hk hn hsh
    have ho := hk.one
    have hlen := kidsLe t
    obtain ⟨A, c, rfl, hlc, hkid⟩ := hk.form
    have hcall := fun (w : World) (μc : Mem) (hw : MOk μc w) (hle : MLe μ μc) => rLink_spec t _ w μc hw (hk.mono hle) (by omega) hsh.s
    refine call_intro (args := [.agg (encT t (.slice A t.kids.length c)).toArray]) Tryd.func27 rfl Tryd.ntmps27 (by simp) hμ ?_
    cases hl : linkT t
    · rw [hl] at hcall
      rw [chB_f (ch_link hl)]
      repeat' (first | refine KO ?_ | ((with_reducible apply F1 23); exact rfl; exact EN; (exact fun w μc hw hse => hcall w μc hw hse.le)) | refine KI ?_ | refine NB fun b => ?_ | ((refine KB ?_ ?_ <;> intro hp)) | refine KG ?_ | fail)
      all_goals first | exact ret_s rfl rfl rfl | (exfalso; omega)
    · rw [hl] at hcall
      by_cases hn1 : t.n = 1
      · rw [chB_t (.one hl hn1)]
        repeat' (first | refine KO ?_ | ((with_reducible apply F1 23); exact rfl; exact EN; (exact fun w μc hw hse => hcall w μc hw hse.le)) | refine KI ?_ | refine NB fun b => ?_ | ((refine KB ?_ ?_ <;> intro hp)) | refine KG ?_ | fail)
        all_goals first | exact ret_s rfl rfl rfl | (exfalso; omega)
      · by_cases h0 : t.kids.length = 0
        · rw [chB_f (ch_nil hn1 (by rw [List.getElem?_eq_none_iff]; omega))]
          repeat' (first | refine KO ?_ | ((with_reducible apply F1 23); exact rfl; exact EN; (exact fun w μc hw hse => hcall w μc hw hse.le)) | refine KI ?_ | refine NB fun b => ?_ | ((refine KB ?_ ?_ <;> intro hp)) | refine KG ?_ | fail)
          all_goals first | exact ret_s rfl rfl rfl | (exfalso; omega)
        · have hk0 : t.kids[0]? = some t.kids[0] := List.getElem?_eq_getElem (by omega)
          generalize t.kids[0] = k at hk0
          obtain ⟨ad2, x2, rfl, hm2, ho2, hkx2⟩ := hkid 0 k hk0
          have hks := T.size_kid hk0
          have hB : chB t = chB k := by
            by_cases hc : Chained k
            · rw [chB_t hc, chB_t ((ch_iff hl hn1 hk0).2 hc)]
            · rw [chB_f hc, chB_f fun h => hc ((ch_iff hl hn1 hk0).1 h)]
          have hck := fun (w : World) (μc : Mem) (hw : MOk μc w) (hle : MLe μ μc) => ih (by omega) k x2 w μc hw (hkx2.mono hle) (by omega) (hsh.kid (List.mem_of_getElem? hk0))
          rw [hB]
          repeat' (first | refine KO ?_ | ((with_reducible apply F1 23); exact rfl; exact EN; (exact fun w μc hw hse => hcall w μc hw hse.le)) | ((with_reducible apply F1 27); exact rfl; exact EN; (exact fun w μc hw hse => hck w μc hw hse.le)) | (refine KV (b := by first | exact U1 0 | exact U4 hm2) (c := ?_)) | refine KI ?_ | refine NB fun b => ?_ | ((refine KB ?_ ?_ <;> intro hp)) | refine KG ?_ | fail)
          all_goals first | exact ret_s rfl rfl rfl | (exfalso; omega)
end Go.Proofs.YtnllooebophcpaaDoor
namespace Go.Proofs.YtnllooebophcpaaDoor
open Go.RowKit Go.Vcg
def bitL : List Int := [1, 2, 8, 16, 32]
def whatT (h : Int → Bool) (k : Nat) : Nat := ((bitL.take k).filter h).length
theorem whatT_0 (h : Int → Bool) : whatT h 0 = 0 := rfl
theorem whatT_s {h : Int → Bool} {k : Nat} {m : Int} (hk : bitL[k]? = some m) : whatT h (k + 1) = whatT h k + (if h m = true then 1 else 0) := by
  unfold whatT
  rw [List.take_add_one, hk, List.filter_append, List.length_append]
  cases hm : h m <;> simp [List.filter_cons, hm]
theorem whatT_le (h : Int → Bool) (k : Nat) : whatT h k ≤ 5 := by
  unfold whatT
  have h1 := List.length_filter_le h (bitL.take k)
  have h2 : (bitL.take k).length ≤ 5 := by rw [List.length_take]; exact Nat.min_le_right _ _
  omega
noncomputable def bitsT (t : T) : Bool :=
  if t.n < 0 ∨ 255 < t.n ∨ t.s ≠ ⟨#[]⟩ ∧ formB t.s = false then false
  else if 1 < whatT (hasT t) 5 ∨ hasT t 4 = true ∧ hasT t 50 = true ∨ hasT t 128 = true ∧ hasT t 2 = false then false
  else if hasT t 1 = true then decide (t.s ≠ ⟨#[]⟩)
  else decide (whatT (hasT t) 5 = 0) || decide (t.s = ⟨#[]⟩)
attribute [local irreducible] formB hasT whatT G GC GQ GA GAop Calls IntKind.wrap Int.decLt Int.decLe
theorem bits_spec (t : T) (u : Value) (w : World) (μ : Mem) (hμ : MOk μ w) (hk : KR μ t.kids u) (hs : t.size ≤ 100000) (hss : t.s.size ≤ 65536) :
    Calls Tryd.prog 48 #[.agg (encT t u).toArray] w fun e w' => e = .returned (.bool (bitsT t)) ∧ Below w.heap.size w w' := by
  have ho := hk.one
  refine call_intro (args := [.agg (encT t u).toArray]) Tryd.func48 rfl Tryd.ntmps48 (by simp) hμ ?_
  have hform := fun (w : World) (μc : Mem) (hw : MOk μc w) => form_spec t.s hss w μc hw
  have hhas := fun (m : Int) (w : World) (μc : Mem) (hw : MOk μc w) (hle : MLe μ μc) => tHas_spec m t u w μc hw (hk.mono hle) hs
  by_cases h1 : t.n < 0 ∨ 255 < t.n ∨ t.s ≠ ⟨#[]⟩ ∧ formB t.s = false
  · have hg : bitsT t = false := by unfold bitsT; rw [if_pos h1]
    rw [hg]
    repeat' (first | ((with_reducible show GC _ _ (Code.seq (Code.region 3 _ _) _) _ _ _ _); (apply gc_stop)) | refine KO ?_ | ((with_reducible apply F1 78); exact rfl; exact EN; (exact fun w μc hw hse => hform w μc hw)) | refine KI ?_ | refine NB fun b => ?_ | ((refine KB ?_ ?_ <;> intro hp)) | refine KG ?_ | fail)
    all_goals first | exact ret_s rfl rfl rfl | (exfalso; omega) | (exfalso; simp_all; try omega)
  · repeat' (first | ((with_reducible show GC _ _ (Code.seq (Code.region 3 _ _) _) _ _ _ _); (apply gc_stop)) | refine KO ?_ | ((with_reducible apply F1 78); exact rfl; exact EN; (exact fun w μc hw hse => hform w μc hw)) | refine KI ?_ | refine NB fun b => ?_ | ((refine KB ?_ ?_ <;> intro hp)) | refine KG ?_ | fail)
    rotate_left
    · exfalso
      simp_all
    rotate_left
    all_goals
      refine gcs ?_
      rename Nat => ba
      have hg : bitsT t = (if 1 < whatT (hasT t) 5 ∨ hasT t 4 = true ∧ hasT t 50 = true ∨ hasT t 128 = true ∧ hasT t 2 = false then false else if hasT t 1 = true then decide (t.s ≠ ⟨#[]⟩) else decide (whatT (hasT t) 5 = 0) || decide (t.s = ⟨#[]⟩)) := by unfold bitsT; rw [if_neg h1]
      have hw5 := whatT_le (hasT t) 5
      repeat' (first | refine KK ?_ | refine NB fun b => ?_ | ((refine KB ?_ ?_ <;> intro hp)) | refine KG ?_ | fail)
      refine gc_loop (ι := Nat) (fun i => i ≤ 5) (fun i => 5 - i) (fun _ => μ) (fun i => [(27, .int .i64 i), (26, .int .i64 5), (25, .slice (some ⟨b, 0, none⟩) 5 5), (3, .int .i64 (whatT (hasT t) i)), (1, .pointer (some ⟨ba, 0, none⟩))]) (fun _ => [.inl ⟨b, 3, 5, idx 0 [.int .i64 1, .int .i64 2, .int .i64 8, .int .i64 16, .int .i64 32]⟩, .inl ⟨ba, 24, 6, idx 0 (encT t u)⟩]) 0 (by decide) (fun a w hs => by rw [whatT_0]; exact J5 hs) ?_
      intro i hi
      have hwi := whatT_le (hasT t) i
      rcases (by omega : i = 5 ∨ i = 0 ∨ i = 1 ∨ i = 2 ∨ i = 3 ∨ i = 4) with rfl | rfl | rfl | rfl | rfl | rfl
      · rw [hg]
        clear hg h1
        repeat' (first | refine KO ?_ | ((with_reducible apply F1 79); exact rfl; exact EN; (exact fun w μc hw hse => hhas _ w μc hw hse.le)) | refine KI ?_ | refine NB fun b => ?_ | ((refine KB ?_ ?_ <;> intro hp)) | refine KG ?_ | fail)
        all_goals clear hform hhas hk ho
        all_goals first | (refine ret_s rfl rfl ?_; simp_all; done) | (refine ret_s rfl rfl ?_; simp_all; omega) | (exfalso; simp_all; done)
      · have hn : whatT (hasT t) 1 = whatT (hasT t) 0 + (if hasT t 1 = true then 1 else 0) := whatT_s (k := 0) rfl
        cases hh : hasT t 1
        · rw [hh, if_neg (by simp), Nat.add_zero] at hn
          repeat' (first | refine KO ?_ | ((with_reducible apply F1 79); exact rfl; exact EN; (exact fun w μc hw hse => hh ▸ hhas 1 w μc hw hse.le)) | refine KI ?_ | refine NB fun b => ?_ | ((refine KB ?_ ?_ <;> intro hp)) | refine KG ?_ | fail)
          all_goals (rw [← hn]; exact J2 1 (by decide) (by decide))
        · rw [hh, if_pos rfl] at hn
          repeat' (first | refine KO ?_ | ((with_reducible apply F1 79); exact rfl; exact EN; (exact fun w μc hw hse => hh ▸ hhas 1 w μc hw hse.le)) | refine KI ?_ | refine NB fun b => ?_ | ((refine KB ?_ ?_ <;> intro hp)) | refine KG ?_ | fail)
          all_goals (rw [show ((whatT (hasT t) 0 : Nat) : Int) + 1 = ((whatT (hasT t) 1 : Nat) : Int) from by omega]; exact J2 1 (by decide) (by decide))
      · have hn : whatT (hasT t) 2 = whatT (hasT t) 1 + (if hasT t 2 = true then 1 else 0) := whatT_s (k := 1) rfl
        cases hh : hasT t 2
        · rw [hh, if_neg (by simp), Nat.add_zero] at hn
          repeat' (first | refine KO ?_ | ((with_reducible apply F1 79); exact rfl; exact EN; (exact fun w μc hw hse => hh ▸ hhas 2 w μc hw hse.le)) | refine KI ?_ | refine NB fun b => ?_ | ((refine KB ?_ ?_ <;> intro hp)) | refine KG ?_ | fail)
          all_goals (rw [← hn]; exact J2 2 (by decide) (by decide))
        · rw [hh, if_pos rfl] at hn
          repeat' (first | refine KO ?_ | ((with_reducible apply F1 79); exact rfl; exact EN; (exact fun w μc hw hse => hh ▸ hhas 2 w μc hw hse.le)) | refine KI ?_ | refine NB fun b => ?_ | ((refine KB ?_ ?_ <;> intro hp)) | refine KG ?_ | fail)
          all_goals (rw [show ((whatT (hasT t) 1 : Nat) : Int) + 1 = ((whatT (hasT t) 2 : Nat) : Int) from by omega]; exact J2 2 (by decide) (by decide))
      · have hn : whatT (hasT t) 3 = whatT (hasT t) 2 + (if hasT t 8 = true then 1 else 0) := whatT_s (k := 2) rfl
        cases hh : hasT t 8
        · rw [hh, if_neg (by simp), Nat.add_zero] at hn
          repeat' (first | refine KO ?_ | ((with_reducible apply F1 79); exact rfl; exact EN; (exact fun w μc hw hse => hh ▸ hhas 8 w μc hw hse.le)) | refine KI ?_ | refine NB fun b => ?_ | ((refine KB ?_ ?_ <;> intro hp)) | refine KG ?_ | fail)
          all_goals (rw [← hn]; exact J2 3 (by decide) (by decide))
        · rw [hh, if_pos rfl] at hn
          repeat' (first | refine KO ?_ | ((with_reducible apply F1 79); exact rfl; exact EN; (exact fun w μc hw hse => hh ▸ hhas 8 w μc hw hse.le)) | refine KI ?_ | refine NB fun b => ?_ | ((refine KB ?_ ?_ <;> intro hp)) | refine KG ?_ | fail)
          all_goals (rw [show ((whatT (hasT t) 2 : Nat) : Int) + 1 = ((whatT (hasT t) 3 : Nat) : Int) from by omega]; exact J2 3 (by decide) (by decide))
      · have hn : whatT (hasT t) 4 = whatT (hasT t) 3 + (if hasT t 16 = true then 1 else 0) := whatT_s (k := 3) rfl
        cases hh : hasT t 16
        · rw [hh, if_neg (by simp), Nat.add_zero] at hn
          repeat' (first | refine KO ?_ | ((with_reducible apply F1 79); exact rfl; exact EN; (exact fun w μc hw hse => hh ▸ hhas 16 w μc hw hse.le)) | refine KI ?_ | refine NB fun b => ?_ | ((refine KB ?_ ?_ <;> intro hp)) | refine KG ?_ | fail)
          all_goals (rw [← hn]; exact J2 4 (by decide) (by decide))
        · rw [hh, if_pos rfl] at hn
          repeat' (first | refine KO ?_ | ((with_reducible apply F1 79); exact rfl; exact EN; (exact fun w μc hw hse => hh ▸ hhas 16 w μc hw hse.le)) | refine KI ?_ | refine NB fun b => ?_ | ((refine KB ?_ ?_ <;> intro hp)) | refine KG ?_ | fail)
          all_goals (rw [show ((whatT (hasT t) 3 : Nat) : Int) + 1 = ((whatT (hasT t) 4 : Nat) : Int) from by omega]; exact J2 4 (by decide) (by decide))
      · have hn : whatT (hasT t) 5 = whatT (hasT t) 4 + (if hasT t 32 = true then 1 else 0) := whatT_s (k := 4) rfl
        cases hh : hasT t 32
        · rw [hh, if_neg (by simp), Nat.add_zero] at hn
          repeat' (first | refine KO ?_ | ((with_reducible apply F1 79); exact rfl; exact EN; (exact fun w μc hw hse => hh ▸ hhas 32 w μc hw hse.le)) | refine KI ?_ | refine NB fun b => ?_ | ((refine KB ?_ ?_ <;> intro hp)) | refine KG ?_ | fail)
          all_goals (rw [← hn]; exact J2 5 (by decide) (by decide))
        · rw [hh, if_pos rfl] at hn
          repeat' (first | refine KO ?_ | ((with_reducible apply F1 79); exact rfl; exact EN; (exact fun w μc hw hse => hh ▸ hhas 32 w μc hw hse.le)) | refine KI ?_ | refine NB fun b => ?_ | ((refine KB ?_ ?_ <;> intro hp)) | refine KG ?_ | fail)
          all_goals (rw [show ((whatT (hasT t) 4 : Nat) : Int) + 1 = ((whatT (hasT t) 5 : Nat) : Int) from by omega]; exact J2 5 (by decide) (by decide))
end Go.Proofs.YtnllooebophcpaaDoor
