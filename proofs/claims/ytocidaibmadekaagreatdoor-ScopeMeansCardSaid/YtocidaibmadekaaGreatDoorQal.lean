/- The reference's rest. No statement of the seat is proved here. -/
import Derived.Test.YtocidaibmadekaaGreatDoorQak
set_option maxRecDepth 20000
set_option maxHeartbeats 2000000
namespace Go.Proofs.YtocidaibmadekaaGreatDoor
open Go.RowKit Go.Vcg
attribute [local irreducible] aV iJ bT eK G GC GQ GA bX Calls IntKind.wrap Int.decLt Int.decLe
theorem aBw (t : T) (u : Value) (w : World) (μ : Mem) (hμ : MOk μ w) (hk : KR μ t.kids u) (hs : t.size ≤ 100000) (hss : t.s.size ≤ 65536) :
    Calls Tryz.prog 109 #[.int .u8 103, .agg (aD t u).toArray] w fun e w' => e = .returned (.bool (bT t 16 && wA t 0)) ∧ Below w.heap.size w w' := by
  have ho := hk.one
  obtain ⟨A, c0, rfl, hlc, hkid⟩ := hk.form
  have hlen := bK t
  refine aA (args := [.int .u8 103, .agg (aD t (.slice A t.kids.length c0)).toArray]) Tryz.func109 rfl Tryz.ntmps109 (by simp) hμ ?_
  have hh := fun (m : Int) (hm : m ≠ 0) (w : World) (μc : Mem) (hw : MOk μc w) (hle : MLe μ μc) => lN m hm t _ w μc hw (hk.mono hle)
  by_cases h0 : t.kids.length = 0
  · rw [GH (List.eq_nil_of_length_eq_zero h0), Bool.and_false]
    repeat' (first | refine KO ?_ | ((with_reducible apply F1 102); exact rfl; exact EN; (exact fun w μc hw hse => hh 16 (by decide) w μc hw hse.le)) | refine KI ?_ | refine NB fun b => ?_ | ((refine KB ?_ ?_ <;> intro hp)) | refine KG ?_ | fail)
    all_goals (refine aB rfl rfl ?_; simp_all)
  · obtain ⟨k, r, hkr⟩ := List.exists_cons_of_ne_nil (l := t.kids) (by intro e; rw [e] at h0; exact h0 rfl)
    obtain ⟨ad, x, rfl, hm, hox, hkx⟩ := hkid 0 k (by rw [hkr]; rfl)
    obtain ⟨A2, c2, rfl, hlc2, -⟩ := hkx.form
    have hsz := T.dH (t := t) (i := 0) (k := k) (by rw [hkr]; rfl)
    have hlk := bK k
    rw [qO hkr]
    repeat' (first | refine KO ?_ | ((with_reducible apply F1 102); exact rfl; exact EN; (exact fun w μc hw hse => hh 16 (by decide) w μc hw hse.le)) | (refine KV (b := by first | exact U1 0 | exact U4 hm) (c := ?_)) | refine KI ?_ | refine NB fun b => ?_ | ((refine KB ?_ ?_ <;> intro hp)) | refine KG ?_ | fail)
    all_goals (refine aB rfl rfl ?_; simp_all)
theorem aBv (t : T) (u : Value) (w : World) (μ : Mem) (hμ : MOk μ w) (hk : KR μ t.kids u) (hs : t.size ≤ 100000) (hss : t.s.size ≤ 65536) :
    Calls Tryz.prog 109 #[.int .u8 115, .agg (aD t u).toArray] w fun e w' => e = .returned (.bool (bT t 32 && vW t)) ∧ Below w.heap.size w w' := by
  have ho := hk.one
  obtain ⟨A, c0, rfl, hlc, hkid⟩ := hk.form
  have hlen := bK t
  refine aA (args := [.int .u8 115, .agg (aD t (.slice A t.kids.length c0)).toArray]) Tryz.func109 rfl Tryz.ntmps109 (by simp) hμ ?_
  have hh := fun (m : Int) (hm : m ≠ 0) (w : World) (μc : Mem) (hw : MOk μc w) (hle : MLe μ μc) => lN m hm t _ w μc hw (hk.mono hle)
  by_cases h0 : t.kids.length = 0
  · rw [EW (List.eq_nil_of_length_eq_zero h0), Bool.and_false]
    repeat' (first | refine KO ?_ | ((with_reducible apply F1 102); exact rfl; exact EN; (exact fun w μc hw hse => hh 32 (by decide) w μc hw hse.le)) | refine KI ?_ | refine NB fun b => ?_ | ((refine KB ?_ ?_ <;> intro hp)) | refine KG ?_ | fail)
    all_goals (refine aB rfl rfl ?_; simp_all)
  · obtain ⟨k, r, hkr⟩ := List.exists_cons_of_ne_nil (l := t.kids) (by intro e; rw [e] at h0; exact h0 rfl)
    obtain ⟨ad, x, rfl, hm, hox, hkx⟩ := hkid 0 k (by rw [hkr]; rfl)
    obtain ⟨A2, c2, rfl, hlc2, hkid2⟩ := hkx.form
    have hsz := T.dH (t := t) (i := 0) (k := k) (by rw [hkr]; rfl)
    have hlk := bK k
    by_cases h1 : k.kids.length = 1
    · obtain ⟨y, hy⟩ := List.length_eq_one_iff.1 h1
      obtain ⟨ad2, x2, rfl, hm2, hox2, hkx2⟩ := hkid2 0 y (by rw [hy]; rfl)
      rw [EV hkr hy]
      repeat' (first | refine KO ?_ | ((with_reducible apply F1 102); exact rfl; exact EN; (exact fun w μc hw hse => hh 32 (by decide) w μc hw hse.le)) | (refine KV (b := by first | exact U1 0 | exact U4 hm | exact U4 hm2) (c := ?_)) | refine KI ?_ | refine NB fun b => ?_ | ((refine KB ?_ ?_ <;> intro hp)) | refine KG ?_ | fail)
      all_goals (refine aB rfl rfl ?_; simp_all)
    · rw [LZ hkr h1, Bool.and_false]
      repeat' (first | refine KO ?_ | ((with_reducible apply F1 102); exact rfl; exact EN; (exact fun w μc hw hse => hh 32 (by decide) w μc hw hse.le)) | (refine KV (b := by first | exact U1 0 | exact U4 hm) (c := ?_)) | refine KI ?_ | refine NB fun b => ?_ | ((refine KB ?_ ?_ <;> intro hp)) | refine KG ?_ | fail)
      all_goals (refine aB rfl rfl ?_; simp_all; try omega)
theorem OM (c : Int) (t : T) (u : Value) (w : World) (μ : Mem) (hμ : MOk μ w) (hk : KR μ t.kids u) (hs : t.size ≤ 100000) (hss : t.s.size ≤ 65536) :
    Calls Tryz.prog 109 #[.int .u8 c, .agg (aD t u).toArray] w fun e w' => e = .returned (.bool (hI c t)) ∧ Below w.heap.size w w' := by
  by_cases h103 : c = 103
  · subst h103
    exact aBw t u w μ hμ hk hs hss
  by_cases h115 : c = 115
  · subst h115
    exact aBv t u w μ hμ hk hs hss
  have ho := hk.one
  obtain ⟨A, c0, rfl, hlc, hkid⟩ := hk.form
  have hlen := bK t
  refine aA (args := [.int .u8 c, .agg (aD t (.slice A t.kids.length c0)).toArray]) Tryz.func109 rfl Tryz.ntmps109 (by simp) hμ ?_
  have hh := fun (m : Int) (hm : m ≠ 0) (w : World) (μc : Mem) (hw : MOk μc w) (hle : MLe μ μc) => lN m hm t _ w μc hw (hk.mono hle)
  have ht := fun (w : World) (μc : Mem) (hw : MOk μc w) (hle : MLe μ μc) => sW t _ w μc hw (hk.mono hle) hs hss
  by_cases h7 : c = 70 ∨ c = 72 ∨ c = 107 ∨ c = 119 ∨ c = 109
  · repeat' (first | refine KO ?_ | ((with_reducible apply F1 106); exact rfl; exact EN; (exact fun w μc hw hse => ht w μc hw hse.le)) | ((with_reducible apply F1 101); exact rfl; exact EN; (exact fun w μc hw hse => rZ t.s hss w μc hw)) | ((with_reducible apply F1 102); exact rfl; exact EN; (exact fun w μc hw hse => hh 8 (by decide) w μc hw hse.le)) | refine KI ?_ | refine NB fun b => ?_ | ((refine KB ?_ ?_ <;> intro hp)) | refine KG ?_ | fail)
    all_goals first | (clear hk ho hμ hh ht hkid; refine aB rfl rfl ?_; simp_all [hI, iJ]; done) | skip
  · repeat' (first | ((with_reducible show GC _ _ (Code.seq (Code.region 16 _ _) _) _ _ _ _); (apply bF)) | refine KO ?_ | refine NB fun b => ?_ | fail)
    all_goals try (exfalso; omega)
    rename Nat => ba
    refine gcs ?_
    have hgr : ∀ r : Bool, (match opsL.find? (fun x => decide (x.1 = c)) with | some x => decide (t.op = x.2) | none => false) = r → hI c t = r := fun r h => by
      unfold hI
      rw [if_neg (by omega), if_neg (by omega), if_neg (by omega), if_neg (by omega), if_neg (by omega), if_neg (by omega), if_neg (by omega)]
      exact h
    repeat' (first | refine KK ?_ | refine NB fun b => ?_ | fail)
    refine aX (ι := Nat) (fun i => i ≤ 7 ∧ (1 ≤ i → c ≠ 68) ∧ (2 ≤ i → c ≠ 80) ∧ (3 ≤ i → c ≠ 66) ∧ (4 ≤ i → c ≠ 75) ∧ (5 ≤ i → c ≠ 82) ∧ (6 ≤ i → c ≠ 81) ∧ (7 ≤ i → c ≠ 90)) (fun i => 7 - i) (fun _ => μ) (fun i => [(7, .int .i64 i), (5, .string ⟨#[68, 80, 66, 75, 82, 81, 90]⟩), (6, .slice (some ⟨b, 0, none⟩) 7 7), (0, .int .u8 c), (3, .pointer (some ⟨ba, 0, none⟩))]) (fun _ => [.inl ⟨b, 3, 7, idx 0 [.int .i64 3, .int .i64 5, .int .i64 6, .int .i64 22, .int .i64 39, .int .i64 62, .int .i64 64]⟩, .inl ⟨ba, 24, 6, idx 0 (aD t (.slice A t.kids.length c0))⟩]) 0 (by omega) (fun a w hs => J5 hs) ?_
    rintro i ⟨hi, q0, q1, q2, q3, q4, q5, q6⟩
    have e0 : bAt ⟨#[68, 80, 66, 75, 82, 81, 90]⟩ 0 = 68 := rfl
    have e1 : bAt ⟨#[68, 80, 66, 75, 82, 81, 90]⟩ 1 = 80 := rfl
    have e2 : bAt ⟨#[68, 80, 66, 75, 82, 81, 90]⟩ 2 = 66 := rfl
    have e3 : bAt ⟨#[68, 80, 66, 75, 82, 81, 90]⟩ 3 = 75 := rfl
    have e4 : bAt ⟨#[68, 80, 66, 75, 82, 81, 90]⟩ 4 = 82 := rfl
    have e5 : bAt ⟨#[68, 80, 66, 75, 82, 81, 90]⟩ 5 = 81 := rfl
    have e6 : bAt ⟨#[68, 80, 66, 75, 82, 81, 90]⟩ 6 = 90 := rfl
    have hsz7 : ByteArray.size ⟨#[68, 80, 66, 75, 82, 81, 90]⟩ = 7 := rfl
    rcases (by omega : i = 7 ∨ i = 0 ∨ i = 1 ∨ i = 2 ∨ i = 3 ∨ i = 4 ∨ i = 5 ∨ i = 6) with rfl | rfl | rfl | rfl | rfl | rfl | rfl | rfl
    · rw [hgr false (by simp [opsL, q0, q1, q2, q3, q4, q5, q6, show ¬ (68 : Int) = c from fun h => q0 (by omega) h.symm, show ¬ (80 : Int) = c from fun h => q1 (by omega) h.symm, show ¬ (66 : Int) = c from fun h => q2 (by omega) h.symm, show ¬ (75 : Int) = c from fun h => q3 (by omega) h.symm, show ¬ (82 : Int) = c from fun h => q4 (by omega) h.symm, show ¬ (81 : Int) = c from fun h => q5 (by omega) h.symm, show ¬ (90 : Int) = c from fun h => q6 (by omega) h.symm])]
      repeat' (first | refine KK ?_ | fail)
      all_goals exact aB rfl rfl rfl
    · by_cases hc : c = 68
      · rw [hgr (decide (t.op = 3)) (by rw [hc]; rfl)]
        clear hgr
        repeat' (first | refine KO ?_ | (refine KV (b := by exact U2 0) (c := ?_)) | fail)
        all_goals try (exfalso; omega)
        refine aC 8 _ (by kernel_rfl) rfl (List.Sublist.cons_cons _ (List.Sublist.cons_cons _ (List.nil_sublist _))) ?_
        all_goals (first | refine D1 0 ?_ | fail)
        all_goals (first | refine DD 1 ?_ | fail)
        all_goals refine DD 2 ?_
        all_goals refine DD 3 ?_
        all_goals (first | (refine DV (k := 4) (b := by exact U1 0) (c := ?_)) | fail)
        all_goals (first | refine DD 5 ?_ | fail)
        all_goals (first | refine D1 6 ?_ | fail)
        all_goals refine DD 7 ?_
        all_goals refine D8 ?_
        repeat' (first | refine KK ?_ | fail)
        all_goals exact aB rfl rfl rfl
      · clear hgr
        repeat' (first | refine KO ?_ | (refine KV (b := by exact U2 0) (c := ?_)) | refine KI ?_ | fail)
        all_goals exact J2 1 (by omega) (by decide)
    · by_cases hc : c = 80
      · rw [hgr (decide (t.op = 5)) (by rw [hc]; rfl)]
        clear hgr
        repeat' (first | refine KO ?_ | (refine KV (b := by exact U2 1) (c := ?_)) | fail)
        all_goals try (exfalso; omega)
        refine aC 8 _ (by kernel_rfl) rfl (List.Sublist.cons_cons _ (List.Sublist.cons_cons _ (List.nil_sublist _))) ?_
        all_goals (first | refine D1 0 ?_ | fail)
        all_goals (first | refine DD 1 ?_ | fail)
        all_goals refine DD 2 ?_
        all_goals refine DD 3 ?_
        all_goals (first | (refine DV (k := 4) (b := by exact U1 1) (c := ?_)) | fail)
        all_goals (first | refine DD 5 ?_ | fail)
        all_goals (first | refine D1 6 ?_ | fail)
        all_goals refine DD 7 ?_
        all_goals refine D8 ?_
        repeat' (first | refine KK ?_ | fail)
        all_goals exact aB rfl rfl rfl
      · clear hgr
        repeat' (first | refine KO ?_ | (refine KV (b := by exact U2 1) (c := ?_)) | refine KI ?_ | fail)
        all_goals exact J2 2 (by omega) (by decide)
    · by_cases hc : c = 66
      · rw [hgr (decide (t.op = 6)) (by rw [hc]; rfl)]
        clear hgr
        repeat' (first | refine KO ?_ | (refine KV (b := by exact U2 2) (c := ?_)) | fail)
        all_goals try (exfalso; omega)
        refine aC 8 _ (by kernel_rfl) rfl (List.Sublist.cons_cons _ (List.Sublist.cons_cons _ (List.nil_sublist _))) ?_
        all_goals (first | refine D1 0 ?_ | fail)
        all_goals (first | refine DD 1 ?_ | fail)
        all_goals refine DD 2 ?_
        all_goals refine DD 3 ?_
        all_goals (first | (refine DV (k := 4) (b := by exact U1 2) (c := ?_)) | fail)
        all_goals (first | refine DD 5 ?_ | fail)
        all_goals (first | refine D1 6 ?_ | fail)
        all_goals refine DD 7 ?_
        all_goals refine D8 ?_
        repeat' (first | refine KK ?_ | fail)
        all_goals exact aB rfl rfl rfl
      · clear hgr
        repeat' (first | refine KO ?_ | (refine KV (b := by exact U2 2) (c := ?_)) | refine KI ?_ | fail)
        all_goals exact J2 3 (by omega) (by decide)
    · by_cases hc : c = 75
      · rw [hgr (decide (t.op = 22)) (by rw [hc]; rfl)]
        clear hgr
        repeat' (first | refine KO ?_ | (refine KV (b := by exact U2 3) (c := ?_)) | fail)
        all_goals try (exfalso; omega)
        refine aC 8 _ (by kernel_rfl) rfl (List.Sublist.cons_cons _ (List.Sublist.cons_cons _ (List.nil_sublist _))) ?_
        all_goals (first | refine D1 0 ?_ | fail)
        all_goals (first | refine DD 1 ?_ | fail)
        all_goals refine DD 2 ?_
        all_goals refine DD 3 ?_
        all_goals (first | (refine DV (k := 4) (b := by exact U1 3) (c := ?_)) | fail)
        all_goals (first | refine DD 5 ?_ | fail)
        all_goals (first | refine D1 6 ?_ | fail)
        all_goals refine DD 7 ?_
        all_goals refine D8 ?_
        repeat' (first | refine KK ?_ | fail)
        all_goals exact aB rfl rfl rfl
      · clear hgr
        repeat' (first | refine KO ?_ | (refine KV (b := by exact U2 3) (c := ?_)) | refine KI ?_ | fail)
        all_goals exact J2 4 (by omega) (by decide)
    · by_cases hc : c = 82
      · rw [hgr (decide (t.op = 39)) (by rw [hc]; rfl)]
        clear hgr
        repeat' (first | refine KO ?_ | (refine KV (b := by exact U2 4) (c := ?_)) | fail)
        all_goals try (exfalso; omega)
        refine aC 8 _ (by kernel_rfl) rfl (List.Sublist.cons_cons _ (List.Sublist.cons_cons _ (List.nil_sublist _))) ?_
        all_goals (first | refine D1 0 ?_ | fail)
        all_goals (first | refine DD 1 ?_ | fail)
        all_goals refine DD 2 ?_
        all_goals refine DD 3 ?_
        all_goals (first | (refine DV (k := 4) (b := by exact U1 4) (c := ?_)) | fail)
        all_goals (first | refine DD 5 ?_ | fail)
        all_goals (first | refine D1 6 ?_ | fail)
        all_goals refine DD 7 ?_
        all_goals refine D8 ?_
        repeat' (first | refine KK ?_ | fail)
        all_goals exact aB rfl rfl rfl
      · clear hgr
        repeat' (first | refine KO ?_ | (refine KV (b := by exact U2 4) (c := ?_)) | refine KI ?_ | fail)
        all_goals exact J2 5 (by omega) (by decide)
    · by_cases hc : c = 81
      · rw [hgr (decide (t.op = 62)) (by rw [hc]; rfl)]
        clear hgr
        repeat' (first | refine KO ?_ | (refine KV (b := by exact U2 5) (c := ?_)) | fail)
        all_goals try (exfalso; omega)
        refine aC 8 _ (by kernel_rfl) rfl (List.Sublist.cons_cons _ (List.Sublist.cons_cons _ (List.nil_sublist _))) ?_
        all_goals (first | refine D1 0 ?_ | fail)
        all_goals (first | refine DD 1 ?_ | fail)
        all_goals refine DD 2 ?_
        all_goals refine DD 3 ?_
        all_goals (first | (refine DV (k := 4) (b := by exact U1 5) (c := ?_)) | fail)
        all_goals (first | refine DD 5 ?_ | fail)
        all_goals (first | refine D1 6 ?_ | fail)
        all_goals refine DD 7 ?_
        all_goals refine D8 ?_
        repeat' (first | refine KK ?_ | fail)
        all_goals exact aB rfl rfl rfl
      · clear hgr
        repeat' (first | refine KO ?_ | (refine KV (b := by exact U2 5) (c := ?_)) | refine KI ?_ | fail)
        all_goals exact J2 6 (by omega) (by decide)
    · by_cases hc : c = 90
      · rw [hgr (decide (t.op = 64)) (by rw [hc]; rfl)]
        clear hgr
        repeat' (first | refine KO ?_ | (refine KV (b := by exact U2 6) (c := ?_)) | fail)
        all_goals try (exfalso; omega)
        refine aC 8 _ (by kernel_rfl) rfl (List.Sublist.cons_cons _ (List.Sublist.cons_cons _ (List.nil_sublist _))) ?_
        all_goals (first | refine D1 0 ?_ | fail)
        all_goals (first | refine DD 1 ?_ | fail)
        all_goals refine DD 2 ?_
        all_goals refine DD 3 ?_
        all_goals (first | (refine DV (k := 4) (b := by exact U1 6) (c := ?_)) | fail)
        all_goals (first | refine DD 5 ?_ | fail)
        all_goals (first | refine D1 6 ?_ | fail)
        all_goals refine DD 7 ?_
        all_goals refine D8 ?_
        repeat' (first | refine KK ?_ | fail)
        all_goals exact aB rfl rfl rfl
      · clear hgr
        repeat' (first | refine KO ?_ | (refine KV (b := by exact U2 6) (c := ?_)) | refine KI ?_ | fail)
        all_goals exact J2 7 (by omega) (by decide)
end Go.Proofs.YtocidaibmadekaaGreatDoor
namespace Go.Proofs.YtocidaibmadekaaGreatDoor
open Go.RowKit Go.Vcg
noncomputable def hH : List UInt8 → List T → Bool
  | [], l => decide (l.length = 0)
  | [c], l => match l with
    | k :: r => if isT (c.toNat : Int) k = true then decide (r.length = 0) else false
    | [] => false
  | c :: d :: rr, l =>
    if d = 42 then hH rr (l.dropWhile (isT (c.toNat : Int)))
    else match l with
      | k :: r => if isT (c.toNat : Int) k = true then (if d = 63 then hH rr r else hH (d :: rr) r) else (if d = 63 then hH rr (k :: r) else false)
      | [] => if d = 63 then hH rr [] else false
theorem AJ (c : UInt8) (rr : List UInt8) (l : List T) : hH (c :: 42 :: rr) l = hH rr (l.dropWhile (isT (c.toNat : Int))) := by
  rw [hH.eq_def]
  simp
theorem SN (c : UInt8) (rr : List UInt8) (l : List T) : hH (c :: 63 :: rr) l = hH rr (match l with | k :: r => if isT (c.toNat : Int) k = true then r else k :: r | [] => []) := by
  rw [hH.eq_def]
  cases l with
  | nil => simp
  | cons k r => cases h : isT (c.toNat : Int) k <;> simp [h]
theorem SO {c d : UInt8} {rr : List UInt8} {l : List T} (h1 : d ≠ 42) (h2 : d ≠ 63) : hH (c :: d :: rr) l = match l with | k :: r => if isT (c.toNat : Int) k = true then hH (d :: rr) r else false | [] => false := by
  rw [hH.eq_def]
  cases l with
  | nil => simp [h1, h2]
  | cons k r => cases h : isT (c.toNat : Int) k <;> simp [h, h1, h2]
theorem xI (l : List T) : hH [] l = decide (l.length = 0) := by rw [hH.eq_def]
theorem SP (c : UInt8) (l : List T) : hH [c] l = match l with | k :: r => if isT (c.toNat : Int) k = true then hH [] r else false | [] => false := by
  rw [hH.eq_def]
  cases l with
  | nil => simp
  | cons k r => simp [xI]
attribute [local irreducible] isT G GC GQ GA bX Calls IntKind.wrap Int.decLt Int.decLe
theorem SM (s : ByteArray) (hsz : s.size ≤ 1000) (ks : List T) (A : Option Addr) (n c : Nat) (w : World) (μ : Mem) (hμ : MOk μ w) (hk : KR μ ks (.slice A n c)) (hkn : ks.length = n) (hn : n ≤ 100000) (hks : ∀ k ∈ ks, T.size k ≤ 100000 ∧ k.s.size ≤ 65536) :
    Calls Tryz.prog 48 #[.string s, .slice A n c] w fun e w' => e = .returned (.bool (hH (bl s) ks)) ∧ Below w.heap.size w w' := by
  refine aA (args := [.string s, .slice A n c]) Tryz.func48 rfl Tryz.ntmps48 (by simp) hμ ?_
  have his := fun (c : Int) (t : T) (u : Value) (w : World) (μc : Mem) (hw : MOk μc w) (hk : KR μc t.kids u) (h1 : t.size ≤ 100000) (h2 : t.s.size ≤ 65536) => YM OM c t u w μc hw hk h1 h2
  generalize hR : hH (bl s) ks = R
  repeat' (first | refine KK ?_ | fail)
  refine aX (ι := Nat × Nat × Option Addr × Nat) (fun i => i.1 ≤ s.size ∧ i.2.1 ≤ n ∧ KR μ (ks.drop i.2.1) (.slice i.2.2.1 (n - i.2.1) i.2.2.2) ∧ hH ((bl s).drop i.1) (ks.drop i.2.1) = R) (fun i => s.size - i.1) (fun _ => μ) (fun i => [(5, .int .i64 i.1), (0, .string s), (1, .slice i.2.2.1 (n - i.2.1) i.2.2.2)]) (fun _ => []) (0, 0, A, c) ⟨by simp, by simp, by simpa using hk, by simpa using hR⟩ (fun a w hs => J6 hs) ?_
  rintro ⟨i, j, Aj, cj⟩ ⟨hi, hj, hkj, hRj⟩
  dsimp only at hi hj hkj hRj ⊢
  by_cases hlt : i < s.size
  · obtain ⟨x, hx1, hx2⟩ := NR (s := s) (i := i) hlt
    have hxd := drop_cons hx1
    rw [hxd] at hRj
    have hkl : (ks.drop j).length = n - j := by rw [List.length_drop, hkn]
    by_cases hlt2 : i + 1 < s.size
    · obtain ⟨y, hy1, hy2⟩ := NR (s := s) (i := i + 1) hlt2
      have hyd := drop_cons hy1
      rw [hyd] at hRj
      have hyl := y.toNat_lt
      by_cases hst : y = 42
      · subst hst
        have hy3 : bAt s (i + 1) = 42 := hy2
        repeat' (first | refine KO ?_ | (refine KV (b := by exact U2 (i + 1)) (c := ?_)) | refine KI ?_ | fail)
        rw [AJ, ← hx2] at hRj
        refine aX (ι := Nat × Option Addr × Nat) (fun q => q.1 ≤ n ∧ KR μ (ks.drop q.1) (.slice q.2.1 (n - q.1) q.2.2) ∧ (ks.drop q.1).dropWhile (isT (bAt s i)) = (ks.drop j).dropWhile (isT (bAt s i))) (fun q => n - q.1) (fun _ => μ) (fun q => [(5, .int .i64 i), (0, .string s), (1, .slice q.2.1 (n - q.1) q.2.2)]) (fun _ => []) (j, Aj, cj) ⟨hj, hkj, rfl⟩ (fun a w hs => J5 hs) ?_
        rintro ⟨j2, A2, c2⟩ ⟨hj2, hk2, he2⟩
        dsimp only at hj2 hk2 he2 ⊢
        have hend : (ks.drop j2).dropWhile (isT (bAt s i)) = ks.drop j2 → hH ((bl s).drop (i + 2)) (ks.drop j2) = R := fun h => by rw [← hRj, ← he2, h]
        by_cases hlt3 : j2 < n
        · have hkk : ks[j2]? = some ks[j2] := List.getElem?_eq_getElem (by omega)
          generalize ks[j2] = t at hkk
          have hdt := kC hkk
          have hkt := hk2.rL (by omega)
          rw [List.drop_drop] at hkt
          obtain ⟨A', c', e, hlc, hget⟩ := hk2.form
          have hkl2 : (ks.drop j2).length = n - j2 := by rw [List.length_drop, hkn]
          rw [hkl2] at e hlc
          cases e
          obtain ⟨ad2, u2, rfl, hm2, ho2, hkx⟩ := hget 0 t (by rw [hdt]; rfl)
          have hts := hks t (List.mem_of_getElem? hkk)
          have hcall := fun (w : World) (μc : Mem) (hw : MOk μc w) (hle : MLe μ μc) => his (bAt s i) t u2 w μc hw (hkx.mono hle) hts.1 hts.2
          cases hp1 : isT (bAt s i) t
          · have hE := hend (by rw [hdt, List.dropWhile_cons, if_neg (by simp [hp1])])
            rw [hp1] at hcall
            repeat' (first | refine KK ?_ | fail)
            refine aC 12 ([]) (by kernel_rfl) rfl (by exact List.Sublist.refl _) ?_
            all_goals refine DD 0 ?_
            all_goals (first | refine D1 1 ?_ | fail)
            all_goals (first | refine D1 2 ?_ | fail)
            all_goals refine DD 3 ?_
            all_goals (try (refine D7 4 ?_; (repeat' (refine KO ?_))))
            all_goals refine DD 4 ?_
            all_goals refine DD 5 ?_
            all_goals (first | (refine DV (k := 6) (b := by exact U2 i) (c := ?_)) | fail)
            all_goals refine DD 7 ?_
            all_goals (first | (refine DV (k := 8) (b := by exact U1 0) (c := ?_)) | fail)
            all_goals (first | (refine DV (k := 9) (b := by exact U4 hm2) (c := ?_)) | fail)
            all_goals ((refine D3 10 ?_; refine D5 ?_; (with_reducible apply C1); exact rfl; exact EN; exact fun w μc hw hse => hcall w μc hw hse.le; refine D9 ?_))
            all_goals refine DD 11 ?_
            all_goals refine D8 ?_
            all_goals
              repeat' (first | refine KK ?_ | fail)
            all_goals first
              | exact J2 (i + 2, j2, _, _) ⟨by show i + 2 ≤ s.size; omega, hj2, hk2, hE⟩ (by show s.size - (i + 2) < s.size - i; omega)
              | (exfalso; omega)
          · rw [hp1] at hcall
            have hE : (ks.drop (j2 + 1)).dropWhile (isT (bAt s i)) = (ks.drop j).dropWhile (isT (bAt s i)) := by rw [← he2, hdt, List.dropWhile_cons, if_pos hp1]
            repeat' (first | refine KK ?_ | fail)
            refine aC 12 ([]) (by kernel_rfl) rfl (by exact List.Sublist.refl _) ?_
            all_goals refine DD 0 ?_
            all_goals (first | refine D1 1 ?_ | fail)
            all_goals (first | refine D1 2 ?_ | fail)
            all_goals refine DD 3 ?_
            all_goals (try (refine D7 4 ?_; (repeat' (refine KO ?_))))
            all_goals refine DD 4 ?_
            all_goals refine DD 5 ?_
            all_goals (first | (refine DV (k := 6) (b := by exact U2 i) (c := ?_)) | fail)
            all_goals refine DD 7 ?_
            all_goals (first | (refine DV (k := 8) (b := by exact U1 0) (c := ?_)) | fail)
            all_goals (first | (refine DV (k := 9) (b := by exact U4 hm2) (c := ?_)) | fail)
            all_goals ((refine D3 10 ?_; refine D5 ?_; (with_reducible apply C1); exact rfl; exact EN; exact fun w μc hw hse => hcall w μc hw hse.le; refine D9 ?_))
            all_goals refine DD 11 ?_
            all_goals refine D8 ?_
            all_goals
              repeat' (first | refine KO ?_ | (refine KV (b := by ((with_reducible apply eE 1); (iterate 5 exact rfl); omega)) (c := ?_)) | fail)
            all_goals first
              | exact J2 (j2 + 1, _, _) ⟨by show j2 + 1 ≤ n; omega, hkt, hE⟩ (by show n - (j2 + 1) < n - j2; omega)
              | (exfalso; omega)
        · obtain rfl : j2 = n := by omega
          have hdt : ks.drop j2 = [] := List.drop_of_length_le (by omega)
          have hE := hend (by rw [hdt]; rfl)
          repeat' (first | refine KK ?_ | fail)
          refine aC 12 ([]) (by kernel_rfl) rfl (by exact List.Sublist.refl _) ?_
          all_goals refine DD 0 ?_
          all_goals (first | refine D1 1 ?_ | fail)
          all_goals (first | refine D1 2 ?_ | fail)
          all_goals refine DD 3 ?_
          all_goals (try (refine D7 4 ?_; (repeat' (refine KO ?_))))
          all_goals refine DD 4 ?_
          all_goals refine DD 5 ?_
          all_goals (first | refine D1 6 ?_ | fail)
          all_goals refine DD 7 ?_
          all_goals (first | refine D1 8 ?_ | fail)
          all_goals (first | refine D1 9 ?_ | fail)
          all_goals (refine D3 10 (D6 ?_))
          all_goals refine DD 11 ?_
          all_goals refine D8 ?_
          all_goals
            repeat' (first | refine KK ?_ | fail)
          all_goals first
            | exact J2 (i + 2, j2, _, _) ⟨by show i + 2 ≤ s.size; omega, hj2, hk2, hE⟩ (by show s.size - (i + 2) < s.size - i; omega)
            | (exfalso; omega)
      · have hy42 : bAt s (i + 1) ≠ 42 := fun h => hst (UInt8.toNat_inj.1 (by rw [hy2] at h; simpa using (by omega : y.toNat = 42)))
        by_cases hqm : y = 63
        · subst hqm
          have hy3 : bAt s (i + 1) = 63 := hy2
          rw [SN, ← hx2] at hRj
          by_cases hlt3 : j < n
          · have hkk : ks[j]? = some ks[j] := List.getElem?_eq_getElem (by omega)
            generalize ks[j] = t at hkk
            have hdt := kC hkk
            have hkt := hkj.rL (by omega)
            rw [List.drop_drop] at hkt
            obtain ⟨A', c', e, hlc, hget⟩ := hkj.form
            rw [hkl] at e hlc
            cases e
            obtain ⟨ad2, u2, rfl, hm2, ho2, hkx⟩ := hget 0 t (by rw [hdt]; rfl)
            have hts := hks t (List.mem_of_getElem? hkk)
            have hcall := fun (w : World) (μc : Mem) (hw : MOk μc w) (hle : MLe μ μc) => his (bAt s i) t u2 w μc hw (hkx.mono hle) hts.1 hts.2
            rw [hdt] at hRj
            dsimp only at hRj
            cases hp1 : isT (bAt s i) t
            · rw [hp1, if_neg (by simp)] at hRj
              rw [hp1] at hcall
              rw [← hdt] at hRj
              repeat' (first | refine KO ?_ | (refine KV (b := by exact U2 (i + 1)) (c := ?_)) | refine KI ?_ | fail)
              refine aC 13 ([]) (by kernel_rfl) rfl (by exact List.Sublist.refl _) ?_
              all_goals refine DD 0 ?_
              all_goals (first | refine D1 1 ?_ | fail)
              all_goals (first | refine D1 2 ?_ | fail)
              all_goals refine DD 3 ?_
              all_goals (try (refine D7 4 ?_; (repeat' (refine KO ?_))))
              all_goals refine DD 4 ?_
              all_goals refine DD 5 ?_
              all_goals (first | (refine DV (k := 6) (b := by exact U2 i) (c := ?_)) | fail)
              all_goals refine DD 7 ?_
              all_goals (first | (refine DV (k := 8) (b := by exact U1 0) (c := ?_)) | fail)
              all_goals (first | (refine DV (k := 9) (b := by exact U4 hm2) (c := ?_)) | fail)
              all_goals ((refine D3 10 ?_; refine D5 ?_; (with_reducible apply C1); exact rfl; exact EN; exact fun w μc hw hse => hcall w μc hw hse.le; refine D9 ?_))
              all_goals refine DD 11 ?_
              all_goals refine DD 12 ?_
              all_goals refine D8 ?_
              all_goals
                repeat' (first | refine KO ?_ | refine KI ?_ | fail)
              all_goals exact J2 (i + 2, j, _, _) ⟨by show i + 2 ≤ s.size; omega, hj, hkj, hRj⟩ (by show s.size - (i + 2) < s.size - i; omega)
            · rw [hp1, if_pos rfl] at hRj
              rw [hp1] at hcall
              repeat' (first | refine KO ?_ | (refine KV (b := by exact U2 (i + 1)) (c := ?_)) | refine KI ?_ | fail)
              refine aC 13 ([]) (by kernel_rfl) rfl (by exact List.Sublist.refl _) ?_
              all_goals refine DD 0 ?_
              all_goals (first | refine D1 1 ?_ | fail)
              all_goals (first | refine D1 2 ?_ | fail)
              all_goals refine DD 3 ?_
              all_goals (try (refine D7 4 ?_; (repeat' (refine KO ?_))))
              all_goals refine DD 4 ?_
              all_goals refine DD 5 ?_
              all_goals (first | (refine DV (k := 6) (b := by exact U2 i) (c := ?_)) | fail)
              all_goals refine DD 7 ?_
              all_goals (first | (refine DV (k := 8) (b := by exact U1 0) (c := ?_)) | fail)
              all_goals (first | (refine DV (k := 9) (b := by exact U4 hm2) (c := ?_)) | fail)
              all_goals ((refine D3 10 ?_; refine D5 ?_; (with_reducible apply C1); exact rfl; exact EN; exact fun w μc hw hse => hcall w μc hw hse.le; refine D9 ?_))
              all_goals refine DD 11 ?_
              all_goals refine DD 12 ?_
              all_goals refine D8 ?_
              all_goals
                repeat' (first | refine KO ?_ | (refine KV (b := by ((with_reducible apply eE 1); (iterate 5 exact rfl); omega)) (c := ?_)) | refine KI ?_ | fail)
              all_goals exact J2 (i + 2, j + 1, _, _) ⟨by show i + 2 ≤ s.size; omega, by show j + 1 ≤ n; omega, hkt, hRj⟩ (by show s.size - (i + 2) < s.size - i; omega)
          · obtain rfl : j = n := by omega
            have hdt : ks.drop j = [] := List.drop_of_length_le (by omega)
            rw [hdt] at hRj
            dsimp only at hRj
            rw [← hdt] at hRj
            repeat' (first | refine KO ?_ | (refine KV (b := by exact U2 (i + 1)) (c := ?_)) | refine KI ?_ | fail)
            refine aC 13 ([]) (by kernel_rfl) rfl (by exact List.Sublist.refl _) ?_
            all_goals refine DD 0 ?_
            all_goals (first | refine D1 1 ?_ | fail)
            all_goals (first | refine D1 2 ?_ | fail)
            all_goals refine DD 3 ?_
            all_goals (try (refine D7 4 ?_; (repeat' (refine KO ?_))))
            all_goals refine DD 4 ?_
            all_goals refine DD 5 ?_
            all_goals (first | refine D1 6 ?_ | fail)
            all_goals refine DD 7 ?_
            all_goals (first | refine D1 8 ?_ | fail)
            all_goals (first | refine D1 9 ?_ | fail)
            all_goals (refine D3 10 (D6 ?_))
            all_goals refine DD 11 ?_
            all_goals refine DD 12 ?_
            all_goals refine D8 ?_
            all_goals
              repeat' (first | refine KK ?_ | fail)
            all_goals exact J2 (i + 2, j, _, _) ⟨by show i + 2 ≤ s.size; omega, hj, hkj, hRj⟩ (by show s.size - (i + 2) < s.size - i; omega)
        · have hy63 : bAt s (i + 1) ≠ 63 := fun h => hqm (UInt8.toNat_inj.1 (by rw [hy2] at h; simpa using (by omega : y.toNat = 63)))
          rw [SO hst hqm, ← hx2, ← hyd] at hRj
          by_cases hlt3 : j < n
          · have hkk : ks[j]? = some ks[j] := List.getElem?_eq_getElem (by omega)
            generalize ks[j] = t at hkk
            have hdt := kC hkk
            have hkt := hkj.rL (by omega)
            rw [List.drop_drop] at hkt
            obtain ⟨A', c', e, hlc, hget⟩ := hkj.form
            rw [hkl] at e hlc
            cases e
            obtain ⟨ad2, u2, rfl, hm2, ho2, hkx⟩ := hget 0 t (by rw [hdt]; rfl)
            have hts := hks t (List.mem_of_getElem? hkk)
            have hcall := fun (w : World) (μc : Mem) (hw : MOk μc w) (hle : MLe μ μc) => his (bAt s i) t u2 w μc hw (hkx.mono hle) hts.1 hts.2
            rw [hdt] at hRj
            dsimp only at hRj
            cases hp1 : isT (bAt s i) t
            · rw [hp1, if_neg (by simp)] at hRj
              rw [hp1] at hcall
              repeat' (first | refine KO ?_ | (refine KV (b := by exact U2 (i + 1)) (c := ?_)) | refine KI ?_ | fail)
              refine aC 13 ([]) (by kernel_rfl) rfl (by exact List.Sublist.refl _) ?_
              all_goals refine DD 0 ?_
              all_goals (first | refine D1 1 ?_ | fail)
              all_goals (first | refine D1 2 ?_ | fail)
              all_goals refine DD 3 ?_
              all_goals (try (refine D7 4 ?_; (repeat' (refine KO ?_))))
              all_goals refine DD 4 ?_
              all_goals refine DD 5 ?_
              all_goals (first | (refine DV (k := 6) (b := by exact U2 i) (c := ?_)) | fail)
              all_goals refine DD 7 ?_
              all_goals (first | (refine DV (k := 8) (b := by exact U1 0) (c := ?_)) | fail)
              all_goals (first | (refine DV (k := 9) (b := by exact U4 hm2) (c := ?_)) | fail)
              all_goals ((refine D3 10 ?_; refine D5 ?_; (with_reducible apply C1); exact rfl; exact EN; exact fun w μc hw hse => hcall w μc hw hse.le; refine D9 ?_))
              all_goals refine DD 11 ?_
              all_goals refine DD 12 ?_
              all_goals refine D8 ?_
              all_goals
                repeat' (first | refine KO ?_ | fail)
              all_goals exact aB rfl rfl (congrArg _ hRj)
            · rw [hp1, if_pos rfl] at hRj
              rw [hp1] at hcall
              repeat' (first | refine KO ?_ | (refine KV (b := by exact U2 (i + 1)) (c := ?_)) | refine KI ?_ | fail)
              refine aC 13 ([]) (by kernel_rfl) rfl (by exact List.Sublist.refl _) ?_
              all_goals refine DD 0 ?_
              all_goals (first | refine D1 1 ?_ | fail)
              all_goals (first | refine D1 2 ?_ | fail)
              all_goals refine DD 3 ?_
              all_goals (try (refine D7 4 ?_; (repeat' (refine KO ?_))))
              all_goals refine DD 4 ?_
              all_goals refine DD 5 ?_
              all_goals (first | (refine DV (k := 6) (b := by exact U2 i) (c := ?_)) | fail)
              all_goals refine DD 7 ?_
              all_goals (first | (refine DV (k := 8) (b := by exact U1 0) (c := ?_)) | fail)
              all_goals (first | (refine DV (k := 9) (b := by exact U4 hm2) (c := ?_)) | fail)
              all_goals ((refine D3 10 ?_; refine D5 ?_; (with_reducible apply C1); exact rfl; exact EN; exact fun w μc hw hse => hcall w μc hw hse.le; refine D9 ?_))
              all_goals refine DD 11 ?_
              all_goals refine DD 12 ?_
              all_goals refine D8 ?_
              all_goals
                repeat' (first | refine KO ?_ | (refine KV (b := by ((with_reducible apply eE 1); (iterate 5 exact rfl); omega)) (c := ?_)) | refine KI ?_ | fail)
              all_goals exact J2 (i + 1, j + 1, _, _) ⟨by show i + 1 ≤ s.size; omega, by show j + 1 ≤ n; omega, hkt, hRj⟩ (by show s.size - (i + 1) < s.size - i; omega)
          · obtain rfl : j = n := by omega
            have hdt : ks.drop j = [] := List.drop_of_length_le (by omega)
            rw [hdt] at hRj
            dsimp only at hRj
            repeat' (first | refine KO ?_ | (refine KV (b := by exact U2 (i + 1)) (c := ?_)) | refine KI ?_ | fail)
            refine aC 13 ([]) (by kernel_rfl) rfl (by exact List.Sublist.refl _) ?_
            all_goals refine DD 0 ?_
            all_goals (first | refine D1 1 ?_ | fail)
            all_goals (first | refine D1 2 ?_ | fail)
            all_goals refine DD 3 ?_
            all_goals (try (refine D7 4 ?_; (repeat' (refine KO ?_))))
            all_goals refine DD 4 ?_
            all_goals refine DD 5 ?_
            all_goals (first | refine D1 6 ?_ | fail)
            all_goals refine DD 7 ?_
            all_goals (first | refine D1 8 ?_ | fail)
            all_goals (first | refine D1 9 ?_ | fail)
            all_goals (refine D3 10 (D6 ?_))
            all_goals refine DD 11 ?_
            all_goals refine DD 12 ?_
            all_goals refine D8 ?_
            all_goals
              repeat' (first | refine KK ?_ | fail)
            all_goals exact aB rfl rfl (congrArg _ hRj)
    · have hd1 : (bl s).drop (i + 1) = [] := List.drop_of_length_le (by rw [sK]; omega)
      rw [hd1, SP, ← hx2, ← hd1] at hRj
      by_cases hlt3 : j < n
      · have hkk : ks[j]? = some ks[j] := List.getElem?_eq_getElem (by omega)
        generalize ks[j] = t at hkk
        have hdt := kC hkk
        have hkt := hkj.rL (by omega)
        rw [List.drop_drop] at hkt
        obtain ⟨A', c', e, hlc, hget⟩ := hkj.form
        rw [hkl] at e hlc
        cases e
        obtain ⟨ad2, u2, rfl, hm2, ho2, hkx⟩ := hget 0 t (by rw [hdt]; rfl)
        have hts := hks t (List.mem_of_getElem? hkk)
        have hcall := fun (w : World) (μc : Mem) (hw : MOk μc w) (hle : MLe μ μc) => his (bAt s i) t u2 w μc hw (hkx.mono hle) hts.1 hts.2
        rw [hdt] at hRj
        dsimp only at hRj
        cases hp1 : isT (bAt s i) t
        · rw [hp1, if_neg (by simp)] at hRj
          rw [hp1] at hcall
          repeat' (first | refine KO ?_ | refine KI ?_ | fail)
          refine aC 13 ([]) (by kernel_rfl) rfl (by exact List.Sublist.refl _) ?_
          all_goals refine DD 0 ?_
          all_goals (first | refine D1 1 ?_ | fail)
          all_goals (first | refine D1 2 ?_ | fail)
          all_goals refine DD 3 ?_
          all_goals (try (refine D7 4 ?_; (repeat' (refine KO ?_))))
          all_goals refine DD 4 ?_
          all_goals refine DD 5 ?_
          all_goals (first | (refine DV (k := 6) (b := by exact U2 i) (c := ?_)) | fail)
          all_goals refine DD 7 ?_
          all_goals (first | (refine DV (k := 8) (b := by exact U1 0) (c := ?_)) | fail)
          all_goals (first | (refine DV (k := 9) (b := by exact U4 hm2) (c := ?_)) | fail)
          all_goals ((refine D3 10 ?_; refine D5 ?_; (with_reducible apply C1); exact rfl; exact EN; exact fun w μc hw hse => hcall w μc hw hse.le; refine D9 ?_))
          all_goals refine DD 11 ?_
          all_goals refine DD 12 ?_
          all_goals refine D8 ?_
          all_goals
            repeat' (first | refine KO ?_ | fail)
          all_goals exact aB rfl rfl (congrArg _ hRj)
        · rw [hp1, if_pos rfl] at hRj
          rw [hp1] at hcall
          repeat' (first | refine KO ?_ | refine KI ?_ | fail)
          refine aC 13 ([]) (by kernel_rfl) rfl (by exact List.Sublist.refl _) ?_
          all_goals refine DD 0 ?_
          all_goals (first | refine D1 1 ?_ | fail)
          all_goals (first | refine D1 2 ?_ | fail)
          all_goals refine DD 3 ?_
          all_goals (try (refine D7 4 ?_; (repeat' (refine KO ?_))))
          all_goals refine DD 4 ?_
          all_goals refine DD 5 ?_
          all_goals (first | (refine DV (k := 6) (b := by exact U2 i) (c := ?_)) | fail)
          all_goals refine DD 7 ?_
          all_goals (first | (refine DV (k := 8) (b := by exact U1 0) (c := ?_)) | fail)
          all_goals (first | (refine DV (k := 9) (b := by exact U4 hm2) (c := ?_)) | fail)
          all_goals ((refine D3 10 ?_; refine D5 ?_; (with_reducible apply C1); exact rfl; exact EN; exact fun w μc hw hse => hcall w μc hw hse.le; refine D9 ?_))
          all_goals refine DD 11 ?_
          all_goals refine DD 12 ?_
          all_goals refine D8 ?_
          all_goals
            repeat' (first | refine KO ?_ | (refine KV (b := by ((with_reducible apply eE 1); (iterate 5 exact rfl); omega)) (c := ?_)) | refine KI ?_ | fail)
          all_goals exact J2 (i + 1, j + 1, _, _) ⟨by show i + 1 ≤ s.size; omega, by show j + 1 ≤ n; omega, hkt, hRj⟩ (by show s.size - (i + 1) < s.size - i; omega)
      · obtain rfl : j = n := by omega
        have hdt : ks.drop j = [] := List.drop_of_length_le (by omega)
        rw [hdt] at hRj
        dsimp only at hRj
        repeat' (first | refine KO ?_ | refine KI ?_ | fail)
        refine aC 13 ([]) (by kernel_rfl) rfl (by exact List.Sublist.refl _) ?_
        all_goals refine DD 0 ?_
        all_goals (first | refine D1 1 ?_ | fail)
        all_goals (first | refine D1 2 ?_ | fail)
        all_goals refine DD 3 ?_
        all_goals (try (refine D7 4 ?_; (repeat' (refine KO ?_))))
        all_goals refine DD 4 ?_
        all_goals refine DD 5 ?_
        all_goals (first | refine D1 6 ?_ | fail)
        all_goals refine DD 7 ?_
        all_goals (first | refine D1 8 ?_ | fail)
        all_goals (first | refine D1 9 ?_ | fail)
        all_goals (refine D3 10 (D6 ?_))
        all_goals refine DD 11 ?_
        all_goals refine DD 12 ?_
        all_goals refine D8 ?_
        all_goals
          repeat' (first | refine KK ?_ | fail)
        all_goals exact aB rfl rfl (congrArg _ hRj)
  · obtain rfl : i = s.size := by omega
    rw [List.drop_of_length_le (by rw [sK]; omega)] at hRj
    have hR2 : decide (n - j = 0) = R := by rw [← hRj, ← hkn, ← List.length_drop, xI]
    repeat' (first | refine KK ?_ | fail)
    refine aB rfl rfl ?_
    rw [← hR2]
    congr 1
    simp
    try omega
end Go.Proofs.YtocidaibmadekaaGreatDoor
namespace Go.Proofs.YtocidaibmadekaaGreatDoor
open Go.RowKit Go.Vcg
attribute [local irreducible] fP chB eM cW G GC GQ GA bX Calls IntKind.wrap Int.decLt Int.decLe
theorem uD (s : ByteArray) (ws : List (List UInt8)) (A : Option Addr) (n c : Nat) (w : World) (μ : Mem) (hμ : MOk μ w) (hS : Sl KU 1 μ A n ws) (hn : n ≤ 100000) :
    Calls Tryz.prog 103 #[.string s, .slice A n c] w fun e w' => e = .returned (.bool (hZ s ws)) ∧ Below w.heap.size w w' := by
  refine aA (args := [.string s, .slice A n c]) Tryz.func103 rfl Tryz.ntmps103 (by simp) hμ ?_
  have hqn : (mD s ws).length = n := by unfold mD; rw [List.length_map]; exact hS.1
  repeat' (first | refine KK ?_ | fail)
  refine aX (ι := Nat) (fun k => k ≤ n ∧ ∀ (j : Nat) (q : Bool), j < k → (mD s ws)[j]? = some q → q = false) (fun k => n - k) (fun _ => μ) (fun k => [(5, .int .i64 k), (1, .slice A n c), (0, .string s)]) (fun _ => []) 0 ⟨by omega, fun j _ h => absurd h (by omega)⟩ (fun a w hs => J6 hs) ?_
  rintro k ⟨hk, hf⟩
  by_cases hlt : k < n
  · have hqk : (mD s ws)[k]? = some ((mD s ws)[k]'(by omega)) := List.getElem?_eq_getElem (by omega)
    generalize (mD s ws)[k]'(by omega) = q at hqk
    have hnext : q = false → ∀ (j : Nat) (q : Bool), j < k + 1 → (mD s ws)[j]? = some q → q = false := fun h j p hj hp => by
      rcases Nat.lt_or_ge j k with h1 | h1
      · exact hf j p h1 hp
      · obtain rfl : j = k := by omega
        rw [hqk] at hp
        cases hp
        exact h
    obtain ⟨ad, y, rfl, hy, hm⟩ := hS.get hlt
    have hqv : q = decide (s = ⟨y.toArray⟩) := by
      have h := hqk
      unfold mD at h
      rw [List.getElem?_map, hy] at h
      exact (Option.some.inj h).symm
    cases hq : q
    · have hb := hnext hq
      rw [hq] at hqv
      have hne : ¬ (⟨y.toArray⟩ : ByteArray) = s := fun h => of_decide_eq_false hqv.symm h.symm
      repeat' (first | refine KO ?_ | (refine KV (b := by first | exact U1 k | exact U3 (hm.at 0 rfl)) (c := ?_)) | refine KI ?_ | fail)
      all_goals exact J4 (k + 1) ⟨by omega, hb⟩ (by omega)
    · rw [hq] at hqv hqk
      have he : (⟨y.toArray⟩ : ByteArray) = s := (of_decide_eq_true hqv.symm).symm
      have ht : hZ s ws = true := by
        unfold hZ
        rw [List.any_eq_true]
        exact ⟨true, List.mem_of_getElem? hqk, rfl⟩
      rw [ht]
      repeat' (first | refine KO ?_ | (refine KV (b := by first | exact U1 k | exact U3 (hm.at 0 rfl)) (c := ?_)) | fail)
      all_goals exact aB rfl rfl rfl
  · have ht : hZ s ws = false := by
      unfold hZ
      rw [List.any_eq_false]
      intro q hq
      obtain ⟨i, hi⟩ := List.mem_iff_getElem?.1 hq
      have h1 := hf i q (by have := (List.getElem?_eq_some_iff.1 hi).1; omega) hi
      simp [h1]
    rw [ht]
    repeat' (first | refine KK ?_ | fail)
    exact aB rfl rfl rfl
theorem xK (ks : List T) (A : Option Addr) (n c : Nat) (w : World) (μ : Mem) (hμ : MOk μ w) (hk : KR μ ks (.slice A n c)) (hkn : ks.length = n) (hn : n ≤ 100000) (hks : ∀ k ∈ ks, T.size k ≤ 100000 ∧ k.s.size ≤ 65536) :
    Calls Tryz.prog 46 #[.slice A n c] w fun e w' => e = .returned (.bool (fP eM ks)) ∧ Below w.heap.size w w' := by
  refine aA (args := [.slice A n c]) Tryz.func46 rfl Tryz.ntmps46 (by simp) hμ ?_
  have hget : ∀ (i : Nat) (t : T), ks[i]? = some t → ∃ a u, A = some a ∧ cQ μ (a.add (i * 6)) (aD t u) ∧ u.oneCell' = true ∧ KR μ t.kids u := by
    obtain ⟨A', c', e, _, hg⟩ := hk.form
    cases e
    exact hg
  repeat' (first | refine KK ?_ | fail)
  refine aX (ι := Nat) (fun i => i ≤ n ∧ ∀ (j : Nat) (t : T), j < i → ks[j]? = some t → vU j eM t) (fun i => n - i) (fun _ => μ) (fun i => [(3, .int .i64 i), (0, .slice A n c)]) (fun _ => []) 0 ⟨by omega, fun j _ h => absurd h (by omega)⟩ (fun a w hs => J6 hs) ?_
  rintro i ⟨hi, hok⟩
  by_cases hlt : i < n
  · have hkk : ks[i]? = some ks[i] := List.getElem?_eq_getElem (by omega)
    generalize ks[i] = t at hkk
    obtain ⟨ad, x, rfl, hm, ho, hkx⟩ := hget i t hkk
    have hts := hks t (List.mem_of_getElem? hkk)
    have hr : (i : Int).tmod 2 = ((i % 2 : Nat) : Int) := rfl
    have hcall := fun (w : World) (μc : Mem) (hw : MOk μc w) (hle : MLe μ μc) => xL t x w μc hw (hkx.mono hle) hts.1 hts.2
    by_cases hp1 : vU i eM t
    · have hnext : ∀ (j : Nat) (t : T), j < i + 1 → ks[j]? = some t → vU j eM t := fun j t' hj ht => by
        rcases Nat.lt_or_ge j i with h | h
        · exact hok j t' h ht
        · obtain rfl : j = i := by omega
          rw [hkk] at ht
          cases ht
          exact hp1
      unfold vU at hp1
      by_cases h2 : i % 2 = 0
      · rw [if_pos h2] at hp1
        repeat' (first | refine KO ?_ | (refine KV (b := by first | exact U1 i | exact U4 hm) (c := ?_)) | refine KI ?_ | refine KG ?_ | fail)
        all_goals first
          | exact J2 (i + 1) ⟨by omega, hnext⟩ (by omega)
          | (exfalso; omega)
      · rw [if_neg h2] at hp1
        rw [hp1] at hcall
        repeat' (first | refine KO ?_ | ((with_reducible apply C1); exact rfl; exact EN; exact fun w μc hw hse => hcall w μc hw hse.le) | (refine KV (b := by first | exact U1 i | exact U4 hm) (c := ?_)) | refine KI ?_ | refine KG ?_ | fail)
        all_goals first
          | exact J2 (i + 1) ⟨by omega, hnext⟩ (by omega)
          | (exfalso; omega)
    · rw [nE fun h => hp1 (h.2 i t hkk)]
      unfold vU at hp1
      by_cases h2 : i % 2 = 0
      · rw [if_pos h2] at hp1
        repeat' (first | refine KO ?_ | (refine KV (b := by first | exact U1 i | exact U4 hm) (c := ?_)) | refine KI ?_ | refine KG ?_ | fail)
        all_goals first
          | exact aB rfl rfl rfl
          | (exfalso; omega)
      · rw [if_neg h2] at hp1
        rw [Bool.not_eq_true _ |>.mp hp1] at hcall
        repeat' (first | refine KO ?_ | ((with_reducible apply C1); exact rfl; exact EN; exact fun w μc hw hse => hcall w μc hw hse.le) | (refine KV (b := by first | exact U1 i | exact U4 hm) (c := ?_)) | refine KI ?_ | refine KG ?_ | fail)
        all_goals first
          | exact aB rfl rfl rfl
          | (exfalso; omega)
  · obtain rfl : i = n := by omega
    have hr : (i : Int).tmod 2 = ((i % 2 : Nat) : Int) := rfl
    have hg : fP eM ks = decide ((i : Int).tmod 2 = 1) := by
      by_cases h : i % 2 = 1
      · rw [sS ⟨by rw [hkn]; exact h, fun j t hj => hok j t (by have := (List.getElem?_eq_some_iff.1 hj).1; omega) hj⟩]
        symm
        rw [decide_eq_true_eq]
        omega
      · rw [nE fun hf => h (by rw [← hkn]; exact hf.1)]
        symm
        rw [decide_eq_false_iff_not]
        omega
    rw [hg]
    repeat' (first | refine KK ?_ | fail)
    exact aB rfl rfl rfl
theorem tR : ∀ (n : Nat), n ≤ 100000 → ∀ (t : T) (u : Value) (w : World) (μ : Mem), MOk μ w → KR μ t.kids u → t.size ≤ n → Sh' t →
    Calls Tryz.prog 49 #[.agg (aD t u).toArray] w fun e w' => e = .returned (.bool (chB t)) ∧ Below w.heap.size w w' := by
  intro n
  induction n with
  | zero => intro _ t u w μ hμ hk hn; exact absurd hn (by rw [T.size_eq]; omega)
  | succ n ih =>
    intro hnb t u w μ hμ hk hn hsh
    have ho := hk.one
    have hlen := bK t
    obtain ⟨A, c, rfl, hlc, hkid⟩ := hk.form
    have hcall := fun (w : World) (μc : Mem) (hw : MOk μc w) (hle : MLe μ μc) => nX t _ w μc hw (hk.mono hle) (by omega) hsh.s
    refine aA (args := [.agg (aD t (.slice A t.kids.length c)).toArray]) Tryz.func49 rfl Tryz.ntmps49 (by simp) hμ ?_
    cases hl : cW t
    · rw [hl] at hcall
      rw [rN (wP hl)]
      repeat' (first | refine KO ?_ | ((with_reducible apply F1 45); exact rfl; exact EN; (exact fun w μc hw hse => hcall w μc hw hse.le)) | refine KI ?_ | refine NB fun b => ?_ | fail)
      all_goals exact aB rfl rfl rfl
    · rw [hl] at hcall
      by_cases hn1 : t.n = 1
      · rw [BU (.one hl hn1)]
        repeat' (first | refine KO ?_ | ((with_reducible apply F1 45); exact rfl; exact EN; (exact fun w μc hw hse => hcall w μc hw hse.le)) | refine KI ?_ | refine NB fun b => ?_ | refine KG ?_ | fail)
        all_goals exact aB rfl rfl rfl
      · by_cases h0 : t.kids.length = 0
        · rw [rN (VW hn1 (by rw [List.getElem?_eq_none_iff]; omega))]
          repeat' (first | refine KO ?_ | ((with_reducible apply F1 45); exact rfl; exact EN; (exact fun w μc hw hse => hcall w μc hw hse.le)) | refine KI ?_ | refine NB fun b => ?_ | refine KG ?_ | fail)
          all_goals exact aB rfl rfl rfl
        · have hk0 : t.kids[0]? = some t.kids[0] := List.getElem?_eq_getElem (by omega)
          generalize t.kids[0] = k at hk0
          obtain ⟨ad2, x2, rfl, hm2, ho2, hkx2⟩ := hkid 0 k hk0
          have hks := T.dH hk0
          have hB : chB t = chB k := by
            by_cases hc : iI k
            · rw [BU hc, BU ((DX hl hn1 hk0).2 hc)]
            · rw [rN hc, rN fun h => hc ((DX hl hn1 hk0).1 h)]
          have hck := fun (w : World) (μc : Mem) (hw : MOk μc w) (hle : MLe μ μc) => ih (by omega) k x2 w μc hw (hkx2.mono hle) (by omega) (hsh.kid (List.mem_of_getElem? hk0))
          rw [hB]
          repeat' (first | refine KO ?_ | ((with_reducible apply F1 45); exact rfl; exact EN; (exact fun w μc hw hse => hcall w μc hw hse.le)) | ((with_reducible apply F1 49); exact rfl; exact EN; (exact fun w μc hw hse => hck w μc hw hse.le)) | (refine KV (b := by first | exact U1 0 | exact U4 hm2) (c := ?_)) | refine KI ?_ | refine NB fun b => ?_ | refine KG ?_ | fail)
          all_goals exact aB rfl rfl rfl
end Go.Proofs.YtocidaibmadekaaGreatDoor
namespace Go.Proofs.YtocidaibmadekaaGreatDoor
open Go.RowKit Go.Vcg
def VZ : List Int := [1, 2, 8, 16, 32]
def bQ (h : Int → Bool) (k : Nat) : Nat := ((VZ.take k).filter h).length
theorem LU (h : Int → Bool) : bQ h 0 = 0 := rfl
theorem kD {h : Int → Bool} {k : Nat} {m : Int} (hk : VZ[k]? = some m) : bQ h (k + 1) = bQ h k + (if h m = true then 1 else 0) := by
  unfold bQ
  rw [List.take_add_one, hk, List.filter_append, List.length_append]
  cases hm : h m <;> simp [List.filter_cons, hm]
theorem sQ (h : Int → Bool) (k : Nat) : bQ h k ≤ 5 := by
  unfold bQ
  have h1 := List.length_filter_le h (VZ.take k)
  have h2 : (VZ.take k).length ≤ 5 := by rw [List.length_take]; exact Nat.min_le_right _ _
  omega
noncomputable def rP (t : T) : Bool :=
  if t.n < 0 ∨ 255 < t.n ∨ t.s ≠ ⟨#[]⟩ ∧ eK t.s = false then false
  else if 1 < bQ (cL t) 5 ∨ cL t 4 = true ∧ cL t 50 = true ∨ cL t 128 = true ∧ cL t 2 = false then false
  else if cL t 1 = true then decide (t.s ≠ ⟨#[]⟩)
  else decide (bQ (cL t) 5 = 0) || decide (t.s = ⟨#[]⟩)
attribute [local irreducible] eK cL bQ G GC GQ GA bX Calls IntKind.wrap Int.decLt Int.decLe
theorem QX (t : T) (u : Value) (w : World) (μ : Mem) (hμ : MOk μ w) (hk : KR μ t.kids u) (hs : t.size ≤ 100000) (hss : t.s.size ≤ 65536) :
    Calls Tryz.prog 115 #[.agg (aD t u).toArray] w fun e w' => e = .returned (.bool (rP t)) ∧ Below w.heap.size w w' := by
  have ho := hk.one
  refine aA (args := [.agg (aD t u).toArray]) Tryz.func115 rfl Tryz.ntmps115 (by simp) hμ ?_
  have hform := fun (w : World) (μc : Mem) (hw : MOk μc w) => uN t.s hss w μc hw
  have hhas := fun (m : Int) (w : World) (μc : Mem) (hw : MOk μc w) (hle : MLe μ μc) => iN m t u w μc hw (hk.mono hle) hs
  by_cases h1 : t.n < 0 ∨ 255 < t.n ∨ t.s ≠ ⟨#[]⟩ ∧ eK t.s = false
  · have hg : rP t = false := by unfold rP; rw [if_pos h1]
    rw [hg]
    repeat' (first | ((with_reducible show GC _ _ (Code.seq (Code.region 3 _ _) _) _ _ _ _); (apply bF)) | refine KO ?_ | ((with_reducible apply F1 146); exact rfl; exact EN; (exact fun w μc hw hse => hform w μc hw)) | refine KI ?_ | refine NB fun b => ?_ | ((refine KB ?_ ?_ <;> intro hp)) | refine KG ?_ | fail)
    all_goals first | exact aB rfl rfl rfl | (exfalso; simp_all; try omega)
  · repeat' (first | ((with_reducible show GC _ _ (Code.seq (Code.region 3 _ _) _) _ _ _ _); (apply bF)) | refine KO ?_ | ((with_reducible apply F1 146); exact rfl; exact EN; (exact fun w μc hw hse => hform w μc hw)) | refine KI ?_ | refine NB fun b => ?_ | ((refine KB ?_ ?_ <;> intro hp)) | refine KG ?_ | fail)
    rotate_left
    · exfalso
      simp_all
    rotate_left
    all_goals
      refine gcs ?_
      rename Nat => ba
      have hg : rP t = (if 1 < bQ (cL t) 5 ∨ cL t 4 = true ∧ cL t 50 = true ∨ cL t 128 = true ∧ cL t 2 = false then false else if cL t 1 = true then decide (t.s ≠ ⟨#[]⟩) else decide (bQ (cL t) 5 = 0) || decide (t.s = ⟨#[]⟩)) := by unfold rP; rw [if_neg h1]
      have hw5 := sQ (cL t) 5
      repeat' (first | refine KK ?_ | refine NB fun b => ?_ | fail)
      refine aX (ι := Nat) (fun i => i ≤ 5) (fun i => 5 - i) (fun _ => μ) (fun i => [(27, .int .i64 i), (26, .int .i64 5), (25, .slice (some ⟨b, 0, none⟩) 5 5), (3, .int .i64 (bQ (cL t) i)), (1, .pointer (some ⟨ba, 0, none⟩))]) (fun _ => [.inl ⟨b, 3, 5, idx 0 [.int .i64 1, .int .i64 2, .int .i64 8, .int .i64 16, .int .i64 32]⟩, .inl ⟨ba, 24, 6, idx 0 (aD t u)⟩]) 0 (by decide) (fun a w hs => by rw [LU]; exact J5 hs) ?_
      intro i hi
      have hwi := sQ (cL t) i
      rcases (by omega : i = 5 ∨ i = 0 ∨ i = 1 ∨ i = 2 ∨ i = 3 ∨ i = 4) with rfl | rfl | rfl | rfl | rfl | rfl
      · rw [hg]
        clear hg h1
        repeat' (first | refine KO ?_ | ((with_reducible apply F1 147); exact rfl; exact EN; (exact fun w μc hw hse => hhas _ w μc hw hse.le)) | refine KI ?_ | ((refine KB ?_ ?_ <;> intro hp)) | refine KG ?_ | fail)
        all_goals clear hform hhas hk ho
        all_goals first | (refine aB rfl rfl ?_; simp_all; done) | (refine aB rfl rfl ?_; simp_all; omega)
      · have hn : bQ (cL t) 1 = bQ (cL t) 0 + (if cL t 1 = true then 1 else 0) := kD (k := 0) rfl
        cases hh : cL t 1
        · rw [hh, if_neg (by simp), Nat.add_zero] at hn
          repeat' (first | refine KO ?_ | ((with_reducible apply F1 147); exact rfl; exact EN; (exact fun w μc hw hse => hh ▸ hhas 1 w μc hw hse.le)) | refine KI ?_ | fail)
          all_goals (rw [← hn]; exact J2 1 (by decide) (by decide))
        · rw [hh, if_pos rfl] at hn
          repeat' (first | refine KO ?_ | ((with_reducible apply F1 147); exact rfl; exact EN; (exact fun w μc hw hse => hh ▸ hhas 1 w μc hw hse.le)) | refine KI ?_ | fail)
          all_goals (rw [show ((bQ (cL t) 0 : Nat) : Int) + 1 = ((bQ (cL t) 1 : Nat) : Int) from by omega]; exact J2 1 (by decide) (by decide))
      · have hn : bQ (cL t) 2 = bQ (cL t) 1 + (if cL t 2 = true then 1 else 0) := kD (k := 1) rfl
        cases hh : cL t 2
        · rw [hh, if_neg (by simp), Nat.add_zero] at hn
          repeat' (first | refine KO ?_ | ((with_reducible apply F1 147); exact rfl; exact EN; (exact fun w μc hw hse => hh ▸ hhas 2 w μc hw hse.le)) | refine KI ?_ | fail)
          all_goals (rw [← hn]; exact J2 2 (by decide) (by decide))
        · rw [hh, if_pos rfl] at hn
          repeat' (first | refine KO ?_ | ((with_reducible apply F1 147); exact rfl; exact EN; (exact fun w μc hw hse => hh ▸ hhas 2 w μc hw hse.le)) | refine KI ?_ | fail)
          all_goals (rw [show ((bQ (cL t) 1 : Nat) : Int) + 1 = ((bQ (cL t) 2 : Nat) : Int) from by omega]; exact J2 2 (by decide) (by decide))
      · have hn : bQ (cL t) 3 = bQ (cL t) 2 + (if cL t 8 = true then 1 else 0) := kD (k := 2) rfl
        cases hh : cL t 8
        · rw [hh, if_neg (by simp), Nat.add_zero] at hn
          repeat' (first | refine KO ?_ | ((with_reducible apply F1 147); exact rfl; exact EN; (exact fun w μc hw hse => hh ▸ hhas 8 w μc hw hse.le)) | refine KI ?_ | fail)
          all_goals (rw [← hn]; exact J2 3 (by decide) (by decide))
        · rw [hh, if_pos rfl] at hn
          repeat' (first | refine KO ?_ | ((with_reducible apply F1 147); exact rfl; exact EN; (exact fun w μc hw hse => hh ▸ hhas 8 w μc hw hse.le)) | refine KI ?_ | fail)
          all_goals (rw [show ((bQ (cL t) 2 : Nat) : Int) + 1 = ((bQ (cL t) 3 : Nat) : Int) from by omega]; exact J2 3 (by decide) (by decide))
      · have hn : bQ (cL t) 4 = bQ (cL t) 3 + (if cL t 16 = true then 1 else 0) := kD (k := 3) rfl
        cases hh : cL t 16
        · rw [hh, if_neg (by simp), Nat.add_zero] at hn
          repeat' (first | refine KO ?_ | ((with_reducible apply F1 147); exact rfl; exact EN; (exact fun w μc hw hse => hh ▸ hhas 16 w μc hw hse.le)) | refine KI ?_ | fail)
          all_goals (rw [← hn]; exact J2 4 (by decide) (by decide))
        · rw [hh, if_pos rfl] at hn
          repeat' (first | refine KO ?_ | ((with_reducible apply F1 147); exact rfl; exact EN; (exact fun w μc hw hse => hh ▸ hhas 16 w μc hw hse.le)) | refine KI ?_ | fail)
          all_goals (rw [show ((bQ (cL t) 3 : Nat) : Int) + 1 = ((bQ (cL t) 4 : Nat) : Int) from by omega]; exact J2 4 (by decide) (by decide))
      · have hn : bQ (cL t) 5 = bQ (cL t) 4 + (if cL t 32 = true then 1 else 0) := kD (k := 4) rfl
        cases hh : cL t 32
        · rw [hh, if_neg (by simp), Nat.add_zero] at hn
          repeat' (first | refine KO ?_ | ((with_reducible apply F1 147); exact rfl; exact EN; (exact fun w μc hw hse => hh ▸ hhas 32 w μc hw hse.le)) | refine KI ?_ | fail)
          all_goals (rw [← hn]; exact J2 5 (by decide) (by decide))
        · rw [hh, if_pos rfl] at hn
          repeat' (first | refine KO ?_ | ((with_reducible apply F1 147); exact rfl; exact EN; (exact fun w μc hw hse => hh ▸ hhas 32 w μc hw hse.le)) | refine KI ?_ | fail)
          all_goals (rw [show ((bQ (cL t) 4 : Nat) : Int) + 1 = ((bQ (cL t) 5 : Nat) : Int) from by omega]; exact J2 5 (by decide) (by decide))
end Go.Proofs.YtocidaibmadekaaGreatDoor
namespace Go.Proofs.YtocidaibmadekaaGreatDoor
open Go.RowKit Go.Vcg
noncomputable def fnT (t : T) : Bool :=
  if t.n < 0 ∨ 255 < t.n ∨ t.s ≠ ⟨#[]⟩ ∧ eK t.s = false then false
  else (if 1 < bQ (bT t) 5 ∨ bT t 4 = true ∧ (bT t 2 = true ∨ bT t 16 = true ∨ bT t 32 = true) ∨ bT t 128 = true ∧ bT t 2 = false then false else if bT t 1 = true then decide (t.s ≠ ⟨#[]⟩) else decide (bQ (bT t) 5 = 0) || decide (t.s = ⟨#[]⟩))
attribute [local irreducible] eK bT bQ G GC GQ GA bX Calls IntKind.wrap Int.decLt Int.decLe
theorem ZL (t : T) (u : Value) (w : World) (μ : Mem) (hμ : MOk μ w) (hk : KR μ t.kids u) (hs : t.size ≤ 100000) (hss : t.s.size ≤ 65536) :
    Calls Tryz.prog 68 #[.agg (aD t u).toArray] w fun e w' => e = .returned (.bool (fnT t)) ∧ Below w.heap.size w w' := by
  have ho := hk.one
  refine aA (args := [.agg (aD t u).toArray]) Tryz.func68 rfl Tryz.ntmps68 (by simp) hμ ?_
  have hform := fun (w : World) (μc : Mem) (hw : MOk μc w) => rZ t.s hss w μc hw
  have hhas := fun (m : Int) (hm : m ≠ 0) (w : World) (μc : Mem) (hw : MOk μc w) (hle : MLe μ μc) => lN m hm t u w μc hw (hk.mono hle)
  by_cases h1 : t.n < 0 ∨ 255 < t.n ∨ t.s ≠ ⟨#[]⟩ ∧ eK t.s = false
  · have hg : fnT t = false := by unfold fnT; rw [if_pos h1]
    rw [hg]
    repeat' (first | ((with_reducible show GC _ _ (Code.seq (Code.region 3 _ _) _) _ _ _ _); (apply bF)) | refine KO ?_ | ((with_reducible apply F1 101); exact rfl; exact EN; (exact fun w μc hw hse => hform w μc hw)) | refine KI ?_ | refine NB fun b => ?_ | ((refine KB ?_ ?_ <;> intro hp)) | refine KG ?_ | fail)
    all_goals first | exact aB rfl rfl rfl | (exfalso; simp_all; try omega)
  · repeat' (first | ((with_reducible show GC _ _ (Code.seq (Code.region 3 _ _) _) _ _ _ _); (apply bF)) | refine KO ?_ | ((with_reducible apply F1 101); exact rfl; exact EN; (exact fun w μc hw hse => hform w μc hw)) | refine KI ?_ | refine NB fun b => ?_ | ((refine KB ?_ ?_ <;> intro hp)) | refine KG ?_ | fail)
    rotate_left
    · exfalso
      simp_all
    rotate_left
    all_goals
      refine gcs ?_
      rename Nat => ba
      have hg : fnT t = (if 1 < bQ (bT t) 5 ∨ bT t 4 = true ∧ (bT t 2 = true ∨ bT t 16 = true ∨ bT t 32 = true) ∨ bT t 128 = true ∧ bT t 2 = false then false else if bT t 1 = true then decide (t.s ≠ ⟨#[]⟩) else decide (bQ (bT t) 5 = 0) || decide (t.s = ⟨#[]⟩)) := by unfold fnT; rw [if_neg h1]
      have hw5 := sQ (bT t) 5
      repeat' (first | refine KK ?_ | refine NB fun b => ?_ | fail)
      refine aX (ι := Nat) (fun i => i ≤ 5) (fun i => 5 - i) (fun _ => μ) (fun i => [(5, .int .i64 i), (4, .slice (some ⟨b, 0, none⟩) 5 5), (3, .int .i64 (bQ (bT t) i)), (1, .pointer (some ⟨ba, 0, none⟩))]) (fun _ => [.inl ⟨b, 3, 5, idx 0 [.int .i64 1, .int .i64 2, .int .i64 8, .int .i64 16, .int .i64 32]⟩, .inl ⟨ba, 24, 6, idx 0 (aD t u)⟩]) 0 (by decide) (fun a w hs => by rw [LU]; exact J5 hs) ?_
      intro i hi
      have hwi := sQ (bT t) i
      rcases (by omega : i = 5 ∨ i = 0 ∨ i = 1 ∨ i = 2 ∨ i = 3 ∨ i = 4) with rfl | rfl | rfl | rfl | rfl | rfl
      · rw [hg]
        clear hg h1
        repeat' (first | refine KO ?_ | ((with_reducible apply F1 102); exact rfl; exact EN; (exact fun w μc hw hse => hhas _ (by decide) w μc hw hse.le)) | refine KI ?_ | ((refine KB ?_ ?_ <;> intro hp)) | refine KG ?_ | fail)
        all_goals clear hform hhas hk ho
        all_goals first | (refine aB rfl rfl ?_; simp_all; done) | (refine aB rfl rfl ?_; simp_all; omega)
      · have hn : bQ (bT t) 1 = bQ (bT t) 0 + (if bT t 1 = true then 1 else 0) := kD (k := 0) rfl
        cases hh : bT t 1
        · rw [hh, if_neg (by simp), Nat.add_zero] at hn
          repeat' (first | refine KK ?_ | fail)
          refine aC 6 _ (by kernel_rfl) rfl (List.Sublist.cons_cons _ (List.Sublist.cons_cons _ (List.nil_sublist _))) ?_
          all_goals (first | refine DD 0 ?_ | fail)
          all_goals refine DD 1 ?_
          all_goals refine DD 2 ?_
          all_goals (first | (refine DV (k := 3) (b := by exact U1 0) (c := ?_)) | fail)
          all_goals (first | refine DD 4 ?_ | fail)
          all_goals ((refine D3 5 ?_; refine D5 ?_; (with_reducible apply F1 102); exact rfl; exact EN; (exact fun w μc hw hse => hh ▸ hhas 1 (by decide) w μc hw hse.le); refine D9 ?_))
          all_goals refine D8 ?_
          repeat' (first | refine KK ?_ | fail)
          all_goals (rw [← hn]; exact J2 1 (by decide) (by decide))
        · rw [hh, if_pos rfl] at hn
          repeat' (first | refine KK ?_ | fail)
          refine aC 6 _ (by kernel_rfl) rfl (List.Sublist.cons_cons _ (List.Sublist.cons_cons _ (List.nil_sublist _))) ?_
          all_goals (first | refine DD 0 ?_ | fail)
          all_goals refine DD 1 ?_
          all_goals refine DD 2 ?_
          all_goals (first | (refine DV (k := 3) (b := by exact U1 0) (c := ?_)) | fail)
          all_goals (first | refine DD 4 ?_ | fail)
          all_goals ((refine D3 5 ?_; refine D5 ?_; (with_reducible apply F1 102); exact rfl; exact EN; (exact fun w μc hw hse => hh ▸ hhas 1 (by decide) w μc hw hse.le); refine D9 ?_))
          all_goals refine D8 ?_
          repeat' (first | refine KK ?_ | fail)
          all_goals (rw [show ((bQ (bT t) 0 : Nat) : Int) + 1 = ((bQ (bT t) 1 : Nat) : Int) from by omega]; exact J2 1 (by decide) (by decide))
      · have hn : bQ (bT t) 2 = bQ (bT t) 1 + (if bT t 2 = true then 1 else 0) := kD (k := 1) rfl
        cases hh : bT t 2
        · rw [hh, if_neg (by simp), Nat.add_zero] at hn
          repeat' (first | refine KK ?_ | fail)
          refine aC 6 _ (by kernel_rfl) rfl (List.Sublist.cons_cons _ (List.Sublist.cons_cons _ (List.nil_sublist _))) ?_
          all_goals (first | refine DD 0 ?_ | fail)
          all_goals refine DD 1 ?_
          all_goals refine DD 2 ?_
          all_goals (first | (refine DV (k := 3) (b := by exact U1 1) (c := ?_)) | fail)
          all_goals (first | refine DD 4 ?_ | fail)
          all_goals ((refine D3 5 ?_; refine D5 ?_; (with_reducible apply F1 102); exact rfl; exact EN; (exact fun w μc hw hse => hh ▸ hhas 2 (by decide) w μc hw hse.le); refine D9 ?_))
          all_goals refine D8 ?_
          repeat' (first | refine KK ?_ | fail)
          all_goals (rw [← hn]; exact J2 2 (by decide) (by decide))
        · rw [hh, if_pos rfl] at hn
          repeat' (first | refine KK ?_ | fail)
          refine aC 6 _ (by kernel_rfl) rfl (List.Sublist.cons_cons _ (List.Sublist.cons_cons _ (List.nil_sublist _))) ?_
          all_goals (first | refine DD 0 ?_ | fail)
          all_goals refine DD 1 ?_
          all_goals refine DD 2 ?_
          all_goals (first | (refine DV (k := 3) (b := by exact U1 1) (c := ?_)) | fail)
          all_goals (first | refine DD 4 ?_ | fail)
          all_goals ((refine D3 5 ?_; refine D5 ?_; (with_reducible apply F1 102); exact rfl; exact EN; (exact fun w μc hw hse => hh ▸ hhas 2 (by decide) w μc hw hse.le); refine D9 ?_))
          all_goals refine D8 ?_
          repeat' (first | refine KK ?_ | fail)
          all_goals (rw [show ((bQ (bT t) 1 : Nat) : Int) + 1 = ((bQ (bT t) 2 : Nat) : Int) from by omega]; exact J2 2 (by decide) (by decide))
      · have hn : bQ (bT t) 3 = bQ (bT t) 2 + (if bT t 8 = true then 1 else 0) := kD (k := 2) rfl
        cases hh : bT t 8
        · rw [hh, if_neg (by simp), Nat.add_zero] at hn
          repeat' (first | refine KK ?_ | fail)
          refine aC 6 _ (by kernel_rfl) rfl (List.Sublist.cons_cons _ (List.Sublist.cons_cons _ (List.nil_sublist _))) ?_
          all_goals (first | refine DD 0 ?_ | fail)
          all_goals refine DD 1 ?_
          all_goals refine DD 2 ?_
          all_goals (first | (refine DV (k := 3) (b := by exact U1 2) (c := ?_)) | fail)
          all_goals (first | refine DD 4 ?_ | fail)
          all_goals ((refine D3 5 ?_; refine D5 ?_; (with_reducible apply F1 102); exact rfl; exact EN; (exact fun w μc hw hse => hh ▸ hhas 8 (by decide) w μc hw hse.le); refine D9 ?_))
          all_goals refine D8 ?_
          repeat' (first | refine KK ?_ | fail)
          all_goals (rw [← hn]; exact J2 3 (by decide) (by decide))
        · rw [hh, if_pos rfl] at hn
          repeat' (first | refine KK ?_ | fail)
          refine aC 6 _ (by kernel_rfl) rfl (List.Sublist.cons_cons _ (List.Sublist.cons_cons _ (List.nil_sublist _))) ?_
          all_goals (first | refine DD 0 ?_ | fail)
          all_goals refine DD 1 ?_
          all_goals refine DD 2 ?_
          all_goals (first | (refine DV (k := 3) (b := by exact U1 2) (c := ?_)) | fail)
          all_goals (first | refine DD 4 ?_ | fail)
          all_goals ((refine D3 5 ?_; refine D5 ?_; (with_reducible apply F1 102); exact rfl; exact EN; (exact fun w μc hw hse => hh ▸ hhas 8 (by decide) w μc hw hse.le); refine D9 ?_))
          all_goals refine D8 ?_
          repeat' (first | refine KK ?_ | fail)
          all_goals (rw [show ((bQ (bT t) 2 : Nat) : Int) + 1 = ((bQ (bT t) 3 : Nat) : Int) from by omega]; exact J2 3 (by decide) (by decide))
      · have hn : bQ (bT t) 4 = bQ (bT t) 3 + (if bT t 16 = true then 1 else 0) := kD (k := 3) rfl
        cases hh : bT t 16
        · rw [hh, if_neg (by simp), Nat.add_zero] at hn
          repeat' (first | refine KK ?_ | fail)
          refine aC 6 _ (by kernel_rfl) rfl (List.Sublist.cons_cons _ (List.Sublist.cons_cons _ (List.nil_sublist _))) ?_
          all_goals (first | refine DD 0 ?_ | fail)
          all_goals refine DD 1 ?_
          all_goals refine DD 2 ?_
          all_goals (first | (refine DV (k := 3) (b := by exact U1 3) (c := ?_)) | fail)
          all_goals (first | refine DD 4 ?_ | fail)
          all_goals ((refine D3 5 ?_; refine D5 ?_; (with_reducible apply F1 102); exact rfl; exact EN; (exact fun w μc hw hse => hh ▸ hhas 16 (by decide) w μc hw hse.le); refine D9 ?_))
          all_goals refine D8 ?_
          repeat' (first | refine KK ?_ | fail)
          all_goals (rw [← hn]; exact J2 4 (by decide) (by decide))
        · rw [hh, if_pos rfl] at hn
          repeat' (first | refine KK ?_ | fail)
          refine aC 6 _ (by kernel_rfl) rfl (List.Sublist.cons_cons _ (List.Sublist.cons_cons _ (List.nil_sublist _))) ?_
          all_goals (first | refine DD 0 ?_ | fail)
          all_goals refine DD 1 ?_
          all_goals refine DD 2 ?_
          all_goals (first | (refine DV (k := 3) (b := by exact U1 3) (c := ?_)) | fail)
          all_goals (first | refine DD 4 ?_ | fail)
          all_goals ((refine D3 5 ?_; refine D5 ?_; (with_reducible apply F1 102); exact rfl; exact EN; (exact fun w μc hw hse => hh ▸ hhas 16 (by decide) w μc hw hse.le); refine D9 ?_))
          all_goals refine D8 ?_
          repeat' (first | refine KK ?_ | fail)
          all_goals (rw [show ((bQ (bT t) 3 : Nat) : Int) + 1 = ((bQ (bT t) 4 : Nat) : Int) from by omega]; exact J2 4 (by decide) (by decide))
      · have hn : bQ (bT t) 5 = bQ (bT t) 4 + (if bT t 32 = true then 1 else 0) := kD (k := 4) rfl
        cases hh : bT t 32
        · rw [hh, if_neg (by simp), Nat.add_zero] at hn
          repeat' (first | refine KK ?_ | fail)
          refine aC 6 _ (by kernel_rfl) rfl (List.Sublist.cons_cons _ (List.Sublist.cons_cons _ (List.nil_sublist _))) ?_
          all_goals (first | refine DD 0 ?_ | fail)
          all_goals refine DD 1 ?_
          all_goals refine DD 2 ?_
          all_goals (first | (refine DV (k := 3) (b := by exact U1 4) (c := ?_)) | fail)
          all_goals (first | refine DD 4 ?_ | fail)
          all_goals ((refine D3 5 ?_; refine D5 ?_; (with_reducible apply F1 102); exact rfl; exact EN; (exact fun w μc hw hse => hh ▸ hhas 32 (by decide) w μc hw hse.le); refine D9 ?_))
          all_goals refine D8 ?_
          repeat' (first | refine KK ?_ | fail)
          all_goals (rw [← hn]; exact J2 5 (by decide) (by decide))
        · rw [hh, if_pos rfl] at hn
          repeat' (first | refine KK ?_ | fail)
          refine aC 6 _ (by kernel_rfl) rfl (List.Sublist.cons_cons _ (List.Sublist.cons_cons _ (List.nil_sublist _))) ?_
          all_goals (first | refine DD 0 ?_ | fail)
          all_goals refine DD 1 ?_
          all_goals refine DD 2 ?_
          all_goals (first | (refine DV (k := 3) (b := by exact U1 4) (c := ?_)) | fail)
          all_goals (first | refine DD 4 ?_ | fail)
          all_goals ((refine D3 5 ?_; refine D5 ?_; (with_reducible apply F1 102); exact rfl; exact EN; (exact fun w μc hw hse => hh ▸ hhas 32 (by decide) w μc hw hse.le); refine D9 ?_))
          all_goals refine D8 ?_
          repeat' (first | refine KK ?_ | fail)
          all_goals (rw [show ((bQ (bT t) 4 : Nat) : Int) + 1 = ((bQ (bT t) 5 : Nat) : Int) from by omega]; exact J2 5 (by decide) (by decide))
end Go.Proofs.YtocidaibmadekaaGreatDoor
namespace Go.Proofs.YtocidaibmadekaaGreatDoor
open Go.RowKit Go.Vcg
theorem aD2 (s : ByteArray) : hZ s qH = (decide (s = ⟨#[43, 43]⟩) || decide (s = ⟨#[45, 45]⟩)) := by
  unfold hZ mD qH
  simp only [List.map_cons, List.map_nil, List.any_cons, List.any_nil, Bool.or_false, id_eq]
theorem aD1 (s : ByteArray) : hZ s qG = (decide (s = ⟨#[38, 38]⟩) || (decide (s = ⟨#[124, 124]⟩) || decide (s = ⟨#[63, 63]⟩))) := by
  unfold hZ mD qG
  simp only [List.map_cons, List.map_nil, List.any_cons, List.any_nil, Bool.or_false, id_eq]
attribute [local irreducible] eK hZ G GC GQ GA bX Calls IntKind.wrap Int.decLt Int.decLe
theorem aBn (t : T) (u : Value) (w : World) (μ : Mem) (hμ : MOk μ w) (hk : KR μ t.kids u) (hop : t.op = 42) :
    Calls Tryz.prog 69 #[.agg (aD t u).toArray] w fun e w' => e = .returned (.bool (hZ t.s sP)) ∧ Below w.heap.size w w' := by
  have ho := hk.one
  refine aA (args := [.agg (aD t u).toArray]) Tryz.func69 rfl Tryz.ntmps69 (by simp) hμ ?_
  repeat' (first | refine KO ?_ | ((with_reducible apply F1 103); exact rfl; exact EN; (exact fun w μc hw hse => uD t.s sP _ _ _ w μc hw (aN hse.hd rfl (by simp) (by repeat first | exact aJ | refine aF rfl ?_)) (by decide))) | refine KI ?_ | refine NB fun b => ?_ | fail)
  all_goals exact aB rfl rfl rfl
theorem aBl (t : T) (u : Value) (w : World) (μ : Mem) (hμ : MOk μ w) (hk : KR μ t.kids u) (hop : t.op = 44) :
    Calls Tryz.prog 69 #[.agg (aD t u).toArray] w fun e w' => e = .returned (.bool (hZ t.s sO)) ∧ Below w.heap.size w w' := by
  have ho := hk.one
  refine aA (args := [.agg (aD t u).toArray]) Tryz.func69 rfl Tryz.ntmps69 (by simp) hμ ?_
  repeat' (first | refine KO ?_ | ((with_reducible apply F1 103); exact rfl; exact EN; (exact fun w μc hw hse => uD t.s sO _ _ _ w μc hw (aN hse.hd rfl (by simp) (by repeat first | exact aJ | refine aF rfl ?_)) (by decide))) | refine KI ?_ | refine NB fun b => ?_ | fail)
  all_goals exact aB rfl rfl rfl
theorem aBj (t : T) (u : Value) (w : World) (μ : Mem) (hμ : MOk μ w) (hk : KR μ t.kids u) (hop : t.op = 46) :
    Calls Tryz.prog 69 #[.agg (aD t u).toArray] w fun e w' => e = .returned (.bool (hZ t.s sN)) ∧ Below w.heap.size w w' := by
  have ho := hk.one
  refine aA (args := [.agg (aD t u).toArray]) Tryz.func69 rfl Tryz.ntmps69 (by simp) hμ ?_
  repeat' (first | refine KO ?_ | ((with_reducible apply F1 103); exact rfl; exact EN; (exact fun w μc hw hse => uD t.s sN _ _ _ w μc hw (aN hse.hd rfl (by simp) (by repeat first | exact aJ | refine aF rfl ?_)) (by decide))) | refine KI ?_ | refine NB fun b => ?_ | fail)
  all_goals exact aB rfl rfl rfl
theorem aBm (t : T) (u : Value) (w : World) (μ : Mem) (hμ : MOk μ w) (hk : KR μ t.kids u) (hop : t.op = 43) :
    Calls Tryz.prog 69 #[.agg (aD t u).toArray] w fun e w' => e = .returned (.bool (hZ t.s qH)) ∧ Below w.heap.size w w' := by
  have ho := hk.one
  refine aA (args := [.agg (aD t u).toArray]) Tryz.func69 rfl Tryz.ntmps69 (by simp) hμ ?_
  rw [aD2]
  repeat' (first | refine KO ?_ | refine KI ?_ | refine NB fun b => ?_ | ((refine KB ?_ ?_ <;> intro hp)) | refine KG ?_ | fail)
  all_goals (refine aB rfl rfl ?_; simp_all; done)
theorem aBk (t : T) (u : Value) (w : World) (μ : Mem) (hμ : MOk μ w) (hk : KR μ t.kids u) (hop : t.op = 45) :
    Calls Tryz.prog 69 #[.agg (aD t u).toArray] w fun e w' => e = .returned (.bool (hZ t.s qG)) ∧ Below w.heap.size w w' := by
  have ho := hk.one
  refine aA (args := [.agg (aD t u).toArray]) Tryz.func69 rfl Tryz.ntmps69 (by simp) hμ ?_
  rw [aD1]
  repeat' (first | refine KO ?_ | refine KI ?_ | refine NB fun b => ?_ | ((refine KB ?_ ?_ <;> intro hp)) | refine KG ?_ | fail)
  all_goals (refine aB rfl rfl ?_; simp_all; done)
theorem IZ (t : T) (u : Value) (w : World) (μ : Mem) (hμ : MOk μ w) (hk : KR μ t.kids u) (hss : t.s.size ≤ 65536) :
    Calls Tryz.prog 69 #[.agg (aD t u).toArray] w fun e w' => e = .returned (.bool (gC t)) ∧ Below w.heap.size w w' := by
  by_cases h42 : t.op = 42
  · simpa [gC, h42] using aBn t u w μ hμ hk h42
  by_cases h43 : t.op = 43
  · simpa [gC, h43] using aBm t u w μ hμ hk h43
  by_cases h44 : t.op = 44
  · simpa [gC, h44] using aBl t u w μ hμ hk h44
  by_cases h45 : t.op = 45
  · simpa [gC, h45] using aBk t u w μ hμ hk h45
  by_cases h46 : t.op = 46
  · simpa [gC, h46] using aBj t u w μ hμ hk h46
  have ho := hk.one
  refine aA (args := [.agg (aD t u).toArray]) Tryz.func69 rfl Tryz.ntmps69 (by simp) hμ ?_
  repeat' (first | refine KO ?_ | ((with_reducible apply F1 101); exact rfl; exact EN; (exact fun w μc hw hse => rZ t.s hss w μc hw)) | refine KI ?_ | refine NB fun b => ?_ | ((refine KB ?_ ?_ <;> intro hp)) | refine KG ?_ | fail)
  all_goals (refine aB rfl rfl ?_; simp_all [gC])
end Go.Proofs.YtocidaibmadekaaGreatDoor
namespace Go.Proofs.YtocidaibmadekaaGreatDoor
open Go.RowKit Go.Vcg
def nP (t : T) : Bool := decide (t.op = 62) || (decide (t.op = 39) && decide (t.n ≠ 3) && decide (t.n ≠ 4))
def zH (t : T) : Bool := decide (t.at' < 0) || (decide (t.m ≠ 0) && (decide (t.m ≠ 1) || !nP t))
noncomputable def gD (t : T) : Bool :=
  if zH t = true then false else if t.op = 4 then rP t else decide (0 ≤ t.n) && decide (t.n ≤ eB t.op) && gC t
attribute [local irreducible] rP gC eB G GC GQ GA bX Calls IntKind.wrap Int.decLt Int.decLe
theorem DQ (t : T) (u : Value) (w : World) (μ : Mem) (hμ : MOk μ w) (hk : KR μ t.kids u) (hs : t.size ≤ 100000) (hss : t.s.size ≤ 65536) (hT : kX μ) :
    Calls Tryz.prog 77 #[.agg (aD t u).toArray] w fun e w' => e = .returned (.bool (gD t)) ∧ Below w.heap.size w w' := by
  have ho := hk.one
  refine aA (args := [.agg (aD t u).toArray]) Tryz.func77 rfl Tryz.ntmps77 (by simp) hμ ?_
  cases hb : zH t
  · by_cases h4 : t.op = 4
    · have hg : gD t = rP t := by unfold gD; rw [if_neg (by simp [hb]), if_pos h4]
      rw [hg]
      clear hg
      repeat' (first | refine KO ?_ | ((with_reducible apply F1 115); exact rfl; exact EN; (exact fun w μc hw hse => QX t u w μc hw (hk.mono hse.le) hs hss)) | refine KI ?_ | refine NB fun b => ?_ | ((refine KB ?_ ?_ <;> intro hp)) | refine KG ?_ | fail)
      all_goals first | exact aB rfl rfl rfl | (exfalso; simp_all [zH, nP]; done)
    · have hg : gD t = (decide (0 ≤ t.n) && decide (t.n ≤ eB t.op) && gC t) := by unfold gD; rw [if_neg (by simp [hb]), if_neg h4]
      rw [hg]
      clear hg
      repeat' (first | refine KO ?_ | refine KI ?_ | refine NB fun b => ?_ | ((refine KB ?_ ?_ <;> intro hp)) | refine KG ?_ | fail)
      all_goals first | (exfalso; clear hk hT hμ; simp_all [zH, nP]; done) | skip
      all_goals
        refine aC 16 _ (by kernel_rfl) rfl (List.Sublist.cons_cons _ (List.nil_sublist _)) ?_
        all_goals refine DD 0 ?_
        all_goals refine DD 1 ?_
        all_goals refine DD 2 ?_
        all_goals refine DD 3 ?_
        all_goals (try (refine D7 4 ?_; (repeat' (first | refine KO ?_ | (refine KB ?_ ?_ <;> intro hp)))))
        all_goals refine DD 4 ?_
        all_goals refine DD 5 ?_
        all_goals refine DD 6 ?_
        all_goals refine DD 7 ?_
        all_goals (first | (refine D3 8 ?_; refine D5 ?_; (((with_reducible apply F1 116); exact rfl; exact EN; (exact fun w μc hw hse => OW t.op w μc hw))); refine D9 ?_) | refine D3 8 (D6 ?_))
        all_goals refine DD 9 ?_
        all_goals refine DD 10 ?_
        all_goals refine DD 11 ?_
        all_goals (try (refine D7 12 ?_; (repeat' (((refine KB ?_ ?_ <;> intro hp))))))
        all_goals refine DD 12 ?_
        all_goals (first | (refine D3 13 ?_; refine D5 ?_; (((with_reducible apply F1 117); exact rfl; exact EN; (exact fun w μc hw hse => OA t u w μc hw (hk.mono hse.le) hss (hT.mono hse.le)))); refine D9 ?_) | refine D3 13 (D6 ?_))
        all_goals refine DD 14 ?_
        all_goals refine DD 15 ?_
        all_goals refine D8 ?_
        repeat' (first | refine KK ?_ | fail)
        all_goals (refine aB rfl rfl ?_; simp_all; try (intros; omega))
  · have hg : gD t = false := by unfold gD; rw [if_pos hb]
    rw [hg]
    clear hg
    repeat' (first | refine KO ?_ | refine KI ?_ | refine NB fun b => ?_ | ((refine KB ?_ ?_ <;> intro hp)) | refine KG ?_ | fail)
    all_goals first | exact aB rfl rfl rfl | (exfalso; clear hk hT hμ; simp_all [zH, nP]; done)
end Go.Proofs.YtocidaibmadekaaGreatDoor
namespace Go.Proofs.YtocidaibmadekaaGreatDoor
open Go.RowKit Go.Vcg
noncomputable def eA (t : T) : Bool :=
  if zH t = true then false else if t.op = 4 then fnT t else decide (0 ≤ t.n) && decide (t.n ≤ eB t.op) && gC t
attribute [local irreducible] fnT gC eB G GC GQ GA bX Calls IntKind.wrap Int.decLt Int.decLe
theorem CT (t : T) (u : Value) (w : World) (μ : Mem) (hμ : MOk μ w) (hk : KR μ t.kids u) (hs : t.size ≤ 100000) (hss : t.s.size ≤ 65536) :
    Calls Tryz.prog 44 #[.agg (aD t u).toArray] w fun e w' => e = .returned (.bool (eA t)) ∧ Below w.heap.size w w' := by
  have ho := hk.one
  refine aA (args := [.agg (aD t u).toArray]) Tryz.func44 rfl Tryz.ntmps44 (by simp) hμ ?_
  have hbd : zH t = (decide (t.at' < 0) || (decide (t.m ≠ 0) && (decide (t.m ≠ 1) || !nP t))) := rfl
  repeat' (first | ((with_reducible show GC _ _ (Code.seq (Code.region 1 _ _) _) _ _ _ _); (apply bF)) | refine KK ?_ | refine NB fun b => ?_ | fail)
  refine gcs (dY (ι := Unit) (fun _ => True) (fun _ => μ) (fun _ => [(3, .bool (nP t)), (1, .pointer (some ⟨b, 0, none⟩))]) (fun _ => [.inl ⟨b, 24, 6, idx 0 (aD t u)⟩]) ?_ ?_)
  · by_cases h62 : t.op = 62
    · have hc : nP t = true := by unfold nP; rw [decide_eq_true h62, Bool.true_or]
      rw [hc]
      repeat' (first | refine KK ?_ | refine KG ?_ | fail)
      all_goals first | skip
      all_goals try rw [decide_eq_true h62]
      all_goals exact J1 () trivial
    · by_cases h39 : t.op = 39 ∧ t.n ≠ 3 ∧ t.n ≠ 4
      · have hc : nP t = true := by unfold nP; rw [decide_eq_true h39.1, decide_eq_true h39.2.1, decide_eq_true h39.2.2]; simp
        rw [hc]
        repeat' (first | refine KK ?_ | refine KG ?_ | fail)
        all_goals exact J1 () trivial
      · have hc : nP t = false := by
          unfold nP
          rw [decide_eq_false h62, Bool.false_or, Bool.eq_false_iff]
          intro h
          simp only [Bool.and_eq_true, decide_eq_true_eq] at h
          exact h39 ⟨h.1.1, h.1.2, h.2⟩
        rw [hc]
        repeat' (first | refine KK ?_ | ((refine KB ?_ ?_ <;> intro hp)) | refine KG ?_ | fail)
        all_goals first | skip
        all_goals try rw [decide_eq_false h62]
        all_goals exact J1 () trivial
  · intro _ _
    generalize nP t = m at hbd
    cases hb : zH t
    · rw [hb] at hbd
      by_cases h4 : t.op = 4
      · have hg : eA t = fnT t := by unfold eA; rw [if_neg (by simp [hb]), if_pos h4]
        rw [hg]
        clear hg
        cases m
        all_goals
          simp at hbd
          repeat' (first | refine KO ?_ | ((with_reducible apply F1 68); exact rfl; exact EN; (exact fun w μc hw hse => ZL t u w μc hw (hk.mono hse.le) hs hss)) | refine KI ?_ | ((refine KB ?_ ?_ <;> intro hp)) | refine KG ?_ | fail)
          all_goals exact aB rfl rfl rfl
      · have hg : eA t = (decide (0 ≤ t.n) && decide (t.n ≤ eB t.op) && gC t) := by unfold eA; rw [if_neg (by simp [hb]), if_neg h4]
        rw [hg]
        clear hg
        cases m
        all_goals
          simp at hbd
          repeat' (first | ((with_reducible show GC _ _ (Code.seq (Code.region 4 _ _) _) _ _ _ _); (apply bF)) | refine KK ?_ | ((refine KB ?_ ?_ <;> intro hp)) | refine KG ?_ | fail)
          all_goals first | skip
        all_goals
          refine gcs ?_
          repeat' (first | ((with_reducible show GC _ _ (Code.seq (Code.seq (Code.region 5 _ _) _) _) _ _ _ _); (apply bF)) | refine KK ?_ | fail)
          refine gcs (dY (ι := Unit) (fun _ => True) (fun _ => μ) (fun _ => [(4, .int .i64 (eB t.op)), (1, .pointer (some ⟨b, 0, none⟩))]) (fun _ => [.inl ⟨b, 24, 6, idx 0 (aD t u)⟩]) ?_ ?_)
          rotate_left
          · intro _ _
            repeat' (first | refine KO ?_ | ((with_reducible apply F1 69); exact rfl; exact EN; (exact fun w μc hw hse => IZ t u w μc hw (hk.mono hse.le) hss)) | refine KI ?_ | ((refine KB ?_ ?_ <;> intro hp)) | refine KG ?_ | fail)
            all_goals (clear hk hμ ho; refine aB rfl rfl ?_; simp_all; try (intros; omega))
          by_cases hc1 : t.op = 1 ∨ t.op = 22 ∨ t.op = 32 ∨ t.op = 43 ∨ t.op = 49 ∨ t.op = 51 ∨ t.op = 52 ∨ t.op = 54
          · have hm : eB t.op = 1 := by unfold eB; (repeat rw [if_pos (by omega)])
            rw [hm]
            repeat' (first | refine KO ?_ | refine KI ?_ | ((refine KB ?_ ?_ <;> intro hp)) | fail)
            all_goals exact J1 () trivial
          by_cases hc2 : t.op = 2
          · have hm : eB t.op = 2 := by unfold eB; (repeat first | rw [if_pos (by omega)] | rw [if_neg (by omega)])
            rw [hm]
            repeat' (first | refine KO ?_ | refine KI ?_ | fail)
            all_goals exact J1 () trivial
          by_cases hc9007199254740992 : t.op = 30
          · have hm : eB t.op = 9007199254740992 := by unfold eB; (repeat first | rw [if_pos (by omega)] | rw [if_neg (by omega)])
            rw [hm]
            repeat' (first | refine KO ?_ | refine KI ?_ | fail)
            all_goals exact J1 () trivial
          by_cases hc5 : t.op = 39
          · have hm : eB t.op = 5 := by unfold eB; (repeat first | rw [if_pos (by omega)] | rw [if_neg (by omega)])
            rw [hm]
            repeat' (first | refine KO ?_ | refine KI ?_ | fail)
            all_goals exact J1 () trivial
          have hm : eB t.op = 0 := by unfold eB; (repeat rw [if_neg (by omega)])
          rw [hm]
          repeat' (first | refine KO ?_ | refine KI ?_ | fail)
          all_goals exact J1 () trivial
    · have hg : eA t = false := by unfold eA; rw [if_pos hb]
      rw [hg]
      clear hg
      rw [hb] at hbd
      cases m
      all_goals
        simp at hbd
        repeat' (first | refine KK ?_ | ((refine KB ?_ ?_ <;> intro hp)) | refine KG ?_ | fail)
        all_goals exact aB rfl rfl rfl
end Go.Proofs.YtocidaibmadekaaGreatDoor
