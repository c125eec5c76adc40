/- Package ir: the operands of a node against their signs. -/
import Derived.Test.YtoclmkdfcafhfaaGreatDoorZap
set_option maxRecDepth 20000
set_option maxHeartbeats 2000000
namespace Go.Proofs.YtoclmkdfcafhfaaGreatDoor
section
open Go.RowKit Go.Vcg Ou
theorem yR {μ : Mem} {ks : List T} {A : Option Addr} {n c : Nat} (h : KR μ ks (.slice A n c)) (hn : 1 ≤ n) : KR μ (ks.drop 1) (.slice (if c = 1 then A else A.map (·.add (1 * 6))) (n - 1) (c - 1)) := by
  cases h with
  | mk _ A c vs hcap hcell hone hsub =>
    have e : (ks.drop 1).length = ks.length - 1 := by simp
    have h0 : ∀ (i : Nat) (t : T), (ks.drop 1)[i]? = some t → ks[1 + i]? = some t := fun i t hi => by simpa [Nat.add_comm] using hi
    have := KR.mk (μ := μ) (ks.drop 1) (if c = 1 then A else A.map (·.add (1 * 6))) (c - 1) (fun i => vs (1 + i)) (by omega) (fun i t hi => ?_) (fun i t hi => hone _ t (h0 i t hi)) (fun i t hi => hsub _ t (h0 i t hi))
    · rw [e] at this
      exact this
    · obtain ⟨a, e, hc⟩ := hcell _ t (h0 i t hi)
      have : 1 + i < ks.length := (List.getElem?_eq_some_iff.1 (h0 i t hi)).1
      rw [if_neg (by omega), e]
      refine ⟨_, rfl, ?_⟩
      rw [jB, ← Nat.add_mul]
      exact hc
theorem lV {α : Type} {l : List α} {j : Nat} {t : α} (h : l[j]? = some t) : l.drop j = t :: l.drop (j + 1) := by
  obtain ⟨hlt, e⟩ := List.getElem?_eq_some_iff.1 h
  rw [← e, List.getElem_cons_drop]
def qI (c : UInt8) (r : List UInt8) (l : List Int) : Bool := (l.take (l.length - r.length)).all (Iq.nE c) && Iq.fX r (l.drop (l.length - r.length))
theorem CZ (c : UInt8) (r : List UInt8) (l : List Int) : Iq.fX (c :: 42 :: r) l = qI c r l := by
  unfold Iq.fX qI
  rw [if_pos rfl]
theorem BE {c : UInt8} {r : List UInt8} {x : Int} {l : List Int} (h : r.length < (x :: l).length) : qI c r (x :: l) = (Iq.nE c x && qI c r l) := by
  unfold qI
  have e : (x :: l).length - r.length = (l.length - r.length) + 1 := by simp at h ⊢; omega
  rw [e, List.take_succ_cons, List.all_cons, List.drop_succ_cons, Bool.and_assoc]
theorem HP {c : UInt8} {r : List UInt8} {l : List Int} (h : l.length ≤ r.length) : qI c r l = Iq.fX r l := by
  unfold qI
  rw [Nat.sub_eq_zero_of_le h]
  rfl
theorem KP {c : UInt8} {r : List UInt8} (h : r.head? ≠ some 42) (l : List Int) : Iq.fX (c :: r) l = match l with
    | [] => false
    | x :: l' => Iq.nE c x && Iq.fX r l' := by
  cases r with
  | nil => cases l <;> rfl
  | cons d r =>
    have hd : ¬ d = 42 := fun e => h (by rw [e]; rfl)
    conv => lhs; unfold Iq.fX
    rw [if_neg hd]
    cases l <;> rfl
attribute [local irreducible] qI G GC GQ GA bO Calls IntKind.wrap Int.decLt Int.decLe
theorem vI (x : Int) (c : UInt8) (op : Int) (b : Bool) (hx : x = c.toNat) (hb : Iq.nE c op = b) (w : World) (μ : Mem) (hμ : MOk μ w) : Calls Tryz.prog 134 #[.int .u8 x, .int .i64 op] w fun e w' => e = .returned (.bool b) ∧ Below w.heap.size w w' := by
  subst hb
  exact PB x c op hx w μ hμ
theorem EM (x : Int) (c : UInt8) (op : Int) (b : Bool) (hx : x = c.toNat) (hb : Iq.nE c op = b) (w : World) (μ : Mem) (hμ : MOk μ w) : Calls Tryz.prog 139 #[.int .u8 x, .int .i64 op] w fun e w' => e = .returned (.bool b) ∧ Below w.heap.size w w' := by
  subst hb
  exact VD x c op hx w μ hμ
theorem OX (sg : List UInt8) (hsg : sg.length ≤ 1000) (ks : List T) (u : Value) (w : World) (μ : Mem) (hμ : MOk μ w) (hu : KR μ ks u) (hk : ks.length ≤ 100000) : Calls Tryz.prog 106 #[.string (ofB sg), u] w fun e w' => e = .returned (.bool (Iq.fX sg (ks.map T.op))) ∧ Below w.heap.size w w' := by
  have hu0 := hu
  obtain ⟨A, c, rfl, hc, hget0⟩ := hu.form
  have hsz := iW sg
  generalize hR : Iq.fX sg (ks.map T.op) = R
  refine aC (args := [.string (ofB sg), .slice A ks.length c]) Tryz.func106 rfl Tryz.ntmps106 (by simp) hμ ?_
  generalize hn : ks.length = n at *
  repeat' (first | refine KK ?_ | fail)
  refine aX (ι := Nat × Nat × Option Addr × Nat) (fun i => i.1 ≤ sg.length ∧ i.2.1 ≤ n ∧ KR μ (ks.drop i.2.1) (.slice i.2.2.1 (n - i.2.1) i.2.2.2) ∧ Iq.fX (sg.drop i.1) ((ks.drop i.2.1).map T.op) = R) (fun i => sg.length - i.1) (fun _ => μ) (fun i => [(5, .int .i64 (i.1 : Int)), (0, .string (ofB sg)), (1, .slice i.2.2.1 (n - i.2.1) i.2.2.2)]) (fun _ => []) (0, 0, A, c) ⟨by simp, by simp, by simpa [hn] using hu0, by simpa using hR⟩ (fun a w hs => hs.sel PU PS) ?_
  rintro ⟨i, j, Aj, cj⟩ ⟨hi, hj, hkj, hRj⟩
  try dsimp only at hi hj hkj hRj ⊢
  by_cases hlt : i < sg.length
  · obtain ⟨ch, hb1, hb2⟩ := mJ (s := ofB sg) (i := i) (by omega)
    rw [gS] at hb1
    have hds := lV hb1
    by_cases hst : sg[i + 1]? = some 42
    · have hlt2 : i + 1 < sg.length := (List.getElem?_eq_some_iff.1 hst).1
      have hst2 : bAt (ofB sg) (i + 1) = 42 := by
        have : (bl (ofB sg))[i + 1]? = some 42 := by rw [gS]; exact hst
        exact jT this
      rw [hds, lV hst, CZ] at hRj
      repeat' (first | refine KO ?_ | (refine KV (b := by exact U2 (i + 1)) (c := ?_)) | refine KI ?_ | refine KG ?_ | fail)
      all_goals try (exfalso; omega)
      all_goals refine aX (ι := Nat × Option Addr × Nat) (fun q => q.1 ≤ n ∧ KR μ (ks.drop q.1) (.slice q.2.1 (n - q.1) q.2.2) ∧ qI ch (sg.drop (i + 2)) ((ks.drop q.1).map T.op) = R) (fun q => n - q.1) (fun _ => μ) (fun q => [(6, .int .i64 (((ofB sg).size : Int) - (i : Int) - 2)), (5, .int .i64 (i : Int)), (0, .string (ofB sg)), (1, .slice q.2.1 (n - q.1) q.2.2)]) (fun _ => []) (j, Aj, cj) ⟨hj, hkj, hRj⟩ (fun a w hs => hs.sel PU PS) ?_
      rintro ⟨j2, A2, c2⟩ ⟨hj2, hk2, hR2⟩
      try dsimp only at hj2 hk2 hR2 ⊢
      have hdl : (sg.drop (i + 2)).length = sg.length - (i + 2) := List.length_drop
      have hml : ((ks.drop j2).map T.op).length = n - j2 := by rw [List.length_map, List.length_drop, hn]
      by_cases hin : sg.length - (i + 2) < n - j2
      · have hkk : ks[j2]? = some ks[j2] := List.getElem?_eq_getElem (by omega)
        generalize ks[j2] = t at hkk
        have hdt := lV hkk
        obtain ⟨A', c', e', hlc, cL⟩ := hk2.form
        have hkl : (ks.drop j2).length = n - j2 := by rw [List.length_drop, hn]
        rw [hkl] at e' hlc
        cases e'
        obtain ⟨ad2, x, rfl, hm, ho, hkx⟩ := cL 0 t (by rw [hdt]; rfl)
        have hkt := yR hk2 (by omega)
        rw [List.drop_drop] at hkt
        have hml2 : ((ks.drop (j2 + 1)).map T.op).length = n - (j2 + 1) := by rw [List.length_map, List.length_drop, hn]
        rw [hdt, List.map_cons, BE (by rw [List.length_cons]; omega)] at hR2
        cases hf : Iq.nE ch t.op
        · rw [hf] at hR2
          rw [Bool.false_and] at hR2
          repeat' (first | refine KK ?_ | fail)
          all_goals try (exfalso; omega)
          refine aN 9 ([]) (by kernel_rfl) rfl (by exact List.Sublist.refl _) ?_
          all_goals refine DD 0 ?_
          all_goals refine DD 1 ?_
          all_goals (first | (refine DV (k := 2) (b := by exact U2 i) (c := ?_)) | fail)
          all_goals refine DD 3 ?_
          all_goals (first | (refine DV (k := 4) (b := by exact U1 0) (c := ?_)) | fail)
          all_goals (first | refine DD 5 ?_ | fail)
          all_goals (first | (refine DV (k := 6) (b := by exact U4 hm) (c := ?_)) | fail)
          all_goals ((refine D3 7 ?_; refine D5 ?_; (with_reducible apply F1 134); exact rfl; exact EN; (exact fun w μc hw hse => vI _ ch _ _ hb2 hf w μc hw); refine D9 ?_))
          all_goals refine DD 8 ?_
          all_goals refine D8 ?_
          all_goals repeat' (first | refine KO ?_ | fail)
          all_goals exact aD rfl rfl (congrArg _ hR2)
        · rw [hf] at hR2
          rw [Bool.true_and] at hR2
          have hE := hR2
          repeat' (first | refine KK ?_ | fail)
          all_goals try (exfalso; omega)
          refine aN 9 ([]) (by kernel_rfl) rfl (by exact List.Sublist.refl _) ?_
          all_goals refine DD 0 ?_
          all_goals refine DD 1 ?_
          all_goals (first | (refine DV (k := 2) (b := by exact U2 i) (c := ?_)) | fail)
          all_goals refine DD 3 ?_
          all_goals (first | (refine DV (k := 4) (b := by exact U1 0) (c := ?_)) | fail)
          all_goals (first | refine DD 5 ?_ | fail)
          all_goals (first | (refine DV (k := 6) (b := by exact U4 hm) (c := ?_)) | fail)
          all_goals ((refine D3 7 ?_; refine D5 ?_; (with_reducible apply F1 134); exact rfl; exact EN; (exact fun w μc hw hse => vI _ ch _ _ hb2 hf w μc hw); refine D9 ?_))
          all_goals refine DD 8 ?_
          all_goals refine D8 ?_
          all_goals repeat' (first | refine KO ?_ | (refine KV (b := by ((with_reducible apply nK 1); (iterate 5 exact rfl); omega)) (c := ?_)) | fail)
          all_goals exact J2 (j2 + 1, _, _) ⟨by show j2 + 1 ≤ n; omega, hkt, hE⟩ (by show n - (j2 + 1) < n - j2; omega)
      · have hE := hR2
        rw [HP (by omega)] at hE
        repeat' (first | refine KK ?_ | fail)
        all_goals try (exfalso; omega)
        all_goals exact J2 (i + 2, j2, _, _) ⟨by show i + 2 ≤ sg.length; omega, hj2, hk2, hE⟩ (by show sg.length - (i + 2) < sg.length - i; omega)
    · have hst2 : i + 1 < sg.length → ¬ bAt (ofB sg) (i + 1) = 42 := fun h e => by
        obtain ⟨ch2, h1, h2⟩ := mJ (s := ofB sg) (i := i + 1) (by omega)
        rw [gS] at h1
        rw [h1] at hst
        exact hst (by rw [show ch2 = 42 from UInt8.toNat_inj.1 (by rw [h2] at e; exact Int.ofNat.inj e)])
      have hhd : (sg.drop (i + 1)).head? ≠ some 42 := by rw [List.head?_drop]; exact hst
      rw [hds, KP hhd] at hRj
      by_cases hin : j < n
      · have hkk : ks[j]? = some ks[j] := List.getElem?_eq_getElem (by omega)
        generalize ks[j] = t at hkk
        have hdt := lV hkk
        obtain ⟨A', c', e', hlc, cL⟩ := hkj.form
        have hkl : (ks.drop j).length = n - j := by rw [List.length_drop, hn]
        rw [hkl] at e' hlc
        cases e'
        obtain ⟨ad2, x, rfl, hm, ho, hkx⟩ := cL 0 t (by rw [hdt]; rfl)
        have hkt := yR hkj (by omega)
        rw [List.drop_drop] at hkt
        rw [hdt, List.map_cons] at hRj
        try dsimp only at hRj
        cases hf : Iq.nE ch t.op
        · rw [hf] at hRj
          rw [Bool.false_and] at hRj
          by_cases hlt2 : i + 1 < sg.length
          all_goals try have hst3 := hst2 hlt2
          all_goals clear hst2
          all_goals repeat' (first | refine KO ?_ | (refine KV (b := by exact U2 (i + 1)) (c := ?_)) | refine KI ?_ | refine KG ?_ | fail)
          all_goals try (exfalso; omega)
          all_goals (
          refine aN 14 ([]) (by kernel_rfl) rfl (by exact List.Sublist.refl _) ?_
          all_goals refine DD 0 ?_
          all_goals (first | refine D1 1 ?_ | fail)
          all_goals (first | refine D1 2 ?_ | fail)
          all_goals refine DD 3 ?_
          all_goals (try (refine D7 4 ?_; (repeat' (refine KO ?_))))
          all_goals refine DD 4 ?_
          all_goals refine DD 5 ?_
          all_goals (first | (refine DV (k := 6) (b := by exact U2 i) (c := ?_)) | fail)
          all_goals refine DD 7 ?_
          all_goals (first | (refine DV (k := 8) (b := by exact U1 0) (c := ?_)) | fail)
          all_goals (first | refine DD 9 ?_ | fail)
          all_goals (first | (refine DV (k := 10) (b := by exact U4 hm) (c := ?_)) | fail)
          all_goals ((refine D3 11 ?_; refine D5 ?_; (with_reducible apply F1 134); exact rfl; exact EN; (exact fun w μc hw hse => vI _ ch _ _ hb2 hf w μc hw); refine D9 ?_))
          all_goals refine DD 12 ?_
          all_goals refine DD 13 ?_
          all_goals refine D8 ?_
          all_goals try (exfalso; omega)
          all_goals repeat' (first | refine KO ?_ | fail))
          all_goals exact aD rfl rfl (congrArg _ hRj)
        · rw [hf] at hRj
          rw [Bool.true_and] at hRj
          have hE := hRj
          by_cases hlt2 : i + 1 < sg.length
          all_goals try have hst3 := hst2 hlt2
          all_goals clear hst2
          all_goals repeat' (first | refine KO ?_ | (refine KV (b := by exact U2 (i + 1)) (c := ?_)) | refine KI ?_ | refine KG ?_ | fail)
          all_goals try (exfalso; omega)
          all_goals (
          refine aN 14 ([]) (by kernel_rfl) rfl (by exact List.Sublist.refl _) ?_
          all_goals refine DD 0 ?_
          all_goals (first | refine D1 1 ?_ | fail)
          all_goals (first | refine D1 2 ?_ | fail)
          all_goals refine DD 3 ?_
          all_goals (try (refine D7 4 ?_; (repeat' (refine KO ?_))))
          all_goals refine DD 4 ?_
          all_goals refine DD 5 ?_
          all_goals (first | (refine DV (k := 6) (b := by exact U2 i) (c := ?_)) | fail)
          all_goals refine DD 7 ?_
          all_goals (first | (refine DV (k := 8) (b := by exact U1 0) (c := ?_)) | fail)
          all_goals (first | refine DD 9 ?_ | fail)
          all_goals (first | (refine DV (k := 10) (b := by exact U4 hm) (c := ?_)) | fail)
          all_goals ((refine D3 11 ?_; refine D5 ?_; (with_reducible apply F1 134); exact rfl; exact EN; (exact fun w μc hw hse => vI _ ch _ _ hb2 hf w μc hw); refine D9 ?_))
          all_goals refine DD 12 ?_
          all_goals refine DD 13 ?_
          all_goals refine D8 ?_
          all_goals try (exfalso; omega)
          all_goals repeat' (first | refine KO ?_ | (refine KV (b := by ((with_reducible apply nK 1); (iterate 5 exact rfl); omega)) (c := ?_)) | refine KI ?_ | fail))
          all_goals exact J2 (i + 1, j + 1, _, _) ⟨by show i + 1 ≤ sg.length; omega, by show j + 1 ≤ n; omega, hkt, hE⟩ (by show sg.length - (i + 1) < sg.length - i; omega)
      · have hdt : ks.drop j = [] := List.drop_of_length_le (by omega)
        rw [hdt] at hRj
        try dsimp only [List.map_nil] at hRj
        by_cases hlt2 : i + 1 < sg.length
        all_goals try have hst3 := hst2 hlt2
        all_goals clear hst2
        all_goals repeat' (first | refine KO ?_ | (refine KV (b := by exact U2 (i + 1)) (c := ?_)) | refine KI ?_ | refine KG ?_ | fail)
        all_goals try (exfalso; omega)
        all_goals (
        refine aN 14 ([]) (by kernel_rfl) rfl (by exact List.Sublist.refl _) ?_
        all_goals refine DD 0 ?_
        all_goals (first | refine D1 1 ?_ | fail)
        all_goals (first | refine D1 2 ?_ | fail)
        all_goals refine DD 3 ?_
        all_goals (try (refine D7 4 ?_; (repeat' (refine KO ?_))))
        all_goals refine DD 4 ?_
        all_goals refine DD 5 ?_
        all_goals (first | refine D1 6 ?_ | fail)
        all_goals refine DD 7 ?_
        all_goals (first | refine D1 8 ?_ | fail)
        all_goals (first | refine D1 9 ?_ | fail)
        all_goals (first | refine D1 10 ?_ | fail)
        all_goals (refine D3 11 (D6 ?_))
        all_goals refine DD 12 ?_
        all_goals refine DD 13 ?_
        all_goals refine D8 ?_
        all_goals try (exfalso; omega)
        all_goals repeat' (first | refine KK ?_ | fail))
        all_goals exact aD rfl rfl (congrArg _ hRj)
  · obtain rfl : i = sg.length := by omega
    rw [List.drop_length] at hRj
    have hR3 : decide (j = n) = R := by
      rw [← hRj]
      have e1 : Iq.fX [] ((ks.drop j).map T.op) = ((ks.drop j).map T.op).isEmpty := rfl
      rw [e1, Bool.eq_iff_iff, decide_eq_true_iff, List.isEmpty_iff, List.map_eq_nil_iff, List.drop_eq_nil_iff]
      omega
    repeat' (first | refine KK ?_ | fail)
    all_goals try (exfalso; omega)
    all_goals refine aD rfl rfl ?_
    all_goals rw [← hR3]
    all_goals congr 1
    all_goals rw [Bool.eq_iff_iff, decide_eq_true_iff, decide_eq_true_iff]
    all_goals omega
theorem NZ (sg : List UInt8) (hsg : sg.length ≤ 1000) (ks : List T) (u : Value) (w : World) (μ : Mem) (hμ : MOk μ w) (hu : KR μ ks u) (hk : ks.length ≤ 100000) : Calls Tryz.prog 113 #[.string (ofB sg), u] w fun e w' => e = .returned (.bool (Iq.fX sg (ks.map T.op))) ∧ Below w.heap.size w w' := by
  have hu0 := hu
  obtain ⟨A, c, rfl, hc, hget0⟩ := hu.form
  have hsz := iW sg
  generalize hR : Iq.fX sg (ks.map T.op) = R
  refine aC (args := [.string (ofB sg), .slice A ks.length c]) Tryz.func113 rfl Tryz.ntmps113 (by simp) hμ ?_
  generalize hn : ks.length = n at *
  repeat' (first | refine KK ?_ | fail)
  refine aX (ι := Nat × Nat) (fun i => i.1 ≤ sg.length ∧ i.2 ≤ n ∧ Iq.fX (sg.drop i.1) ((ks.drop i.2).map T.op) = R) (fun i => sg.length - i.1) (fun _ => μ) (fun i => [(6, .int .i64 (i.1 : Int)), (5, .int .i64 (i.2 : Int)), (0, .string (ofB sg)), (1, .slice A n c)]) (fun _ => []) (0, 0) ⟨by simp, by simp, by simpa using hR⟩ (fun a w hs => hs.sel PU PS) ?_
  rintro ⟨i, j⟩ ⟨hi, hj, hRj⟩
  try dsimp only at hi hj hRj ⊢
  by_cases hlt : i < sg.length
  · obtain ⟨ch, hb1, hb2⟩ := mJ (s := ofB sg) (i := i) (by omega)
    rw [gS] at hb1
    have hds := lV hb1
    by_cases hst : sg[i + 1]? = some 42
    · have hlt2 : i + 1 < sg.length := (List.getElem?_eq_some_iff.1 hst).1
      have hst2 : bAt (ofB sg) (i + 1) = 42 := by
        have : (bl (ofB sg))[i + 1]? = some 42 := by rw [gS]; exact hst
        exact jT this
      rw [hds, lV hst, CZ] at hRj
      repeat' (first | refine KO ?_ | (refine KV (b := by exact U2 (i + 1)) (c := ?_)) | refine KI ?_ | refine KG ?_ | fail)
      all_goals try (exfalso; omega)
      all_goals refine aX (ι := Nat) (fun q => q ≤ n ∧ qI ch (sg.drop (i + 2)) ((ks.drop q).map T.op) = R) (fun q => n - q) (fun _ => μ) (fun q => [(7, .int .i64 (((ofB sg).size : Int) - (i : Int) - 2)), (6, .int .i64 (i : Int)), (5, .int .i64 (q : Int)), (0, .string (ofB sg)), (1, .slice A n c)]) (fun _ => []) j ⟨hj, hRj⟩ (fun a w hs => hs.sel PU PS) ?_
      rintro j2 ⟨hj2, hR2⟩
      skip
      have hdl : (sg.drop (i + 2)).length = sg.length - (i + 2) := List.length_drop
      have hml : ((ks.drop j2).map T.op).length = n - j2 := by rw [List.length_map, List.length_drop, hn]
      by_cases hin : sg.length - (i + 2) < n - j2
      · have hkk : ks[j2]? = some ks[j2] := List.getElem?_eq_getElem (by omega)
        generalize ks[j2] = t at hkk
        have hdt := lV hkk
        obtain ⟨ad2, x, rfl, hm, ho, hkx⟩ := hget0 j2 t hkk
        have hml2 : ((ks.drop (j2 + 1)).map T.op).length = n - (j2 + 1) := by rw [List.length_map, List.length_drop, hn]
        rw [hdt, List.map_cons, BE (by rw [List.length_cons]; omega)] at hR2
        cases hf : Iq.nE ch t.op
        · rw [hf] at hR2
          rw [Bool.false_and] at hR2
          repeat' (first | refine KK ?_ | fail)
          all_goals try (exfalso; omega)
          refine aN 10 ([]) (by kernel_rfl) rfl (by exact List.Sublist.refl _) ?_
          all_goals refine DD 0 ?_
          all_goals refine DD 1 ?_
          all_goals (first | (refine DV (k := 2) (b := by exact U2 i) (c := ?_)) | fail)
          all_goals refine DD 3 ?_
          all_goals refine DD 4 ?_
          all_goals (first | (refine DV (k := 5) (b := by exact U1 j2) (c := ?_)) | fail)
          all_goals (first | refine DD 6 ?_ | fail)
          all_goals (first | (refine DV (k := 7) (b := by exact U4 hm) (c := ?_)) | fail)
          all_goals ((refine D3 8 ?_; refine D5 ?_; (with_reducible apply F1 139); exact rfl; exact EN; (exact fun w μc hw hse => EM _ ch _ _ hb2 hf w μc hw); refine D9 ?_))
          all_goals refine DD 9 ?_
          all_goals refine D8 ?_
          all_goals repeat' (first | refine KK ?_ | fail)
          all_goals exact aD rfl rfl (congrArg _ hR2)
        · rw [hf] at hR2
          rw [Bool.true_and] at hR2
          have hE := hR2
          repeat' (first | refine KK ?_ | fail)
          all_goals try (exfalso; omega)
          refine aN 10 ([]) (by kernel_rfl) rfl (by exact List.Sublist.refl _) ?_
          all_goals refine DD 0 ?_
          all_goals refine DD 1 ?_
          all_goals (first | (refine DV (k := 2) (b := by exact U2 i) (c := ?_)) | fail)
          all_goals refine DD 3 ?_
          all_goals refine DD 4 ?_
          all_goals (first | (refine DV (k := 5) (b := by exact U1 j2) (c := ?_)) | fail)
          all_goals (first | refine DD 6 ?_ | fail)
          all_goals (first | (refine DV (k := 7) (b := by exact U4 hm) (c := ?_)) | fail)
          all_goals ((refine D3 8 ?_; refine D5 ?_; (with_reducible apply F1 139); exact rfl; exact EN; (exact fun w μc hw hse => EM _ ch _ _ hb2 hf w μc hw); refine D9 ?_))
          all_goals refine DD 9 ?_
          all_goals refine D8 ?_
          all_goals repeat' (first | refine KK ?_ | fail)
          all_goals exact J2 (j2 + 1) ⟨by show j2 + 1 ≤ n; omega, hE⟩ (by show n - (j2 + 1) < n - j2; omega)
      · have hE := hR2
        rw [HP (by omega)] at hE
        repeat' (first | refine KK ?_ | fail)
        all_goals try (exfalso; omega)
        all_goals exact J2 (i + 2, j2) ⟨by show i + 2 ≤ sg.length; omega, hj2, hE⟩ (by show sg.length - (i + 2) < sg.length - i; omega)
    · have hst2 : i + 1 < sg.length → ¬ bAt (ofB sg) (i + 1) = 42 := fun h e => by
        obtain ⟨ch2, h1, h2⟩ := mJ (s := ofB sg) (i := i + 1) (by omega)
        rw [gS] at h1
        rw [h1] at hst
        exact hst (by rw [show ch2 = 42 from UInt8.toNat_inj.1 (by rw [h2] at e; exact Int.ofNat.inj e)])
      have hhd : (sg.drop (i + 1)).head? ≠ some 42 := by rw [List.head?_drop]; exact hst
      rw [hds, KP hhd] at hRj
      by_cases hin : j < n
      · have hkk : ks[j]? = some ks[j] := List.getElem?_eq_getElem (by omega)
        generalize ks[j] = t at hkk
        have hdt := lV hkk
        obtain ⟨ad2, x, rfl, hm, ho, hkx⟩ := hget0 j t hkk
        rw [hdt, List.map_cons] at hRj
        try dsimp only at hRj
        cases hf : Iq.nE ch t.op
        · rw [hf] at hRj
          rw [Bool.false_and] at hRj
          by_cases hlt2 : i + 1 < sg.length
          all_goals try have hst3 := hst2 hlt2
          all_goals clear hst2
          all_goals repeat' (first | refine KO ?_ | (refine KV (b := by exact U2 (i + 1)) (c := ?_)) | refine KI ?_ | refine KG ?_ | fail)
          all_goals try (exfalso; omega)
          all_goals (
          refine aN 16 ([]) (by kernel_rfl) rfl (by exact List.Sublist.refl _) ?_
          all_goals refine DD 0 ?_
          all_goals refine DD 1 ?_
          all_goals (first | refine D1 2 ?_ | fail)
          all_goals (first | refine D1 3 ?_ | fail)
          all_goals refine DD 4 ?_
          all_goals (try (refine D7 5 ?_; (repeat' (refine KO ?_))))
          all_goals refine DD 5 ?_
          all_goals refine DD 6 ?_
          all_goals (first | (refine DV (k := 7) (b := by exact U2 i) (c := ?_)) | fail)
          all_goals refine DD 8 ?_
          all_goals refine DD 9 ?_
          all_goals (first | (refine DV (k := 10) (b := by exact U1 j) (c := ?_)) | fail)
          all_goals (first | refine DD 11 ?_ | fail)
          all_goals (first | (refine DV (k := 12) (b := by exact U4 hm) (c := ?_)) | fail)
          all_goals ((refine D3 13 ?_; refine D5 ?_; (with_reducible apply F1 139); exact rfl; exact EN; (exact fun w μc hw hse => EM _ ch _ _ hb2 hf w μc hw); refine D9 ?_))
          all_goals refine DD 14 ?_
          all_goals refine DD 15 ?_
          all_goals refine D8 ?_
          all_goals try (exfalso; omega)
          all_goals repeat' (first | refine KK ?_ | fail))
          all_goals exact aD rfl rfl (congrArg _ hRj)
        · rw [hf] at hRj
          rw [Bool.true_and] at hRj
          have hE := hRj
          by_cases hlt2 : i + 1 < sg.length
          all_goals try have hst3 := hst2 hlt2
          all_goals clear hst2
          all_goals repeat' (first | refine KO ?_ | (refine KV (b := by exact U2 (i + 1)) (c := ?_)) | refine KI ?_ | refine KG ?_ | fail)
          all_goals try (exfalso; omega)
          all_goals (
          refine aN 16 ([]) (by kernel_rfl) rfl (by exact List.Sublist.refl _) ?_
          all_goals refine DD 0 ?_
          all_goals refine DD 1 ?_
          all_goals (first | refine D1 2 ?_ | fail)
          all_goals (first | refine D1 3 ?_ | fail)
          all_goals refine DD 4 ?_
          all_goals (try (refine D7 5 ?_; (repeat' (refine KO ?_))))
          all_goals refine DD 5 ?_
          all_goals refine DD 6 ?_
          all_goals (first | (refine DV (k := 7) (b := by exact U2 i) (c := ?_)) | fail)
          all_goals refine DD 8 ?_
          all_goals refine DD 9 ?_
          all_goals (first | (refine DV (k := 10) (b := by exact U1 j) (c := ?_)) | fail)
          all_goals (first | refine DD 11 ?_ | fail)
          all_goals (first | (refine DV (k := 12) (b := by exact U4 hm) (c := ?_)) | fail)
          all_goals ((refine D3 13 ?_; refine D5 ?_; (with_reducible apply F1 139); exact rfl; exact EN; (exact fun w μc hw hse => EM _ ch _ _ hb2 hf w μc hw); refine D9 ?_))
          all_goals refine DD 14 ?_
          all_goals refine DD 15 ?_
          all_goals refine D8 ?_
          all_goals try (exfalso; omega)
          all_goals repeat' (first | refine KK ?_ | fail))
          all_goals exact J2 (i + 1, j + 1) ⟨by show i + 1 ≤ sg.length; omega, by show j + 1 ≤ n; omega, hE⟩ (by show sg.length - (i + 1) < sg.length - i; omega)
      · have hdt : ks.drop j = [] := List.drop_of_length_le (by omega)
        rw [hdt] at hRj
        try dsimp only [List.map_nil] at hRj
        by_cases hlt2 : i + 1 < sg.length
        all_goals try have hst3 := hst2 hlt2
        all_goals clear hst2
        all_goals repeat' (first | refine KO ?_ | (refine KV (b := by exact U2 (i + 1)) (c := ?_)) | refine KI ?_ | refine KG ?_ | fail)
        all_goals try (exfalso; omega)
        all_goals (
        refine aN 16 ([]) (by kernel_rfl) rfl (by exact List.Sublist.refl _) ?_
        all_goals refine DD 0 ?_
        all_goals refine DD 1 ?_
        all_goals (first | refine D1 2 ?_ | fail)
        all_goals (first | refine D1 3 ?_ | fail)
        all_goals refine DD 4 ?_
        all_goals (try (refine D7 5 ?_; (repeat' (refine KO ?_))))
        all_goals refine DD 5 ?_
        all_goals refine DD 6 ?_
        all_goals (first | refine D1 7 ?_ | fail)
        all_goals refine DD 8 ?_
        all_goals refine DD 9 ?_
        all_goals (first | refine D1 10 ?_ | fail)
        all_goals (first | refine D1 11 ?_ | fail)
        all_goals (first | refine D1 12 ?_ | fail)
        all_goals (refine D3 13 (D6 ?_))
        all_goals refine DD 14 ?_
        all_goals refine DD 15 ?_
        all_goals refine D8 ?_
        all_goals try (exfalso; omega)
        all_goals repeat' (first | refine KK ?_ | fail))
        all_goals exact aD rfl rfl (congrArg _ hRj)
  · obtain rfl : i = sg.length := by omega
    rw [List.drop_length] at hRj
    have hR3 : decide (j = n) = R := by
      rw [← hRj]
      have e1 : Iq.fX [] ((ks.drop j).map T.op) = ((ks.drop j).map T.op).isEmpty := rfl
      rw [e1, Bool.eq_iff_iff, decide_eq_true_iff, List.isEmpty_iff, List.map_eq_nil_iff, List.drop_eq_nil_iff]
      omega
    repeat' (first | refine KK ?_ | fail)
    all_goals try (exfalso; omega)
    all_goals refine aD rfl rfl ?_
    all_goals rw [← hR3]
    all_goals congr 1
    all_goals rw [Bool.eq_iff_iff, decide_eq_true_iff, decide_eq_true_iff]
    all_goals omega
end
section
open Go.RowKit Go.Vcg Ou
abbrev aW (x : Int) : List Value := [.int .i64 x]
theorem eG (xs : List Int) : (xs.flatMap aW).length = xs.length := by
  induction xs with
  | nil => rfl
  | cons x r ih => simp only [List.flatMap_cons, List.length_append, ih, List.length_cons, List.length_nil]; omega
theorem gO (xs : List Int) : ∀ u ∈ xs.flatMap aW, u.oneCell' = true := fun u hu => by
  obtain ⟨x, _, h⟩ := List.mem_flatMap.1 hu
  cases List.mem_singleton.1 h
  rfl
def bK (μ : Mem) (v : Value) (xs : List Int) : Prop := ∃ A c, v = .slice A xs.length c ∧ Sl aW 1 μ A xs.length xs
theorem bK.mono {μ μ' : Mem} {v : Value} {xs : List Int} (h : bK μ v xs) (hle : MLe μ μ') : bK μ' v xs := by
  obtain ⟨A, c, h1, h2⟩ := h
  exact ⟨A, c, h1, h2.mono hle⟩
theorem bK.one {μ : Mem} {v : Value} {xs : List Int} (h : bK μ v xs) : v.oneCell' = true := by
  obtain ⟨A, c, rfl, _⟩ := h
  rfl
theorem bK.nil (μ : Mem) : bK μ (.slice none 0 0) [] := ⟨none, 0, rfl, Sl.nil _ _ _ _⟩
theorem bK.eD {μ : Mem} {v : Value} {e n : Nat} {xs : List Int} {ys : List Value} (h : Bk.sh (.inr ⟨v, e, 1, n, ys⟩) μ) (hn : xs.length = n) (hx : ys = xs.flatMap aW) : bK μ v xs := by
  obtain ⟨A, c, h1, h2⟩ := NT (enc := aW) h hn (fun x _ => rfl) hx
  subst hn
  exact ⟨A, c, h1, h2⟩
def ixF (n : Int) : List Int → Nat → Int
  | [], _ => -1
  | x :: r, k => if n = x then k else ixF n r (k + 1)
theorem FZ (n : Int) : ∀ (xs : List Int) (k : Nat), decide (0 ≤ ixF n xs k) = xs.contains n
  | [], k => rfl
  | x :: r, k => by
    rw [ixF, List.contains_cons]
    by_cases h : n = x
    · rw [if_pos h, h]
      simp
    · rw [if_neg h, FZ n r (k + 1)]
      have : (n == x) = false := by simpa using h
      rw [this, Bool.false_or]
theorem KS {xs ys : List Int} (hl : xs.length = ys.length) {k : Nat} (hk : ys.length ≤ k) (h : ∀ (j : Nat) (x y : Int), j < k → xs[j]? = some x → ys[j]? = some y → x = y) : xs = ys := by
  apply List.ext_getElem? 
  intro j
  rcases Nat.lt_or_ge j ys.length with hj | hj
  · have h1 : xs[j]? = some xs[j] := List.getElem?_eq_getElem (by omega)
    have h2 : ys[j]? = some ys[j] := List.getElem?_eq_getElem hj
    rw [h1, h2, h j _ _ (by omega) h1 h2]
  · rw [List.getElem?_eq_none (by omega), List.getElem?_eq_none hj]
attribute [local irreducible] G GC GQ GA bO Calls IntKind.wrap Int.decLt Int.decLe
theorem JF (v1 v2 : Value) (xs ys : List Int) (w : World) (μ : Mem) (hμ : MOk μ w) (h1 : bK μ v1 xs) (h2 : bK μ v2 ys) (hxl : xs.length ≤ 100000000) (hyl : ys.length ≤ 100000000) : Calls Tryz.prog 137 #[v1, v2] w fun e w' => e = .returned (.bool (decide (xs = ys))) ∧ Below w.heap.size w w' := by
  obtain ⟨A, c, rfl, hS⟩ := h1
  obtain ⟨B, d, rfl, hS2⟩ := h2
  refine aC (args := [.slice A xs.length c, .slice B ys.length d]) Tryz.func137 rfl Tryz.ntmps137 (by simp) hμ ?_
  by_cases hl : xs.length = ys.length
  · generalize hR : decide (xs = ys) = R
    repeat' (first | refine KK ?_ | fail)
    all_goals try (exfalso; omega)
    refine aX (ι := Nat) (fun k => k ≤ ys.length ∧ ∀ (j : Nat) (x y : Int), j < k → xs[j]? = some x → ys[j]? = some y → x = y) (fun k => ys.length - k) (fun _ => μ) (fun k => [(13, .int .i64 (k : Int)), (12, .int .i64 (xs.length : Int)), (0, .slice A xs.length c), (1, .slice B ys.length d)]) (fun _ => []) 0 ⟨by omega, fun j _ _ h => absurd h (by omega)⟩ (fun a w hs => hs.sel PU PS) ?_
    rintro k ⟨hk1, hkk⟩
    by_cases hlt : k < ys.length
    · obtain ⟨ad, x, rfl, hx, hm⟩ := hS.get (show k < xs.length by omega)
      obtain ⟨ad2, y, rfl, hy, hm2⟩ := hS2.get hlt
      by_cases hxy : x = y
      · repeat' (first | refine KK ?_ | fail)
        all_goals try (exfalso; omega)
        refine aN 9 ([]) (by kernel_rfl) rfl (by exact List.Sublist.refl _) ?_
        all_goals refine DD 0 ?_
        all_goals refine DD 1 ?_
        all_goals (first | (refine DV (k := 2) (b := by exact U1 k) (c := ?_)) | fail)
        all_goals (first | (refine DV (k := 3) (b := by exact U3 (hm.at 0 rfl)) (c := ?_)) | fail)
        all_goals refine DD 4 ?_
        all_goals refine DD 5 ?_
        all_goals (first | (refine DV (k := 6) (b := by exact U1 k) (c := ?_)) | fail)
        all_goals (first | (refine DV (k := 7) (b := by exact U3 (hm2.at 0 rfl)) (c := ?_)) | fail)
        all_goals (first | refine D1 8 ?_ | fail)
        all_goals refine D8 ?_
        all_goals repeat' (first | refine KK ?_ | fail)
        all_goals try (exfalso; omega)
        refine J2 (k + 1) ⟨by omega, fun j x2 y2 hj h3 h4 => ?_⟩ (by omega)
        rcases Nat.lt_or_ge j k with h | h
        · exact hkk j x2 y2 h h3 h4
        · have : j = k := by omega
          subst this
          rw [hx] at h3
          rw [hy] at h4
          cases h3
          cases h4
          exact hxy
      · have hF : false = R := by
          rw [← hR]
          symm
          rw [decide_eq_false_iff_not]
          intro h
          rw [h, hy] at hx
          cases hx
          exact hxy rfl
        repeat' (first | refine KK ?_ | fail)
        all_goals try (exfalso; omega)
        refine aN 9 ([]) (by kernel_rfl) rfl (by exact List.Sublist.refl _) ?_
        all_goals refine DD 0 ?_
        all_goals refine DD 1 ?_
        all_goals (first | (refine DV (k := 2) (b := by exact U1 k) (c := ?_)) | fail)
        all_goals (first | (refine DV (k := 3) (b := by exact U3 (hm.at 0 rfl)) (c := ?_)) | fail)
        all_goals refine DD 4 ?_
        all_goals refine DD 5 ?_
        all_goals (first | (refine DV (k := 6) (b := by exact U1 k) (c := ?_)) | fail)
        all_goals (first | (refine DV (k := 7) (b := by exact U3 (hm2.at 0 rfl)) (c := ?_)) | fail)
        all_goals (first | refine D1 8 ?_ | fail)
        all_goals refine D8 ?_
        all_goals repeat' (first | refine KK ?_ | fail)
        all_goals try (exfalso; omega)
        all_goals exact aD rfl rfl (congrArg _ hF)
    · have hT : true = R := by
        rw [← hR]
        symm
        rw [decide_eq_true_iff]
        exact KS hl (by omega) hkk
      repeat' (first | refine KK ?_ | fail)
      all_goals try (exfalso; omega)
      all_goals exact aD rfl rfl (congrArg _ hT)
  · have hF : decide (xs = ys) = false := decide_eq_false (fun h => hl (by rw [h]))
    rw [hF]
    repeat' (first | refine KK ?_ | fail)
    all_goals exact aD rfl rfl rfl
theorem NP (v1 v2 : Value) (xs ys : List Int) (w : World) (μ : Mem) (hμ : MOk μ w) (h1 : bK μ v1 xs) (h2 : bK μ v2 ys) (hxl : xs.length ≤ 100000000) (hyl : ys.length ≤ 100000000) : Calls Tryz.prog 142 #[v1, v2] w fun e w' => e = .returned (.bool (decide (xs = ys))) ∧ Below w.heap.size w w' := by
  obtain ⟨A, c, rfl, hS⟩ := h1
  obtain ⟨B, d, rfl, hS2⟩ := h2
  refine aC (args := [.slice A xs.length c, .slice B ys.length d]) Tryz.func142 rfl Tryz.ntmps142 (by simp) hμ ?_
  by_cases hl : xs.length = ys.length
  · generalize hR : decide (xs = ys) = R
    repeat' (first | refine KK ?_ | fail)
    all_goals try (exfalso; omega)
    refine aX (ι := Nat) (fun k => k ≤ ys.length ∧ ∀ (j : Nat) (x y : Int), j < k → xs[j]? = some x → ys[j]? = some y → x = y) (fun k => ys.length - k) (fun _ => μ) (fun k => [(5, .int .i64 (k : Int)), (0, .slice A xs.length c), (1, .slice B ys.length d)]) (fun _ => []) 0 ⟨by omega, fun j _ _ h => absurd h (by omega)⟩ (fun a w hs => hs.sel PU PS) ?_
    rintro k ⟨hk1, hkk⟩
    by_cases hlt : k < ys.length
    · obtain ⟨ad, x, rfl, hx, hm⟩ := hS.get (show k < xs.length by omega)
      obtain ⟨ad2, y, rfl, hy, hm2⟩ := hS2.get hlt
      by_cases hxy : x = y
      · repeat' (first | refine KK ?_ | fail)
        all_goals try (exfalso; omega)
        refine aN 9 ([]) (by kernel_rfl) rfl (by exact List.Sublist.refl _) ?_
        all_goals refine DD 0 ?_
        all_goals refine DD 1 ?_
        all_goals (first | (refine DV (k := 2) (b := by exact U1 k) (c := ?_)) | fail)
        all_goals (first | (refine DV (k := 3) (b := by exact U3 (hm.at 0 rfl)) (c := ?_)) | fail)
        all_goals refine DD 4 ?_
        all_goals refine DD 5 ?_
        all_goals (first | (refine DV (k := 6) (b := by exact U1 k) (c := ?_)) | fail)
        all_goals (first | (refine DV (k := 7) (b := by exact U3 (hm2.at 0 rfl)) (c := ?_)) | fail)
        all_goals (first | refine D1 8 ?_ | fail)
        all_goals refine D8 ?_
        all_goals repeat' (first | refine KK ?_ | fail)
        all_goals try (exfalso; omega)
        refine J2 (k + 1) ⟨by omega, fun j x2 y2 hj h3 h4 => ?_⟩ (by omega)
        rcases Nat.lt_or_ge j k with h | h
        · exact hkk j x2 y2 h h3 h4
        · have : j = k := by omega
          subst this
          rw [hx] at h3
          rw [hy] at h4
          cases h3
          cases h4
          exact hxy
      · have hF : false = R := by
          rw [← hR]
          symm
          rw [decide_eq_false_iff_not]
          intro h
          rw [h, hy] at hx
          cases hx
          exact hxy rfl
        repeat' (first | refine KK ?_ | fail)
        all_goals try (exfalso; omega)
        refine aN 9 ([]) (by kernel_rfl) rfl (by exact List.Sublist.refl _) ?_
        all_goals refine DD 0 ?_
        all_goals refine DD 1 ?_
        all_goals (first | (refine DV (k := 2) (b := by exact U1 k) (c := ?_)) | fail)
        all_goals (first | (refine DV (k := 3) (b := by exact U3 (hm.at 0 rfl)) (c := ?_)) | fail)
        all_goals refine DD 4 ?_
        all_goals refine DD 5 ?_
        all_goals (first | (refine DV (k := 6) (b := by exact U1 k) (c := ?_)) | fail)
        all_goals (first | (refine DV (k := 7) (b := by exact U3 (hm2.at 0 rfl)) (c := ?_)) | fail)
        all_goals (first | refine D1 8 ?_ | fail)
        all_goals refine D8 ?_
        all_goals repeat' (first | refine KK ?_ | fail)
        all_goals try (exfalso; omega)
        all_goals exact aD rfl rfl (congrArg _ hF)
    · have hT : true = R := by
        rw [← hR]
        symm
        rw [decide_eq_true_iff]
        exact KS hl (by omega) hkk
      repeat' (first | refine KK ?_ | fail)
      all_goals try (exfalso; omega)
      all_goals exact aD rfl rfl (congrArg _ hT)
  · have hF : decide (xs = ys) = false := decide_eq_false (fun h => hl (by rw [h]))
    rw [hF]
    repeat' (first | refine KK ?_ | fail)
    all_goals exact aD rfl rfl rfl
theorem JD (v1 : Value) (xs : List Int) (n : Int) (w : World) (μ : Mem) (hμ : MOk μ w) (h1 : bK μ v1 xs) (hxl : xs.length ≤ 100000000) : Calls Tryz.prog 157 #[v1, .int .i64 n] w fun e w' => e = .returned (.int .i64 (ixF n xs 0)) ∧ Below w.heap.size w w' := by
  obtain ⟨A, c, rfl, hS⟩ := h1
  refine aC (args := [.slice A xs.length c, .int .i64 n]) Tryz.func157 rfl Tryz.ntmps157 (by simp) hμ ?_
  generalize hR : ixF n xs 0 = R
  repeat' (first | refine KK ?_ | fail)
  refine aX (ι := Nat) (fun k => k ≤ xs.length ∧ ixF n (xs.drop k) k = R) (fun k => xs.length - k) (fun _ => μ) (fun k => [(8, .int .i64 (k : Int)), (7, .int .i64 (xs.length : Int)), (0, .slice A xs.length c), (1, .int .i64 n)]) (fun _ => []) 0 ⟨by omega, by simpa using hR⟩ (fun a w hs => hs.sel PU PS) ?_
  rintro k ⟨hk1, hkk⟩
  by_cases hlt : k < xs.length
  · obtain ⟨ad, x, rfl, hx, hm⟩ := hS.get hlt
    rw [lV hx, ixF] at hkk
    by_cases hxy : n = x
    · rw [if_pos hxy] at hkk
      repeat' (first | refine KO ?_ | (refine KV (b := by first | exact U1 k | exact U3 (hm.at 0 rfl)) (c := ?_)) | fail)
      all_goals exact aD rfl rfl (congrArg _ hkk)
    · rw [if_neg hxy] at hkk
      repeat' (first | refine KO ?_ | (refine KV (b := by first | exact U1 k | exact U3 (hm.at 0 rfl)) (c := ?_)) | refine KI ?_ | fail)
      all_goals exact J2 (k + 1) ⟨by omega, hkk⟩ (by omega)
  · rw [List.drop_of_length_le (by omega), ixF] at hkk
    repeat' (first | refine KK ?_ | fail)
    all_goals exact aD rfl rfl (congrArg _ hkk)
theorem xT (v1 : Value) (xs : List Int) (n : Int) (w : World) (μ : Mem) (hμ : MOk μ w) (h1 : bK μ v1 xs) (hxl : xs.length ≤ 100000000) : Calls Tryz.prog 138 #[v1, .int .i64 n] w fun e w' => e = .returned (.bool (xs.contains n)) ∧ Below w.heap.size w w' := by
  rw [← FZ n xs 0]
  refine aC (args := [v1, .int .i64 n]) Tryz.func138 rfl Tryz.ntmps138 (by simp) hμ ?_
  repeat' (first | refine KO ?_ | ((with_reducible apply F1 157); exact rfl; exact EN; (exact fun w μc hw hse => JD _ xs n w μc hw (h1.mono hse.le) hxl)) | fail)
  all_goals exact aD rfl rfl rfl
theorem VG (v1 : Value) (xs : List Int) (n : Int) (w : World) (μ : Mem) (hμ : MOk μ w) (h1 : bK μ v1 xs) (hxl : xs.length ≤ 100000000) : Calls Tryz.prog 143 #[v1, .int .i64 n] w fun e w' => e = .returned (.bool (xs.contains n)) ∧ Below w.heap.size w w' := by
  rw [← FZ n xs 0]
  obtain ⟨A, c, rfl, hS⟩ := h1
  refine aC (args := [.slice A xs.length c, .int .i64 n]) Tryz.func143 rfl Tryz.ntmps143 (by simp) hμ ?_
  generalize hR : ixF n xs 0 = R
  repeat' (first | refine KK ?_ | fail)
  refine aX (ι := Nat) (fun k => k ≤ xs.length ∧ ixF n (xs.drop k) k = R) (fun k => xs.length - k) (fun _ => μ) (fun k => [(5, .int .i64 (k : Int)), (0, .slice A xs.length c), (1, .int .i64 n)]) (fun _ => []) 0 ⟨by omega, by simpa using hR⟩ (fun a w hs => hs.sel PU PS) ?_
  rintro k ⟨hk1, hkk⟩
  by_cases hlt : k < xs.length
  · obtain ⟨ad, x, rfl, hx, hm⟩ := hS.get hlt
    rw [lV hx, ixF] at hkk
    by_cases hxy : n = x
    · rw [if_pos hxy] at hkk
      have hT : decide (0 ≤ R) = true := by rw [← hkk]; simp
      rw [hT]
      have hyx : x = n := hxy.symm
      repeat' (first | refine KO ?_ | (refine KV (b := by first | exact U1 k | exact U3 (hm.at 0 rfl)) (c := ?_)) | fail)
      all_goals exact aD rfl rfl rfl
    · rw [if_neg hxy] at hkk
      have hyx : ¬ x = n := fun h => hxy h.symm
      repeat' (first | refine KO ?_ | (refine KV (b := by first | exact U1 k | exact U3 (hm.at 0 rfl)) (c := ?_)) | refine KI ?_ | fail)
      all_goals exact J2 (k + 1) ⟨by omega, hkk⟩ (by omega)
  · rw [List.drop_of_length_le (by omega), ixF] at hkk
    rw [← hkk, show decide ((0 : Int) ≤ -1) = false from decide_eq_false (by omega)]
    repeat' (first | refine KK ?_ | fail)
    all_goals exact aD rfl rfl rfl
theorem gC (v1 : Value) (xs : List Int) (w : World) (μ : Mem) (hμ : MOk μ w) (h1 : bK μ v1 xs) (hxl : xs.length ≤ 100000000) : Calls Tryz.prog 112 #[v1] w (vS w 3 1 xs.length (xs.flatMap aW)) := by
  obtain ⟨A, c, rfl, hS⟩ := h1
  have h2 := eG xs
  have h3 := gO xs
  refine aC (args := [.slice A xs.length c]) Tryz.func112 rfl Tryz.ntmps112 (by simp) hμ ?_
  cases A with
  | none =>
    have : xs = [] := by
      cases xs with
      | nil => rfl
      | cons x r =>
        obtain ⟨ad, e, _⟩ := hS.2 (by simp)
        cases e
    subst this
    repeat' (first | refine KO ?_ | (refine KV (b := by ((with_reducible apply RI); exact rfl; exact rfl)) (c := ?_)) | fail)
    exact tT 3 1 (SF 0 rfl rfl rfl)
  | some ad =>
    repeat' (first | ((with_reducible apply mG 1)) | refine KO ?_ | (((with_reducible apply lI); (iterate 3 exact rfl); (repeat with_reducible exact cF); (iterate 6 exact rfl); (((with_reducible apply fZ); exact rfl; exact hS; simp)); (omega); (assumption); omega; omega; intro v)) | (refine KV (b := by ((with_reducible apply RI); exact rfl; exact rfl)) (c := ?_)) | refine NB fun b => ?_ | fail)
    simp only [Nat.zero_add, List.nil_append]
    exact SF 0 rfl rfl rfl
end
end Go.Proofs.YtoclmkdfcafhfaaGreatDoor
namespace Go.Proofs.YtoclmkdfcafhfaaGreatDoor.Iq
open Go Go.Proofs.YtoclmkdfcafhfaaGreatDoor.Ou
def Nx (n : Nat) (c : CkS) : Prop := (∀ x ∈ c.next, 0 ≤ x ∧ x < (n : Int)) ∧ ∀ k, c.met.getD k false = false → c.slots.getD k [] = []
section
variable {row : Int → List UInt8 × List UInt8} {fs : Fns}
theorem UL (f op n m : Int) (p : PlP) (c : CkS) (hl : c.met.length = fs.length) (hn : bB op n (fN fs f) fs.length = true) (h : Nx fs.length c) : Nx fs.length (cA fs f op n m p c).1 := by
  unfold cA
  split
  · exact h
  split
  · rename_i h119
    dsimp only
    split
    · exact h
    · have hr : 1 ≤ n ∧ n ≤ (fs.length : Int) - 1 := by
        subst h119
        simp [bB] at hn
        exact gQ hn
      refine ⟨fun x hx => ?_, fun k hk => ?_⟩
      · dsimp only at hx
        rcases List.mem_append.1 hx with hx | hx
        · exact h.1 x hx
        · cases List.mem_singleton.1 hx
          omega
      · dsimp only at hk ⊢
        by_cases hkn : n.toNat = k
        · exfalso
          subst hkn
          have : (c.met.set n.toNat true).getD n.toNat false = true := yY.2 (.inl ⟨rfl, by rw [hl]; omega⟩)
          rw [this] at hk
          cases hk
        · have h1 : c.met.getD k false = false := by
            cases he : c.met.getD k false with
            | false => rfl
            | true =>
              have : (c.met.set n.toNat true).getD k false = true := yY.2 (.inr he)
              rw [this] at hk
              cases hk
          have h2 := h.2 k h1
          rw [List.getD_eq_getElem?_getD, List.getElem?_set_ne hkn, ← List.getD_eq_getElem?_getD]
          exact h2
  split
  · exact h
  split
  · exact h
  split
  · exact h
  split
  · exact h
  · exact h
mutual
theorem FT : ∀ (t : T) (f : Int) (p : PlP) (deep : Int) (c : CkS), c.met.length = fs.length → Nx fs.length c → Nx fs.length (dI row fs f t p deep c).1
  | .mk op a n m s kids, f, p, deep, c, hl, h => by
    simp only [dI]
    split
    · rename_i hsh
      have hn := (oL hsh).2.2.2
      have hs := qT f op n m p c hl hn
      have hx := UL f op n m p c hl hn h
      split
      · exact TF kids f op n m _ deep 0 _ (hs.1.trans hl) hx
      · exact hx
    · exact h
theorem TF : ∀ (ts : List T) (f op n m : Int) (p : PlP) (deep : Int) (i : Nat) (c : CkS), c.met.length = fs.length → Nx fs.length c → Nx fs.length (gP row fs f op n m p deep ts i c).1
  | [], _, _, _, _, _, _, _, _, _, h => by
    simp only [gP]
    exact h
  | t :: ts, f, op, n, m, p, deep, i, c, hl, h => by
    simp only [gP]
    have h1 := oY (row := row) t f (dN op n m p i) (deep + 1) c hl
    have h2 := FT t f (dN op n m p i) (deep + 1) c hl h
    split
    · exact TF ts f op n m p deep (i + 1) _ (h1.1.trans hl) h2
    · exact h2
end
def qH (f : Nat) (c : CkS) : CkS := { c with met := c.met.set f true, next := [(f : Int)] }
theorem aA6 {n f : Nat} {c : CkS} (h : Nx n c) (hf : f < n) : Nx n (qH f c) := by
  refine ⟨fun x hx => ?_, fun k hk => ?_⟩
  · cases List.mem_singleton.1 hx
    omega
  · have h1 : c.met.getD k false = false := by
      cases he : c.met.getD k false with
      | false => rfl
      | true =>
        have : (c.met.set f true).getD k false = true := yY.2 (.inr he)
        unfold qH at hk
        dsimp only at hk
        rw [this] at hk
        cases hk
    exact h.2 k h1
theorem MH {f : Nat} {c : CkS} (hf : f < c.met.length) (hm : c.met.getD f false = false) : qF (qH f c) ≤ c.met.length := by
  have h1 := count_set hf (by rw [hm]; simp)
  have h2 : c.met.count false ≤ c.met.length := List.count_le_length
  unfold qF vZ qH
  simp only [List.length_cons, List.length_nil]
  omega
theorem aA7 {n f : Nat} {c : CkS} (hc : AM c n) (hf : f < n) (hm : c.met.getD f false = false) : AM (qH f c) n ∧ cnt c.met ≤ cnt (qH f c).met := by
  have h1 := UA (l := c.met) (k := f) (by rw [hc.1]; exact hf) (by rw [hm]; simp)
  unfold qH
  refine ⟨⟨by rw [List.length_set]; exact hc.1, fun l hl => ?_⟩, by dsimp only; omega⟩
  have := hc.2 l hl
  dsimp only
  exact ⟨by omega, this.2⟩
theorem CJ (bodies : List T) (g : Nat) (c : CkS) (h : c.next = []) : gT row fs bodies g c = (c, true) := by
  cases g with
  | zero => unfold gT; rw [h]; rfl
  | succ g => unfold gT; rw [h]
theorem xM (bodies : List T) (g : Nat) (c : CkS) {x : Int} {r : List Int} (h : c.next = x :: r) : gT row fs bodies (g + 1) c = (if isS (bodies.getD x.toNat (.mk 0 0 0 0 ⟨#[]⟩ [])).op = true then (if (dI row fs x (bodies.getD x.toNat (.mk 0 0 0 0 ⟨#[]⟩ [])) ⟨c.slots.getD x.toNat [], [], [], false⟩ 1 { c with next := r }).2 = true then gT row fs bodies g (dI row fs x (bodies.getD x.toNat (.mk 0 0 0 0 ⟨#[]⟩ [])) ⟨c.slots.getD x.toNat [], [], [], false⟩ 1 { c with next := r }).1 else ((dI row fs x (bodies.getD x.toNat (.mk 0 0 0 0 ⟨#[]⟩ [])) ⟨c.slots.getD x.toNat [], [], [], false⟩ 1 { c with next := r }).1, false)) else ({ c with next := r }, false)) := by
  conv => lhs; unfold gT
  rw [h]
end
end Go.Proofs.YtoclmkdfcafhfaaGreatDoor.Iq
namespace Go.Vcg
open Go.RowKit
section
variable {P : Program} {X : Ctx} {ops : Array Oper} {Q : Exit → Act → World → Prop} {μ μr : Mem} {l : aF} {L Lr : List Bk} {fuel i : Nat} {listed : Array Bool}
theorem bN {id : Nat} (n : Nat) (Lr : List Bk) (hm : P.follows .mixedOrders = true) (hn : ops.size = n) (hL : Sel Lr L) (h : GA P X μ Lr ops Q n (Array.replicate n false) μ l L) : GC P X (.region id ops true) Q μ l L :=
  fun a _ hs => wp_region_held hm (by subst hn; exact h a _ hs.draw ⟨hs.draw.mem, fun x hx => let ⟨y, hy, hle⟩ := pO hL x hx; hle.at (hs.draw.own y hy)⟩)
theorem WS (hle : MLe μr μ) (hLr : Sel Lr L) (h : GA P X μr Lr ops Q fuel listed μ l L) : G P X ops (QA Q (fun a w => Sm μr Lr w ∧ wpAnyH P .any ops Q (Sm μr Lr) fuel listed a w)) [] μ l L := fun a w hs =>
  have hS : Sm μr Lr w := ⟨fun b x e => hs.mem b x (hle b x e), fun x hx => let ⟨y, hy, hle⟩ := pO hLr x hx; hle.at (hs.own y hy)⟩
  ⟨hS, h a w hs hS⟩
theorem aAl {b t : Nat} {cs : aF} {v : Value} {rest : List Oper} (hc : lk cs 0 = some v) (h : G P X ops Q rest μ l (.inr ⟨.slice (some ⟨b, 0, none⟩) 1 1, t, 1, 1, [v]⟩ :: L)) : G P X ops Q rest μ l (.inl ⟨b, t, 1, cs⟩ :: L) := fun a w hs =>
  h a w (St.aA4 (n := 1) (s := 1) hs (sJ hc tQ) (by decide))
theorem UR1 {M B : Prop} (hm : M) (f : M → B := by intro h; (with_reducible apply qR 1); (iterate 3 exact rfl); exact h) : B := f hm
theorem UR2 {M B : Prop} (hm : M) (f : M → B := by intro h; (with_reducible apply qR 2); (iterate 3 exact rfl); exact h) : B := f hm
theorem UR3 {M B : Prop} (hm : M) (f : M → B := by intro h; (with_reducible apply qR 3); (iterate 3 exact rfl); exact h) : B := f hm
theorem JO {x y : Bk} : ∀ {L : List Bk} {i : Nat}, cO L i = some x → cO (dY L i y) i = some y
  | [], _, h => by simp [cO] at h
  | z :: r, 0, h => rfl
  | z :: r, i + 1, h => JO (i := i) (by simpa [cO] using h)
section
variable {rest : List Oper} {o : Oper} {d : Nat} {ty : TypeId} {pos : String} {af : Array Edge} {gd : Option (Nat × Bool)}
theorem AX {p q : Operand} {t e : TypeId} {s bytes m n : Nat} {z v : Value} {news xs : List Value} {F : Rw → List Bk}
    (hn : Nat.blt d X.n = true := by exact rfl) (hw : dH ops l ⟨some d, .call { callee := .builtin .append, args := #[p, q], argTypes := #[t, t] }, ty, pos, af, gd⟩ = some true := by exact rfl)
    (hp : ev l p = some v := by exact rfl) (hr : zS L ⟨v, e, s, n, xs⟩ F := by (repeat first | with_reducible exact cF | with_reducible apply cQ)) (ht : P.underlying t = some (.slice e) := by exact rfl) (hs : bA P e = some s := by exact rfl) (hz : cH P e = some z := by exact rfl) (hzs : z.cells.toList.length = s := by exact rfl) (hby : dF P e = some bytes := by exact rfl) (hpos : Nat.blt 0 s = true := by exact rfl)
    (S : Src μ l L q m news) (A : news.length = m * s) (O : ∀ u ∈ news, u.oneCell' = true) (B : (n + m) * bytes ≤ 140737488355328 := by omega) (C : n + m ≤ 140737488355328 := by omega)
    (k : ∀ v, G P X ops Q rest μ ((d, v) :: l) (F ⟨v, e, s, n + m, xs ++ news⟩)) :
    G P X ops Q (⟨some d, .call { callee := .builtin .append, args := #[p, q], argTypes := #[t, t] }, ty, pos, af, gd⟩ :: rest) μ l L := lI hn hw hp hr ht hs hz hzs hby hpos S A O B C k
theorem AI {p q : Operand} {t e : TypeId} {bytes n : Nat} {z v u : Value} {xs : List Value} {F : Rw → List Bk}
    (hn : Nat.blt d X.n = true := by exact rfl) (hw : dH ops l ⟨some d, .call { callee := .builtin .append, args := #[p, q], argTypes := #[t, t] }, ty, pos, af, gd⟩ = some true := by exact rfl)
    (hp : ev l p = some v := by exact rfl) (hr : zS L ⟨v, e, 1, n, xs⟩ F := by (repeat first | with_reducible exact cF | with_reducible apply cQ)) (ht : P.underlying t = some (.slice e) := by exact rfl) (hs : bA P e = some 1 := by exact rfl) (hz : cH P e = some z := by exact rfl) (hzs : z.cells.toList.length = 1 := by exact rfl) (hby : dF P e = some bytes := by exact rfl)
    (S : Src μ l L q 1 [u] := by (with_reducible apply eZ); exact rfl; (repeat first | with_reducible exact bG | with_reducible apply dJ); exact rfl) (O : u.oneCell' = true := by exact rfl) (B : (n + 1) * bytes ≤ 140737488355328 := by omega) (C : n + 1 ≤ 140737488355328 := by omega)
    (k : ∀ g cap, n + 1 ≤ cap → G P X ops Q rest μ ((d, .slice (some ⟨g, 0, none⟩) (n + 1) cap) :: l) (F ⟨.slice (some ⟨g, 0, none⟩) (n + 1) cap, e, 1, n + 1, xs ++ [u]⟩)) :
    G P X ops Q (⟨some d, .call { callee := .builtin .append, args := #[p, q], argTypes := #[t, t] }, ty, pos, af, gd⟩ :: rest) μ l L :=
  lI hn hw hp hr ht hs hz hzs hby rfl S rfl (fun x hx => by rw [List.mem_singleton.1 hx]; exact O) B C fun v' => by
    obtain ⟨i, h1, h2⟩ := hr
    rw [h2]
    refine tV i (JO h1) (by omega) fun g cap hv hc => ?_
    subst hv
    have := k g cap hc
    rwa [h2] at this
end
theorem D9S (h : GA P X μr Lr ops Q fuel listed μ l L)
    (hle : MLe μr μ := by first | exact MLe.refl _ | assumption | fail)
    (hLr : Sel Lr L := by first | exact PS | fail) :
    G P X ops (QA Q (fun a w => Sm μr Lr w ∧ wpAnyH P .any ops Q (Sm μr Lr) fuel listed a w)) [] μ l L := WS (hle := hle) (hLr := hLr) (h := h)
end
end Go.Vcg
namespace Go.Proofs.YtoclmkdfcafhfaaGreatDoor
open Go.Rex
theorem NM : runs 26 (fun x => qS (x.1 ++ 32 :: x.2)) xA := by
  unfold xA
  repeat (first | exact trivial | refine ⟨by kernel_rfl, ?_⟩)
theorem NL : runs 26 (fun x => qS (x.1 ++ 32 :: x.2)) wZ := by
  unfold wZ
  repeat (first | exact trivial | refine ⟨by kernel_rfl, ?_⟩)
theorem NK : runs 26 (fun x => qS (x.1 ++ 32 :: x.2)) wY := by
  unfold wY
  repeat (first | exact trivial | refine ⟨by kernel_rfl, ?_⟩)
end Go.Proofs.YtoclmkdfcafhfaaGreatDoor
