/- Package scope: the reference's Same. -/
import Derived.Test.YtccbkihnedpjcaaDoorQak
set_option maxRecDepth 20000
set_option maxHeartbeats 2000000
namespace Go.Proofs.YtccbkihnedpjcaaDoor
section
open Go.RowKit Go.Vcg
noncomputable def dP (p : Prop) : Bool := @decide p (Classical.propDecidable p)
theorem dP_t {p : Prop} (h : p) : dP p = true := @decide_eq_true p (Classical.propDecidable p) h
theorem dP_f {p : Prop} (h : ¬p) : dP p = false := @decide_eq_false p (Classical.propDecidable p) h
theorem take_eq {α : Type} {a b : List α} {k : Nat} (h : a.take k = b.take k) {x y : α} (hx : a[k]? = some x) (hy : b[k]? = some y) (e : x = y) : a.take (k + 1) = b.take (k + 1) := by
  rw [List.take_add_one, List.take_add_one, h, hx, hy, e]
theorem get_eq {α : Type} {a b : List α} (h : a = b) {k : Nat} {x y : α} (hx : a[k]? = some x) (hy : b[k]? = some y) : x = y := by
  subst h; rw [hx] at hy; exact Option.some.inj hy
theorem eqVs_bd (a b : Bd) : eqVs (encBd a) (encBd b) = dP (a = b) := by
  obtain ⟨n1, k1, h1, s1⟩ := a
  obtain ⟨n2, k2, h2, s2⟩ := b
  by_cases h : n1 = n2 ∧ k1 = k2 ∧ h1 = h2 ∧ s1 = s2
  · obtain ⟨rfl, rfl, rfl, rfl⟩ := h
    rw [dP_t rfl]
    simp [eqVs, eqV]
  · rw [dP_f (fun e => h (by cases e; exact ⟨rfl, rfl, rfl, rfl⟩))]
    simp [eqVs, eqV]
    intro e1 e2 e3 e4
    exact h ⟨e1, e2, e3, e4⟩
attribute [local irreducible] dP heldN locN placeF findF numBd numS oneS G GC GQ GA GAop Calls IntKind.wrap Int.decLt Int.decLe
theorem rsame_spec (w : World) (μ : Mem) (hμ : MOk μ w) (ps qs : List (Sc × Value)) (A B : Option Addr) (c c2 : Nat) (hps : ScR μ A ps) (hqs : ScR μ B qs) : Calls Tryd.prog 21 #[.slice A ps.length c, .slice B qs.length c2] w fun e w' => e = .returned (.bool (dP (scs ps = scs qs))) ∧ Below w.heap.size w w' := by
  obtain ⟨hS, hl, hall⟩ := hps
  obtain ⟨hS2, hl2, hall2⟩ := hqs
  generalize hR : dP (scs ps = scs qs) = R
  have no : ∀ {i : Nat} {x y : Sc × Value}, ps[i]? = some x → qs[i]? = some y → ¬ x.1 = y.1 → false = R := fun hx hy h => by
    rw [← hR]; symm; exact dP_f (fun e => h (get_eq e (scs_get hx) (scs_get hy)))
  refine call_intro (args := [.slice A ps.length c, .slice B qs.length c2]) Tryd.func21 rfl Tryd.ntmps21 (by simp) hμ ?_
  by_cases hlen : ps.length = qs.length
  rotate_left
  · have hF : false = R := by rw [← hR]; symm; exact dP_f (fun e => hlen (by have := congrArg List.length e; simpa using this))
    have hlen2 : ¬ (ps.length : Int) = (qs.length : Int) := by omega
    repeat' (first | refine KK ?_ | (refine KB ?_ ?_ <;> intro hp) | refine KG ?_ | fail)
    all_goals first | (exfalso; first | omega | contradiction) | exact ret_s rfl rfl (congrArg _ hF)
  have hlen2 : (ps.length : Int) = (qs.length : Int) := by omega
  repeat' (first | refine KK ?_ | (refine KB ?_ ?_ <;> intro hp) | refine KG ?_ | fail)
  all_goals try (exfalso; first | omega | contradiction)
  refine gc_loop (ι := Nat) (fun i => i ≤ ps.length ∧ (scs ps).take i = (scs qs).take i) (fun i => ps.length - i) (fun _ => μ) (fun i => [(5, .int .i64 (i : Int)), (0, .slice A ps.length c), (1, .slice B qs.length c2)]) (fun _ => []) 0 ⟨Nat.zero_le _, rfl⟩ (fun a w hs => J5 hs) ?_
  rintro i ⟨hi, hti⟩
  by_cases hlt : i < ps.length
  · obtain ⟨ad, x, rfl, hx, hm⟩ := hS.get hlt
    obtain ⟨ad2, y, rfl, hy, hm2⟩ := hS2.get (show i < qs.length by omega)
    have nox := no hx hy
    obtain ⟨x, xv⟩ := x
    obtain ⟨y, yv⟩ := y
    obtain ⟨A3, c3, hxv, hB, hbl⟩ := hall _ (List.mem_of_getElem? hx)
    obtain ⟨A4, c4, hyv, hB2, hbl2⟩ := hall2 _ (List.mem_of_getElem? hy)
    dsimp only at hxv hyv hB hB2 hbl hbl2 hm hm2 nox
    subst hxv
    subst hyv
    have hmx : MCells μ (ad.add (i * 5)) [.int .i64 x.up, .int .i64 x.fn, .int .i64 x.kind, .int .i64 x.at', .slice A3 x.names.length c3] := hm
    have hmy : MCells μ (ad2.add (i * 5)) [.int .i64 y.up, .int .i64 y.fn, .int .i64 y.kind, .int .i64 y.at', .slice A4 y.names.length c4] := hm2
    repeat' (first | refine KK ?_ | (refine KB ?_ ?_ <;> intro hp) | refine KG ?_ | fail)
    all_goals try (exfalso; first | omega | contradiction)
    refine gc_draw 65 ([]) (by kernel_rfl) rfl (by first | exact List.Sublist.refl _ | simp) ?_
    all_goals refine DD 0 ?_
    all_goals refine DD 1 ?_
    all_goals (first | refine D1 2 ?_ | (refine DV (k := 2) (b := by first | exact U1 i | exact U4 hmx | exact U4 hmy) (c := ?_)) | refine DD 2 ?_ | fail)
    all_goals (first | refine D1 3 ?_ | (refine DV (k := 3) (b := by first | exact U1 i | exact U4 hmx | exact U4 hmy) (c := ?_)) | refine DD 3 ?_ | fail)
    all_goals (first | refine D1 4 ?_ | (refine DV (k := 4) (b := by first | exact U1 i | exact U4 hmx | exact U4 hmy) (c := ?_)) | (refine D3 4 (DW (b := by first | exact U1 i | exact U4 hmx | exact U4 hmy) (c := ?_))) | refine DD 4 ?_ | fail)
    all_goals refine DD 5 ?_
    all_goals refine DD 6 ?_
    all_goals (first | refine D1 7 ?_ | (refine DV (k := 7) (b := by first | exact U1 i | exact U4 hmx | exact U4 hmy) (c := ?_)) | refine DD 7 ?_ | fail)
    all_goals (first | refine D1 8 ?_ | (refine DV (k := 8) (b := by first | exact U1 i | exact U4 hmx | exact U4 hmy) (c := ?_)) | refine DD 8 ?_ | fail)
    all_goals (first | refine D1 9 ?_ | (refine DV (k := 9) (b := by first | exact U1 i | exact U4 hmx | exact U4 hmy) (c := ?_)) | (refine D3 9 (DW (b := by first | exact U1 i | exact U4 hmx | exact U4 hmy) (c := ?_))) | refine DD 9 ?_ | fail)
    all_goals (first | refine D1 10 ?_ | (refine DV (k := 10) (b := by first | exact U1 i | exact U4 hmx | exact U4 hmy) (c := ?_)) | refine DD 10 ?_ | fail)
    all_goals refine DD 11 ?_
    all_goals (try (refine D7 12 ?_; (repeat' (first | refine KO ?_ | (refine KB ?_ ?_ <;> intro hp)))))
    all_goals refine DD 12 ?_
    all_goals refine DD 13 ?_
    all_goals (first | refine D1 14 ?_ | (refine DV (k := 14) (b := by first | exact U1 i | exact U4 hmx | exact U4 hmy) (c := ?_)) | refine DD 14 ?_ | fail)
    all_goals (first | refine D1 15 ?_ | (refine DV (k := 15) (b := by first | exact U1 i | exact U4 hmx | exact U4 hmy) (c := ?_)) | refine DD 15 ?_ | fail)
    all_goals (first | refine D1 16 ?_ | (refine DV (k := 16) (b := by first | exact U1 i | exact U4 hmx | exact U4 hmy) (c := ?_)) | (refine D3 16 (DW (b := by first | exact U1 i | exact U4 hmx | exact U4 hmy) (c := ?_))) | refine DD 16 ?_ | fail)
    all_goals refine DD 17 ?_
    all_goals refine DD 18 ?_
    all_goals (first | refine D1 19 ?_ | (refine DV (k := 19) (b := by first | exact U1 i | exact U4 hmx | exact U4 hmy) (c := ?_)) | refine DD 19 ?_ | fail)
    all_goals (first | refine D1 20 ?_ | (refine DV (k := 20) (b := by first | exact U1 i | exact U4 hmx | exact U4 hmy) (c := ?_)) | refine DD 20 ?_ | fail)
    all_goals (first | refine D1 21 ?_ | (refine DV (k := 21) (b := by first | exact U1 i | exact U4 hmx | exact U4 hmy) (c := ?_)) | (refine D3 21 (DW (b := by first | exact U1 i | exact U4 hmx | exact U4 hmy) (c := ?_))) | refine DD 21 ?_ | fail)
    all_goals (first | refine D1 22 ?_ | (refine DV (k := 22) (b := by first | exact U1 i | exact U4 hmx | exact U4 hmy) (c := ?_)) | refine DD 22 ?_ | fail)
    all_goals refine DD 23 ?_
    all_goals refine DD 24 ?_
    all_goals (try (refine D7 25 ?_; (repeat' (first | refine KO ?_ | (refine KB ?_ ?_ <;> intro hp)))))
    all_goals refine DD 25 ?_
    all_goals refine DD 26 ?_
    all_goals (first | refine D1 27 ?_ | (refine DV (k := 27) (b := by first | exact U1 i | exact U4 hmx | exact U4 hmy) (c := ?_)) | refine DD 27 ?_ | fail)
    all_goals (first | refine D1 28 ?_ | (refine DV (k := 28) (b := by first | exact U1 i | exact U4 hmx | exact U4 hmy) (c := ?_)) | refine DD 28 ?_ | fail)
    all_goals (first | refine D1 29 ?_ | (refine DV (k := 29) (b := by first | exact U1 i | exact U4 hmx | exact U4 hmy) (c := ?_)) | (refine D3 29 (DW (b := by first | exact U1 i | exact U4 hmx | exact U4 hmy) (c := ?_))) | refine DD 29 ?_ | fail)
    all_goals refine DD 30 ?_
    all_goals refine DD 31 ?_
    all_goals (first | refine D1 32 ?_ | (refine DV (k := 32) (b := by first | exact U1 i | exact U4 hmx | exact U4 hmy) (c := ?_)) | refine DD 32 ?_ | fail)
    all_goals (first | refine D1 33 ?_ | (refine DV (k := 33) (b := by first | exact U1 i | exact U4 hmx | exact U4 hmy) (c := ?_)) | refine DD 33 ?_ | fail)
    all_goals (first | refine D1 34 ?_ | (refine DV (k := 34) (b := by first | exact U1 i | exact U4 hmx | exact U4 hmy) (c := ?_)) | (refine D3 34 (DW (b := by first | exact U1 i | exact U4 hmx | exact U4 hmy) (c := ?_))) | refine DD 34 ?_ | fail)
    all_goals (first | refine D1 35 ?_ | (refine DV (k := 35) (b := by first | exact U1 i | exact U4 hmx | exact U4 hmy) (c := ?_)) | refine DD 35 ?_ | fail)
    all_goals refine DD 36 ?_
    all_goals refine DD 37 ?_
    all_goals (try (refine D7 38 ?_; (repeat' (first | refine KO ?_ | (refine KB ?_ ?_ <;> intro hp)))))
    all_goals refine DD 38 ?_
    all_goals refine DD 39 ?_
    all_goals (first | refine D1 40 ?_ | (refine DV (k := 40) (b := by first | exact U1 i | exact U4 hmx | exact U4 hmy) (c := ?_)) | refine DD 40 ?_ | fail)
    all_goals (first | refine D1 41 ?_ | (refine DV (k := 41) (b := by first | exact U1 i | exact U4 hmx | exact U4 hmy) (c := ?_)) | refine DD 41 ?_ | fail)
    all_goals (first | refine D1 42 ?_ | (refine DV (k := 42) (b := by first | exact U1 i | exact U4 hmx | exact U4 hmy) (c := ?_)) | (refine D3 42 (DW (b := by first | exact U1 i | exact U4 hmx | exact U4 hmy) (c := ?_))) | refine DD 42 ?_ | fail)
    all_goals refine DD 43 ?_
    all_goals refine DD 44 ?_
    all_goals (first | refine D1 45 ?_ | (refine DV (k := 45) (b := by first | exact U1 i | exact U4 hmx | exact U4 hmy) (c := ?_)) | refine DD 45 ?_ | fail)
    all_goals (first | refine D1 46 ?_ | (refine DV (k := 46) (b := by first | exact U1 i | exact U4 hmx | exact U4 hmy) (c := ?_)) | refine DD 46 ?_ | fail)
    all_goals (first | refine D1 47 ?_ | (refine DV (k := 47) (b := by first | exact U1 i | exact U4 hmx | exact U4 hmy) (c := ?_)) | (refine D3 47 (DW (b := by first | exact U1 i | exact U4 hmx | exact U4 hmy) (c := ?_))) | refine DD 47 ?_ | fail)
    all_goals (first | refine D1 48 ?_ | (refine DV (k := 48) (b := by first | exact U1 i | exact U4 hmx | exact U4 hmy) (c := ?_)) | refine DD 48 ?_ | fail)
    all_goals refine DD 49 ?_
    all_goals refine DD 50 ?_
    all_goals (try (refine D7 51 ?_; (repeat' (first | refine KO ?_ | (refine KB ?_ ?_ <;> intro hp)))))
    all_goals refine DD 51 ?_
    all_goals refine DD 52 ?_
    all_goals (first | refine D1 53 ?_ | (refine DV (k := 53) (b := by first | exact U1 i | exact U4 hmx | exact U4 hmy) (c := ?_)) | refine DD 53 ?_ | fail)
    all_goals (first | refine D1 54 ?_ | (refine DV (k := 54) (b := by first | exact U1 i | exact U4 hmx | exact U4 hmy) (c := ?_)) | refine DD 54 ?_ | fail)
    all_goals (first | refine D1 55 ?_ | (refine DV (k := 55) (b := by first | exact U1 i | exact U4 hmx | exact U4 hmy) (c := ?_)) | (refine D3 55 (DW (b := by first | exact U1 i | exact U4 hmx | exact U4 hmy) (c := ?_))) | refine DD 55 ?_ | fail)
    all_goals (first | refine D1 56 ?_ | (refine DV (k := 56) (b := by first | exact U1 i | exact U4 hmx | exact U4 hmy) (c := ?_)) | refine DD 56 ?_ | fail)
    all_goals refine DD 57 ?_
    all_goals refine DD 58 ?_
    all_goals (first | refine D1 59 ?_ | (refine DV (k := 59) (b := by first | exact U1 i | exact U4 hmx | exact U4 hmy) (c := ?_)) | refine DD 59 ?_ | fail)
    all_goals (first | refine D1 60 ?_ | (refine DV (k := 60) (b := by first | exact U1 i | exact U4 hmx | exact U4 hmy) (c := ?_)) | refine DD 60 ?_ | fail)
    all_goals (first | refine D1 61 ?_ | (refine DV (k := 61) (b := by first | exact U1 i | exact U4 hmx | exact U4 hmy) (c := ?_)) | (refine D3 61 (DW (b := by first | exact U1 i | exact U4 hmx | exact U4 hmy) (c := ?_))) | refine DD 61 ?_ | fail)
    all_goals (first | refine D1 62 ?_ | (refine DV (k := 62) (b := by first | exact U1 i | exact U4 hmx | exact U4 hmy) (c := ?_)) | refine DD 62 ?_ | fail)
    all_goals (first | refine D1 63 ?_ | (refine DV (k := 63) (b := by first | exact U1 i | exact U4 hmx | exact U4 hmy) (c := ?_)) | refine DD 63 ?_ | fail)
    all_goals refine DD 64 ?_
    all_goals refine D8 ?_
    all_goals repeat' (first | refine KK ?_ | (refine KB ?_ ?_ <;> intro hp) | refine KG ?_ | fail)
    all_goals try (exfalso; first | omega | contradiction)
    all_goals first
      | exact ret_s rfl rfl (congrArg _ (nox fun e => absurd (congrArg Sc.up e) (by assumption)))
      | exact ret_s rfl rfl (congrArg _ (nox fun e => absurd (congrArg Sc.fn e) (by assumption)))
      | exact ret_s rfl rfl (congrArg _ (nox fun e => absurd (congrArg Sc.kind e) (by assumption)))
      | exact ret_s rfl rfl (congrArg _ (nox fun e => absurd (congrArg Sc.at' e) (by assumption)))
      | exact ret_s rfl rfl (congrArg _ (nox fun e => absurd (congrArg (fun s : Sc => s.names.length) e) (by omega)))
      | skip
    have hu : x.up = y.up := by omega
    have hfn : x.fn = y.fn := by omega
    have hkd : x.kind = y.kind := by omega
    have hat : x.at' = y.at' := by omega
    have hnl : x.names.length = y.names.length := by omega
    refine gc_loop (ι := Nat) (fun j => j ≤ x.names.length ∧ x.names.take j = y.names.take j) (fun j => x.names.length - j) (fun _ => μ) (fun j => [(6, .int .i64 (j : Int)), (5, .int .i64 (i : Int)), (0, .slice (some ad) ps.length c), (1, .slice (some ad2) qs.length c2)]) (fun _ => []) 0 ⟨Nat.zero_le _, rfl⟩ (fun a w hs => J5 hs) ?_
    rintro j ⟨hj, htj⟩
    by_cases hjl : j < x.names.length
    · obtain ⟨ad3, u, rfl, hu1, hmu⟩ := hB.get hjl
      obtain ⟨ad4, v, rfl, hv1, hmv⟩ := hB2.get (show j < y.names.length by omega)
      have hq := eqVs_bd u v
      have hmu2 : MCells μ (ad3.add (j * 4)) [.string u.name, .int .i64 u.kind, .bool u.held, .int .i64 u.slot] := hmu
      have hmv2 : MCells μ (ad4.add (j * 4)) [.string v.name, .int .i64 v.kind, .bool v.held, .int .i64 v.slot] := hmv
      by_cases huv : u = v
      · rw [dP_t huv] at hq
        repeat' (first | refine KO ?_ | (refine KV (b := by first | exact U1 i | exact U4 hmx) (c := ?_)) | refine KI ?_ | (refine KB ?_ ?_ <;> intro hp) | refine KG ?_ | fail)
        all_goals try (exfalso; first | omega | contradiction)
        refine gc_draw 17 ([]) (by kernel_rfl) rfl (by first | exact List.Sublist.refl _ | simp) ?_
        all_goals refine DD 0 ?_
        all_goals refine DD 1 ?_
        all_goals (first | refine D1 2 ?_ | (refine DV (k := 2) (b := by first | exact U1 i | exact U1 j | exact U4 hmx | exact U4 hmy | exact U4 hmu2 | exact U4 hmv2) (c := ?_)) | refine DD 2 ?_ | fail)
        all_goals (first | refine D1 3 ?_ | (refine DV (k := 3) (b := by first | exact U1 i | exact U1 j | exact U4 hmx | exact U4 hmy | exact U4 hmu2 | exact U4 hmv2) (c := ?_)) | refine DD 3 ?_ | fail)
        all_goals (first | refine D1 4 ?_ | (refine DV (k := 4) (b := by first | exact U1 i | exact U1 j | exact U4 hmx | exact U4 hmy | exact U4 hmu2 | exact U4 hmv2) (c := ?_)) | (refine D3 4 (DW (b := by first | exact U1 i | exact U1 j | exact U4 hmx | exact U4 hmy | exact U4 hmu2 | exact U4 hmv2) (c := ?_))) | refine DD 4 ?_ | fail)
        all_goals refine DD 5 ?_
        all_goals (first | refine D1 6 ?_ | (refine DV (k := 6) (b := by first | exact U1 i | exact U1 j | exact U4 hmx | exact U4 hmy | exact U4 hmu2 | exact U4 hmv2) (c := ?_)) | refine DD 6 ?_ | fail)
        all_goals (first | refine D1 7 ?_ | (refine DV (k := 7) (b := by first | exact U1 i | exact U1 j | exact U4 hmx | exact U4 hmy | exact U4 hmu2 | exact U4 hmv2) (c := ?_)) | (refine D3 7 (DW (b := by first | exact U1 i | exact U1 j | exact U4 hmx | exact U4 hmy | exact U4 hmu2 | exact U4 hmv2) (c := ?_))) | refine DD 7 ?_ | fail)
        all_goals refine DD 8 ?_
        all_goals refine DD 9 ?_
        all_goals (first | refine D1 10 ?_ | (refine DV (k := 10) (b := by first | exact U1 i | exact U1 j | exact U4 hmx | exact U4 hmy | exact U4 hmu2 | exact U4 hmv2) (c := ?_)) | refine DD 10 ?_ | fail)
        all_goals (first | refine D1 11 ?_ | (refine DV (k := 11) (b := by first | exact U1 i | exact U1 j | exact U4 hmx | exact U4 hmy | exact U4 hmu2 | exact U4 hmv2) (c := ?_)) | refine DD 11 ?_ | fail)
        all_goals (first | refine D1 12 ?_ | (refine DV (k := 12) (b := by first | exact U1 i | exact U1 j | exact U4 hmx | exact U4 hmy | exact U4 hmu2 | exact U4 hmv2) (c := ?_)) | (refine D3 12 (DW (b := by first | exact U1 i | exact U1 j | exact U4 hmx | exact U4 hmy | exact U4 hmu2 | exact U4 hmv2) (c := ?_))) | refine DD 12 ?_ | fail)
        all_goals refine DD 13 ?_
        all_goals (first | refine D1 14 ?_ | (refine DV (k := 14) (b := by first | exact U1 i | exact U1 j | exact U4 hmx | exact U4 hmy | exact U4 hmu2 | exact U4 hmv2) (c := ?_)) | refine DD 14 ?_ | fail)
        all_goals (first | refine D1 15 ?_ | (refine DV (k := 15) (b := by first | exact U1 i | exact U1 j | exact U4 hmx | exact U4 hmy | exact U4 hmu2 | exact U4 hmv2) (c := ?_)) | (refine D3 15 (DW (b := by first | exact U1 i | exact U1 j | exact U4 hmx | exact U4 hmy | exact U4 hmu2 | exact U4 hmv2) (c := ?_))) | refine DD 15 ?_ | fail)
        all_goals (first | refine D1 16 ?_ | (refine DV (k := 16) (b := by first | exact U1 i | exact U1 j | exact U4 hmx | exact U4 hmy | exact U4 hmu2 | exact U4 hmv2) (c := ?_)) | refine DD 16 ?_ | fail)
        all_goals refine D8 ?_
        all_goals rw [hq]
        all_goals repeat' (first | refine KK ?_ | (refine KB ?_ ?_ <;> intro hp) | refine KG ?_ | fail)
        all_goals try (exfalso; first | omega | contradiction)
        all_goals exact J2 (j + 1) ⟨by omega, take_eq htj hu1 hv1 huv⟩ (by omega)
      · rw [dP_f huv] at hq
        have hF := nox (fun e => huv (get_eq (congrArg Sc.names e) hu1 hv1))
        repeat' (first | refine KO ?_ | (refine KV (b := by first | exact U1 i | exact U4 hmx) (c := ?_)) | refine KI ?_ | (refine KB ?_ ?_ <;> intro hp) | refine KG ?_ | fail)
        all_goals try (exfalso; first | omega | contradiction)
        refine gc_draw 17 ([]) (by kernel_rfl) rfl (by first | exact List.Sublist.refl _ | simp) ?_
        all_goals refine DD 0 ?_
        all_goals refine DD 1 ?_
        all_goals (first | refine D1 2 ?_ | (refine DV (k := 2) (b := by first | exact U1 i | exact U1 j | exact U4 hmx | exact U4 hmy | exact U4 hmu2 | exact U4 hmv2) (c := ?_)) | refine DD 2 ?_ | fail)
        all_goals (first | refine D1 3 ?_ | (refine DV (k := 3) (b := by first | exact U1 i | exact U1 j | exact U4 hmx | exact U4 hmy | exact U4 hmu2 | exact U4 hmv2) (c := ?_)) | refine DD 3 ?_ | fail)
        all_goals (first | refine D1 4 ?_ | (refine DV (k := 4) (b := by first | exact U1 i | exact U1 j | exact U4 hmx | exact U4 hmy | exact U4 hmu2 | exact U4 hmv2) (c := ?_)) | (refine D3 4 (DW (b := by first | exact U1 i | exact U1 j | exact U4 hmx | exact U4 hmy | exact U4 hmu2 | exact U4 hmv2) (c := ?_))) | refine DD 4 ?_ | fail)
        all_goals refine DD 5 ?_
        all_goals (first | refine D1 6 ?_ | (refine DV (k := 6) (b := by first | exact U1 i | exact U1 j | exact U4 hmx | exact U4 hmy | exact U4 hmu2 | exact U4 hmv2) (c := ?_)) | refine DD 6 ?_ | fail)
        all_goals (first | refine D1 7 ?_ | (refine DV (k := 7) (b := by first | exact U1 i | exact U1 j | exact U4 hmx | exact U4 hmy | exact U4 hmu2 | exact U4 hmv2) (c := ?_)) | (refine D3 7 (DW (b := by first | exact U1 i | exact U1 j | exact U4 hmx | exact U4 hmy | exact U4 hmu2 | exact U4 hmv2) (c := ?_))) | refine DD 7 ?_ | fail)
        all_goals refine DD 8 ?_
        all_goals refine DD 9 ?_
        all_goals (first | refine D1 10 ?_ | (refine DV (k := 10) (b := by first | exact U1 i | exact U1 j | exact U4 hmx | exact U4 hmy | exact U4 hmu2 | exact U4 hmv2) (c := ?_)) | refine DD 10 ?_ | fail)
        all_goals (first | refine D1 11 ?_ | (refine DV (k := 11) (b := by first | exact U1 i | exact U1 j | exact U4 hmx | exact U4 hmy | exact U4 hmu2 | exact U4 hmv2) (c := ?_)) | refine DD 11 ?_ | fail)
        all_goals (first | refine D1 12 ?_ | (refine DV (k := 12) (b := by first | exact U1 i | exact U1 j | exact U4 hmx | exact U4 hmy | exact U4 hmu2 | exact U4 hmv2) (c := ?_)) | (refine D3 12 (DW (b := by first | exact U1 i | exact U1 j | exact U4 hmx | exact U4 hmy | exact U4 hmu2 | exact U4 hmv2) (c := ?_))) | refine DD 12 ?_ | fail)
        all_goals refine DD 13 ?_
        all_goals (first | refine D1 14 ?_ | (refine DV (k := 14) (b := by first | exact U1 i | exact U1 j | exact U4 hmx | exact U4 hmy | exact U4 hmu2 | exact U4 hmv2) (c := ?_)) | refine DD 14 ?_ | fail)
        all_goals (first | refine D1 15 ?_ | (refine DV (k := 15) (b := by first | exact U1 i | exact U1 j | exact U4 hmx | exact U4 hmy | exact U4 hmu2 | exact U4 hmv2) (c := ?_)) | (refine D3 15 (DW (b := by first | exact U1 i | exact U1 j | exact U4 hmx | exact U4 hmy | exact U4 hmu2 | exact U4 hmv2) (c := ?_))) | refine DD 15 ?_ | fail)
        all_goals (first | refine D1 16 ?_ | (refine DV (k := 16) (b := by first | exact U1 i | exact U1 j | exact U4 hmx | exact U4 hmy | exact U4 hmu2 | exact U4 hmv2) (c := ?_)) | refine DD 16 ?_ | fail)
        all_goals refine D8 ?_
        all_goals rw [hq]
        all_goals repeat' (first | refine KK ?_ | (refine KB ?_ ?_ <;> intro hp) | refine KG ?_ | fail)
        all_goals try (exfalso; first | omega | contradiction)
        all_goals exact ret_s rfl rfl (congrArg _ hF)
    · rw [List.take_of_length_le (by omega), List.take_of_length_le (by omega)] at htj
      repeat' (first | refine KO ?_ | (refine KV (b := by first | exact U1 i | exact U4 hmx) (c := ?_)) | refine KI ?_ | (refine KB ?_ ?_ <;> intro hp) | refine KG ?_ | fail)
      all_goals try (exfalso; first | omega | contradiction)
      have hxy : x = y := by
        obtain ⟨x1, x2, x3, x4, x5⟩ := x
        obtain ⟨y1, y2, y3, y4, y5⟩ := y
        dsimp only at hu hfn hkd hat htj
        rw [hu, hfn, hkd, hat, htj]
      all_goals exact J2 (i + 1) ⟨by omega, take_eq hti (scs_get hx) (scs_get hy) hxy⟩ (by omega)
  · have hF : true = R := by
      rw [← hR]; symm
      refine dP_t ?_
      have h1 : (scs ps).length = ps.length := List.length_map ..
      have h2 : (scs qs).length = qs.length := List.length_map ..
      rwa [List.take_of_length_le (by omega), List.take_of_length_le (by omega)] at hti
    repeat' (first | refine KK ?_ | (refine KB ?_ ?_ <;> intro hp) | refine KG ?_ | fail)
    all_goals try (exfalso; first | omega | contradiction)
    exact ret_s rfl rfl (congrArg _ hF)
end
section
open Go.RowKit Go.Vcg
def BdOk (l : List Bd) (k : Nat) (b : Bd) : Prop := b.name ≠ ⟨#[]⟩ ∧ placeF b.name l 0 = some k ∧ 0 ≤ b.kind ∧ b.kind ≤ 7 ∧ b.kind ≠ 6
def ScOk (i : Nat) (s : Sc) : Prop := 0 ≤ s.at' ∧ (0 < i → 0 ≤ s.up ∧ s.up < i ∧ 1 ≤ s.kind ∧ s.kind ≤ 5 ∧ 0 ≤ s.fn)
def HdOk (l : List Sc) : Prop := ∃ s, l[0]? = some s ∧ s.kind = 0 ∧ s.up = -1 ∧ s.fn = 0
def RightP (l : List Sc) : Prop := HdOk l ∧ (∀ (i : Nat) (s : Sc), l[i]? = some s → ScOk i s ∧ ∀ (k : Nat) (b : Bd), s.names[k]? = some b → BdOk s.names k b) ∧ l = numS [] l
attribute [local irreducible] dP heldN locN placeF findF numBd numS oneS G GC GQ GA GAop Calls IntKind.wrap Int.decLt Int.decLe
theorem rright_spec (w : World) (μ : Mem) (hμ : MOk μ w) (ps : List (Sc × Value)) (A : Option Addr) (c : Nat) (hps : ScR μ A ps) : Calls Tryd.prog 10 #[.slice A ps.length c] w fun e w' => e = .returned (.bool (dP (RightP (scs ps)))) ∧ Below w.heap.size w w' := by
  have hps0 := hps
  obtain ⟨hS, hl, hall⟩ := hps
  have hsl : (scs ps).length = ps.length := List.length_map ..
  generalize hR : dP (RightP (scs ps)) = R
  refine call_intro (args := [.slice A ps.length c]) Tryd.func10 rfl Tryd.ntmps10 (by simp) hμ ?_
  by_cases h0 : 0 < ps.length
  rotate_left
  · have hF : false = R := by
      rw [← hR]; symm
      exact dP_f (fun h => by
        obtain ⟨⟨s, hs, -⟩, -⟩ := h
        have := (List.getElem?_eq_some_iff.1 hs).1
        omega)
    repeat' (first | refine KK ?_ | refine NB fun b => ?_ | (refine KB ?_ ?_ <;> intro hp) | refine KG ?_ | fail)
    all_goals first | (exfalso; first | omega | contradiction) | exact ret_s rfl rfl (congrArg _ hF)
  obtain ⟨ad, x0, rfl, hx0, hm0⟩ := hS.get h0
  have hs0 := scs_get hx0
  obtain ⟨x0, xv0⟩ := x0
  have hmx0 : MCells μ (ad.add (0 * 5)) [.int .i64 x0.up, .int .i64 x0.fn, .int .i64 x0.kind, .int .i64 x0.at', xv0] := hm0
  have hxv0 := (hall _ (List.mem_of_getElem? hx0)).one
  dsimp only at hs0 hxv0
  by_cases hhd : x0.kind = 0 ∧ x0.up = -1 ∧ x0.fn = 0
  rotate_left
  · have hF : false = R := by
      rw [← hR]; symm
      exact dP_f (fun h => by
        obtain ⟨⟨s, hs, h1⟩, -⟩ := h
        rw [hs0] at hs
        cases hs
        exact hhd h1)
    repeat' (first | refine KO ?_ | (refine KV (b := by first | exact U1 0 | exact U4 hmx0) (c := ?_)) | refine KI ?_ | refine NB fun b => ?_ | (refine KB ?_ ?_ <;> intro hp) | refine KG ?_ | fail)
    all_goals first | exact ret_s rfl rfl (congrArg _ hF) | (exfalso; first | omega | contradiction) | skip
  obtain ⟨hk0, hu0, hf0⟩ := hhd
  repeat' (first | refine KO ?_ | (refine KV (b := by first | exact U1 0 | exact U4 hmx0) (c := ?_)) | refine KI ?_ | refine NB fun b => ?_ | (refine KB ?_ ?_ <;> intro hp) | refine KG ?_ | fail)
  all_goals try (exfalso; first | omega | contradiction)
  refine gc_loop (ι := Nat) (fun i => i ≤ ps.length ∧ ∀ (j : Nat) (s : Sc), j < i → (scs ps)[j]? = some s → ScOk j s ∧ ∀ (k : Nat) (b : Bd), s.names[k]? = some b → BdOk s.names k b) (fun i => ps.length - i) (fun _ => μ) (fun i => [(3, .int .i64 (i : Int)), (0, .slice (some ad) ps.length c)]) (fun _ => []) 0 ⟨Nat.zero_le _, fun j s h => absurd h (by omega)⟩ (fun a w hs => J5 hs) ?_
  rintro i ⟨hi, hok⟩
  by_cases hlt : i < ps.length
  · obtain ⟨ad2, x, e2, hx, hm⟩ := hS.get hlt
    cases e2
    have hsx := scs_get hx
    obtain ⟨x, xv⟩ := x
    obtain ⟨A3, c3, hxv, hB, hbl⟩ := hall _ (List.mem_of_getElem? hx)
    have hbv := hall _ (List.mem_of_getElem? hx)
    dsimp only at hsx hxv hB hbl hbv
    subst hxv
    have hmx : MCells μ (ad.add (i * 5)) [.int .i64 x.up, .int .i64 x.fn, .int .i64 x.kind, .int .i64 x.at', .slice A3 x.names.length c3] := hm
    repeat' (first | ((with_reducible show GC _ _ (Code.seq (Code.seq (Code.region 7 _ _) _) _) _ _ _ _); (apply gc_stop)) | refine KO ?_ | (refine KV (b := by first | exact U1 i | exact U4 hmx) (c := ?_)) | refine KI ?_ | refine NB fun b => ?_ | (refine KB ?_ ?_ <;> intro hp) | refine KG ?_ | fail)
    all_goals try (exfalso; first | omega | contradiction)
    obtain ⟨bs, hbs⟩ : ∃ y, y = b := ⟨_, rfl⟩
    rw [← hbs]
    clear hbs
    refine gcs ?_
    refine gc_join (ι := Unit) (fun _ => ScOk i x) (fun _ => μ) (fun _ => [(4, .pointer (some ⟨bs, 0, none⟩)), (3, .int .i64 (i : Int)), (0, .slice (some ad) ps.length c)]) (fun _ => [.inl ⟨bs, 26, 5, idx 0 [.int .i64 x.up, .int .i64 x.fn, .int .i64 x.kind, .int .i64 x.at', .slice A3 x.names.length c3]⟩]) ?_ ?_
    · by_cases hsc : 0 ≤ x.at' ∧ (0 < i → 0 ≤ x.up ∧ x.up < i ∧ 1 ≤ x.kind ∧ x.kind ≤ 5 ∧ 0 ≤ x.fn)
      · repeat' (first | refine KK ?_ | refine NB fun b => ?_ | (refine KB ?_ ?_ <;> intro hp) | refine KG ?_ | fail)
        all_goals try (exfalso; first | omega | contradiction)
        all_goals exact J1 () hsc
      · have hF : false = R := by
          rw [← hR]; symm
          exact dP_f (fun h => hsc (h.2.1 i x hsx).1)
        repeat' (first | refine KK ?_ | refine NB fun b => ?_ | (refine KB ?_ ?_ <;> intro hp) | refine KG ?_ | fail)
        all_goals first | exact ret_s rfl rfl (congrArg _ hF) | (exfalso; first | omega | contradiction) | skip
    rintro ⟨⟩ hsc
    repeat' (first | refine KK ?_ | refine NB fun b => ?_ | (refine KB ?_ ?_ <;> intro hp) | refine KG ?_ | fail)
    refine gc_loop (ι := Nat) (fun k => k ≤ x.names.length ∧ ∀ (j : Nat) (b : Bd), j < k → x.names[j]? = some b → BdOk x.names j b) (fun k => x.names.length - k) (fun _ => μ) (fun k => [(5, .int .i64 (k : Int)), (4, .pointer (some ⟨bs, 0, none⟩)), (3, .int .i64 (i : Int)), (0, .slice (some ad) ps.length c)]) (fun _ => [.inl ⟨bs, 26, 5, idx 0 [.int .i64 x.up, .int .i64 x.fn, .int .i64 x.kind, .int .i64 x.at', .slice A3 x.names.length c3]⟩]) 0 ⟨Nat.zero_le _, fun j b h => absurd h (by omega)⟩ (fun a w hs => J5 hs) ?_
    rintro k ⟨hk, hbk⟩
    by_cases hkl : k < x.names.length
    · obtain ⟨ad3, z, rfl, hz, hmz⟩ := hB.get hkl
      have hpl := fun (w : World) (μc : Mem) (hw : MOk μc w) (hle : MLe μ μc) => place_spec w μc hw z.name x.names _ (hbv.mono hle)
      have hmz2 : MCells μ (ad3.add (k * 4)) [.string z.name, .int .i64 z.kind, .bool z.held, .int .i64 z.slot] := hmz
      by_cases hbo : BdOk x.names k z
      · obtain ⟨g1, g2, g3, g4, g5⟩ := hbo
        rw [g2] at hpl
        dsimp only at hpl
        repeat' (first | refine KO ?_ | ((with_reducible apply F1 16); exact rfl; exact EN; (exact fun w μc hw hse => hpl w μc hw hse.le)) | (refine KV (b := by first | exact U1 k | exact U4 hmz2) (c := ?_)) | refine KI ?_ | refine NB fun b => ?_ | (refine KB ?_ ?_ <;> intro hp) | refine KG ?_ | fail)
        all_goals try (exfalso; first | omega | contradiction)
        all_goals exact gq_backS (k + 1) ⟨by omega, fun j b hj hb => by
          rcases Nat.lt_or_ge j k with h | h
          · exact hbk j b h hb
          · have : j = k := by omega
            subst this
            rw [hz] at hb
            cases hb
            exact ⟨g1, g2, g3, g4, g5⟩⟩ (by omega) rfl PU PS
      · have hF : false = R := by
          rw [← hR]; symm
          exact dP_f (fun h => hbo ((h.2.1 i x hsx).2 k z hz))
        have hbo2 : z.name = ⟨#[]⟩ ∨ placeF z.name x.names 0 ≠ some k ∨ ¬ (0 ≤ z.kind ∧ z.kind ≤ 7 ∧ z.kind ≠ 6) := by
          by_cases h1 : z.name = ⟨#[]⟩
          · exact .inl h1
          · by_cases h2 : placeF z.name x.names 0 = some k
            · exact .inr (.inr fun h => hbo ⟨h1, h2, h⟩)
            · exact .inr (.inl h2)
        generalize placeF z.name x.names 0 = pl at hpl hbo2
        have hpl2 : ∃ q : Int, (pl ≠ some k → q ≠ k) ∧ ∀ (w : World) (μc : Mem), MOk μc w → MLe μ μc → Calls Tryd.prog 16 #[.slice (some ad3) x.names.length c3, .string z.name] w fun e w' => e = .returned (.int .i64 q) ∧ Below w.heap.size w w' := by
          cases pl with
          | none => exact ⟨-1, fun _ => by omega, hpl⟩
          | some j => exact ⟨(j : Int), fun h e => h (by congr 1; omega), hpl⟩
        obtain ⟨q, hqk, hpl3⟩ := hpl2
        have hcase : z.name = ⟨#[]⟩ ∨ q ≠ k ∨ ¬ (0 ≤ z.kind ∧ z.kind ≤ 7 ∧ z.kind ≠ 6) := hbo2.imp id (Or.imp hqk id)
        repeat' (first | refine KO ?_ | ((with_reducible apply F1 16); exact rfl; exact EN; (exact fun w μc hw hse => hpl3 w μc hw hse.le)) | (refine KV (b := by first | exact U1 k | exact U4 hmz2) (c := ?_)) | refine KI ?_ | refine NB fun b => ?_ | (refine KB ?_ ?_ <;> intro hp) | refine KG ?_ | fail)
        all_goals first | exact ret_s rfl rfl (congrArg _ hF) | (exfalso; rcases hcase with h | h | h <;> first | omega | contradiction | exact absurd h ‹_›)
    · repeat' (first | refine KK ?_ | refine NB fun b => ?_ | (refine KB ?_ ?_ <;> intro hp) | refine KG ?_ | fail)
      all_goals try (exfalso; first | omega | contradiction)
      all_goals exact gq_backS (i + 1) ⟨by omega, fun j s hj hs => by
        rcases Nat.lt_or_ge j i with h | h
        · exact hok j s h hs
        · have : j = i := by omega
          subst this
          rw [hsx] at hs
          cases hs
          exact ⟨hsc, fun k2 b hb => hbk k2 b (by have := (List.getElem?_eq_some_iff.1 hb).1; omega) hb⟩⟩ (by omega) rfl PU PS
  · have hokA : ∀ (j : Nat) (s : Sc), (scs ps)[j]? = some s → ScOk j s ∧ ∀ (k : Nat) (b : Bd), s.names[k]? = some b → BdOk s.names k b := fun j s hj => hok j s (by have := (List.getElem?_eq_some_iff.1 hj).1; omega) hj
    have hRe : dP (scs ps = numS [] (scs ps)) = R := by
      rw [← hR]
      by_cases h : scs ps = numS [] (scs ps)
      · rw [dP_t h]; exact (dP_t ⟨⟨x0, hs0, hk0, hu0, hf0⟩, hokA, h⟩).symm
      · rw [dP_f h]; exact (dP_f (fun g => h g.2.2)).symm
    repeat' (first | refine KO ?_ | ((with_reducible apply F2 22); exact rfl; exact EN; (exact fun w hw => numbered_spec w μ hw ps (some ad) c hps0); rintro v2 μ2 hle2 ⟨A5, c5, qs, rfl, hqs, hqe⟩) | ((with_reducible apply F1 21); exact rfl; exact EN; (exact fun w μc hw hse => rsame_spec w μc hw ps qs (some ad) A5 c c5 ((hps0.mono hle2).mono hse.le) (hqs.mono hse.le))) | refine KI ?_ | refine NB fun b => ?_ | (refine KB ?_ ?_ <;> intro hp) | refine KG ?_ | fail)
    all_goals try (exfalso; first | omega | contradiction)
    exact ret_s rfl rfl (congrArg _ (by rw [hqe]; exact hRe))
end
section
open Go.RowKit Go.Vcg
theorem sh_cell {b t sz i : Nat} {cs : Slots} {v : Value} {μ : Mem} (h : Bk.sh (.inl ⟨b, t, sz, cs⟩) μ) (hv : lk cs i = some v) : MCell μ ⟨b, i, none⟩ v :=
  let ⟨arr, h1, _, h3⟩ := h
  ⟨arr, t, (0, 0), h1, rfl, h3 i v hv⟩
def firstT (qs : List Bool) : Int := match qs.findIdx? id with | some i => i | none => -1
theorem firstT_at {qs : List Bool} {k : Nat} (h : qs[k]? = some true) (hn : ∀ (j : Nat) (q : Bool), j < k → qs[j]? = some q → q = false) : firstT qs = k := by
  have hlt := (List.getElem?_eq_some_iff.1 h).1
  have : qs.findIdx? id = some k := by
    rw [List.findIdx?_eq_some_iff_getElem]
    refine ⟨hlt, ?_, fun j hj => ?_⟩
    · have := (List.getElem?_eq_some_iff.1 h).2
      simp [this]
    · have := hn j _ hj (List.getElem?_eq_getElem (by omega))
      simp [this]
  unfold firstT
  rw [this]
theorem firstT_none {qs : List Bool} (hn : ∀ (j : Nat) (q : Bool), qs[j]? = some q → q = false) : firstT qs = -1 := by
  have : qs.findIdx? id = none := by
    rw [List.findIdx?_eq_none_iff]
    intro x hx
    obtain ⟨i, hi⟩ := List.mem_iff_getElem?.1 hx
    exact hn i x hi
  unfold firstT
  rw [this]
theorem firstT_any (qs : List Bool) : decide (0 ≤ firstT qs) = qs.any id := by
  unfold firstT
  cases h : qs.findIdx? id with
  | none =>
    rw [List.findIdx?_eq_none_iff] at h
    simp only [show ¬(0 : Int) ≤ -1 by omega, decide_false]
    symm
    rw [List.any_eq_false]
    exact fun x hx => by simpa using h x hx
  | some i =>
    rw [List.findIdx?_eq_some_iff_getElem] at h
    obtain ⟨h1, h2, -⟩ := h
    simp only [show (0 : Int) ≤ (i : Int) by omega, decide_true]
    symm
    rw [List.any_eq_true]
    exact ⟨_, List.getElem_mem h1, h2⟩
def dupB (x : ByteArray) (l : List Bd) : Bool := l.any fun o => decide (o.name = x)
theorem placeF_dup {x : ByteArray} : ∀ (l : List Bd) (k j : Nat) (b : Bd), l[j]? = some b → b.name = x → (placeF x l k = some (k + j) ↔ dupB x (l.take j) = false)
  | [], _, _, _, h, _ => by simp at h
  | a :: r, k, 0, b, h, hb => by
    simp at h
    subst h
    simp [placeF, hb, dupB]
  | a :: r, k, j + 1, b, h, hb => by
    have h2 : r[j]? = some b := by simpa using h
    have ih := placeF_dup r (k + 1) j b h2 hb
    unfold placeF
    by_cases ha : a.name = x
    · rw [if_pos ha]
      simp [dupB, ha]
    · rw [if_neg ha, show k + (j + 1) = k + 1 + j by omega, ih]
      simp [dupB, ha]
attribute [local irreducible] dupB dP heldN locN placeF findF numBd numS oneS G GC GQ GA GAop Calls IntKind.wrap Int.decLt Int.decLe
theorem sEqual_spec (w : World) (μ : Mem) (hμ : MOk μ w) (l m : List Bd) (u v : Value) (hu : BdV μ l u) (hv : BdV μ m v) : Calls Tryd.prog 20 #[u, v] w fun e w' => e = .returned (.bool (dP (l = m))) ∧ Below w.heap.size w w' := by
  obtain ⟨A, c, rfl, hS, hl⟩ := hu
  obtain ⟨B, c2, rfl, hS2, hl2⟩ := hv
  generalize hR : dP (l = m) = R
  refine call_intro (args := [.slice A l.length c, .slice B m.length c2]) Tryd.func20 rfl Tryd.ntmps20 (by simp) hμ ?_
  by_cases hlen : l.length = m.length
  rotate_left
  · have hF : false = R := by rw [← hR]; symm; exact dP_f (fun e => hlen (by rw [e]))
    have hlen2 : ¬ (l.length : Int) = (m.length : Int) := by omega
    repeat' (first | refine KK ?_ | (refine KB ?_ ?_ <;> intro hp) | refine KG ?_ | fail)
    all_goals first | (exfalso; first | omega | contradiction) | exact ret_s rfl rfl (congrArg _ hF)
  have hlen2 : (l.length : Int) = (m.length : Int) := by omega
  repeat' (first | refine KK ?_ | (refine KB ?_ ?_ <;> intro hp) | refine KG ?_ | fail)
  all_goals try (exfalso; first | omega | contradiction)
  refine gc_loop (ι := Nat) (fun i => i ≤ l.length ∧ l.take i = m.take i) (fun i => l.length - i) (fun _ => μ) (fun i => [(13, .int .i64 (i : Int)), (12, .int .i64 (l.length : Int)), (0, .slice A l.length c), (1, .slice B m.length c2)]) (fun _ => []) 0 ⟨Nat.zero_le _, rfl⟩ (fun a w hs => J5 hs) ?_
  rintro i ⟨hi, hti⟩
  by_cases hlt : i < l.length
  · obtain ⟨ad, x, rfl, hx, hm⟩ := hS.get hlt
    obtain ⟨ad2, y, rfl, hy, hm2⟩ := hS2.get (show i < m.length by omega)
    have hq := eqVs_bd x y
    have hmx : MCells μ (ad.add (i * 4)) [.string x.name, .int .i64 x.kind, .bool x.held, .int .i64 x.slot] := hm
    have hmy : MCells μ (ad2.add (i * 4)) [.string y.name, .int .i64 y.kind, .bool y.held, .int .i64 y.slot] := hm2
    by_cases hxy : x = y
    · rw [dP_t hxy] at hq
      repeat' (first | refine KK ?_ | (refine KB ?_ ?_ <;> intro hp) | refine KG ?_ | fail)
      all_goals try (exfalso; first | omega | contradiction)
      refine gc_draw 9 ([]) (by kernel_rfl) rfl (by first | exact List.Sublist.refl _ | simp) ?_
      all_goals refine DD 0 ?_
      all_goals refine DD 1 ?_
      all_goals (first | refine D1 2 ?_ | (refine DV (k := 2) (b := by first | exact U1 i | exact U4 hmx | exact U4 hmy) (c := ?_)) | refine DD 2 ?_ | fail)
      all_goals (first | refine D1 3 ?_ | (refine DV (k := 3) (b := by first | exact U1 i | exact U4 hmx | exact U4 hmy) (c := ?_)) | (refine D3 3 (DW (b := by first | exact U1 i | exact U4 hmx | exact U4 hmy) (c := ?_))) | refine DD 3 ?_ | fail)
      all_goals refine DD 4 ?_
      all_goals refine DD 5 ?_
      all_goals (first | refine D1 6 ?_ | (refine DV (k := 6) (b := by first | exact U1 i | exact U4 hmx | exact U4 hmy) (c := ?_)) | refine DD 6 ?_ | fail)
      all_goals (first | refine D1 7 ?_ | (refine DV (k := 7) (b := by first | exact U1 i | exact U4 hmx | exact U4 hmy) (c := ?_)) | (refine D3 7 (DW (b := by first | exact U1 i | exact U4 hmx | exact U4 hmy) (c := ?_))) | refine DD 7 ?_ | fail)
      all_goals (first | refine D1 8 ?_ | (refine DV (k := 8) (b := by first | exact U1 i | exact U4 hmx | exact U4 hmy) (c := ?_)) | refine DD 8 ?_ | fail)
      all_goals refine D8 ?_
      all_goals rw [hq]
      all_goals repeat' (first | refine KK ?_ | (refine KB ?_ ?_ <;> intro hp) | refine KG ?_ | fail)
      all_goals try (exfalso; first | omega | contradiction)
      all_goals exact J2 (i + 1) ⟨by omega, take_eq hti hx hy hxy⟩ (by omega)
    · rw [dP_f hxy] at hq
      have hF : false = R := by rw [← hR]; symm; exact dP_f (fun e => hxy (get_eq e hx hy))
      repeat' (first | refine KK ?_ | (refine KB ?_ ?_ <;> intro hp) | refine KG ?_ | fail)
      all_goals try (exfalso; first | omega | contradiction)
      refine gc_draw 9 ([]) (by kernel_rfl) rfl (by first | exact List.Sublist.refl _ | simp) ?_
      all_goals refine DD 0 ?_
      all_goals refine DD 1 ?_
      all_goals (first | refine D1 2 ?_ | (refine DV (k := 2) (b := by first | exact U1 i | exact U4 hmx | exact U4 hmy) (c := ?_)) | refine DD 2 ?_ | fail)
      all_goals (first | refine D1 3 ?_ | (refine DV (k := 3) (b := by first | exact U1 i | exact U4 hmx | exact U4 hmy) (c := ?_)) | (refine D3 3 (DW (b := by first | exact U1 i | exact U4 hmx | exact U4 hmy) (c := ?_))) | refine DD 3 ?_ | fail)
      all_goals refine DD 4 ?_
      all_goals refine DD 5 ?_
      all_goals (first | refine D1 6 ?_ | (refine DV (k := 6) (b := by first | exact U1 i | exact U4 hmx | exact U4 hmy) (c := ?_)) | refine DD 6 ?_ | fail)
      all_goals (first | refine D1 7 ?_ | (refine DV (k := 7) (b := by first | exact U1 i | exact U4 hmx | exact U4 hmy) (c := ?_)) | (refine D3 7 (DW (b := by first | exact U1 i | exact U4 hmx | exact U4 hmy) (c := ?_))) | refine DD 7 ?_ | fail)
      all_goals (first | refine D1 8 ?_ | (refine DV (k := 8) (b := by first | exact U1 i | exact U4 hmx | exact U4 hmy) (c := ?_)) | refine DD 8 ?_ | fail)
      all_goals refine D8 ?_
      all_goals rw [hq]
      all_goals repeat' (first | refine KK ?_ | (refine KB ?_ ?_ <;> intro hp) | refine KG ?_ | fail)
      all_goals try (exfalso; first | omega | contradiction)
      all_goals exact ret_s rfl rfl (congrArg _ hF)
  · have hF : true = R := by
      rw [← hR]; symm
      refine dP_t ?_
      rwa [List.take_of_length_le (by omega), List.take_of_length_le (by omega)] at hti
    repeat' (first | refine KK ?_ | (refine KB ?_ ?_ <;> intro hp) | refine KG ?_ | fail)
    all_goals try (exfalso; first | omega | contradiction)
    exact ret_s rfl rfl (congrArg _ hF)
theorem indexB_spec (f : FuncId) (cap : List Value) (q1 : Bd → Bool) (l : List Bd) (A : Option Addr) (n c : Nat) (w : World) (μ : Mem) (hμ : MOk μ w) (hcal : callable Tryd.prog f = true) (hS : Sl encBd 4 μ A n l) (hn : n ≤ 200) (hf1 : ∀ (o : Bd) (w : World) (μ' : Mem), o ∈ l → MOk μ' w → MLe μ μ' → Calls Tryd.prog f ([Value.agg (encBd o).toArray] ++ cap).toArray w fun e w' => e = .returned (.bool (q1 o)) ∧ Below w.heap.size w w') :
    Calls Tryd.prog 31 #[.slice A n c, .func (.func f) #[] cap.toArray] w fun e w' => e = .returned (.int .i64 (firstT (l.map q1))) ∧ Below w.heap.size w w' := by
  refine call_intro (args := [.slice A n c, .func (.func f) #[] cap.toArray]) Tryd.func31 rfl Tryd.ntmps31 (by simp) hμ ?_
  have hln : l.length = n := hS.1
  have hqn : (l.map q1).length = n := by rw [List.length_map]; exact hln
  repeat' (first | refine KK ?_ | (refine KB ?_ ?_ <;> intro hp) | refine KG ?_ | fail)
  refine gc_loop (ι := Nat) (fun k => k ≤ n ∧ ∀ (j : Nat) (q : Bool), j < k → (l.map q1)[j]? = some q → q = false) (fun k => n - k) (fun _ => μ) (fun k => [(8, .int .i64 k), (7, .int .i64 n), (6, .slice A n c), (0, .slice A n c), (1, .func (.func f) #[] cap.toArray)]) (fun _ => []) 0 ⟨by omega, fun j _ h => absurd h (by omega)⟩ (fun a w hs => J5 hs) ?_
  rintro k ⟨hk, hf⟩
  by_cases hlt : k < n
  · obtain ⟨ad, o, rfl, ho, hm⟩ := hS.get hlt
    have hqk : (l.map q1)[k]? = some (q1 o) := by rw [List.getElem?_map, ho]; rfl
    have hc := fun (w : World) (μc : Mem) (hw : MOk μc w) (hle : MLe μ μc) => hf1 o w μc (List.mem_of_getElem? ho) hw hle
    generalize q1 o = q at hqk hc
    have hnext : q = false → ∀ (j : Nat) (q : Bool), j < k + 1 → (l.map q1)[j]? = some q → q = false := fun h j p hj hp => by
      rcases Nat.lt_or_ge j k with h1 | h1
      · exact hf j p h1 hp
      · obtain rfl : j = k := by omega
        rw [hqk] at hp
        cases hp
        exact h
    cases q
    · have hb := hnext rfl
      repeat' (first | refine KO ?_ | ((with_reducible apply C1); exact rfl; exact EN; exact fun w μc hw hse => hc w μc hw hse.le) | (refine KV (b := by first | exact U1 k | exact U4 hm) (c := ?_)) | refine KI ?_ | (refine KB ?_ ?_ <;> intro hp) | refine KG ?_ | fail)
      all_goals try (exfalso; first | omega | contradiction)
      all_goals exact J2 (k + 1) ⟨by omega, hb⟩ (by omega)
    · repeat' (first | refine KO ?_ | ((with_reducible apply C1); exact rfl; exact EN; exact fun w μc hw hse => hc w μc hw hse.le) | (refine KV (b := by first | exact U1 k | exact U4 hm) (c := ?_)) | refine KI ?_ | (refine KB ?_ ?_ <;> intro hp) | refine KG ?_ | fail)
      all_goals try (exfalso; first | omega | contradiction)
      all_goals refine ret_s rfl rfl ?_
      all_goals rw [firstT_at hqk hf]
  · repeat' (first | refine KK ?_ | (refine KB ?_ ?_ <;> intro hp) | refine KG ?_ | fail)
    all_goals try (exfalso; first | omega | contradiction)
    refine ret_s rfl rfl ?_
    rw [firstT_none (fun j q hj => hf j q (by have := (List.getElem?_eq_some_iff.1 hj).1; omega) hj)]
theorem containsB_spec (f : FuncId) (cap : List Value) (q1 : Bd → Bool) (l : List Bd) (A : Option Addr) (n c : Nat) (w : World) (μ : Mem) (hμ : MOk μ w) (hcal : callable Tryd.prog f = true) (hS : Sl encBd 4 μ A n l) (hn : n ≤ 200) (hf1 : ∀ (o : Bd) (w : World) (μ' : Mem), o ∈ l → MOk μ' w → MLe μ μ' → Calls Tryd.prog f ([Value.agg (encBd o).toArray] ++ cap).toArray w fun e w' => e = .returned (.bool (q1 o)) ∧ Below w.heap.size w w') :
    Calls Tryd.prog 25 #[.slice A n c, .func (.func f) #[] cap.toArray] w fun e w' => e = .returned (.bool (l.any q1)) ∧ Below w.heap.size w w' := by
  refine call_intro (args := [.slice A n c, .func (.func f) #[] cap.toArray]) Tryd.func25 rfl Tryd.ntmps25 (by simp) hμ ?_
  have h : decide (0 ≤ firstT (l.map q1)) = l.any q1 := by rw [firstT_any, List.any_map]; rfl
  rw [← h]
  repeat' (first | refine KO ?_ | ((with_reducible apply C1); exact rfl; exact EN; exact fun w μc hw hse => indexB_spec f cap q1 l A n c w μc hw hcal (hS.mono hse.le) hn (fun o w μ' h1 h2 h3 => hf1 o w μ' h1 h2 (hse.le.trans h3))) | refine KI ?_ | (refine KB ?_ ?_ <;> intro hp) | refine KG ?_ | fail)
  exact ret_s rfl rfl rfl
theorem named1_spec (x : ByteArray) (o : Bd) (bc : Nat) (w : World) (μ : Mem) (hμ : MOk μ w) (hcell : MCell μ ⟨bc, 0, none⟩ (.string x)) :
    Calls Tryd.prog 26 ([Value.agg (encBd o).toArray] ++ [Value.pointer (some ⟨bc, 0, none⟩)]).toArray w fun e w' => e = .returned (.bool (decide (o.name = x))) ∧ Below w.heap.size w w' := by
  refine call_intro (args := [.agg #[.string o.name, .int .i64 o.kind, .bool o.held, .int .i64 o.slot], .pointer (some ⟨bc, 0, none⟩)]) Tryd.func26 rfl Tryd.ntmps26 (by simp) hμ ?_
  repeat' (first | refine KO ?_ | (refine KV (b := by first | ((with_reducible apply v_load_sh); exact rfl; exact rfl; exact hcell)) (c := ?_)) | refine KI ?_ | refine NB fun b => ?_ | (refine KB ?_ ?_ <;> intro hp) | refine KG ?_ | fail)
  exact ret_s rfl rfl rfl
end
section
open Go.RowKit Go.Vcg
def NmOk (l : List Bd) : Prop := ∀ (k : Nat) (b : Bd), l[k]? = some b → BdOk l k b
theorem bdOk_iff {l : List Bd} {k : Nat} {b : Bd} (h : l[k]? = some b) : BdOk l k b ↔ b.name ≠ ⟨#[]⟩ ∧ dupB b.name (l.take k) = false ∧ 0 ≤ b.kind ∧ b.kind ≤ 7 ∧ b.kind ≠ 6 := by
  have := placeF_dup (x := b.name) l 0 k b h rfl
  rw [Nat.zero_add] at this
  unfold BdOk
  rw [this]
attribute [local irreducible] dP heldN locN placeF findF numBd numS oneS G GC GQ GA GAop Calls IntKind.wrap Int.decLt Int.decLe
theorem named_spec (w : World) (μ : Mem) (hμ : MOk μ w) (s : Sc) (v : Value) (hv : BdV μ s.names v) : Calls Tryd.prog 17 #[.agg (encSc (s, v)).toArray] w fun e w' => e = .returned (.bool (dP (NmOk s.names))) ∧ Below w.heap.size w w' := by
  obtain ⟨A, c, rfl, hS, hl, hcap⟩ := hv
  generalize hR : dP (NmOk s.names) = R
  refine call_intro (args := [.agg #[.int .i64 s.up, .int .i64 s.fn, .int .i64 s.kind, .int .i64 s.at', .slice A s.names.length c]]) Tryd.func17 rfl Tryd.ntmps17 (by simp) hμ ?_
  repeat' (first | refine KK ?_ | refine NB fun b => ?_ | (refine KB ?_ ?_ <;> intro hp) | refine KG ?_ | fail)
  obtain ⟨bs, hbs⟩ : ∃ y, y = b := ⟨_, rfl⟩
  rw [← hbs]
  clear hbs
  refine gc_loop (ι := Nat) (fun k => k ≤ s.names.length ∧ ∀ (j : Nat) (b : Bd), j < k → s.names[j]? = some b → BdOk s.names j b) (fun k => s.names.length - k) (fun _ => μ) (fun k => [(9, .int .i64 (k : Int)), (8, .int .i64 (s.names.length : Int)), (7, .slice A s.names.length c), (1, .pointer (some ⟨bs, 0, none⟩))]) (fun _ => [.inl ⟨bs, 26, 5, idx 0 [.int .i64 s.up, .int .i64 s.fn, .int .i64 s.kind, .int .i64 s.at', .slice A s.names.length c]⟩]) 0 ⟨Nat.zero_le _, fun j b h => absurd h (by omega)⟩ (fun a w hs => J5 hs) ?_
  rintro k ⟨hk, hbk⟩
  by_cases hkl : k < s.names.length
  · obtain ⟨ad, z, rfl, hz, hm⟩ := hS.get hkl
    have hmz : MCells μ (ad.add (k * 4)) [.string z.name, .int .i64 z.kind, .bool z.held, .int .i64 z.slot] := hm
    have hiff := bdOk_iff hz
    have hSt := hS.take (k := k) (by omega)
    have hcb := fun (b : Nat) (w : World) (μc : Mem) (hw : MOk μc w) (hle : MLe μ μc) (hc : MCell μc ⟨b, 0, none⟩ (.string z.name)) => containsB_spec 26 [.pointer (some ⟨b, 0, none⟩)] (fun o => decide (o.name = z.name)) (s.names.take k) (some ad) k c w μc hw (by kernel_rfl) (hSt.mono hle) (by omega) (fun o w μ' h1 h2 h3 => named1_spec z.name o b w μ' h2 (hc.mono h3))
    have hd : ((s.names.take k).any fun o => decide (o.name = z.name)) = dupB z.name (s.names.take k) := rfl
    rw [hd] at hcb
    generalize dupB z.name (s.names.take k) = d at hiff hcb
    by_cases hbo : BdOk s.names k z
    · obtain ⟨g1, rfl, g3, g4, g5⟩ := hiff.1 hbo
      repeat' (first | refine KO ?_ | ((with_reducible apply F1 25); exact rfl; exact EN; exact fun w μc hw hse => hcb _ w μc hw hse.le (sh_cell hse.hd rfl)) | (refine KV (b := by first | exact U1 k | exact U4 hmz | ((with_reducible apply v_slice_hi k); exact rfl; exact rfl; exact rfl; exact rfl; exact rfl; omega)) (c := ?_)) | refine KI ?_ | refine NB fun b => ?_ | (refine KB ?_ ?_ <;> intro hp) | refine KG ?_ | fail)
      all_goals try (exfalso; first | omega | contradiction)
      all_goals exact gq_backS (k + 1) ⟨by omega, fun j b hj hb => by
        rcases Nat.lt_or_ge j k with h | h
        · exact hbk j b h hb
        · have : j = k := by omega
          subst this
          rw [hz] at hb
          cases hb
          exact hbo⟩ (by omega) rfl PU PS
    · have hF : false = R := by rw [← hR]; symm; exact dP_f (fun h => hbo (h k z hz))
      have hno : ¬ (z.name ≠ ⟨#[]⟩ ∧ d = false ∧ 0 ≤ z.kind ∧ z.kind ≤ 7 ∧ z.kind ≠ 6) := fun h => hbo (hiff.2 h)
      repeat' (first | refine KO ?_ | ((with_reducible apply F1 25); exact rfl; exact EN; exact fun w μc hw hse => hcb _ w μc hw hse.le (sh_cell hse.hd rfl)) | (refine KV (b := by first | exact U1 k | exact U4 hmz | ((with_reducible apply v_slice_hi k); exact rfl; exact rfl; exact rfl; exact rfl; exact rfl; omega)) (c := ?_)) | refine KI ?_ | refine NB fun b => ?_ | (refine KB ?_ ?_ <;> intro hp) | refine KG ?_ | fail)
      all_goals first | exact ret_s rfl rfl (congrArg _ hF) | (exfalso; first | omega | contradiction) | (exfalso; exact hno ⟨by assumption, by first | assumption | (cases d <;> simp_all), by omega, by omega, by omega⟩) | skip
  · have hT : true = R := by
      rw [← hR]; symm
      exact dP_t (fun j b hj => hbk j b (by have := (List.getElem?_eq_some_iff.1 hj).1; omega) hj)
    repeat' (first | refine KK ?_ | refine NB fun b => ?_ | (refine KB ?_ ?_ <;> intro hp) | refine KG ?_ | fail)
    all_goals try (exfalso; first | omega | contradiction)
    exact ret_s rfl rfl (congrArg _ hT)
end
section
open Go.RowKit Go.Vcg
theorem flat4 : ∀ l : List Bd, (l.flatMap encBd).length = l.length * 4
  | [] => rfl
  | b :: r => by
    have := flat4 r
    simp only [List.flatMap_cons, List.length_append, List.length_cons, List.length_nil, this]
    omega
theorem bd_ones (l : List Bd) : ∀ u ∈ l.flatMap encBd, u.oneCell' = true := fun u hu => by
  obtain ⟨b, -, hb⟩ := List.mem_flatMap.1 hu
  simp at hb
  rcases hb with rfl | rfl | rfl | rfl <;> rfl
attribute [local irreducible] dP heldN locN placeF findF numBd numS oneS G GC GQ GA GAop Calls IntKind.wrap Int.decLt Int.decLe
theorem clone_spec (w : World) (μ : Mem) (hμ : MOk μ w) (l : List Bd) (v : Value) (hv : BdV μ l v) : Calls Tryd.prog 18 #[v] w (RowPost w 44 4 l.length (l.flatMap encBd)) := by
  obtain ⟨A, c, rfl, hS, hl, hcap⟩ := hv
  refine call_intro (args := [.slice A l.length c]) Tryd.func18 rfl Tryd.ntmps18 (by simp) hμ ?_
  have h1 := bd_ones l
  have h2 := flat4 l
  cases A with
  | none =>
    have h0 : l = [] := by
      cases l with
      | nil => rfl
      | cons x r =>
        obtain ⟨a, e, _⟩ := hS.2 (by simp)
        cases e
    subst h0
    repeat' (first | refine KO ?_ | (refine KV (b := by first | ((with_reducible apply v_isnil); exact rfl; exact rfl)) (c := ?_)) | refine KI ?_ | refine NB fun b => ?_ | (refine KB ?_ ?_ <;> intro hp) | refine KG ?_ | fail)
    exact gq_nilRow 44 4 (ret_row 0 rfl rfl rfl)
  | some ad =>
    repeat' (first | ((with_reducible apply g_row0 4)) | refine KO ?_ | (first | ((with_reducible apply g_ap); exact rfl; exact rfl; exact rfl; (repeat first | with_reducible exact rowup_hd | with_reducible apply rowup_tl); (iterate 6 exact rfl); (first | ((with_reducible apply src_sh); exact rfl; exact hS; simp) | ((with_reducible apply src_in); exact rfl; (repeat first | with_reducible exact inb_hd | with_reducible apply inb_tl); exact rfl)); (first | exact rfl | omega | simp); (first | assumption | (exact ones_mem (by (repeat first | with_reducible exact ones_nil | ((with_reducible apply ones_cons); (first | exact rfl | assumption))))) | simp [Value.oneCell']); omega; omega; intro v) | ((with_reducible apply g_append0); (iterate 9 exact rfl); (first | ((with_reducible apply src_sh); exact rfl; exact hS; simp) | ((with_reducible apply src_in); exact rfl; (repeat first | with_reducible exact inb_hd | with_reducible apply inb_tl); exact rfl)); (first | exact rfl | omega | simp); (first | assumption | (exact ones_mem (by (repeat first | with_reducible exact ones_nil | ((with_reducible apply ones_cons); (first | exact rfl | assumption))))) | simp [Value.oneCell']); omega; omega; intro v)) | (refine KV (b := by first | ((with_reducible apply v_isnil); exact rfl; exact rfl)) (c := ?_)) | refine KI ?_ | refine NB fun b => ?_ | (refine KB ?_ ?_ <;> intro hp) | refine KG ?_ | fail)
    simp only [Nat.zero_add, List.nil_append]
    exact ret_row 0 rfl rfl rfl
end
end Go.Proofs.YtccbkihnedpjcaaDoor
