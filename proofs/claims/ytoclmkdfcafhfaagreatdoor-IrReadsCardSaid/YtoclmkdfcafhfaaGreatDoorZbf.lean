/- Package ir: Read, walked. -/
import Derived.Test.YtoclmkdfcafhfaaGreatDoorZbe
set_option maxRecDepth 20000
set_option maxHeartbeats 2000000
namespace Go.Vcg
section
variable {P : Program} {μ : Mem} {l : aF} {L : List Bk} {w : World}
theorem mC {fn : Func} {n : Nat} {rs : List ResultVar} {vs : List Value} {μ0 : Mem} {Post : Mem → Value → Prop} (hr : fn.results = rs.toArray) (h : RVs P μ l L rs vs) (hl : Nat.beq vs.length 1 = false) (hp : ∀ μ', MLe μ μ' → (∀ x ∈ L, Bk.sh x μ') → Post μ' (.tuple vs.toArray)) :
    GQ ⟨w, μ0, [], n⟩ (bodyPost P fn (fun e w' => ∃ v μ', e = .returned v ∧ Grow w w' μ0 μ' ∧ Post μ' v)) .ret μ l L := fun a w' hs => by
  obtain ⟨μ', hg, hle, hL⟩ := hs.SK
  exact ⟨hs.defers.none (by simp), .tuple vs.toArray, xG hr h hl hs.rd, _, μ', rfl, hg, hp μ' hle hL⟩
end
end Go.Vcg
namespace Go.Proofs.YtoclmkdfcafhfaaGreatDoor
section
open Go.RowKit Go.Vcg Ou
theorem iJ {R : Except (Int × Int) (List Iq.FnP)} {μ : Mem} {k e : Int} (h : R = .error (k, e)) (he : e ≠ 0) : lX R μ (.tuple #[.agg #[.slice none 0 0], .int .i64 k, .int .i64 e]) := by
  subst h; exact ⟨rfl, he⟩
theorem IL {R : Except (Int × Int) (List Iq.FnP)} {μ : Mem} {A : Option Addr} {c : Nat} {ps : List (F × Value)} (h : R = .ok (ps.map fun p => fnP p.1)) (hF : Fs μ A ps.length ps) (hall : ∀ p ∈ ps, gU qN p.1.body) : lX R μ (.tuple #[.agg #[.slice A ps.length c], .int .i64 0, .int .i64 0]) := by
  subst h; exact ⟨A, c, ps, rfl, rfl, hF, hall⟩
theorem sX (l : List UInt8) (w : World) (μ : Mem) (hμ : MOk μ w) : Calls Tryz.prog 28 #[.string (ofB l), .string ⟨#[117, 110, 105, 116, 32]⟩] w fun e w' => e = .returned (.tuple #[.string (ofB ((Iq.pre Iq.jU l).getD l)), .bool (Iq.pre Iq.jU l).isSome]) ∧ Below w.heap.size w w' := by
  refine (Any.strings_CutPrefix Tryz.lays103 (ofB l) ⟨#[117, 110, 105, 116, 32]⟩ w).mono fun e w' ⟨he, hw⟩ => ⟨?_, hw ▸ Below.refl _ _⟩
  rw [he]
  have e1 : (ofB l).data.toList = l := dG l
  rw [e1]
  unfold Iq.pre Lib.trimPrefix Lib.hasPrefix
  by_cases hp : Iq.jU <+: l
  · have hb : ([117, 110, 105, 116, 32] : List UInt8).isPrefixOf l = true := List.isPrefixOf_iff_prefix.2 hp
    rw [if_pos hp]
    show _ = Ending.returned (Value.tuple #[.string (ofB (l.drop 5)), .bool true])
    simp [hb]
    rfl
  · have hb : ([117, 110, 105, 116, 32] : List UInt8).isPrefixOf l = false := Bool.eq_false_iff.2 fun h => hp (List.isPrefixOf_iff_prefix.1 h)
    rw [if_neg hp]
    show _ = Ending.returned (Value.tuple #[.string (ofB l), .bool false])
    simp [hb]
    rfl
def aFt (s : List UInt8) (z : List UInt8) (ok : Bool) (at2 ln2 e2 : Int) : Prop :=
  (ln2 = 1 ∧ e2 = 8 ∧ Ou.aO 10 s = none) ∨ (ln2 = 1 ∧ e2 = 0 ∧ ∃ l r, Ou.aO 10 s = some (l, r) ∧ at2 = ((l.length + 1 : Nat) : Int) ∧ z = (Iq.pre Iq.jU l).getD l ∧ ok = (Iq.pre Iq.jU l).isSome)
def zV (s : List UInt8) (vc at3 ln3 e3 : Int) : Prop :=
  (ln3 = 1 ∧ e3 = 0 ∧ ∃ l r, Ou.aO 10 s = some (l, r) ∧ at3 = ((l.length + 1 : Nat) : Int) ∧ ∃ c : Nat, vc = (c : Int) ∧ c ≤ 4096 ∧ Iq.lE l = some c) ∨ (e3 ≠ 0 ∧ Iq.eY aP (Iq.bV aH) s = .error (ln3, e3))
theorem zL {l : List UInt8} (h : Iq.pre Iq.jU l = none) : Iq.lE l = none := by
  unfold Iq.lE; rw [h]
theorem VX {lo hi n : Int} {x : List UInt8} (h : aV lo hi x = some n) : lo ≤ n ∧ n ≤ hi := by
  unfold aV at h
  split at h
  · split at h
    · cases h; assumption
    · cases h
  · cases h
theorem SL (p l : List UInt8) : ((Iq.pre p l).getD l).length ≤ l.length := by
  cases h : Iq.pre p l with
  | none => exact Nat.le_refl _
  | some r =>
    have := congrArg List.length (Iq.pre_some h)
    rw [List.length_append] at this
    show r.length ≤ _
    omega
theorem zM {s x r z : List UInt8} {at2 : Int} (hs : s.length ≤ 1000000) (hc : Ou.aO 10 s = some (x, r)) (hat : at2 = ((x.length + 1 : Nat) : Int)) (hp : Iq.pre Iq.jU x = some z) : zV s (fT 1 4096 z) at2 1 (okS (aV 1 4096 z).isSome 0 7) := by
  unfold fT
  cases hn : aV 1 4096 z with
  | none => exact .inr ⟨by decide, pM hs hc (by rw [DR hp, hn]; rfl)⟩
  | some n =>
    have := VX hn
    exact .inl ⟨rfl, rfl, x, r, hc, hat, n.toNat, by show n = _; omega, by omega, by rw [DR hp, hn]; rfl⟩
theorem aGi (b : Bool) : okS b 7 7 = 7 := by cases b <;> rfl
attribute [local irreducible] nmL eI nL Iq.lE Iq.eY Iq.bV Iq.eE Iq.bI Iq.gH Iq.pre aH G GC GQ GA bO Calls IntKind.wrap Int.decLt Int.decLe
theorem PW (s : List UInt8) (hs : s.length ≤ 700000) (w : World) (μ : Mem) (hμ : MOk μ w) (hmq : fY μ) (hT : kN μ) :
    Calls Tryz.prog 13 #[.string (ofB s)] w fun e w' => ∃ v μ', e = .returned v ∧ Grow w w' μ μ' ∧ lX (Iq.eY aP (Iq.bV aH) s) μ' v := by
  have hsz := bF s
  refine aC (args := [.string (ofB s)]) Tryz.func13 rfl Tryz.ntmps13 (by simp) hμ ?_
  repeat' (first | ((with_reducible show GC _ _ (Code.seq (Code.seq (Code.region 1 _ _) _) _) _ _ _ _); (apply aY)) | refine KK ?_ | refine NB fun b => ?_ | fail)
  obtain ⟨bu, hbu⟩ : ∃ x, x = b := ⟨_, rfl⟩
  rw [← hbu]
  clear hbu
  refine gcs (bY (l' := [(2, .pointer (some ⟨bu, 0, none⟩)), (0, (.string (ofB s)))]) (L' := [.inl ⟨bu, 27, 1, idx 0 [.slice none 0 0]⟩]) PU PS ?_)
  repeat' (first | ((with_reducible show GC _ _ (Code.seq (Code.region 4 _ _) _) _ _ _ _); (apply aY)) | refine KO ?_ | ((with_reducible apply C2); exact rfl; exact EN; (exact fun w hw => PL w μ hw (pX hmq)); rintro v1 μ1 hle1 ⟨m, rfl, hnm⟩) | refine NB fun b => ?_ | fail)
  all_goals first | skip
  obtain ⟨rb, hrb⟩ : ∃ x, x = b := ⟨_, rfl⟩
  rw [← hrb]
  clear hrb
  refine gcs (bY (l' := [(5, .pointer (some ⟨rb, 0, none⟩)), (2, .pointer (some ⟨bu, 0, none⟩)), (0, (.string (ofB s)))]) (L' := [.inl ⟨rb, 55, 5, [(0, .string (ofB s)), (1, .int .i64 0), (2, .int .i64 0), (3, .int .i64 0), (4, .map (some m))]⟩, .inl ⟨bu, 27, 1, idx 0 [.slice none 0 0]⟩]) PU PS ?_)
  refine cM (ι := Mem × List UInt8 × Bool × Int × Int × Int) (fun i => MLe μ1 i.1 ∧ i.2.1.length ≤ 700000 ∧ aFt s i.2.1 i.2.2.1 i.2.2.2.1 i.2.2.2.2.1 i.2.2.2.2.2) (fun i => i.1) (fun i => [(7, .bool i.2.2.1), (6, .string (ofB i.2.1)), (5, .pointer (some ⟨rb, 0, none⟩)), (2, .pointer (some ⟨bu, 0, none⟩)), (0, (.string (ofB s)))]) (fun i => [.inl ⟨rb, 55, 5, [(0, .string (ofB s)), (1, .int .i64 i.2.2.2.1), (2, .int .i64 i.2.2.2.2.1), (3, .int .i64 i.2.2.2.2.2), (4, .map (some m))]⟩, .inl ⟨bu, 27, 1, idx 0 [.slice none 0 0]⟩]) ?_ ?_
  · cases hc : Ou.aO 10 s with
    | none =>
      repeat' (first | refine KO ?_ | (refine CF 29 ?_; (with_reducible apply aA 1); (iterate 3 exact rfl); ((with_reducible apply dV); kernel_rfl; exact rfl); exact rfl; (exact fun w hw hO => EE rb s 0 0 0 m hc (by omega) (by omega) (by omega) w _ hw hO); (rintro v2 μ2 ⟨⟩ hle2 rfl); (dsimp only [List.cons_append, List.nil_append])) | ((with_reducible apply F1 28); exact rfl; exact EN; (exact fun w μc hw hse => sX [] w μc hw)) | fail)
      all_goals first | skip
      exact J1 (_, (Iq.pre Iq.jU []).getD [], (Iq.pre Iq.jU []).isSome, 0, 1, 8) ⟨hle2, by have := SL Iq.jU []; exact Nat.le_trans this (by decide), .inl ⟨rfl, rfl, hc⟩⟩
    | some p =>
      obtain ⟨x, r⟩ := p
      repeat' (first | refine KO ?_ | (refine CF 29 ?_; (with_reducible apply aA 1); (iterate 3 exact rfl); ((with_reducible apply dV); kernel_rfl; exact rfl); exact rfl; (exact fun w hw hO => ED rb s 0 0 0 m hc (by omega) (by omega) (by omega) w _ hw hO); (rintro v2 μ2 ⟨⟩ hle2 rfl); (dsimp only [List.cons_append, List.nil_append])) | ((with_reducible apply F1 28); exact rfl; exact EN; (exact fun w μc hw hse => sX x w μc hw)) | fail)
      all_goals first | skip
      exact J1 (_, (Iq.pre Iq.jU x).getD x, (Iq.pre Iq.jU x).isSome, ((0 + x.length + 1 : Nat) : Int), 1, 0) ⟨hle2, by have := SL Iq.jU x; have := (cS hc).2; dsimp only; omega, .inr ⟨rfl, rfl, x, r, hc, by simp, rfl, rfl⟩⟩
  rintro ⟨μ2, z, ok, at2, ln2, e2⟩ ⟨hle2, hzl0, hF⟩
  dsimp only at hle2 hzl0 hF ⊢
  have hzl : z.length ≤ 1000000 := by omega
  repeat' (first | ((with_reducible show GC _ _ (Code.seq (Code.seq (Code.region 6 _ _) _) _) _ _ _ _); (apply aY)) | refine KK ?_ | fail)
  all_goals first | skip
  refine gcs ?_
  refine cM (ι := Mem × Int × Int × Int × Int) (fun i => MLe μ2 i.1 ∧ zV s i.2.1 i.2.2.1 i.2.2.2.1 i.2.2.2.2) (fun i => i.1) (fun i => [(8, .int .i64 i.2.1), (5, .pointer (some ⟨rb, 0, none⟩)), (2, .pointer (some ⟨bu, 0, none⟩)), (0, (.string (ofB s)))]) (fun i => [.inl ⟨rb, 55, 5, [(0, .string (ofB s)), (1, .int .i64 i.2.2.1), (2, .int .i64 i.2.2.2.1), (3, .int .i64 i.2.2.2.2), (4, .map (some m))]⟩, .inl ⟨bu, 27, 1, idx 0 [.slice none 0 0]⟩]) ?_ ?_
  · rcases hF with ⟨rfl, rfl, hc⟩ | ⟨rfl, rfl, x, r, hc, hat, hz, hok⟩
    · repeat' (first | refine KK ?_ | fail)
      all_goals first | skip
      exact J1 (μ2, 0, at2, 1, 8) ⟨MLe.refl _, .inr ⟨(by decide : (8 : Int) ≠ 0), wA (by omega) hc⟩⟩
    · cases hp : Iq.pre Iq.jU x with
      | none =>
        rw [hp] at hz hok
        have hok : ok = false := hok
        subst hok
        repeat' (first | refine KO ?_ | (refine CF 30 ?_; (with_reducible apply aA 1); (iterate 3 exact rfl); ((with_reducible apply aL); kernel_rfl; exact rfl; exact rfl); exact rfl; (exact fun w hw hO => dA rb (s, at2, 1, 0, m) 7 w _ hw hO); (rintro v2 μ4 ⟨⟩ hle4 hv); (dsimp only [List.cons_append, List.nil_append])) | (refine CF 31 ?_; (with_reducible apply aA 1); (iterate 3 exact rfl); ((with_reducible apply cC); kernel_rfl; (iterate 4 exact rfl)); exact rfl; (exact fun w hw hO => eK z 1 4096 rb (s, at2, 1, 7, m) hzl w _ hw (hT.mono (hle1.trans (hle2.trans hle4))) hO); (rintro v2 μ5 ⟨⟩ hle5 rfl); (dsimp only [List.cons_append, List.nil_append])) | refine KI ?_ | fail)
        all_goals first | skip
        exact J1 (_, fT 1 4096 z, at2, 1, okS (aV 1 4096 z).isSome 7 7) ⟨by exact hle4.trans hle5, .inr (by rw [aGi]; exact ⟨(by decide : (7 : Int) ≠ 0), pM (by omega) hc (zL hp)⟩)⟩
      | some zz =>
        rw [hp] at hz hok
        have hz : z = zz := hz
        subst hz
        have hok : ok = true := hok
        subst hok
        repeat' (first | refine KO ?_ | (refine CF 31 ?_; (with_reducible apply aA 1); (iterate 3 exact rfl); ((with_reducible apply cC); kernel_rfl; (iterate 4 exact rfl)); exact rfl; (exact fun w hw hO => eK z 1 4096 rb (s, at2, 1, 0, m) hzl w _ hw (hT.mono (hle1.trans hle2)) hO); (rintro v2 μ5 ⟨⟩ hle5 rfl); (dsimp only [List.cons_append, List.nil_append])) | refine KI ?_ | fail)
        all_goals first | skip
        exact J1 (_, fT 1 4096 z, at2, 1, okS (aV 1 4096 z).isSome 0 7) ⟨hle5, zM (by omega) hc hat hp⟩
  rintro ⟨μ3, vc, at3, ln3, e3⟩ ⟨hle3, hC⟩
  dsimp only at hle3 hC ⊢
  have hleA : MLe μ μ3 := hle1.trans (hle2.trans hle3)
  repeat' (first | refine KK ?_ | fail)
  all_goals first | skip
  rcases hC with ⟨rfl, rfl, x, r, hc, rfl, c, rfl, hcn, hcount⟩ | ⟨hne, hR⟩
  rotate_left
  · refine aX (ι := Unit) (fun _ => True) (fun _ => 0) (fun _ => _) (fun _ => [(9, .int .i64 0), (8, .int .i64 vc), (5, .pointer (some ⟨rb, 0, none⟩)), (2, .pointer (some ⟨bu, 0, none⟩)), (0, (.string (ofB s)))]) (fun _ => [.inl ⟨rb, 55, 5, [(0, .string (ofB s)), (1, .int .i64 at3), (2, .int .i64 ln3), (3, .int .i64 e3), (4, .map (some m))]⟩, .inl ⟨bu, 27, 1, idx 0 [.slice none 0 0]⟩]) () trivial (fun a w hs => J5 hs) ?_
    intro _ _
    repeat' (first | refine KK ?_ | (refine KB ?_ ?_ <;> intro hp) | refine KG ?_ | fail)
    all_goals first | skip
    all_goals refine aN 12 _ (by kernel_rfl) rfl (List.Sublist.cons_cons _ (List.Sublist.cons _ (List.nil_sublist _))) ?_
              all_goals refine DD 0 ?_
              all_goals refine DD 1 ?_
              all_goals refine DD 2 ?_
              all_goals refine DD 3 ?_
              all_goals refine DD 4 ?_
              all_goals refine DD 5 ?_
              all_goals refine DD 6 ?_
              all_goals refine DD 7 ?_
              all_goals refine DD 8 ?_
              all_goals ((refine D3 9 ?_; refine D5 ?_; refine Y0 ?_; refine D9 ?_))
              all_goals refine DD 10 ?_
              all_goals refine DD 11 ?_
              all_goals refine D8 ?_
    all_goals repeat' (first | refine KK ?_ | fail)
    all_goals exact mC (Post := lX (Iq.eY aP (Iq.bV aH) s)) rfl (aE (RG (vs := [.slice none 0 0]) 1 rfl rfl rfl rfl rfl) (aE (aB rfl) (aE (aB rfl) aJ))) rfl (fun μ' _ _ => iJ hR hne)
  have hcl := cS hc
  have hr : s.drop (x.length + 1) = r := by
    have h1 := (cS hc).1
    have h2 := congrArg (List.drop (x.length + 1)) h1
    rw [h2]
    simp
  obtain ⟨g, hg⟩ : ∃ g, g = 2 * s.length + 4 := ⟨_, rfl⟩
  refine aX (ι := Nat × List (F × Value) × Mem × Value × Int × Int × Int) (FnJ g c 1 r s μ3) (fun i => c + 1 - i.1) (fun i => i.2.2.1) (fun i => [(9, .int .i64 (i.1 : Int)), (8, .int .i64 (c : Int)), (5, .pointer (some ⟨rb, 0, none⟩)), (2, .pointer (some ⟨bu, 0, none⟩)), (0, (.string (ofB s)))]) (fun i => [.inl ⟨rb, 55, 5, [(0, .string (ofB s)), (1, .int .i64 i.2.2.2.2.1), (2, .int .i64 i.2.2.2.2.2.1), (3, .int .i64 i.2.2.2.2.2.2), (4, .map (some m))]⟩, .inr ⟨i.2.2.2.1, 44, 10, i.2.1.length, i.2.1.flatMap sU⟩, .inl ⟨bu, 27, 1, idx 0 [i.2.2.2.1]⟩]) (0, [], μ3, .slice none 0 0, ((x.length + 1 : Nat) : Int), 1, 0)
    ⟨Nat.zero_le _, rfl, MLe.refl _, (by simp), .inl ⟨rfl, x.length + 1, rfl, by omega, ⟨by dsimp only; omega, by dsimp only; omega⟩, fun p hp => (by cases hp), fun p hp => (by cases hp), by rw [hr]; exact (JB _).symm⟩⟩ (fun a w hs => (hs.rE 44 10).sel PU PS) ?_
  rintro ⟨j, ps, μ9, v9, at9, ln9, e9⟩ ⟨hj, hpl, hle9, hone, hcase⟩
  dsimp only at hj hpl hle9 hone hcase ⊢
  refine nB 1 rfl ?_
  rintro A1 c1 rfl hok1
  have hleB : MLe μ μ9 := hleA.trans hle9
  rcases hcase with ⟨he0, a9, ha9, ha, hlb, hkids, hall, hEq⟩ | ⟨hne, hEq⟩
  rotate_left
  · have hR := AU (right := Iq.bV aH) (by omega) hc hcount (by rw [← hg]; exact hEq)
    repeat' (first | refine KK ?_ | (refine KB ?_ ?_ <;> intro hp) | refine KG ?_ | fail)
    all_goals first | skip
    all_goals refine aN 12 _ (by kernel_rfl) rfl (List.Sublist.cons_cons _ (List.Sublist.cons_cons _ (List.Sublist.cons _ (List.nil_sublist _)))) ?_
              all_goals refine DD 0 ?_
              all_goals refine DD 1 ?_
              all_goals refine DD 2 ?_
              all_goals refine DD 3 ?_
              all_goals refine DD 4 ?_
              all_goals refine DD 5 ?_
              all_goals refine DD 6 ?_
              all_goals refine DD 7 ?_
              all_goals refine DD 8 ?_
              all_goals ((refine D3 9 ?_; refine D5 ?_; refine Y0 ?_; refine D9 ?_))
              all_goals refine DD 10 ?_
              all_goals refine DD 11 ?_
              all_goals refine D8 ?_
    all_goals repeat' (first | refine KK ?_ | fail)
    all_goals exact mC (Post := lX (Iq.eY aP (Iq.bV aH) s)) rfl (aE (RG (vs := [.slice none 0 0]) 2 rfl rfl rfl rfl rfl) (aE (aB rfl) (aE (aB rfl) aJ))) rfl (fun μ' _ _ => iJ hR hne)
  subst he0
  subst ha9
  by_cases hlt : j < c
  · have hcj : c - j = (c - j - 1) + 1 := by omega
    rw [hcj] at hEq
    have hfn := AH g rb s (by omega) m a9 ha (by omega) ln9 hlb
    repeat' (first | refine KK ?_ | refine KG ?_ | fail)
    all_goals first | skip
    refine aN 8 _ (by kernel_rfl) rfl (List.Sublist.cons _ (List.Sublist.cons _ (List.Sublist.cons _ (List.nil_sublist _)))) ?_
    all_goals refine DD 0 ?_
    all_goals refine DD 2 ?_
    refine bT 1 3 (by kernel_rfl) ?dr34_1 ?dr34_3
    case' dr34_1 =>
      (((with_reducible apply bJ); (iterate 4 exact rfl); (((with_reducible apply iQ); exact rfl; (repeat first | with_reducible exact bG | with_reducible apply dJ); exact rfl))))
      all_goals ((refine D3 3 ?_; refine D5 ?_; (with_reducible apply aA 1); (iterate 3 exact rfl); ((with_reducible apply dV); kernel_rfl; exact rfl); exact rfl; (exact fun w5 hw5 hO5 => hfn w5 _ hw5 (hmq.mono hleB) (hT.mono hleB) (hnm.mono ((hle2.trans hle3).trans hle9)) hO5); (rintro v5 μ5 ⟨a5, l5, e5⟩ hle5 hp5); (obtain ⟨f5, u5, rfl, ho5, hc5⟩ := qB hp5); (dsimp only [List.cons_append, List.nil_append]); refine D9 ?_))
      all_goals ((refine D3 4 ?_; refine D5 ?_; refine NB fun b => ?_; refine D9 ?_))
      all_goals ((refine D3 5 ?_; refine D5 ?_; (((with_reducible apply lI); (iterate 3 exact rfl); (repeat first | with_reducible exact cF | with_reducible apply cQ); (iterate 6 exact rfl); (((with_reducible apply eZ); exact rfl; (repeat with_reducible exact bG); exact rfl)); (exact rfl); ((exact dP (by (repeat first | with_reducible exact bH | ((with_reducible apply aU); (first | exact rfl | assumption)))))); omega; omega; intro v)); refine D9 ?_))
      all_goals refine DD 6 ?_
      all_goals ((refine D3 7 ?_; refine D5 ?_; (((with_reducible apply iA 2); exact rfl; rintro A4 c4 rfl hok4; (with_reducible apply sN); exact rfl; exact rfl; (repeat first | with_reducible exact bH | ((with_reducible apply aU); (exact rfl))); (repeat first | with_reducible apply iD | with_reducible apply iC); exact rfl; (repeat first | with_reducible exact iE | with_reducible apply fK))); refine D9 ?_))
      all_goals refine D8 ?_
    case' dr34_3 =>
      ((refine D5 ?_; (with_reducible apply aA 1); (iterate 3 exact rfl); ((with_reducible apply dV); kernel_rfl; exact rfl); exact rfl; (exact fun w5 hw5 hO5 => hfn w5 _ hw5 (hmq.mono hleB) (hT.mono hleB) (hnm.mono ((hle2.trans hle3).trans hle9)) hO5); (rintro v5 μ5 ⟨a5, l5, e5⟩ hle5 hp5); (obtain ⟨f5, u5, rfl, ho5, hc5⟩ := qB hp5); (dsimp only [List.cons_append, List.nil_append]); refine D9 ?_))
      refine bT 1 4 (by kernel_rfl) ?dr35_1 ?dr35_4
      case' dr35_1 =>
        (((with_reducible apply bJ); (iterate 4 exact rfl); (((with_reducible apply iQ); exact rfl; (repeat first | with_reducible exact bG | with_reducible apply dJ); exact rfl))))
        all_goals ((refine D3 4 ?_; refine D5 ?_; refine NB fun b => ?_; refine D9 ?_))
        all_goals ((refine D3 5 ?_; refine D5 ?_; (((with_reducible apply lI); (iterate 3 exact rfl); (repeat first | with_reducible exact cF | with_reducible apply cQ); (iterate 6 exact rfl); (((with_reducible apply eZ); exact rfl; (repeat with_reducible exact bG); exact rfl)); (exact rfl); ((exact dP (by (repeat first | with_reducible exact bH | ((with_reducible apply aU); (first | exact rfl | assumption)))))); omega; omega; intro v)); refine D9 ?_))
        all_goals refine DD 6 ?_
        all_goals ((refine D3 7 ?_; refine D5 ?_; (((with_reducible apply iA 2); exact rfl; rintro A4 c4 rfl hok4; (with_reducible apply sN); exact rfl; exact rfl; (repeat first | with_reducible exact bH | ((with_reducible apply aU); (exact rfl))); (repeat first | with_reducible apply iD | with_reducible apply iC); exact rfl; (repeat first | with_reducible exact iE | with_reducible apply fK))); refine D9 ?_))
        all_goals refine D8 ?_
      case' dr35_4 =>
        ((refine D5 ?_; refine NB fun b => ?_; refine D9 ?_))
        all_goals ((refine D3 1 ?_; (with_reducible apply bJ); (iterate 4 exact rfl); (((with_reducible apply iQ); exact rfl; (repeat first | with_reducible exact bG | with_reducible apply dJ); exact rfl))))
        all_goals ((refine D3 5 ?_; refine D5 ?_; (((with_reducible apply lI); (iterate 3 exact rfl); (repeat first | with_reducible exact cF | with_reducible apply cQ); (iterate 6 exact rfl); (((with_reducible apply eZ); exact rfl; (repeat with_reducible exact bG); exact rfl)); (exact rfl); ((exact dP (by (repeat first | with_reducible exact bH | ((with_reducible apply aU); (first | exact rfl | assumption)))))); omega; omega; intro v)); refine D9 ?_))
        all_goals refine DD 6 ?_
        all_goals ((refine D3 7 ?_; refine D5 ?_; (((with_reducible apply iA 2); exact rfl; rintro A4 c4 rfl hok4; (with_reducible apply sN); exact rfl; exact rfl; (repeat first | with_reducible exact bH | ((with_reducible apply aU); (exact rfl))); (repeat first | with_reducible apply iD | with_reducible apply iC); exact rfl; (repeat first | with_reducible exact iE | with_reducible apply fK))); refine D9 ?_))
        all_goals refine D8 ?_
    all_goals repeat' (first | refine KK ?_ | fail)
    all_goals refine dQ (n' := (ps ++ [(f5, u5)]).length) (xs' := (ps ++ [(f5, u5)]).flatMap sU) 2 rfl (by simp) (by simp) ?_
    all_goals refine J2 (j + 1, ps ++ [(f5, u5)], μ5, .slice A4 (ps.length + 1) c4, a5, l5, e5) ?_ (by dsimp only; omega)
    all_goals exact LI hlt hpl hle9 hone hkids hall hEq hle5 ho5 hc5
  obtain rfl : j = c := by omega
  rw [Nat.sub_self, zA] at hEq
  rw [hg] at hEq
  obtain ⟨hcl2, hszs⟩ := zC hEq (by omega)
  refine nS rfl ?_
  intro μ10 hle10 hsh
  have hFs : Fs μ10 A1 ps.length ps := LG (by omega) hkids hszs hle10 hsh
  have hend := AV (right := Iq.bV aH) (by omega) hc hcount hEq
  by_cases hat : a9 < s.length
  · have hR : Iq.eY aP (Iq.bV aH) s = .error (ln9 + 1, 7) := by
      rw [hend]
      exact if_neg (fun h => by have := congrArg List.length h; rw [List.length_drop, List.length_nil] at this; omega)
    repeat' (first | ((with_reducible show GC _ _ (Code.region 16 _ _) _ _ _ _); (apply aY)) | refine KK ?_ | refine KG ?_ | fail)
    all_goals first | skip
    refine gcs ?_
    refine bY (l' := [(5, .pointer (some ⟨rb, 0, none⟩)), (2, .pointer (some ⟨bu, 0, none⟩)), (0, (.string (ofB s)))]) (L' := [.inl ⟨rb, 55, 5, [(0, .string (ofB s)), (1, .int .i64 (a9 : Int)), (2, .int .i64 (ln9 + 1)), (3, .int .i64 0), (4, .map (some m))]⟩, .inl ⟨bu, 27, 1, idx 0 [.slice A1 ps.length c1]⟩]) PU PS ?_
    repeat' (first | refine KO ?_ | (refine CF 30 ?_; (with_reducible apply aA 1); (iterate 3 exact rfl); ((with_reducible apply aL); kernel_rfl; exact rfl; exact rfl); exact rfl; (exact fun w hw hO => dA rb (s, (a9 : Int), ln9 + 1, 0, m) 7 w _ hw hO); (rintro v2 μ4 ⟨⟩ hle4 hv); (dsimp only [List.cons_append, List.nil_append])) | refine KI ?_ | fail)
    all_goals first | skip
    all_goals refine aN 12 _ (by kernel_rfl) rfl (List.Sublist.cons_cons _ (List.Sublist.cons _ (List.nil_sublist _))) ?_
              all_goals refine DD 0 ?_
              all_goals refine DD 1 ?_
              all_goals refine DD 2 ?_
              all_goals refine DD 3 ?_
              all_goals refine DD 4 ?_
              all_goals refine DD 5 ?_
              all_goals refine DD 6 ?_
              all_goals refine DD 7 ?_
              all_goals refine DD 8 ?_
              all_goals ((refine D3 9 ?_; refine D5 ?_; refine Y0 ?_; refine D9 ?_))
              all_goals refine DD 10 ?_
              all_goals refine DD 11 ?_
              all_goals refine D8 ?_
    all_goals repeat' (first | refine KK ?_ | fail)
    all_goals exact mC (Post := lX (Iq.eY aP (Iq.bV aH) s)) rfl (aE (RG (vs := [.slice none 0 0]) 1 rfl rfl rfl rfl rfl) (aE (aB rfl) (aE (aB rfl) aJ))) rfl (fun μ' _ _ => iJ hR (by decide))
  have hd : s.drop a9 = [] := List.drop_eq_nil_of_le (by omega)
  rw [if_pos hd] at hend
  have hrt := fun (w : World) (μc : Mem) (hw : MOk μc w) (hle : MLe μ10 μc) => IY ps A1 c1 ps.length w μc hw (hFs.mono hle) (hmq.mono (hleB.trans (hle10.trans hle))) hall
  generalize Iq.bV aH (ps.map fun p => fnP p.1) = bR at hrt hend
  cases bR
  · rw [if_neg (by simp)] at hend
    repeat' (first | refine KO ?_ | ((with_reducible apply F1 19); exact rfl; exact EN; exact fun w μc hw hse => hrt w μc hw hse.le) | refine KI ?_ | refine KG ?_ | fail)
    all_goals first | skip
    all_goals exact mC (Post := lX (Iq.eY aP (Iq.bV aH) s)) rfl (aE (RG (vs := [.slice none 0 0]) 1 rfl rfl rfl rfl rfl) (aE (aB rfl) (aE (aB rfl) aJ))) rfl (fun μ' _ _ => iJ hend (by decide))
  · rw [if_pos rfl] at hend
    repeat' (first | refine KO ?_ | ((with_reducible apply F1 19); exact rfl; exact EN; exact fun w μc hw hse => hrt w μc hw hse.le) | refine KI ?_ | refine KG ?_ | fail)
    all_goals first | skip
    all_goals exact mC (Post := lX (Iq.eY aP (Iq.bV aH) s)) rfl (aE (RG (vs := [.slice A1 ps.length c1]) 1 rfl rfl rfl rfl rfl) (aE (aB rfl) (aE (aB rfl) aJ))) rfl (fun μ' hle' _ => IL hend (hFs.mono hle') hall)
end
section
open Go.RowKit Go.Vcg Ou
theorem EA : Fr 32 ([117, 110, 105, 116] : List UInt8) := by unfold Fr; decide +kernel
def aFu (s : List UInt8) (w0 z : List UInt8) (at2 ln2 e2 : Int) : Prop :=
  (ln2 = 1 ∧ e2 = 8 ∧ Ou.aO 10 s = none) ∨ (ln2 = 1 ∧ e2 = 0 ∧ ∃ l r, Ou.aO 10 s = some (l, r) ∧ at2 = ((l.length + 1 : Nat) : Int) ∧ cY l = (w0, z))
theorem QM {s x r z : List UInt8} {at2 : Int} (hs : s.length ≤ 1000000) (hc : Ou.aO 10 s = some (x, r)) (hat : at2 = ((x.length + 1 : Nat) : Int)) (hcut : cY x = ([117, 110, 105, 116], z)) : zV s (fT 1 4096 z) at2 1 (okS (aV 1 4096 z).isSome 0 7) := by
  cases h : Ou.aO 32 x with
  | some p =>
    obtain ⟨a, b⟩ := p
    rw [dL h] at hcut
    cases hcut
    exact zM hs hc hat (YZ EA h)
  | none =>
    rw [fR h] at hcut
    cases hcut
    have hn : aV 1 4096 [] = none := by unfold aV; rw [mV]
    rw [hn]
    exact .inr ⟨(by decide : (7 : Int) ≠ 0), pM hs hc (zL (SM (p := [117, 110, 105, 116]) EA (fun r e => by rw [h] at e; cases e)))⟩
theorem WZ {s x r w0 z : List UInt8} {at2 : Int} (hs : s.length ≤ 1000000) (hc : Ou.aO 10 s = some (x, r)) (hcut : cY x = (w0, z)) (hw : w0 ≠ [117, 110, 105, 116]) (vc : Int) (b : Bool) : zV s vc at2 1 (okS b 7 7) := by
  rw [JL]
  refine .inr ⟨(by decide : (7 : Int) ≠ 0), pM hs hc (zL (SM (p := [117, 110, 105, 116]) EA (fun r e => ?_)))⟩
  rw [dL e] at hcut
  cases hcut
  exact hw rfl
attribute [local irreducible] nmL Iq.lE Iq.eY Iq.bV Iq.eE Iq.bI Iq.gH Iq.pre cY aH G GC GQ GA bO Calls IntKind.wrap Int.decLt Int.decLe
theorem VC (s : List UInt8) (hs : s.length ≤ 700000) (w : World) (μ : Mem) (hμ : MOk μ w) (hmq : fY μ) :
    Calls Tryz.prog 14 #[.string (ofB s)] w fun e w' => ∃ v μ', e = .returned v ∧ Grow w w' μ μ' ∧ lX (Iq.eY aP (Iq.bV aH) s) μ' v := by
  have hsz := bF s
  refine aC (args := [.string (ofB s)]) Tryz.func14 rfl Tryz.ntmps14 (by simp) hμ ?_
  repeat' (first | ((with_reducible show GC _ _ (Code.seq (Code.seq (Code.region 1 _ _) _) _) _ _ _ _); (apply aY)) | refine KK ?_ | refine NB fun b => ?_ | fail)
  obtain ⟨bz, hbz⟩ : ∃ x, x = b := ⟨_, rfl⟩
  rw [← hbz]
  clear hbz
  refine gcs (bY (l' := [(2, .pointer (some ⟨bz, 0, none⟩)), (0, (.string (ofB s)))]) (L' := [.inl ⟨bz, 27, 1, []⟩]) PU PS ?_)
  repeat' (first | ((with_reducible show GC _ _ (Code.seq (Code.region 4 _ _) _) _ _ _ _); (apply aY)) | refine KK ?_ | refine NB fun b => ?_ | fail)
  all_goals first | skip
  obtain ⟨rb, hrb⟩ : ∃ x, x = b := ⟨_, rfl⟩
  rw [← hrb]
  clear hrb
  refine gcs (bY (l' := [(5, .pointer (some ⟨rb, 0, none⟩)), (2, .pointer (some ⟨bz, 0, none⟩)), (0, (.string (ofB s)))]) (L' := [.inl ⟨rb, 64, 4, [(0, .string (ofB s)), (1, .int .i64 0), (2, .int .i64 0), (3, .int .i64 0)]⟩, .inl ⟨bz, 27, 1, []⟩]) PU PS ?_)
  repeat' (first | ((with_reducible show GC _ _ (Code.seq (Code.region 5 _ _) _) _ _ _ _); (apply aY)) | refine KK ?_ | refine NB fun b => ?_ | fail)
  all_goals first | skip
  obtain ⟨bu, hbu⟩ : ∃ x, x = b := ⟨_, rfl⟩
  rw [← hbu]
  clear hbu
  refine gcs (bY (l' := [(6, .pointer (some ⟨bu, 0, none⟩)), (5, .pointer (some ⟨rb, 0, none⟩)), (2, .pointer (some ⟨bz, 0, none⟩)), (0, (.string (ofB s)))]) (L' := [.inl ⟨rb, 64, 4, [(0, .string (ofB s)), (1, .int .i64 0), (2, .int .i64 0), (3, .int .i64 0)]⟩, .inl ⟨bu, 27, 1, idx 0 [.slice none 0 0]⟩, .inl ⟨bz, 27, 1, []⟩]) PU PS ?_)
  have hleZ : MLe μ μ := MLe.refl _
  refine cM (ι := Mem × List UInt8 × List UInt8 × Int × Int × Int) (fun i => MLe μ i.1 ∧ i.2.2.1.length ≤ 700000 ∧ aFu s i.2.1 i.2.2.1 i.2.2.2.1 i.2.2.2.2.1 i.2.2.2.2.2) (fun i => i.1) (fun i => [(8, .string (ofB i.2.2.1)), (7, .string (ofB i.2.1)), (6, .pointer (some ⟨bu, 0, none⟩)), (5, .pointer (some ⟨rb, 0, none⟩)), (2, .pointer (some ⟨bz, 0, none⟩)), (0, (.string (ofB s)))]) (fun i => [.inl ⟨rb, 64, 4, [(0, .string (ofB s)), (1, .int .i64 i.2.2.2.1), (2, .int .i64 i.2.2.2.2.1), (3, .int .i64 i.2.2.2.2.2)]⟩, .inl ⟨bu, 27, 1, idx 0 [.slice none 0 0]⟩, .inl ⟨bz, 27, 1, []⟩]) ?_ ?_
  · cases hc : Ou.aO 10 s with
    | none =>
      repeat' (first | refine KO ?_ | (refine CF 33 ?_; (with_reducible apply aA 1); (iterate 3 exact rfl); ((with_reducible apply dV); kernel_rfl; exact rfl); exact rfl; (exact fun w hw hO => xD rb s 0 0 0 hc (by omega) (by omega) (by omega) w _ hw hO); (rintro v2 μ2 ⟨⟩ hle2 rfl); (have hleZ := MLe.trans hleZ hle2); (dsimp only [List.cons_append, List.nil_append])) | ((with_reducible apply F1 25); exact rfl; exact EN; exact fun w μc hw hse => jR [] (by decide) w μc hw) | fail)
      all_goals first | skip
      exact J1 (_, (cY []).1, (cY []).2, 0, 1, 8) ⟨hleZ, by have := (iZ []).2; exact Nat.le_trans this (by decide), .inl ⟨rfl, rfl, hc⟩⟩
    | some p =>
      obtain ⟨x, r⟩ := p
      have hxl := (cS hc).2
      repeat' (first | refine KO ?_ | (refine CF 33 ?_; (with_reducible apply aA 1); (iterate 3 exact rfl); ((with_reducible apply dV); kernel_rfl; exact rfl); exact rfl; (exact fun w hw hO => xC rb s 0 0 0 hc (by omega) (by omega) (by omega) w _ hw hO); (rintro v2 μ2 ⟨⟩ hle2 rfl); (have hleZ := MLe.trans hleZ hle2); (dsimp only [List.cons_append, List.nil_append])) | ((with_reducible apply F1 25); exact rfl; exact EN; exact fun w μc hw hse => jR x (by omega) w μc hw) | fail)
      all_goals first | skip
      exact J1 (_, (cY x).1, (cY x).2, ((0 + x.length + 1 : Nat) : Int), 1, 0) ⟨hleZ, by have := (iZ x).2; dsimp only; omega, .inr ⟨rfl, rfl, x, r, hc, by simp, rfl⟩⟩
  rintro ⟨μ2, w0, z, at2, ln2, e2⟩ ⟨hleZ, hzl0, hF⟩
  dsimp only at hleZ hzl0 hF ⊢
  have hzl : z.length ≤ 1000000 := by omega
  repeat' (first | ((with_reducible show GC _ _ (Code.seq (Code.seq (Code.region 7 _ _) _) _) _ _ _ _); (apply aY)) | refine KK ?_ | fail)
  all_goals first | skip
  refine gcs ?_
  refine cM (ι := Mem × Int × Int × Int × Int) (fun i => MLe μ i.1 ∧ zV s i.2.1 i.2.2.1 i.2.2.2.1 i.2.2.2.2) (fun i => i.1) (fun i => [(9, .int .i64 i.2.1), (6, .pointer (some ⟨bu, 0, none⟩)), (5, .pointer (some ⟨rb, 0, none⟩)), (2, .pointer (some ⟨bz, 0, none⟩)), (0, (.string (ofB s)))]) (fun i => [.inl ⟨rb, 64, 4, [(0, .string (ofB s)), (1, .int .i64 i.2.2.1), (2, .int .i64 i.2.2.2.1), (3, .int .i64 i.2.2.2.2)]⟩, .inl ⟨bu, 27, 1, idx 0 [.slice none 0 0]⟩, .inl ⟨bz, 27, 1, []⟩]) ?_ ?_
  · rcases hF with ⟨rfl, rfl, hc⟩ | ⟨rfl, rfl, x, r, hc, hat, hcut⟩
    · repeat' (first | refine KK ?_ | fail)
      all_goals first | skip
      exact J1 (_, 0, at2, 1, 8) ⟨hleZ, .inr ⟨(by decide : (8 : Int) ≠ 0), wA (by omega) hc⟩⟩
    · by_cases hw0 : w0 = [117, 110, 105, 116]
      · have hw1 : ofB w0 = ⟨#[117, 110, 105, 116]⟩ := by rw [hw0]; rfl
        rw [hw0] at hcut
        repeat' (first | refine KO ?_ | (refine CF 35 ?_; (with_reducible apply aA 1); (iterate 3 exact rfl); ((with_reducible apply cC); kernel_rfl; (iterate 4 exact rfl)); exact rfl; (exact fun w hw hO => jY z 1 4096 rb (s, at2, 1, 0) hzl w _ hw hO); (rintro v2 μ2 ⟨⟩ hle2 rfl); (have hleZ := MLe.trans hleZ hle2); (dsimp only [List.cons_append, List.nil_append])) | refine KI ?_ | (refine KB ?_ ?_ <;> intro hp) | fail)
        all_goals first | (exfalso; contradiction) | skip
        all_goals exact J1 (_, fT 1 4096 z, at2, 1, okS (aV 1 4096 z).isSome 0 7) ⟨hleZ, QM (by omega) hc hat hcut⟩
      · have hw1 : ¬ ofB w0 = ⟨#[117, 110, 105, 116]⟩ := fun h => hw0 (sG (h.trans rfl))
        repeat' (first | refine KO ?_ | (refine CF 34 ?_; (with_reducible apply aA 1); (iterate 3 exact rfl); ((with_reducible apply aL); kernel_rfl; exact rfl; exact rfl); exact rfl; (exact fun w hw hO => eM rb (s, at2, 1, 0) 7 w _ hw hO); (rintro v2 μ2 ⟨⟩ hle2 hv); (have hleZ := MLe.trans hleZ hle2); (dsimp only [List.cons_append, List.nil_append])) | (refine CF 35 ?_; (with_reducible apply aA 1); (iterate 3 exact rfl); ((with_reducible apply cC); kernel_rfl; (iterate 4 exact rfl)); exact rfl; (exact fun w hw hO => jY z 1 4096 rb (s, at2, 1, 7) hzl w _ hw hO); (rintro v2 μ2 ⟨⟩ hle2 rfl); (have hleZ := MLe.trans hleZ hle2); (dsimp only [List.cons_append, List.nil_append])) | refine KI ?_ | fail)
        all_goals first | skip
        all_goals exact J1 (_, fT 1 4096 z, at2, 1, okS (aV 1 4096 z).isSome 7 7) ⟨hleZ, WZ (by omega) hc hcut hw0 _ _⟩
  rintro ⟨μ3, vc, at3, ln3, e3⟩ ⟨hleA, hC⟩
  dsimp only at hleA hC ⊢
  repeat' (first | refine KK ?_ | fail)
  all_goals first | skip
  rcases hC with ⟨rfl, rfl, x, r, hc, rfl, c, rfl, hcn, hcount⟩ | ⟨hne, hR⟩
  rotate_left
  · refine aX (ι := Unit) (fun _ => True) (fun _ => 0) (fun _ => _) (fun _ => [(10, .int .i64 0), (9, .int .i64 vc), (6, .pointer (some ⟨bu, 0, none⟩)), (5, .pointer (some ⟨rb, 0, none⟩)), (2, .pointer (some ⟨bz, 0, none⟩)), (0, (.string (ofB s)))]) (fun _ => [.inl ⟨rb, 64, 4, [(0, .string (ofB s)), (1, .int .i64 at3), (2, .int .i64 ln3), (3, .int .i64 e3)]⟩, .inl ⟨bu, 27, 1, idx 0 [.slice none 0 0]⟩, .inl ⟨bz, 27, 1, []⟩]) () trivial (fun a w hs => J5 hs) ?_
    intro _ _
    repeat' (first | refine KK ?_ | (refine KB ?_ ?_ <;> intro hp) | refine KG ?_ | fail)
    all_goals first | skip
    all_goals refine aN 12 _ (by kernel_rfl) rfl (List.Sublist.cons_cons _ (List.Sublist.cons_cons _ (List.Sublist.cons _ (List.nil_sublist _)))) ?_
              all_goals refine DD 0 ?_
              all_goals refine DD 1 ?_
              all_goals refine DD 2 ?_
              all_goals refine DD 3 ?_
              all_goals refine DD 4 ?_
              all_goals refine DD 5 ?_
              all_goals refine DD 6 ?_
              all_goals refine DD 7 ?_
              all_goals refine DD 8 ?_
              all_goals ((refine D3 9 ?_; refine D5 ?_; refine Y0 ?_; refine D9 ?_))
              all_goals refine DD 10 ?_
              all_goals refine DD 11 ?_
              all_goals refine D8 ?_
    all_goals repeat' (first | refine KK ?_ | fail)
    all_goals exact mC (Post := lX (Iq.eY aP (Iq.bV aH) s)) rfl (aE (RG (vs := [.slice none 0 0]) 2 rfl rfl rfl rfl rfl) (aE (aB rfl) (aE (aB rfl) aJ))) rfl (fun μ' _ _ => iJ hR hne)
  have hcl := cS hc
  have hr : s.drop (x.length + 1) = r := by
    have h1 := (cS hc).1
    have h2 := congrArg (List.drop (x.length + 1)) h1
    rw [h2]
    simp
  obtain ⟨g, hg⟩ : ∃ g, g = 2 * s.length + 4 := ⟨_, rfl⟩
  refine aX (ι := Nat × List (F × Value) × Mem × Value × Int × Int × Int) (FnJ g c 1 r s μ3) (fun i => c + 1 - i.1) (fun i => i.2.2.1) (fun i => [(10, .int .i64 (i.1 : Int)), (9, .int .i64 (c : Int)), (6, .pointer (some ⟨bu, 0, none⟩)), (5, .pointer (some ⟨rb, 0, none⟩)), (2, .pointer (some ⟨bz, 0, none⟩)), (0, (.string (ofB s)))]) (fun i => [.inl ⟨rb, 64, 4, [(0, .string (ofB s)), (1, .int .i64 i.2.2.2.2.1), (2, .int .i64 i.2.2.2.2.2.1), (3, .int .i64 i.2.2.2.2.2.2)]⟩, .inr ⟨i.2.2.2.1, 44, 10, i.2.1.length, i.2.1.flatMap sU⟩, .inl ⟨bu, 27, 1, idx 0 [i.2.2.2.1]⟩, .inl ⟨bz, 27, 1, []⟩]) (0, [], μ3, .slice none 0 0, ((x.length + 1 : Nat) : Int), 1, 0)
    ⟨Nat.zero_le _, rfl, MLe.refl _, (by simp), .inl ⟨rfl, x.length + 1, rfl, by omega, ⟨by dsimp only; omega, by dsimp only; omega⟩, fun p hp => (by cases hp), fun p hp => (by cases hp), by rw [hr]; exact (JB _).symm⟩⟩ (fun a w hs => (hs.rE 44 10).sel PU PS) ?_
  rintro ⟨j, ps, μ9, v9, at9, ln9, e9⟩ ⟨hj, hpl, hle9, hone, hcase⟩
  dsimp only at hj hpl hle9 hone hcase ⊢
  refine nB 1 rfl ?_
  rintro A1 c1 rfl hok1
  have hleB : MLe μ μ9 := hleA.trans hle9
  rcases hcase with ⟨he0, a9, ha9, ha, hlb, hkids, hall, hEq⟩ | ⟨hne, hEq⟩
  rotate_left
  · have hR := AU (right := Iq.bV aH) (by omega) hc hcount (by rw [← hg]; exact hEq)
    repeat' (first | refine KK ?_ | (refine KB ?_ ?_ <;> intro hp) | refine KG ?_ | fail)
    all_goals first | skip
    all_goals refine aN 12 _ (by kernel_rfl) rfl (List.Sublist.cons_cons _ (List.Sublist.cons_cons _ (List.Sublist.cons_cons _ (List.Sublist.cons _ (List.nil_sublist _))))) ?_
              all_goals refine DD 0 ?_
              all_goals refine DD 1 ?_
              all_goals refine DD 2 ?_
              all_goals refine DD 3 ?_
              all_goals refine DD 4 ?_
              all_goals refine DD 5 ?_
              all_goals refine DD 6 ?_
              all_goals refine DD 7 ?_
              all_goals refine DD 8 ?_
              all_goals ((refine D3 9 ?_; refine D5 ?_; refine Y0 ?_; refine D9 ?_))
              all_goals refine DD 10 ?_
              all_goals refine DD 11 ?_
              all_goals refine D8 ?_
    all_goals repeat' (first | refine KK ?_ | fail)
    all_goals exact mC (Post := lX (Iq.eY aP (Iq.bV aH) s)) rfl (aE (RG (vs := [.slice none 0 0]) 3 rfl rfl rfl rfl rfl) (aE (aB rfl) (aE (aB rfl) aJ))) rfl (fun μ' _ _ => iJ hR hne)
  subst he0
  subst ha9
  by_cases hlt : j < c
  · have hcj : c - j = (c - j - 1) + 1 := by omega
    rw [hcj] at hEq
    have hfn := YR g rb s (by omega) a9 ha (by omega) ln9 hlb
    repeat' (first | refine KK ?_ | refine KG ?_ | fail)
    all_goals first | skip
    refine aN 8 _ (by kernel_rfl) rfl (List.Sublist.cons _ (List.Sublist.cons _ (List.Sublist.cons _ (List.Sublist.cons_cons _ (List.nil_sublist _))))) ?_
    all_goals refine DD 0 ?_
    all_goals refine DD 2 ?_
    refine bT 1 3 (by kernel_rfl) ?dr36_1 ?dr36_3
    case' dr36_1 =>
      (((with_reducible apply bJ); (iterate 4 exact rfl); (((with_reducible apply iQ); exact rfl; (repeat first | with_reducible exact bG | with_reducible apply dJ); exact rfl))))
      all_goals ((refine D3 3 ?_; refine D5 ?_; (with_reducible apply aA 1); (iterate 3 exact rfl); ((with_reducible apply dV); kernel_rfl; exact rfl); exact rfl; (exact fun w5 hw5 hO5 => hfn w5 _ hw5 (hmq.mono hleB) hO5); (rintro v5 μ5 ⟨a5, l5, e5⟩ hle5 hp5); (obtain ⟨f5, u5, rfl, ho5, hc5⟩ := qB hp5); (dsimp only [List.cons_append, List.nil_append]); refine D9 ?_))
      all_goals ((refine D3 4 ?_; refine D5 ?_; refine NB fun b => ?_; refine D9 ?_))
      all_goals ((refine D3 5 ?_; refine D5 ?_; (((with_reducible apply lI); (iterate 3 exact rfl); (repeat first | with_reducible exact cF | with_reducible apply cQ); (iterate 6 exact rfl); (((with_reducible apply eZ); exact rfl; (repeat with_reducible exact bG); exact rfl)); (exact rfl); ((exact dP (by (repeat first | with_reducible exact bH | ((with_reducible apply aU); (first | exact rfl | assumption)))))); omega; omega; intro v)); refine D9 ?_))
      all_goals refine DD 6 ?_
      all_goals ((refine D3 7 ?_; refine D5 ?_; (((with_reducible apply iA 2); exact rfl; rintro A4 c4 rfl hok4; (with_reducible apply sN); exact rfl; exact rfl; (repeat first | with_reducible exact bH | ((with_reducible apply aU); (exact rfl))); (repeat first | with_reducible apply iD | with_reducible apply iC); exact rfl; (repeat first | with_reducible exact iE | with_reducible apply fK))); refine D9 ?_))
      all_goals refine D8 ?_
    case' dr36_3 =>
      ((refine D5 ?_; (with_reducible apply aA 1); (iterate 3 exact rfl); ((with_reducible apply dV); kernel_rfl; exact rfl); exact rfl; (exact fun w5 hw5 hO5 => hfn w5 _ hw5 (hmq.mono hleB) hO5); (rintro v5 μ5 ⟨a5, l5, e5⟩ hle5 hp5); (obtain ⟨f5, u5, rfl, ho5, hc5⟩ := qB hp5); (dsimp only [List.cons_append, List.nil_append]); refine D9 ?_))
      refine bT 1 4 (by kernel_rfl) ?dr37_1 ?dr37_4
      case' dr37_1 =>
        (((with_reducible apply bJ); (iterate 4 exact rfl); (((with_reducible apply iQ); exact rfl; (repeat first | with_reducible exact bG | with_reducible apply dJ); exact rfl))))
        all_goals ((refine D3 4 ?_; refine D5 ?_; refine NB fun b => ?_; refine D9 ?_))
        all_goals ((refine D3 5 ?_; refine D5 ?_; (((with_reducible apply lI); (iterate 3 exact rfl); (repeat first | with_reducible exact cF | with_reducible apply cQ); (iterate 6 exact rfl); (((with_reducible apply eZ); exact rfl; (repeat with_reducible exact bG); exact rfl)); (exact rfl); ((exact dP (by (repeat first | with_reducible exact bH | ((with_reducible apply aU); (first | exact rfl | assumption)))))); omega; omega; intro v)); refine D9 ?_))
        all_goals refine DD 6 ?_
        all_goals ((refine D3 7 ?_; refine D5 ?_; (((with_reducible apply iA 2); exact rfl; rintro A4 c4 rfl hok4; (with_reducible apply sN); exact rfl; exact rfl; (repeat first | with_reducible exact bH | ((with_reducible apply aU); (exact rfl))); (repeat first | with_reducible apply iD | with_reducible apply iC); exact rfl; (repeat first | with_reducible exact iE | with_reducible apply fK))); refine D9 ?_))
        all_goals refine D8 ?_
      case' dr37_4 =>
        ((refine D5 ?_; refine NB fun b => ?_; refine D9 ?_))
        all_goals ((refine D3 1 ?_; (with_reducible apply bJ); (iterate 4 exact rfl); (((with_reducible apply iQ); exact rfl; (repeat first | with_reducible exact bG | with_reducible apply dJ); exact rfl))))
        all_goals ((refine D3 5 ?_; refine D5 ?_; (((with_reducible apply lI); (iterate 3 exact rfl); (repeat first | with_reducible exact cF | with_reducible apply cQ); (iterate 6 exact rfl); (((with_reducible apply eZ); exact rfl; (repeat with_reducible exact bG); exact rfl)); (exact rfl); ((exact dP (by (repeat first | with_reducible exact bH | ((with_reducible apply aU); (first | exact rfl | assumption)))))); omega; omega; intro v)); refine D9 ?_))
        all_goals refine DD 6 ?_
        all_goals ((refine D3 7 ?_; refine D5 ?_; (((with_reducible apply iA 2); exact rfl; rintro A4 c4 rfl hok4; (with_reducible apply sN); exact rfl; exact rfl; (repeat first | with_reducible exact bH | ((with_reducible apply aU); (exact rfl))); (repeat first | with_reducible apply iD | with_reducible apply iC); exact rfl; (repeat first | with_reducible exact iE | with_reducible apply fK))); refine D9 ?_))
        all_goals refine D8 ?_
    all_goals repeat' (first | refine KK ?_ | fail)
    all_goals refine dQ (n' := (ps ++ [(f5, u5)]).length) (xs' := (ps ++ [(f5, u5)]).flatMap sU) 2 rfl (by simp) (by simp) ?_
    all_goals refine J2 (j + 1, ps ++ [(f5, u5)], μ5, .slice A4 (ps.length + 1) c4, a5, l5, e5) ?_ (by dsimp only; omega)
    all_goals exact LI hlt hpl hle9 hone hkids hall hEq hle5 ho5 hc5
  obtain rfl : j = c := by omega
  rw [Nat.sub_self, zA] at hEq
  rw [hg] at hEq
  obtain ⟨hcl2, hszs⟩ := zC hEq (by omega)
  refine nS rfl ?_
  intro μ10 hle10 hsh
  have hFs : Fs μ10 A1 ps.length ps := LG (by omega) hkids hszs hle10 hsh
  have hend := AV (right := Iq.bV aH) (by omega) hc hcount hEq
  by_cases hat : a9 < s.length
  · have hR : Iq.eY aP (Iq.bV aH) s = .error (ln9 + 1, 7) := by
      rw [hend]
      exact if_neg (fun h => by have := congrArg List.length h; rw [List.length_drop, List.length_nil] at this; omega)
    repeat' (first | ((with_reducible show GC _ _ (Code.region 17 _ _) _ _ _ _); (apply aY)) | refine KK ?_ | refine KG ?_ | fail)
    all_goals first | skip
    refine gcs ?_
    refine bY (l' := [(6, .pointer (some ⟨bu, 0, none⟩)), (5, .pointer (some ⟨rb, 0, none⟩)), (2, .pointer (some ⟨bz, 0, none⟩)), (0, (.string (ofB s)))]) (L' := [.inl ⟨rb, 64, 4, [(0, .string (ofB s)), (1, .int .i64 (a9 : Int)), (2, .int .i64 (ln9 + 1)), (3, .int .i64 0)]⟩, .inl ⟨bu, 27, 1, idx 0 [.slice A1 ps.length c1]⟩, .inl ⟨bz, 27, 1, []⟩]) PU PS ?_
    repeat' (first | refine KO ?_ | (refine CF 34 ?_; (with_reducible apply aA 1); (iterate 3 exact rfl); ((with_reducible apply aL); kernel_rfl; exact rfl; exact rfl); exact rfl; (exact fun w hw hO => eM rb (s, (a9 : Int), ln9 + 1, 0) 7 w _ hw hO); (rintro v2 μ4 ⟨⟩ hle4 hv); (dsimp only [List.cons_append, List.nil_append])) | refine KI ?_ | fail)
    all_goals first | skip
    all_goals refine aN 12 _ (by kernel_rfl) rfl (List.Sublist.cons_cons _ (List.Sublist.cons_cons _ (List.Sublist.cons _ (List.nil_sublist _)))) ?_
              all_goals refine DD 0 ?_
              all_goals refine DD 1 ?_
              all_goals refine DD 2 ?_
              all_goals refine DD 3 ?_
              all_goals refine DD 4 ?_
              all_goals refine DD 5 ?_
              all_goals refine DD 6 ?_
              all_goals refine DD 7 ?_
              all_goals refine DD 8 ?_
              all_goals ((refine D3 9 ?_; refine D5 ?_; refine Y0 ?_; refine D9 ?_))
              all_goals refine DD 10 ?_
              all_goals refine DD 11 ?_
              all_goals refine D8 ?_
    all_goals repeat' (first | refine KK ?_ | fail)
    all_goals exact mC (Post := lX (Iq.eY aP (Iq.bV aH) s)) rfl (aE (RG (vs := [.slice none 0 0]) 2 rfl rfl rfl rfl rfl) (aE (aB rfl) (aE (aB rfl) aJ))) rfl (fun μ' _ _ => iJ hR (by decide))
  have hd : s.drop a9 = [] := List.drop_eq_nil_of_le (by omega)
  rw [if_pos hd] at hend
  have hrt := fun (w : World) (μc : Mem) (hw : MOk μc w) (hle : MLe μ10 μc) => IA ps A1 c1 ps.length w μc hw (hFs.mono hle) (hmq.mono (hleB.trans (hle10.trans hle))) hall
  generalize Iq.bV aH (ps.map fun p => fnP p.1) = bR at hrt hend
  cases bR
  · rw [if_neg (by simp)] at hend
    repeat' (first | refine KO ?_ | ((with_reducible apply F1 20); exact rfl; exact EN; exact fun w μc hw hse => hrt w μc hw hse.le) | refine KI ?_ | refine KG ?_ | fail)
    all_goals first | skip
    all_goals exact mC (Post := lX (Iq.eY aP (Iq.bV aH) s)) rfl (aE (RG (vs := [.slice none 0 0]) 2 rfl rfl rfl rfl rfl) (aE (aB rfl) (aE (aB rfl) aJ))) rfl (fun μ' _ _ => iJ hend (by decide))
  · rw [if_pos rfl] at hend
    repeat' (first | refine KO ?_ | ((with_reducible apply F1 20); exact rfl; exact EN; exact fun w μc hw hse => hrt w μc hw hse.le) | refine KI ?_ | refine KG ?_ | fail)
    all_goals first | skip
    all_goals exact mC (Post := lX (Iq.eY aP (Iq.bV aH) s)) rfl (aE (RG (vs := [.slice A1 ps.length c1]) 2 rfl rfl rfl rfl rfl) (aE (aB rfl) (aE (aB rfl) aJ))) rfl (fun μ' hle' _ => IL hend (hFs.mono hle') hall)
end
section
open Go.RowKit Go.Vcg Ou
theorem YA {ps qs : List (F × Value)} (h : (qs.map fun p => fnP p.1) = (ps.map fun p => fnP p.1)) : SmU ps qs :=
  ⟨by have := congrArg List.length h; simpa using this.symm, fun i p q hp hq => by
    have h2 := congrArg (fun l => l[i]?) h
    simp only [List.getElem?_map, hp, hq, Option.map_some] at h2
    have h3 := Option.some.inj h2
    obtain ⟨⟨n1, k1, l1, c1, b1⟩, u⟩ := p
    obtain ⟨⟨n2, k2, l2, c2, b2⟩, v⟩ := q
    simp only [fnP, Iq.FnP.mk.injEq] at h3
    obtain ⟨rfl, rfl, rfl, rfl, rfl⟩ := h3
    exact ⟨rfl, rfl, rfl, rfl, aBv _⟩⟩
theorem RZ {ps qs : List (F × Value)} {A A2 : Option Addr} {c c2 : Nat} (h : SmU ps qs) (w : World) (μ : Mem) (hμ : MOk μ w) (hp : Fs μ A ps.length ps) (hq : Fs μ A2 qs.length qs) :
    Calls Tryz.prog 15 #[.agg #[.slice A ps.length c], .agg #[.slice A2 qs.length c2]] w fun e w' => e = .returned (.bool true) ∧ Below w.heap.size w w' := by
  have := EZ ps qs A A2 c c2 w μ hμ hp hq
  rw [YB h] at this
  exact this
theorem aAo (μ : Mem) : Fs μ none ([] : List (F × Value)).length [] := ⟨Sl.nil _ _ _ _, by simp, by simp⟩
attribute [local irreducible] nmL Iq.eY aH Iq.bV zX G GC GQ GA bO Calls IntKind.wrap Int.decLt Int.decLe
theorem OF (w : World) (μ : Mem) (hμ : MOk μ w) (hmq : fY μ) (hT : kN μ) (s : ByteArray) (hs : s.size ≤ 9223372036854775807) :
    Calls Tryz.prog 4 #[.string s] w fun e w' => e = .returned (.bool true) ∧ Below w.heap.size w w' := by
  refine aC (args := [.string s]) Tryz.func4 rfl Tryz.ntmps4 (by simp) hμ ?_
  repeat' (first | ((with_reducible show GC _ _ (Code.seq (Code.seq (Code.region 1 _ _) _) _) _ _ _ _); (apply aY)) | refine KK ?_ | fail)
  refine gcs (bY (l' := [(0, .string s)]) (L' := []) PU PS ?_)
  refine cM (ι := ByteArray × List UInt8) (fun i => i.1 = ofB i.2 ∧ i.2.length ≤ 5000) (fun _ => μ) (fun i => [(0, .string i.1)]) (fun _ => []) ?_ ?_
  · by_cases h5 : s.size ≤ 5000
    · repeat' (first | refine KK ?_ | fail)
      all_goals first | skip
      exact J1 (s, byS s) ⟨(vK s).symm, h5⟩
    · repeat' (first | refine KO ?_ | (refine KV (b := by ((with_reducible apply oG 5000); (iterate 4 exact rfl); omega)) (c := ?_)) | fail)
      all_goals first | skip
      exact J1 (s.extract 0 5000, byS (s.extract 0 5000)) ⟨(vK _).symm, by show (s.extract 0 5000).size ≤ 5000; rw [ByteArray.size_extract]; omega⟩
  rintro ⟨s2, l⟩ ⟨hs2, hl5⟩
  dsimp only at hs2 hl5 ⊢
  subst hs2
  have r1 := fun (w : World) (μc : Mem) (hw : MOk μc w) (hle : MLe μ μc) => PW l (by omega) w μc hw (hmq.mono hle) (hT.mono hle)
  have r2 := fun (w : World) (μc : Mem) (hw : MOk μc w) (hle : MLe μ μc) => VC l (by omega) w μc hw (hmq.mono hle)
  cases hU : Iq.eY aP (Iq.bV aH) l with
  | error q =>
    obtain ⟨k, e⟩ := q
    rw [hU] at r1 r2
    repeat' (first | refine KO ?_ | ((with_reducible apply F2 13); exact rfl; exact EN; (exact fun w hw => r1 w _ hw (MLe.refl _)); rintro v5 μ5 hle5 ⟨rfl, he5⟩) | ((with_reducible apply F2 14); exact rfl; exact EN; (exact fun w hw => r2 w _ hw hle5); rintro v6 μ6 hle6 ⟨rfl, he6⟩) | ((with_reducible apply F1 15); exact rfl; exact EN; (exact fun w μc hw hse => RZ (ps := []) (qs := []) (YA rfl) w μc hw (aAo _) (aAo _))) | ((with_reducible apply F1 12); exact rfl; exact EN; (exact fun w μc hw hse => yK w μc hw (pX (hmq.mono ((hle5.trans hle6).trans hse.le))))) | refine KI ?_ | refine NB fun b => ?_ | refine KG ?_ | fail)
    all_goals first | skip
    all_goals exact aD rfl rfl rfl
  | ok fs2 =>
    rw [hU] at r1 r2
    repeat' (first | refine KO ?_ | ((with_reducible apply F2 13); exact rfl; exact EN; (exact fun w hw => r1 w _ hw (MLe.refl _)); rintro v5 μ5 hle5 ⟨A5, c5, qs5, rfl, hqs5, hF5, hall5⟩) | ((with_reducible apply F2 14); exact rfl; exact EN; (exact fun w hw => r2 w _ hw hle5); rintro v6 μ6 hle6 ⟨A6, c6, qs6, rfl, hqs6, hF6, hall6⟩) | ((with_reducible apply F1 15); exact rfl; exact EN; (exact fun w μc hw hse => RZ (YA (hqs6.trans hqs5.symm)) w μc hw ((hF5.mono hle6).mono hse.le) (hF6.mono hse.le))) | ((with_reducible apply F1 12); exact rfl; exact EN; (exact fun w μc hw hse => yK w μc hw (pX (hmq.mono ((hle5.trans hle6).trans hse.le))))) | refine KI ?_ | refine NB fun b => ?_ | fail)
    all_goals first | skip
    all_goals exact aD rfl rfl rfl
end
end Go.Proofs.YtoclmkdfcafhfaaGreatDoor
