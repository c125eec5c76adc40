/- Package ir: the reader's node, walked. -/
import Derived.Test.YtoclmkdfcafhfaaGreatDoorZba
set_option maxRecDepth 20000
set_option maxHeartbeats 2000000
namespace Go.Proofs.YtoclmkdfcafhfaaGreatDoor
open Go.RowKit Go.Vcg Ou
abbrev RiN (M : List Nat) (w : World) (μ : Mem) (rb : Nat) (s : List UInt8) (m : Nat) (P : Mem → Value → Int × Int × Int → Prop) (en : Ending) (w' : World) : Prop := ∃ (r : Value) (μ' : Mem) (i : Int × Int × Int), en = .returned r ∧ fH M w w' μ (rdI rb (s, i.1, i.2.1, i.2.2, m)) μ' ∧ P μ' r i
def jC (s : List UInt8) (R : Iq.RdR T) (μ : Mem) (v : Value) (i : Int × Int × Int) : Prop := match R with
  | .ok (t, r, k') => (∃ a : Nat, i = ((a : Int), k', 0) ∧ a ≤ s.length ∧ s.drop a = r ∧ (0 ≤ k' ∧ k' ≤ a)) ∧ TV μ t v ∧ gU qN t
  | .error (k', c) => i.2.1 = k' ∧ i.2.2 = c ∧ c ≠ 0 ∧ ∃ t u, v = .agg (aR t u).toArray ∧ u.oneCell' = true
theorem xZ {f : Nat} {deep line : Int} {u : List UInt8} (h : Ou.aO 10 u = none) : Iq.cN aP (f + 1) deep line u = .error (line + 1, 8) := by
  unfold Iq.cN; rw [h]
theorem pV {f : Nat} {deep line : Int} {u x r : List UInt8} (h : Ou.aO 10 u = some (x, r)) (h2 : Iq.mX aP x = none) : Iq.cN aP (f + 1) deep line u = .error (line + 1, 7) := by
  unfold Iq.cN; rw [h]; dsimp only; rw [h2]
theorem yB {f : Nat} {deep line : Int} {u x r : List UInt8} {p : Int × Int × Int × Nat × List UInt8} (h : Ou.aO 10 u = some (x, r)) (h2 : Iq.mX aP x = some p) (h3 : 2048 < deep) : Iq.cN aP (f + 1) deep line u = .error (line + 1, 10) := by
  obtain ⟨op, n, m, c, t⟩ := p
  unfold Iq.cN; rw [h]; dsimp only; rw [h2]; dsimp only; rw [if_pos h3]
theorem yA {f : Nat} {deep line : Int} {u x r : List UInt8} {op n m : Int} {c : Nat} {t : List UInt8} (h : Ou.aO 10 u = some (x, r)) (h2 : Iq.mX aP x = some (op, n, m, c, t)) (h3 : ¬ 2048 < deep) : Iq.cN aP (f + 1) deep line u = match Iq.iN aP f deep c (line + 1) r with
    | .error e => .error e
    | .ok (ks, r', k') => .ok (.mk op 0 n m (ofB t) ks, r', k') := by
  rw [Iq.cN]; rw [h]; dsimp only; rw [h2]; dsimp only; rw [if_neg h3]; rfl
theorem aBu {x w0 w1 w2 w3 r3 : List UInt8} (hsp : eI 4 x = [w0, w1, w2, w3, r3]) (hx : x.length ≤ 1000000) (w : World) (μ : Mem) (hμ : MOk μ w) (hm : fY μ) : Calls Tryz.prog 95 #[.string (ofB x), .string ⟨#[32]⟩, .int .i64 5] w fun e w' => ∃ (v : Value) (μ' : Mem) (i : Nat), e = .returned v ∧ fH [] w w' μ [.inl ⟨i, 9, 5, idx 0 (kL [w0, w1, w2, w3, r3])⟩] μ' ∧ v = .slice (some ⟨i, 0, none⟩) 5 5 := by
  have h := uD x hx w μ hμ hm
  have hlen := (rS 4 x).2.2
  rw [hsp] at h hlen
  have h5 : min 5 (x.length + 1) = 5 := by
    have : 5 ≤ x.length + 1 := hlen
    omega
  rw [h5] at h
  exact h
theorem gM {s : List UInt8} {R : Iq.RdR T} {k' c : Int} (h : R = .error (k', c)) (hc : c ≠ 0) (μ : Mem) (a : Int) (t : T) (u : Value) (ho : u.oneCell' = true) : jC s R μ (.agg (aR t u).toArray) (a, k', c) := by
  subst h; exact ⟨rfl, rfl, hc, t, u, rfl, ho⟩
theorem jK {s : List UInt8} {R : Iq.RdR T} {μ : Mem} {v : Value} {i : Int × Int × Int} (h : jC s R μ v i) : ∃ t u, v = .agg (aR t u).toArray ∧ u.oneCell' = true ∧ ((∃ (a : Nat) (r : List UInt8) (k' : Int), R = .ok (t, r, k') ∧ i = ((a : Int), k', 0) ∧ a ≤ s.length ∧ s.drop a = r ∧ (0 ≤ k' ∧ k' ≤ a) ∧ KR μ t.kids u ∧ gU qN t) ∨ (∃ k' c, R = .error (k', c) ∧ i.2 = (k', c) ∧ c ≠ 0)) := by
  unfold jC at h
  split at h
  · rename_i t r k'
    obtain ⟨⟨a, h1, h2, h3, h4⟩, ⟨u, h5, h6⟩, h7⟩ := h
    exact ⟨t, u, h5, KR.one h6, .inl ⟨a, r, k', rfl, h1, h2, h3, h4, h6, h7⟩⟩
  · rename_i k' c
    obtain ⟨h1, h2, h3, t, u, h4, h5⟩ := h
    exact ⟨t, u, h4, h5, .inr ⟨k', c, rfl, Prod.ext h1 h2, h3⟩⟩
def AD (ks : List T) (R : Iq.RdR (List T)) : Iq.RdR (List T) := match R with
  | .error e => .error e
  | .ok (ts, r', k') => .ok (ks ++ ts, r', k')
theorem JA (R : Iq.RdR (List T)) : AD [] R = R := by
  unfold AD
  cases R with
  | error e => rfl
  | ok p => obtain ⟨ts, r', k'⟩ := p; rfl
theorem ZW {g : Nat} {deep ln k' : Int} {j : Nat} {u r : List UInt8} {t : T} (ks : List T) (h : Iq.cN aP g (deep + 1) ln u = .ok (t, r, k')) : AD ks (Iq.iN aP (g + 1) deep (j + 1) ln u) = AD (ks ++ [t]) (Iq.iN aP g deep j k' r) := by
  rw [Iq.iN, h]
  dsimp only
  unfold AD
  cases Iq.iN aP g deep j k' r with
  | error e => rfl
  | ok p => obtain ⟨ts, r', k2⟩ := p; simp
theorem WI {g : Nat} {deep ln k' c : Int} {j : Nat} {u : List UInt8} (ks : List T) (h : Iq.cN aP g (deep + 1) ln u = .error (k', c)) : AD ks (Iq.iN aP (g + 1) deep (j + 1) ln u) = .error (k', c) := by
  rw [Iq.iN, h]
  rfl
theorem CY {g : Nat} {deep ln : Int} {u : List UInt8} (ks : List T) : AD ks (Iq.iN aP (g + 1) deep 0 ln u) = .ok (ks, u, ln) := by
  rw [Iq.iN]
  unfold AD
  simp
theorem PK {g : Nat} {deep ln k' : Int} {u r : List UInt8} {t : T} (h : Iq.cN aP g deep ln u = .ok (t, r, k')) : r.length < u.length := by
  have h1 := (Iq.CD aDm g).1 _ _ _ _ _ _ h
  have h2 := Iq.ZJ (row := aH) t
  rw [h1, List.length_append]
  omega
theorem JQ {s : List UInt8} {R : Iq.RdR T} {t : T} {r : List UInt8} {k' : Int} {u : Value} {μ : Mem} {a : Nat} (h : R = .ok (t, r, k')) (ha : a ≤ s.length) (hd : s.drop a = r) (hk : 0 ≤ k' ∧ k' ≤ a) (hu : KR μ t.kids u) (hq : gU qN t) : jC s R μ (.agg (aR t u).toArray) ((a : Int), k', 0) := by
  subst h
  exact ⟨⟨a, rfl, ha, hd, hk⟩, ⟨u, rfl, hu⟩, hq⟩
theorem ZE {w : List UInt8} {op : Int} (h : aP w = some op) : 100 ≤ op ∧ op ≤ 172 := by
  have h1 : (nmL 73).all (fun x => decide (100 ≤ x.2) && decide (x.2 ≤ 172)) = true := by kernel_rfl
  have := List.all_eq_true.1 h1 _ (FO h)
  simp at this
  exact this
theorem CT {w0 w1 w2 w3 r3 s : List UInt8} {op n m : Int} {k : Nat} (h : iM w0 w1 w2 w3 r3 = some (op, n, m, k, s)) : (100 ≤ op ∧ op ≤ 172) ∧ s.length ≤ 65536 := by
  unfold iM at h
  split at h
  · rename_i op' n' m' k' s' e0 e1 e2 e3 e4
    simp only [Option.some.injEq, Prod.mk.injEq] at h
    obtain ⟨rfl, rfl, rfl, rfl, rfl⟩ := h
    exact ⟨ZE e0, (rA (yQ e4)).2.2⟩
  · cases h
def aBc (f c : Nat) (deep line : Int) (r s : List UInt8) (μ0 : Mem) (i : Nat × List (T × Value) × Mem × Value × Int × Int × Int) : Prop :=
  i.1 ≤ c ∧ i.2.1.length = i.1 ∧ MLe μ0 i.2.2.1 ∧ (∀ u ∈ i.2.1.flatMap qO, u.oneCell' = true) ∧
  ((i.2.2.2.2.2.2 = 0 ∧ ∃ a g : Nat, i.2.2.2.2.1 = (a : Int) ∧ a ≤ s.length ∧ (0 ≤ i.2.2.2.2.2.1 ∧ i.2.2.2.2.2.1 ≤ a) ∧ 2 * (s.length - a) + 3 ≤ g ∧ g ≤ f ∧ Kids i.2.2.1 i.2.1 ∧ (∀ p ∈ i.2.1, gU qN p.1) ∧
      Iq.iN aP f deep c line r = AD (i.2.1.map (·.1)) (Iq.iN aP g deep (c - i.1) i.2.2.2.2.2.1 (s.drop a))) ∨
    (i.2.2.2.2.2.2 ≠ 0 ∧ Iq.iN aP f deep c line r = .error (i.2.2.2.2.2.1, i.2.2.2.2.2.2)))
theorem CO {f c g j a9 : Nat} {deep line ln9 a5 l5 e5 : Int} {r s : List UInt8} {μ0 μ9 μ5 : Mem} {ps : List (T × Value)} {t5 : T} {u5 v : Value} (hlt : j < c) (hpl : ps.length = j) (hle9 : MLe μ0 μ9) (hone : ∀ u ∈ ps.flatMap qO, u.oneCell' = true) (hlb : 0 ≤ ln9 ∧ ln9 ≤ (a9 : Int)) (ha : a9 ≤ s.length) (hfu : 2 * (s.length - a9) + 3 ≤ g + 1) (hgf : g + 1 ≤ f)
    (hkids : Kids μ9 ps) (hall : ∀ p ∈ ps, gU qN p.1) (hEq : Iq.iN aP f deep c line r = AD (ps.map (·.1)) (Iq.iN aP (g + 1) deep (c - j - 1 + 1) ln9 (s.drop a9))) (hle5 : MLe μ9 μ5) (ho5 : u5.oneCell' = true)
    (hc5 : (∃ (a : Nat) (r : List UInt8) (k' : Int), Iq.cN aP g (deep + 1) ln9 (s.drop a9) = .ok (t5, r, k') ∧ (a5, l5, e5) = ((a : Int), k', (0 : Int)) ∧ a ≤ s.length ∧ s.drop a = r ∧ (0 ≤ k' ∧ k' ≤ a) ∧ KR μ5 t5.kids u5 ∧ gU qN t5) ∨ (∃ k' c, Iq.cN aP g (deep + 1) ln9 (s.drop a9) = .error (k', c) ∧ (a5, l5, e5).2 = (k', c) ∧ c ≠ 0)) :
    aBc f c deep line r s μ0 (j + 1, ps ++ [(t5, u5)], μ5, v, a5, l5, e5) := by
  refine ⟨by dsimp only; omega, by simp; omega, hle9.trans hle5, fun u hu => ?_, ?_⟩
  · rw [List.flatMap_append] at hu
    rcases List.mem_append.1 hu with hu | hu
    · exact hone u hu
    · simp at hu
      rcases hu with rfl | rfl | rfl | rfl | rfl | rfl
      all_goals first | rfl | exact ho5
  · rcases hc5 with ⟨a, r', k', h1, h2, h3, h4, h5, h6, h7⟩ | ⟨k', c', h1, h2, h3⟩
    · simp only [Prod.mk.injEq] at h2
      obtain ⟨rfl, rfl, rfl⟩ := h2
      have hless := PK h1
      rw [← h4, List.length_drop, List.length_drop] at hless
      refine .inl ⟨rfl, a, g, rfl, h3, h5, by omega, by omega, fun p hp => ?_, fun p hp => ?_, ?_⟩
      · rcases List.mem_append.1 hp with hp | hp
        · exact (hkids p hp).mono hle5
        · cases List.mem_singleton.1 hp; exact h6
      · rcases List.mem_append.1 hp with hp | hp
        · exact hall p hp
        · cases List.mem_singleton.1 hp; exact h7
      · rw [hEq, ZW _ h1]
        dsimp only
        rw [List.map_append, List.map_singleton, h4, Nat.sub_sub]
    · simp only [Prod.mk.injEq] at h2
      obtain ⟨rfl, rfl⟩ := h2
      exact .inr ⟨h3, hEq.trans (WI _ h1)⟩
def aD1 (s : List UInt8) (m g : Nat) : Prop := ∀ (rb k : Nat), k ≤ s.length → ∀ line deep : Int, (0 ≤ line ∧ line ≤ k) → (0 ≤ deep ∧ deep ≤ 3000) → 2 * (s.length - k) + 2 ≤ g → ∀ (w : World) (μ : Mem), MOk μ w → fY μ → kN μ → RB μ m → Go.Vcg.Own μ (rdI rb (s, (k : Int), line, 0, m)) w →
    Calls Tryz.prog 65 #[.pointer (some ⟨rb, 0, none⟩), .int .i64 deep] w (RiN (bS (rdI rb (s, (k : Int), line, 0, m))) w μ rb s m (jC s (Iq.cN aP g deep line (s.drop k))))
attribute [local irreducible] nmL eI qM Iq.mX G GC GQ GA bO Calls IntKind.wrap Int.decLt Int.decLe
theorem VY (f : Nat) (rb : Nat) (s : List UInt8) (hs : s.length ≤ 1000000) (m : Nat) (ih : ∀ g, g ≤ f → aD1 s m g) (k : Nat) (hfu0 : 2 * (s.length - k) + 2 ≤ f + 1) (hk : k ≤ s.length) (line deep : Int) (hl : 0 ≤ line ∧ line ≤ k) (hd : 0 ≤ deep ∧ deep ≤ 3000) (w : World) (μ : Mem) (hμ : MOk μ w) (hmq : fY μ) (hT : kN μ) (hnm : RB μ m) (hO : Go.Vcg.Own μ (rdI rb (s, (k : Int), line, 0, m)) w) :
    Calls Tryz.prog 65 #[.pointer (some ⟨rb, 0, none⟩), .int .i64 deep] w (RiN (bS (rdI rb (s, (k : Int), line, 0, m))) w μ rb s m (jC s (Iq.cN aP (f + 1) deep line (s.drop k)))) := by
  have hcnt := bE hO.diff
  refine aQ (args := [.pointer (some ⟨rb, 0, none⟩), .int .i64 deep]) Tryz.func65 rfl Tryz.ntmps65 (by simp) hμ hO ?_
  show GC _ _ _ _ _ _ [.inl ⟨rb, 55, 5, [(0, .string (ofB s)), (1, .int .i64 (k : Int)), (2, .int .i64 line), (3, .int .i64 0), (4, .map (some m))]⟩]
  repeat' (first | ((with_reducible show GC _ _ (Code.seq (Code.region 1 _ _) _) _ _ _ _); (apply aY)) | refine KK ?_ | refine NB fun b => ?_ | fail)
  refine gcs ?_
  refine bY (l' := [(4, .pointer (some ⟨b, 0, none⟩)), (1, .int .i64 deep), (0, .pointer (some ⟨rb, 0, none⟩))]) (L' := [.inl ⟨rb, 55, 5, [(0, .string (ofB s)), (1, .int .i64 (k : Int)), (2, .int .i64 line), (3, .int .i64 0), (4, .map (some m))]⟩, .inl ⟨b, 42, 6, []⟩]) PU PS ?_
  cases hc : Ou.aO 10 (s.drop k) with
  | none =>
    repeat' (first | refine KO ?_ | (refine CF 29 ?_; (with_reducible apply aA 1); (iterate 3 exact rfl); ((with_reducible apply dV); kernel_rfl; exact rfl); exact rfl; (exact fun w hw hO => EE rb s k line 0 m hc hk (by omega) (by omega) w _ hw hO); (rintro v2 μ2 ⟨⟩ hle2 rfl); (dsimp only [List.cons_append, List.nil_append])) | refine KI ?_ | fail)
    all_goals first | skip
    exact aS (Ls := fun i : Int × Int × Int => rdI rb (s, i.1, i.2.1, i.2.2, m)) (Post := jC s (Iq.cN aP (f + 1) deep line (s.drop k))) 1 ((k : Int), line + 1, 8) hcnt rfl (RG (vs := [.int .i64 0, .int .i64 0, .int .i64 0, .int .i64 0, .string ⟨#[]⟩, .slice none 0 0]) 1 rfl rfl rfl rfl rfl) rfl rfl (fun μ' _ => gM (xZ hc) (by decide) _ _ (.mk 0 0 0 0 ⟨#[]⟩ []) (.slice none 0 0) rfl)
  | some p =>
    obtain ⟨x, r⟩ := p
    repeat' (first | ((with_reducible show GC _ _ (Code.seq (Code.region 4 _ _) _) _ _ _ _); (apply aY)) | refine KO ?_ | (refine CF 29 ?_; (with_reducible apply aA 1); (iterate 3 exact rfl); ((with_reducible apply dV); kernel_rfl; exact rfl); exact rfl; (exact fun w hw hO => ED rb s k line 0 m hc hk (by omega) (by omega) w _ hw hO); (rintro v2 μ2 ⟨⟩ hle2 rfl); (dsimp only [List.cons_append, List.nil_append])) | refine KI ?_ | fail)
    all_goals first | skip
    have hxl := (cS hc).2
    rw [List.length_drop] at hxl
    refine gcs ?_
    refine bY (l' := [(5, .string (ofB x)), (4, .pointer (some ⟨b, 0, none⟩)), (1, .int .i64 deep), (0, .pointer (some ⟨rb, 0, none⟩))]) (L' := [.inl ⟨rb, 55, 5, [(0, .string (ofB s)), (1, .int .i64 ((k + x.length + 1 : Nat) : Int)), (2, .int .i64 (line + 1)), (3, .int .i64 0), (4, .map (some m))]⟩, .inl ⟨b, 42, 6, []⟩]) PU PS ?_
    rcases yN x with ⟨w0, w1, w2, w3, r3, hsp, hln, z0, z1, z2, z3, z4⟩ | ⟨hlt, hln⟩
    · have hlook : kA Tryz.prog 3 (Instr.findNow .string (.string (ofB w0)) nmM 0) = some (.int .i64 ((aP w0).getD 0), (aP w0).isSome) := TC (by kernel_rfl) w0 (nmL 73) 0 0
      repeat' (first | ((with_reducible show GC _ _ (Code.seq (Code.region 8 _ _) _) _ _ _ _); (apply aY)) | refine KO ?_ | (refine CF 95 ?_; (with_reducible apply aA (Ls := fun i => [.inl ⟨i, 9, 5, idx 0 (kL [w0, w1, w2, w3, r3])⟩]) 0); (iterate 3 exact rfl); ((with_reducible apply nW); kernel_rfl; (iterate 3 exact rfl)); exact rfl; (exact fun w hw _ => aBu hsp (by omega) w _ hw (hmq.mono hle2)); (rintro v3 μ3 i3 hle3 rfl); (dsimp only [List.cons_append, List.nil_append])) | fail)
      all_goals first | skip
      have hnm3 := hnm.mono (hle2.trans hle3)
      refine gcs ?_
      refine bY (l' := [(6, .slice (some ⟨i3, 0, none⟩) 5 5), (4, .pointer (some ⟨b, 0, none⟩)), (1, .int .i64 deep), (0, .pointer (some ⟨rb, 0, none⟩))]) (L' := [.inl ⟨rb, 55, 5, [(0, .string (ofB s)), (1, .int .i64 ((k + x.length + 1 : Nat) : Int)), (2, .int .i64 (line + 1)), (3, .int .i64 0), (4, .map (some m))]⟩, .inl ⟨i3, 9, 5, idx 0 (kL [w0, w1, w2, w3, r3])⟩, .inl ⟨b, 42, 6, []⟩]) PU PS ?_
      refine tU ?_
      refine aN 13 _ (by kernel_rfl) rfl (List.Sublist.cons_cons _ (List.Sublist.cons_cons _ (List.Sublist.cons_cons _ (List.nil_sublist _)))) ?_
      all_goals refine DD 0 ?_
      all_goals refine DD 1 ?_
      all_goals (first | refine D1 2 ?_ | fail)
      all_goals (first | refine DD 3 ?_ | fail)
      all_goals refine DD 4 ?_
      all_goals (first | (refine DV (k := 5) (b := by exact U1 0) (c := ?_)) | fail)
      all_goals (first | refine DD 6 ?_ | fail)
      all_goals (first | (refine DV (k := 7) (b := by ((with_reducible apply DY); (iterate 4 exact rfl); (exact trivial); exact hnm3; exact hlook)) (c := ?_)) | fail)
      all_goals refine DD 8 ?_
      all_goals refine DD 9 ?_
      all_goals refine DD 10 ?_
      all_goals refine DD 11 ?_
      all_goals refine DD 12 ?_
      all_goals refine D8 ?_
      refine TN (cM (ι := Mem) (fun i => MLe μ3 i) (fun i => i) (fun _ => [(7, .int .i64 ((aP w0).getD 0)), (6, .slice (some ⟨i3, 0, none⟩) 5 5), (4, .pointer (some ⟨b, 0, none⟩)), (1, .int .i64 deep), (0, .pointer (some ⟨rb, 0, none⟩))]) (fun _ => [.inl ⟨rb, 55, 5, [(0, .string (ofB s)), (1, .int .i64 ((k + x.length + 1 : Nat) : Int)), (2, .int .i64 (line + 1)), (3, .int .i64 (okS (aP w0).isSome 0 7)), (4, .map (some m))]⟩, .inl ⟨i3, 9, 5, idx 0 (kL [w0, w1, w2, w3, r3])⟩, .inl ⟨b, 42, 6, []⟩]) ?_ ?_)
      · cases hop : (aP w0).isSome with
        | true =>
          repeat' (first | refine KK ?_ | fail)
          all_goals first | skip
          exact J1 μ3 (MLe.refl _)
        | false =>
          repeat' (first | refine KO ?_ | (refine CF 30 ?_; (with_reducible apply aA 1); (iterate 3 exact rfl); ((with_reducible apply aL); kernel_rfl; exact rfl; exact rfl); exact rfl; (exact fun w hw hO => dA rb (s, ((k + x.length + 1 : Nat) : Int), line + 1, 0, m) 7 w _ hw hO); (rintro v2 μ2 ⟨⟩ hle2 hv); (dsimp only [List.cons_append, List.nil_append])) | fail)
          all_goals first | skip
          exact J1 _ hle2
      intro μ4 hle4
      have hmq4 := hmq.mono (hle2.trans (hle3.trans hle4))
      have hT4 := hT.mono (hle2.trans (hle3.trans hle4))
      generalize he1 : okS (aP w0).isSome 0 7 = e1
      have y1 : w1.length ≤ 1000000 := by omega
      have y2 : w2.length ≤ 1000000 := by omega
      have y3 : w3.length ≤ 1000000 := by omega
      have y4 : r3.length ≤ 1000000 := by omega
      refine cM (ι := Mem × Nat) (fun i => MLe μ4 i.1) (fun i => i.1) (fun i => [(9, .pointer (some ⟨i.2, 0, none⟩)), (6, .slice (some ⟨i3, 0, none⟩) 5 5), (4, .pointer (some ⟨b, 0, none⟩)), (1, .int .i64 deep), (0, .pointer (some ⟨rb, 0, none⟩))]) (fun i => [.inl ⟨rb, 55, 5, [(0, .string (ofB s)), (1, .int .i64 ((k + x.length + 1 : Nat) : Int)), (2, .int .i64 (line + 1)), (3, .int .i64 (okS (aV (-9007199254740992) 9007199254740992 w2).isSome (okS (aV (-9007199254740992) 9007199254740992 w1).isSome e1 7) 7)), (4, .map (some m))]⟩, .inl ⟨i3, 9, 5, idx 0 (kL [w0, w1, w2, w3, r3])⟩, .inl ⟨i.2, 42, 6, idx 0 [.int .i64 ((aP w0).getD 0), .int .i64 0, .int .i64 (fT (-9007199254740992) 9007199254740992 w1), .int .i64 (fT (-9007199254740992) 9007199254740992 w2), .string ⟨#[]⟩, .slice none 0 0]⟩, .inl ⟨b, 42, 6, []⟩]) ?_ ?_
      · refine aN 14 _ (by kernel_rfl) rfl (List.Sublist.cons _ (List.Sublist.cons_cons _ (List.Sublist.cons_cons _ (List.nil_sublist _)))) ?_
        all_goals (first | refine D1 0 ?_ | fail)
        all_goals (first | refine D1 1 ?_ | fail)
        all_goals (first | refine D1 2 ?_ | fail)
        all_goals (first | (refine DV (k := 3) (b := by exact U1 1) (c := ?_)) | fail)
        all_goals (first | refine DD 4 ?_ | fail)
        all_goals (first | refine D1 6 ?_ | fail)
        all_goals (first | refine D1 7 ?_ | fail)
        all_goals (first | (refine DV (k := 8) (b := by exact U1 2) (c := ?_)) | fail)
        all_goals (first | refine DD 9 ?_ | fail)
        refine bT 5 12 (by kernel_rfl) ?dr24_5 ?dr24_12
        case' dr24_5 =>
          ((refine D5 ?_; (first | ((with_reducible apply aA 1); (iterate 3 exact rfl); ((with_reducible apply cC); kernel_rfl; (iterate 4 exact rfl)); exact rfl; (exact fun w5 hw5 hO5 => eK w1 _ _ rb (s, ((k + x.length + 1 : Nat) : Int), line + 1, e1, m) y1 w5 _ hw5 hT4 hO5); (rintro v2 μ5 ⟨⟩ hle5 rfl); (dsimp only [List.cons_append, List.nil_append])) | fail); refine D9 ?_))
          refine bT 10 12 (by kernel_rfl) ?dr25_10 ?dr25_12
          case' dr25_10 =>
            ((refine D5 ?_; (first | ((with_reducible apply aA 1); (iterate 3 exact rfl); ((with_reducible apply cC); kernel_rfl; (iterate 4 exact rfl)); exact rfl; (exact fun w5 hw5 hO5 => eK w2 _ _ rb (s, ((k + x.length + 1 : Nat) : Int), line + 1, okS (aV (-9007199254740992) 9007199254740992 w1).isSome e1 7, m) y2 w5 _ hw5 (hT4.mono hle5) hO5); (rintro v2 μ5 ⟨⟩ hle5 rfl); (dsimp only [List.cons_append, List.nil_append])) | fail); refine D9 ?_))
            all_goals (first | refine D1 11 ?_ | fail)
            all_goals ((refine D3 12 ?_; refine D5 ?_; refine NB fun b => ?_; refine D9 ?_))
            all_goals ((refine D3 13 ?_; refine D5 ?_; refine Y0 ?_; refine D9 ?_))
            all_goals refine D8 ?_
          case' dr25_12 =>
            ((refine D5 ?_; refine NB fun b => ?_; refine D9 ?_))
            all_goals ((refine D3 10 ?_; refine D5 ?_; (first | ((with_reducible apply dR); (with_reducible apply aA 1); (iterate 3 exact rfl); ((with_reducible apply cC); kernel_rfl; (iterate 4 exact rfl)); exact rfl; (exact fun w5 hw5 hO5 => eK w2 _ _ rb (s, ((k + x.length + 1 : Nat) : Int), line + 1, okS (aV (-9007199254740992) 9007199254740992 w1).isSome e1 7, m) y2 w5 _ hw5 (hT4.mono hle5) hO5); (rintro v2 μ5 ⟨⟩ hle5 rfl); (dsimp only [List.cons_append, List.nil_append]); (with_reducible apply dR)) | fail); refine D9 ?_))
            all_goals (first | refine D1 11 ?_ | fail)
            all_goals ((refine D3 13 ?_; refine D5 ?_; refine Y0 ?_; refine D9 ?_))
            all_goals refine D8 ?_
        case' dr24_12 =>
          ((refine D5 ?_; refine NB fun b => ?_; refine D9 ?_))
          all_goals ((refine D3 5 ?_; refine D5 ?_; (first | ((with_reducible apply dR); (with_reducible apply aA 1); (iterate 3 exact rfl); ((with_reducible apply cC); kernel_rfl; (iterate 4 exact rfl)); exact rfl; (exact fun w5 hw5 hO5 => eK w1 _ _ rb (s, ((k + x.length + 1 : Nat) : Int), line + 1, e1, m) y1 w5 _ hw5 hT4 hO5); (rintro v2 μ5 ⟨⟩ hle5 rfl); (dsimp only [List.cons_append, List.nil_append]); (with_reducible apply dR)) | fail); refine D9 ?_))
          all_goals ((refine D3 10 ?_; refine D5 ?_; (first | ((with_reducible apply dR); (with_reducible apply aA 1); (iterate 3 exact rfl); ((with_reducible apply cC); kernel_rfl; (iterate 4 exact rfl)); exact rfl; (exact fun w5 hw5 hO5 => eK w2 _ _ rb (s, ((k + x.length + 1 : Nat) : Int), line + 1, okS (aV (-9007199254740992) 9007199254740992 w1).isSome e1 7, m) y2 w5 _ hw5 (hT4.mono hle5) hO5); (rintro v2 μ5 ⟨⟩ hle5 rfl); (dsimp only [List.cons_append, List.nil_append]); (with_reducible apply dR)) | fail); refine D9 ?_))
          all_goals (first | refine D1 11 ?_ | fail)
          all_goals ((refine D3 13 ?_; refine D5 ?_; refine Y0 ?_; refine D9 ?_))
          all_goals refine D8 ?_
        all_goals exact J1 (_, b) (by refine MLe.trans ?_ hle5; assumption)
      rintro ⟨μ6, bn⟩ hle6
      dsimp only at hle6
      have hT6 := hT4.mono hle6
      generalize he3 : okS (aV (-9007199254740992) 9007199254740992 w2).isSome (okS (aV (-9007199254740992) 9007199254740992 w1).isSome e1 7) 7 = e3
      generalize hnd : fT (-9007199254740992) 9007199254740992 w1 = vn
      generalize hmd : fT (-9007199254740992) 9007199254740992 w2 = vm
      generalize hod : (aP w0).getD 0 = vop
      repeat' (first | ((with_reducible show GC _ _ (Code.seq (Code.seq (Code.region 14 _ _) _) _) _ _ _ _); (apply aY)) | refine KO ?_ | (refine CF 31 ?_; (with_reducible apply aA 1); (iterate 3 exact rfl); ((with_reducible apply cC); kernel_rfl; (iterate 4 exact rfl)); exact rfl; (exact fun w hw hO => eK w3 _ _ rb (s, ((k + x.length + 1 : Nat) : Int), line + 1, e3, m) y3 w _ hw hT6 hO); (rintro v2 μ7 ⟨⟩ hle7 rfl); (dsimp only [List.cons_append, List.nil_append])) | (refine CF 64 ?_; (with_reducible apply aA 1); (iterate 3 exact rfl); ((with_reducible apply aL); kernel_rfl; exact rfl; exact rfl); exact rfl; (exact fun w hw hO => xL r3 rb (s, ((k + x.length + 1 : Nat) : Int), line + 1, okS (aV 0 1048576 w3).isSome e3 7, m) y4 w _ hw hO); (rintro v2 μ8 ⟨⟩ hle8 rfl); (dsimp only [List.cons_append, List.nil_append])) | (refine KV (b := by first | exact U1 3 | exact U1 4) (c := ?_)) | refine KI ?_ | fail)
      all_goals first | skip
      have hleA : MLe μ μ8 := hle2.trans (hle3.trans (hle4.trans (hle6.trans (MLe.trans hle7 hle8))))
      generalize he5 : okS (cE r3).isSome (okS (aV 0 1048576 w3).isSome e3 7) 7 = e5
      generalize hkd : fT 0 1048576 w3 = vk
      generalize htd : sD r3 = vt
      have hE : qM w0 w1 w2 w3 r3 = e5 := by rw [qM, he1, he3, he5]
      refine gcs ?_
      refine bY (l' := [(10, .int .i64 vk), (9, .pointer (some ⟨bn, 0, none⟩)), (4, .pointer (some ⟨b, 0, none⟩)), (1, .int .i64 deep), (0, .pointer (some ⟨rb, 0, none⟩))]) (L' := [.inl ⟨rb, 55, 5, [(0, .string (ofB s)), (1, .int .i64 ((k + x.length + 1 : Nat) : Int)), (2, .int .i64 (line + 1)), (3, .int .i64 e5), (4, .map (some m))]⟩, .inl ⟨bn, 42, 6, idx 0 [.int .i64 vop, .int .i64 0, .int .i64 vn, .int .i64 vm, .string (ofB vt), .slice none 0 0]⟩, .inl ⟨b, 42, 6, []⟩]) PU PS ?_
      have hdp := Int.lt_or_le 2048 deep
      cases hM : iM w0 w1 w2 w3 r3 with
      | none =>
        have he := yO hM
        rw [hE] at he
        subst he
        rcases hdp with hdp | hdp
        · repeat' (first | refine KO ?_ | (refine CF 30 ?_; (with_reducible apply aA 1); (iterate 3 exact rfl); ((with_reducible apply aL); kernel_rfl; exact rfl; exact rfl); exact rfl; (exact fun w hw hO => dA rb (s, ((k + x.length + 1 : Nat) : Int), line + 1, 7, m) 10 w _ hw hO); (rintro v2 μ2 ⟨⟩ hle2 hv); (dsimp only [List.cons_append, List.nil_append])) | fail)
          all_goals first | skip
          refine aX (ι := Unit) (fun _ => True) (fun _ => 0) (fun _ => _) (fun _ => [(11, .int .i64 0), (10, .int .i64 vk), (9, .pointer (some ⟨bn, 0, none⟩)), (4, .pointer (some ⟨b, 0, none⟩)), (0, .pointer (some ⟨rb, 0, none⟩))]) (fun _ => [.inl ⟨rb, 55, 5, [(0, .string (ofB s)), (1, .int .i64 ((k + x.length + 1 : Nat) : Int)), (2, .int .i64 (line + 1)), (3, .int .i64 7), (4, .map (some m))]⟩, .inl ⟨bn, 42, 6, idx 0 [.int .i64 vop, .int .i64 0, .int .i64 vn, .int .i64 vm, .string (ofB vt), .slice none 0 0]⟩, .inl ⟨b, 42, 6, []⟩]) () trivial (fun a w hs => J5 hs) ?_
          intro _ _
          repeat' (first | refine KK ?_ | (refine KB ?_ ?_ <;> intro hp) | refine KG ?_ | fail)
          all_goals first | skip
          all_goals exact aS (Ls := fun i : Int × Int × Int => rdI rb (s, i.1, i.2.1, i.2.2, m)) (Post := jC s (Iq.cN aP (f + 1) deep line (s.drop k))) 1 (((k + x.length + 1 : Nat) : Int), line + 1, 7) hcnt rfl (RG (vs := [.int .i64 vop, .int .i64 0, .int .i64 vn, .int .i64 vm, .string (ofB vt), .slice none 0 0]) 2 rfl rfl rfl rfl rfl) rfl rfl (fun μ' _ => gM (pV hc (hln.trans hM)) (by decide) _ _ (.mk vop 0 vn vm (ofB vt) []) (.slice none 0 0) rfl)
        · repeat' (first | refine KK ?_ | fail)
          all_goals first | skip
          refine aX (ι := Unit) (fun _ => True) (fun _ => 0) (fun _ => _) (fun _ => [(11, .int .i64 0), (10, .int .i64 vk), (9, .pointer (some ⟨bn, 0, none⟩)), (4, .pointer (some ⟨b, 0, none⟩)), (0, .pointer (some ⟨rb, 0, none⟩))]) (fun _ => [.inl ⟨rb, 55, 5, [(0, .string (ofB s)), (1, .int .i64 ((k + x.length + 1 : Nat) : Int)), (2, .int .i64 (line + 1)), (3, .int .i64 7), (4, .map (some m))]⟩, .inl ⟨bn, 42, 6, idx 0 [.int .i64 vop, .int .i64 0, .int .i64 vn, .int .i64 vm, .string (ofB vt), .slice none 0 0]⟩, .inl ⟨b, 42, 6, []⟩]) () trivial (fun a w hs => J5 hs) ?_
          intro _ _
          repeat' (first | refine KK ?_ | (refine KB ?_ ?_ <;> intro hp) | refine KG ?_ | fail)
          all_goals first | skip
          all_goals exact aS (Ls := fun i : Int × Int × Int => rdI rb (s, i.1, i.2.1, i.2.2, m)) (Post := jC s (Iq.cN aP (f + 1) deep line (s.drop k))) 1 (((k + x.length + 1 : Nat) : Int), line + 1, 7) hcnt rfl (RG (vs := [.int .i64 vop, .int .i64 0, .int .i64 vn, .int .i64 vm, .string (ofB vt), .slice none 0 0]) 2 rfl rfl rfl rfl rfl) rfl rfl (fun μ' _ => gM (pV hc (hln.trans hM)) (by decide) _ _ (.mk vop 0 vn vm (ofB vt) []) (.slice none 0 0) rfl)
      | some q =>
        obtain ⟨op, vn', vm', c, t⟩ := q
        obtain ⟨he, g1, g2, g3, g4, g5, g6⟩ := rG hM
        rw [hE] at he
        subst he
        rcases hdp with hdp | hdp
        · repeat' (first | refine KO ?_ | (refine CF 30 ?_; (with_reducible apply aA 1); (iterate 3 exact rfl); ((with_reducible apply aL); kernel_rfl; exact rfl; exact rfl); exact rfl; (exact fun w hw hO => dA rb (s, ((k + x.length + 1 : Nat) : Int), line + 1, 0, m) 10 w _ hw hO); (rintro v2 μ2 ⟨⟩ hle2 hv); (dsimp only [List.cons_append, List.nil_append])) | fail)
          all_goals first | skip
          refine aX (ι := Unit) (fun _ => True) (fun _ => 0) (fun _ => _) (fun _ => [(11, .int .i64 0), (10, .int .i64 vk), (9, .pointer (some ⟨bn, 0, none⟩)), (4, .pointer (some ⟨b, 0, none⟩)), (0, .pointer (some ⟨rb, 0, none⟩))]) (fun _ => [.inl ⟨rb, 55, 5, [(0, .string (ofB s)), (1, .int .i64 ((k + x.length + 1 : Nat) : Int)), (2, .int .i64 (line + 1)), (3, .int .i64 10), (4, .map (some m))]⟩, .inl ⟨bn, 42, 6, idx 0 [.int .i64 vop, .int .i64 0, .int .i64 vn, .int .i64 vm, .string (ofB vt), .slice none 0 0]⟩, .inl ⟨b, 42, 6, []⟩]) () trivial (fun a w hs => J5 hs) ?_
          intro _ _
          repeat' (first | refine KK ?_ | (refine KB ?_ ?_ <;> intro hp) | refine KG ?_ | fail)
          all_goals first | skip
          all_goals exact aS (Ls := fun i : Int × Int × Int => rdI rb (s, i.1, i.2.1, i.2.2, m)) (Post := jC s (Iq.cN aP (f + 1) deep line (s.drop k))) 1 (((k + x.length + 1 : Nat) : Int), line + 1, 10) hcnt rfl (RG (vs := [.int .i64 vop, .int .i64 0, .int .i64 vn, .int .i64 vm, .string (ofB vt), .slice none 0 0]) 2 rfl rfl rfl rfl rfl) rfl rfl (fun μ' _ => gM (yB hc (hln.trans hM) hdp) (by decide) _ _ (.mk vop 0 vn vm (ofB vt) []) (.slice none 0 0) rfl)
        · repeat' (first | refine KK ?_ | fail)
          all_goals first | skip
          obtain rfl : vk = (c : Int) := by rw [← hkd, g4]
          have hrg := CT hM
          obtain rfl : vop = op := hod.symm.trans g1
          obtain rfl : vn = vn' := hnd.symm.trans g2
          obtain rfl : vm = vm' := hmd.symm.trans g3
          obtain rfl : vt = t := htd.symm.trans g5
          have hR := yA (f := f) (deep := deep) (line := line) hc (hln.trans hM) (by omega)
          have hnm8 := hnm.mono hleA
          have hmq8 := hmq.mono hleA
          have hT8 := hT.mono hleA
          have hr : s.drop (k + x.length + 1) = r := by
            have h1 := (cS hc).1
            have h2 := congrArg (List.drop (x.length + 1)) h1
            rw [List.drop_drop] at h2
            rw [show k + x.length + 1 = k + (x.length + 1) by omega, h2]
            simp
          refine aX (ι := Nat × List (T × Value) × Mem × Value × Int × Int × Int) (aBc f c deep (line + 1) r s μ8) (fun i => c + 1 - i.1) (fun i => i.2.2.1) (fun i => [(11, .int .i64 (i.1 : Int)), (10, .int .i64 (c : Int)), (9, .pointer (some ⟨bn, 0, none⟩)), (4, .pointer (some ⟨b, 0, none⟩)), (1, .int .i64 deep), (0, .pointer (some ⟨rb, 0, none⟩))]) (fun i => [.inl ⟨rb, 55, 5, [(0, .string (ofB s)), (1, .int .i64 i.2.2.2.2.1), (2, .int .i64 i.2.2.2.2.2.1), (3, .int .i64 i.2.2.2.2.2.2), (4, .map (some m))]⟩, .inr ⟨i.2.2.2.1, 42, 6, i.2.1.length, i.2.1.flatMap qO⟩, .inl ⟨bn, 42, 6, idx 0 [.int .i64 vop, .int .i64 0, .int .i64 vn, .int .i64 vm, .string (ofB vt), i.2.2.2.1]⟩, .inl ⟨b, 42, 6, []⟩]) (0, [], μ8, .slice none 0 0, ((k + x.length + 1 : Nat) : Int), line + 1, 0)
            ⟨Nat.zero_le _, rfl, MLe.refl _, (by simp), .inl ⟨rfl, k + x.length + 1, f, rfl, by omega, by dsimp only; omega, by omega, Nat.le_refl _, fun p hp => (by cases hp), fun p hp => (by cases hp), by rw [hr]; exact (JA _).symm⟩⟩ (fun a w hs => (hs.rE 42 6).sel PU PS) ?_
          rintro ⟨j, ps, μ9, v9, at9, ln9, e9⟩ ⟨hj, hpl, hle9, hone, hcase⟩
          dsimp only at hj hpl hle9 hone hcase ⊢
          refine nB 1 rfl ?_
          rintro A1 c1 rfl hok
          rcases hcase with ⟨he0, a9, g9, ha9, ha, hlb, hfu, hgf, hkids, hall, hEq⟩ | ⟨hne, hEq⟩
          · subst he0
            subst ha9
            by_cases hlt : j < c
            · obtain ⟨g, rfl⟩ : ∃ g, g9 = g + 1 := ⟨g9 - 1, by omega⟩
              have hcj : c - j = (c - j - 1) + 1 := by omega
              rw [hcj] at hEq
              have ihc := ih g (by omega) rb a9 ha ln9 (deep + 1) hlb (by omega) (by omega)
              have hnm9 := hnm8.mono hle9
              have hmq9 := hmq8.mono hle9
              have hT9 := hT8.mono hle9
              repeat' (first | refine KK ?_ | refine KG ?_ | fail)
              all_goals first | skip
              refine aN 10 _ (by kernel_rfl) rfl (List.Sublist.cons _ (List.Sublist.cons _ (List.Sublist.cons _ (List.Sublist.cons_cons _ (List.nil_sublist _))))) ?_
              all_goals refine DD 0 ?_
              all_goals refine DD 2 ?_
              all_goals refine DD 3 ?_
              all_goals refine DD 4 ?_
              refine bT 1 5 (by kernel_rfl) ?dr26_1 ?dr26_5
              case' dr26_1 =>
                (((with_reducible apply bJ); (iterate 4 exact rfl); (((with_reducible apply iQ); exact rfl; (repeat first | with_reducible exact bG | with_reducible apply dJ); exact rfl))))
                all_goals ((refine D3 5 ?_; refine D5 ?_; (with_reducible apply aA 1); (iterate 3 exact rfl); ((with_reducible apply aL); kernel_rfl; exact rfl; exact rfl); exact rfl; (exact fun w5 hw5 hO5 => ihc w5 _ hw5 hmq9 hT9 hnm9 hO5); (rintro v5 μ5 ⟨a5, l5, e5⟩ hle5 hp5); (obtain ⟨t5, u5, rfl, ho5, hc5⟩ := jK hp5); (dsimp only [List.cons_append, List.nil_append]); refine D9 ?_))
                all_goals ((refine D3 6 ?_; refine D5 ?_; refine NB fun b => ?_; refine D9 ?_))
                all_goals ((refine D3 7 ?_; refine D5 ?_; (((with_reducible apply lI); (iterate 3 exact rfl); (repeat first | with_reducible exact cF | with_reducible apply cQ); (iterate 6 exact rfl); (((with_reducible apply eZ); exact rfl; (repeat with_reducible exact bG); exact rfl)); (exact rfl); ((exact dP (by (repeat first | with_reducible exact bH | ((with_reducible apply aU); (first | exact rfl | assumption)))))); omega; omega; intro v)); refine D9 ?_))
                all_goals refine DD 8 ?_
                all_goals ((refine D3 9 ?_; refine D5 ?_; (((with_reducible apply iA 2); exact rfl; rintro A4 c4 rfl hok4; (with_reducible apply sN); exact rfl; exact rfl; (repeat first | with_reducible exact bH | ((with_reducible apply aU); (exact rfl))); (repeat first | with_reducible apply iD | with_reducible apply iC); exact rfl; (repeat first | with_reducible exact iE | with_reducible apply fK))); refine D9 ?_))
                all_goals refine D8 ?_
              case' dr26_5 =>
                ((refine D5 ?_; (with_reducible apply aA 1); (iterate 3 exact rfl); ((with_reducible apply aL); kernel_rfl; exact rfl; exact rfl); exact rfl; (exact fun w5 hw5 hO5 => ihc w5 _ hw5 hmq9 hT9 hnm9 hO5); (rintro v5 μ5 ⟨a5, l5, e5⟩ hle5 hp5); (obtain ⟨t5, u5, rfl, ho5, hc5⟩ := jK hp5); (dsimp only [List.cons_append, List.nil_append]); refine D9 ?_))
                refine bT 1 6 (by kernel_rfl) ?dr27_1 ?dr27_6
                case' dr27_1 =>
                  (((with_reducible apply bJ); (iterate 4 exact rfl); (((with_reducible apply iQ); exact rfl; (repeat first | with_reducible exact bG | with_reducible apply dJ); exact rfl))))
                  all_goals ((refine D3 6 ?_; refine D5 ?_; refine NB fun b => ?_; refine D9 ?_))
                  all_goals ((refine D3 7 ?_; refine D5 ?_; (((with_reducible apply lI); (iterate 3 exact rfl); (repeat first | with_reducible exact cF | with_reducible apply cQ); (iterate 6 exact rfl); (((with_reducible apply eZ); exact rfl; (repeat with_reducible exact bG); exact rfl)); (exact rfl); ((exact dP (by (repeat first | with_reducible exact bH | ((with_reducible apply aU); (first | exact rfl | assumption)))))); omega; omega; intro v)); refine D9 ?_))
                  all_goals refine DD 8 ?_
                  all_goals ((refine D3 9 ?_; refine D5 ?_; (((with_reducible apply iA 2); exact rfl; rintro A4 c4 rfl hok4; (with_reducible apply sN); exact rfl; exact rfl; (repeat first | with_reducible exact bH | ((with_reducible apply aU); (exact rfl))); (repeat first | with_reducible apply iD | with_reducible apply iC); exact rfl; (repeat first | with_reducible exact iE | with_reducible apply fK))); refine D9 ?_))
                  all_goals refine D8 ?_
                case' dr27_6 =>
                  ((refine D5 ?_; refine NB fun b => ?_; refine D9 ?_))
                  all_goals ((refine D3 1 ?_; (with_reducible apply bJ); (iterate 4 exact rfl); (((with_reducible apply iQ); exact rfl; (repeat first | with_reducible exact bG | with_reducible apply dJ); exact rfl))))
                  all_goals ((refine D3 7 ?_; refine D5 ?_; (((with_reducible apply lI); (iterate 3 exact rfl); (repeat first | with_reducible exact cF | with_reducible apply cQ); (iterate 6 exact rfl); (((with_reducible apply eZ); exact rfl; (repeat with_reducible exact bG); exact rfl)); (exact rfl); ((exact dP (by (repeat first | with_reducible exact bH | ((with_reducible apply aU); (first | exact rfl | assumption)))))); omega; omega; intro v)); refine D9 ?_))
                  all_goals refine DD 8 ?_
                  all_goals ((refine D3 9 ?_; refine D5 ?_; (((with_reducible apply iA 2); exact rfl; rintro A4 c4 rfl hok4; (with_reducible apply sN); exact rfl; exact rfl; (repeat first | with_reducible exact bH | ((with_reducible apply aU); (exact rfl))); (repeat first | with_reducible apply iD | with_reducible apply iC); exact rfl; (repeat first | with_reducible exact iE | with_reducible apply fK))); refine D9 ?_))
                  all_goals refine D8 ?_
              all_goals repeat' (first | refine KK ?_ | fail)
              all_goals refine dQ (n' := (ps ++ [(t5, u5)]).length) (xs' := (ps ++ [(t5, u5)]).flatMap qO) 2 rfl (by simp) (by simp) ?_
              all_goals refine J2 (j + 1, ps ++ [(t5, u5)], μ5, .slice A4 (ps.length + 1) c4, a5, l5, e5) ?_ (by dsimp only; omega)
              all_goals exact CO hlt hpl hle9 hone hlb ha hfu hgf hkids hall hEq hle5 ho5 hc5
            · obtain rfl : j = c := by omega
              obtain ⟨g, rfl⟩ : ∃ g, g9 = g + 1 := ⟨g9 - 1, by omega⟩
              rw [Nat.sub_self, CY] at hEq
              have hR2 : Iq.cN aP (f + 1) deep line (s.drop k) = .ok (T.mk vop 0 vn vm (ofB vt) (ps.map (·.1)), s.drop a9, ln9) := by rw [hR, hEq]
              refine nS rfl ?_
              intro μ10 hle10 hsh
              obtain ⟨A2, c2, hv, hS2⟩ := NT (enc := qO) (xs := ps) hsh rfl (by simp) rfl
              have hcap := Bk.cap hsh
              cases hv
              have hkr := KR.JM hS2 hcap (fun p hp => (hkids p hp).mono hle10)
              repeat' (first | refine KK ?_ | refine KG ?_ | fail)
              all_goals first | skip
              all_goals exact aS (Ls := fun i : Int × Int × Int => rdI rb (s, i.1, i.2.1, i.2.2, m)) (Post := jC s (Iq.cN aP (f + 1) deep line (s.drop k))) 1 ((a9 : Int), ln9, 0) hcnt rfl (RG (vs := [.int .i64 vop, .int .i64 0, .int .i64 vn, .int .i64 vm, .string (ofB vt), .slice A1 ps.length c1]) 2 rfl rfl rfl rfl rfl) rfl rfl (fun μ' hle' => JQ hR2 ha rfl hlb (hkr.mono hle') (gU.node ⟨0, ⟨by dsimp only; omega, by dsimp only; omega⟩, by dsimp only; rw [bF]; exact hrg.2⟩ (fun t ht => by obtain ⟨p, hp, rfl⟩ := List.mem_map.1 ht; exact hall p hp)))
          · have hR2 : Iq.cN aP (f + 1) deep line (s.drop k) = .error (ln9, e9) := by rw [hR, hEq]
            repeat' (first | refine KK ?_ | (refine KB ?_ ?_ <;> intro hp) | refine KG ?_ | fail)
            all_goals first | skip
            all_goals exact aS (Ls := fun i : Int × Int × Int => rdI rb (s, i.1, i.2.1, i.2.2, m)) (Post := jC s (Iq.cN aP (f + 1) deep line (s.drop k))) 1 (at9, ln9, e9) hcnt rfl (RG (vs := [.int .i64 vop, .int .i64 0, .int .i64 vn, .int .i64 vm, .string (ofB vt), .slice A1 ps.length c1]) 3 rfl rfl rfl rfl rfl) rfl rfl (fun μ' hle' => gM hR2 hne _ _ (.mk vop 0 vn vm (ofB vt) []) (.slice A1 ps.length c1) rfl)
    · have hlt5 : ((eI 4 x).length : Int) < 5 := by omega
      repeat' (first | refine KO ?_ | (refine CF 95 ?_; (with_reducible apply aA (Ls := fun i => [.inl ⟨i, 9, min 5 (x.length + 1), idx 0 (kL (eI 4 x))⟩]) 0); (iterate 3 exact rfl); ((with_reducible apply nW); kernel_rfl; (iterate 3 exact rfl)); exact rfl; (exact fun w hw _ => uD x (by omega) w _ hw (hmq.mono hle2)); (rintro v3 μ3 i3 hle3 rfl); (dsimp only [List.cons_append, List.nil_append])) | fail)
      all_goals first | skip
      refine nC (l' := [(25, .pointer (some ⟨rb, 0, none⟩)), (4, .pointer (some ⟨b, 0, none⟩))]) (L' := [.inl ⟨rb, 55, 5, [(0, .string (ofB s)), (1, .int .i64 ((k + x.length + 1 : Nat) : Int)), (2, .int .i64 (line + 1)), (3, .int .i64 0), (4, .map (some m))]⟩, .inl ⟨b, 42, 6, []⟩]) PU PS ?_
      repeat' (first | refine KO ?_ | (refine CF 30 ?_; (with_reducible apply aA 1); (iterate 3 exact rfl); ((with_reducible apply aL); kernel_rfl; exact rfl; exact rfl); exact rfl; (exact fun w hw hO => dA rb (s, ((k + x.length + 1 : Nat) : Int), line + 1, 0, m) 7 w _ hw hO); (rintro v2 μ2 ⟨⟩ hle2 hv); (dsimp only [List.cons_append, List.nil_append])) | refine KI ?_ | fail)
      all_goals first | skip
      exact aS (Ls := fun i : Int × Int × Int => rdI rb (s, i.1, i.2.1, i.2.2, m)) (Post := jC s (Iq.cN aP (f + 1) deep line (s.drop k))) 1 (((k + x.length + 1 : Nat) : Int), line + 1, 7) hcnt rfl (RG (vs := [.int .i64 0, .int .i64 0, .int .i64 0, .int .i64 0, .string ⟨#[]⟩, .slice none 0 0]) 1 rfl rfl rfl rfl rfl) rfl rfl (fun μ' _ => gM (pV hc hln) (by decide) _ _ (.mk 0 0 0 0 ⟨#[]⟩ []) (.slice none 0 0) rfl)
theorem VZ (s : List UInt8) (hs : s.length ≤ 1000000) (m : Nat) : ∀ g, aD1 s m g := fun g => by
  induction g using Nat.strongRecOn with
  | ind g ih =>
    cases g with
    | zero => intro rb k hk line deep hl hd hf; exfalso; omega
    | succ f =>
      intro rb k hk line deep hl hd hf w μ hμ hmq hT hnm hO
      exact VY f rb s hs m (fun g hg => ih g (by omega)) k hf hk line deep hl hd w μ hμ hmq hT hnm hO
end Go.Proofs.YtoclmkdfcafhfaaGreatDoor
