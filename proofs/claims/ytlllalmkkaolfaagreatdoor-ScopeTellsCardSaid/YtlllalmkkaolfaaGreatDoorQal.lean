/- Package early: node, walked. -/
import Derived.Test.YtlllalmkkaolfaaGreatDoorQak
set_option maxRecDepth 20000
set_option maxHeartbeats 2000000
namespace Go.Proofs.YtlllalmkkaolfaaGreatDoor
section
open Go.RowKit Go.Vcg Ou
attribute [local irreducible] wdL anI mP mkD G GC GQ GA eN Calls IntKind.wrap Int.decLt Int.decLe
theorem PV.form {μ : Mem} {p : EP} {v : Value} (h : PV μ p v) : ∃ Ar cr Al cl Ao co Am cm, v = .agg (hZ p (.slice Ar p.regs.length cr) (.slice Al p.labels.length cl) (.slice Ao p.loops.length co) (.slice Am p.mine.length cm)).toArray ∧ IsV μ (.slice Ar p.regs.length cr) p.regs ∧ SsV μ (.slice Al p.labels.length cl) p.labels ∧ SsV μ (.slice Ao p.loops.length co) p.loops ∧ SsV μ (.slice Am p.mine.length cm) p.mine := by
 obtain ⟨r, lb, lo, mi, rfl, h1, h2, h3, h4⟩ := h
 have e1 := h1
 have e2 := h2
 have e3 := h3
 have e4 := h4
 obtain ⟨Ar, cr, rfl, -, -⟩ := e1
 obtain ⟨Al, cl, rfl, -, -⟩ := e2
 obtain ⟨Ao, co, rfl, -, -⟩ := e3
 obtain ⟨Am, cm, rfl, -, -⟩ := e4
 exact ⟨_, _, _, _, _, _, _, _, rfl, h1, h2, h3, h4⟩
theorem XQ (N : T → EP → ES → ES) (B : T → EP → ED → ES → ES) (t : T) (hq : eK qE t) (bo : t.size ≤ 80000) (a7 : ∀ k, eK qE k → k.size < t.size → NCk N k ∧ NG N k) (b7 : ∀ k, eK qE k → k.size < t.size → BCk B k ∧ BG B k) : NCk (MC wdF N B) t := by
 intro xb mb u pv p s μ hk hp hB hS hm
 intro w fs hμ j hO
 have r := dJ hO.diff
 have dn := hp
 obtain ⟨Ar, cr, Al, cl, Ao, co, Am, cm, rfl, bt, bc, a1, aq⟩ := hp.form
 have ou := hk.one
 have dm := hB.regs
 have ds := hB.labels
 have dp := hB.loops
 have hne := hB.ne
 have df := hq.here.2
 have bq := bA t
 have c1 := gR t.kids
 have hlen : t.kids.length ≤ 100000 := by omega
 have aj : ∀ k ∈ t.kids, k.size < t.size := fun k hk => by
  have : k.size ≤ szs t.kids := T.eF (List.mem_map.2 ⟨k, hk, rfl⟩)
  omega
 have hN : ∀ k ∈ t.kids, NCk N k ∧ NG N k := fun k hk => a7 k (hq.kid hk) (aj k hk)
 have ba : s.regs ≤ 1000000 := by
  unfold SB at hS
  omega
 have az : SB (gA s) (szs t.kids) := by
  have := (sD (F := FF) s).wt
  unfold SB at hS ⊢
  omega
 obtain ⟨A, c, rfl, hcap, ax⟩ := hk.form
 generalize f : MC wdF N B t p s = s'
 unfold MC at f
 dsimp only at f
 refine cC (args := [.pointer (some ⟨xb, 0, none⟩), .agg (aY t (.slice A t.kids.length c)).toArray, .agg (hZ p (.slice Ar p.regs.length cr) (.slice Al p.labels.length cl) (.slice Ao p.loops.length co) (.slice Am p.mine.length cm)).toArray]) Tryz.func71 rfl Tryz.ntmps71 (by simp) hμ hO ?_
 refine kV (aAx xb mb s fs) ?_
 by_cases he : s.e = 0
 rotate_left
 ·rw [if_pos he] at f
  try repeat' (first | refine KZ ?_ | refine NB fun b => ?_)
  all_goals exact gI 2 fs (by exact .inl rfl) r rfl rfl f j
 rw [if_neg (fun h => h he)] at f
 try repeat' (first | refine KZ ?_ | refine NB fun b => ?_)
 rename_i bn
 obtain ⟨bp, cj⟩ : ∃ y, y = b := ⟨_, rfl⟩
 rw [← cj]
 clear cj
 refine aT 9 _ (by kernel_rfl) rfl (aC (aC aQ)) ?_
 all_goals (refine DD 0 ?_; refine DD 1 ?_; refine DD 2 ?_; refine DD 3 ?_; refine DD 4 ?_; refine DD 5 ?_; refine DD 6 ?_; refine DD 7 ?_; refine DD 8 ?_; refine D8 ?_)
 try repeat' (first | ((with_reducible show GC _ _ (Code.seq (Code.region 4 _ _) _) _ _ _ _); (apply dF)) | refine KZ ?_)
 refine gcs (XF (l' := [(0, .pointer (some ⟨xb, 0, none⟩)), (4, .pointer (some ⟨bn, 0, none⟩)), (5, .pointer (some ⟨bp, 0, none⟩)), (6, (.slice Am p.mine.length cm)), (7, .bool p.own), (8, .bool p.each)]) (L' := .inl ⟨bp, 101, 12, idx 0 (hZ (rP p) (.slice Ar p.regs.length cr) (.slice Al p.labels.length cl) (.slice Ao p.loops.length co) (.slice none 0 0))⟩ :: .inl ⟨bn, 24, 6, idx 0 (aY t (.slice A t.kids.length c))⟩ :: EB xb mb s fs) PU (eV (.cells PU) (fL _)) ?_)
 have l : PV μ (rP p) (.agg (hZ (rP p) (.slice Ar p.regs.length cr) (.slice Al p.labels.length cl) (.slice Ao p.loops.length co) (.slice none 0 0)).toArray) := ⟨_, _, _, _, rfl, bt, bc, a1, SsV.nil _⟩
 have ab : ∀ n, n ≤ t.size → PB (rP p) n := fun n hn => ⟨hne, by show p.regs.length + n ≤ 90000; omega, by show p.labels.length + n ≤ 90000; omega, by show p.loops.length + 0 ≤ p.labels.length; omega⟩
 have a6 : ∀ s n, n < t.size → PB (mU (rP p) s) n := fun s n hn => ⟨by show 0 < (p.regs ++ _).length; simp, by show (p.regs ++ _).length + n ≤ 90000; rw [aK, cT]; omega, by show p.labels.length + n ≤ 90000; omega, by show p.loops.length + 0 ≤ p.labels.length; omega⟩
 have b0 : ∀ x n, n < t.size → PB { rP p with labels := p.labels ++ [x], mine := p.mine ++ [x] } n := fun x n hn => ⟨hne, by show p.regs.length + n ≤ 90000; omega, by show (p.labels ++ [x]).length + n ≤ 90000; rw [aK, cT]; omega, by show p.loops.length + (p.mine ++ [x]).length ≤ (p.labels ++ [x]).length; rw [aK, aK, cT]; omega⟩
 have cb : (rP p).loops.length + p.mine.length + (rP p).mine.length ≤ (rP p).labels.length := by show p.loops.length + p.mine.length + 0 ≤ p.labels.length; omega
 have br : (rP p).regs.length ≤ 100000 := by show p.regs.length ≤ _; omega
 have bs : (rP p).labels = p.labels := rfl
 have ca : (rP p).loops = p.loops := rfl
 have cc : (rP p).regs = p.regs := rfl
 have bm : ∀ s, (mU (rP p) s).regs.length ≤ 100000 := fun s => by show (p.regs ++ _).length ≤ _; rw [aK, cT]; omega
 have a8 : ∀ s, 0 < (mU (rP p) s).regs.length := fun s => by show 0 < (p.regs ++ _).length; simp
 generalize rP p = q at f l ab a6 b0 cb br bs ca cc bm a8 ⊢
 by_cases h2 : t.op = 2
 ·rw [if_pos h2] at f
  try repeat' (first | refine KO ?_ | (refine CF 98 ?_; refine iR 2 rfl rfl rfl EN rfl j (XO N B t hq h2 bo a7 b7 xb mb _ _ q p.each s _ hk l (ab _ (aD _)) hS hm) ?_; intro v1 μ1 i1 d j; dsimp only [aL, aP]) | refine KZ ?_)
  all_goals exact gI 2 i1 (by exact .inr rfl) r rfl rfl f j
 rw [if_neg h2] at f
 by_cases h4 : t.op = 4
 ·rw [if_pos h4] at f
  try repeat' (first | refine KO ?_ | (refine CF 99 ?_; refine iR 2 rfl rfl rfl EN rfl j (aC5 N B t hq h4 bo a7 b7 xb mb _ _ q p.own s _ hk l (ab _ (aD _)) hS hm) ?_; intro v1 μ1 i1 d j; dsimp only [aL, aP]) | refine KZ ?_)
  all_goals exact gI 2 i1 (by exact .inr rfl) r rfl rfl f j
 rw [if_neg h4] at f
 by_cases h6 : t.op = 6
 ·rw [if_pos h6] at f
  try repeat' (refine KZ ?_)
  refine aT 7 _ (by kernel_rfl) rfl (aC (aC aQ)) ?_
  all_goals (refine DD 0 ?_; refine DD 1 ?_; refine DD 2 ?_; refine DD 3 ?_; refine DD 4 ?_)
  all_goals (refine D3 5 ?_; refine D5 ?_; (refine CF 100 ?_; refine TQ 2 rfl rfl rfl EN rfl j (uL xb mb q _ s _ l br ba) ?_; intro v1 μ1 i1 d j bk; dsimp only [aL, aP]; have hk := hk.mono d; have hm := hm.mono d); refine D9 ?_)
  all_goals (refine D3 6 ?_; refine D5 ?_; (refine CF 48 ?_; refine iR 2 rfl rfl rfl EN rfl j (kJ N t.kids _ _ (mU q s) (gA s) _ xb mb hN hk bk (fun y hy => a6 s _ (aj y hy)) az hlen hm) ?_; intro v1 μ1 i1 d j; dsimp only [aL, aP]); refine D9 ?_)
  all_goals refine D8 ?_
  all_goals try repeat' (refine KZ ?_)
  all_goals exact gI 2 i1 (by exact .inr rfl) r rfl rfl f j
 rw [if_neg h6] at f
 by_cases b8 : t.op = 20
 ·rw [if_pos b8] at f
  have c6 := hq.here.1.two (by simp [b8])
  obtain ⟨rr, cu⟩ := wG c6
  have hz := bq
  rw [cu, cO, cO] at hz az
  have dk := bA (dC t 1)
  obtain ⟨ad, x0, rfl, o, bf, v⟩ := ax 0 _ (iC (by omega))
  obtain ⟨ad', x1, e, bi, di, al⟩ := ax 1 _ (iC (by omega))
  cases e
  have de := hq.kid (eH (t := t) (i := 1) (by omega))
  have dr := gR (dC t 1).kids
  obtain ⟨dd, ay⟩ := b7 _ (hq.kid (eH (t := t) (i := 0) (by omega))) (by omega)
  have ck : ∀ y ∈ (dC t 1).kids, (NCk N y ∧ NG N y) ∧ y.size < t.size := fun y hy => by
   have : y.size ≤ szs (dC t 1).kids := T.eF (List.mem_map.2 ⟨y, hy, rfl⟩)
   exact ⟨a7 y (de.kid hy) (by omega), by omega⟩
  try repeat' (first | ((with_reducible show GC _ _ (Code.seq (Code.region 14 _ _) _) _ _ _ _); (apply dF)) | refine KO ?_ | (refine CF 100 ?_; refine TQ 2 rfl rfl rfl EN rfl j (uL xb mb q _ s _ l br ba) ?_; intro v1 μ1 i1 d j bk; dsimp only [aL, aP]; obtain ⟨r2, lb2, lo2, mi2, rfl, ap, ak, ai, ah⟩ := bk; have q1 := ap.one; have q2 := ak.one; have q3 := ai.one; have q4 := ah.one; have bb := ap; obtain ⟨A2, c2, rfl, -, -⟩ := bb) | refine KZ ?_)
  have au := a6 s
  have bm := bm s
  have a8 := a8 s
  generalize mU q s = q2 at f ap ak ai ah au bm a8 ⊢
  refine gcs ?_
  have bd : PV μ1 q2 (.agg (hZ q2 (.slice A2 q2.regs.length c2) lb2 lo2 mi2).toArray) := ⟨_, _, _, _, rfl, ap, ak, ai, ah⟩
  obtain ⟨nv, cf, b2⟩ := DU μ1 q2 _ bd a8 (by omega)
  have cd := cf
  obtain ⟨An, cn, rfl, -, -⟩ := cd
  have cx : (oF q2).length ≤ 100000 := by
   unfold oF
   rw [cQ]
   omega
  have o := o.mono d
  have v := v.mono d
  have bi := bi.mono d
  have al := al.mono d
  have hm := hm.mono d
  have b9 := SB.gr (n := (dC t 0).size) (m := szs (dC t 1).kids) (az.mono (by omega)) (ay q2 ⟨true, oF q2, 0, false⟩ (gA s))
  try repeat' (refine KZ ?_)
  refine aT 10 _ (by kernel_rfl) rfl (aC (aC aQ)) ?_
  all_goals (refine DD 0 ?_; refine D1 1 ?_; refine DD 2 ?_; refine D2 3 rfl (by exact U1 0) ?_; refine D2 4 rfl (by exact U4 o) ?_; refine DD 5 ?_; refine DD 6 ?_; refine D3 7 ?_; refine D5 ?_; refine K2 102 b2 ?_; refine D9 ?_; refine DD 8 ?_)
  all_goals (refine D3 9 ?_; refine D5 ?_; (refine CF 101 ?_; refine iR 2 rfl rfl rfl EN rfl j (dd xb mb _ _ _ q2 ⟨true, oF q2, 0, false⟩ _ _ v bd cf cx (au _ (by omega)) (az.mono (by omega)) hm) ?_; intro v1 μ1 i1 d j; dsimp only [aL, aP]; have bi := bi.mono d; have al := al.mono d; have bd := bd.mono d; have hm := hm.mono d); refine D9 ?_)
  all_goals refine D8 ?_
  all_goals try repeat' (refine KZ ?_)
  all_goals
   refine aT 8 _ (by kernel_rfl) rfl (aC (aC aQ)) ?_
   all_goals (refine DD 0 ?_; refine D1 1 ?_; refine DD 2 ?_; refine D2 3 rfl (by exact U1 1) ?_; refine DD 4 ?_; refine D2 5 rfl (by exact U4 bi) ?_; refine DD 6 ?_)
   all_goals (refine D3 7 ?_; refine D5 ?_; refine CF 48 ?_; refine iR 2 rfl rfl rfl EN rfl j (kJ N (dC t 1).kids _ _ q2 _ _ xb mb (fun y hy => (ck y hy).1) al bd (fun y hy => au _ (ck y hy).2) b9 (by omega) hm) ?_; intro v1 μ1 i1 d j; dsimp only [aL, aP]; refine D9 ?_)
   all_goals refine D8 ?_
  all_goals try repeat' (refine KZ ?_)
  all_goals exact gI 2 i1 (by exact .inr rfl) r rfl rfl f j
 rw [if_neg b8] at f
 by_cases bw : t.op = 10 ∨ t.op = 11 ∨ t.op = 12 ∨ t.op = 13 ∨ t.op = 14
 ·rw [if_pos bw] at f
  have cs := bw
  rcases cs with h | h | h | h | h
  all_goals try repeat' (first | refine KO ?_ | (refine CF 103 ?_; refine iR 2 rfl rfl rfl EN rfl j (XU N t hq bw bo a7 xb mb _ _ _ q p.mine s _ hk l aq (ab _ (aD _)) cb hS hm) ?_; intro v1 μ1 i1 d j; dsimp only [aL, aP]) | refine KZ ?_)
  all_goals exact gI 2 i1 (by exact .inr rfl) r rfl rfl f j
 rw [if_neg bw] at f
 by_cases cq : t.op = 21
 ·rw [if_pos cq] at f
  have al := hq.here.1.one (by omega)
  have hz := bq
  rw [EZ al, cO] at hz
  obtain ⟨ad, x0, rfl, o, bf, v⟩ := ax 0 _ (iC (by omega))
  obtain ⟨bh, ay⟩ := hN _ (eH (t := t) (i := 0) (by omega))
  have ar : ∀ y ∈ t.kids.drop 1, y ∈ t.kids := fun y hy => cD hy
  have an := hk.AE (by omega)
  have cg := gR (t.kids.drop 1)
  have da := (ay q s).trans (sD (F := FF) (N (dC t 0) q s)) (aD _)
  have ag : SB (gA (N (dC t 0) q s)) (szs (t.kids.drop 1)) := by
   have := da.wt
   unfold SB at hS ⊢
   omega
  have b1 : (N (dC t 0) q s).regs ≤ 1000000 := by
   have := (ay q s).wt
   unfold SB at hS
   omega
  try repeat' (refine KZ ?_)
  refine aT 7 _ (by kernel_rfl) rfl (aC (aC aQ)) ?_
  all_goals (refine DD 0 ?_; refine D1 1 ?_; refine DD 2 ?_; refine D2 3 rfl (by exact U1 0) ?_; refine D2 4 rfl (by exact U4 o) ?_; refine DD 5 ?_)
  all_goals (refine D3 6 ?_; refine D5 ?_; refine CF 71 ?_; refine iR 2 rfl rfl rfl EN rfl j (bh xb mb _ _ q s _ v l (ab _ (by omega)) (hS.mono (by omega)) hm) ?_; intro v1 μ1 i1 d j; dsimp only [aL, aP]; have an := an.mono d; have l := l.mono d; have hm := hm.mono d; refine D9 ?_)
  all_goals refine D8 ?_
  all_goals try repeat' (first | ((with_reducible show GC _ _ (Code.seq (Code.region 25 _ _) _) _ _ _ _); (apply dF)) | refine KO ?_ | (refine CF 100 ?_; refine TQ 2 rfl rfl rfl EN rfl j (uL xb mb q _ (N (dC t 0) q s) _ l br b1) ?_; intro v1 μ1 i1 d j bk; dsimp only [aL, aP]; have an := an.mono d; have hm := hm.mono d; obtain ⟨r2, lb2, lo2, mi2, rfl, ap, ak, ai, ah⟩ := bk; have q1 := ap.one; have q2 := ak.one; have q3 := ai.one; have q4 := ah.one; have bb := ap; obtain ⟨A2, c2, rfl, -, -⟩ := bb) | refine KZ ?_)
  have au := a6 (N (dC t 0) q s)
  generalize mU q (N (dC t 0) q s) = q2 at f ap ak ai ah au ⊢
  refine gcs ?_
  try repeat' (refine KZ ?_)
  refine aT 6 _ (by kernel_rfl) rfl (aC (aC aQ)) ?_
  all_goals (refine DD 0 ?_; refine D1 1 ?_; refine DD 2 ?_; refine D2 3 rfl (by ((with_reducible apply kK 1); (iterate 4 exact rfl); omega; omega)) ?_; refine DD 4 ?_)
  all_goals (refine D3 5 ?_; refine D5 ?_; refine CF 48 ?_; refine iR 2 rfl rfl rfl EN rfl j (kJ N (t.kids.drop 1) _ _ { q2 with choice := true } _ _ xb mb (fun y hy => hN y (ar y hy)) an ⟨_, _, _, _, rfl, ap, ak, ai, ah⟩ (fun y hy => ⟨(au _ (aj y (ar y hy))).ne, (au _ (aj y (ar y hy))).regs, (au _ (aj y (ar y hy))).labels, (au _ (aj y (ar y hy))).loops⟩) ag (by omega) hm) ?_; intro v1 μ1 i1 d j; dsimp only [aL, aP]; refine D9 ?_)
  all_goals refine D8 ?_
  all_goals try repeat' (refine KZ ?_)
  all_goals exact gI 2 i1 (by exact .inr rfl) r rfl rfl f j
 rw [if_neg cq] at f
 by_cases h9 : t.op = 9
 ·rw [if_pos h9] at f
  have al := hq.here.1.one (by omega)
  have hz := bq
  rw [EZ al, cO] at hz
  obtain ⟨ad, x0, rfl, o, bf, v⟩ := ax 0 _ (iC (by omega))
  obtain ⟨bh, ay⟩ := hN _ (eH (t := t) (i := 0) (by omega))
  have ar : ∀ y ∈ t.kids.drop 1, y ∈ t.kids := fun y hy => cD hy
  have an := hk.AE (by omega)
  have cg := gR (t.kids.drop 1)
  have db : (t.kids.drop 1).length = t.kids.length - 1 := cQ
  have c4 : (t.kids.drop 1).length ≤ 100000 := by omega
  have ag := SB.gr (s' := N (dC t 0) q s) (n := (dC t 0).size) (m := szs (t.kids.drop 1)) (hS.mono (by omega)) (ay q s)
  try repeat' (refine KZ ?_)
  refine aT 7 _ (by kernel_rfl) rfl (aC (aC aQ)) ?_
  all_goals (refine DD 0 ?_; refine D1 1 ?_; refine DD 2 ?_; refine D2 3 rfl (by exact U1 0) ?_; refine D2 4 rfl (by exact U4 o) ?_; refine DD 5 ?_)
  all_goals (refine D3 6 ?_; refine D5 ?_; refine CF 71 ?_; refine iR 2 rfl rfl rfl EN rfl j (bh xb mb _ _ q s _ v l (ab _ (by omega)) (hS.mono (by omega)) hm) ?_; intro v1 μ1 i1 d j; dsimp only [aL, aP]; have an := an.mono d; have l := l.mono d; have hm := hm.mono d; refine D9 ?_)
  all_goals refine D8 ?_
  all_goals try repeat' (first | refine KO ?_ | (refine KV (b := by ((with_reducible apply kK 1); (iterate 4 exact rfl); omega; omega)) (c := ?_)) | refine KZ ?_)
  rw [← db] at an ⊢
  obtain ⟨A3, c3, e3, dc, bj⟩ := an.form
  rw [e3]
  generalize dl : N (dC t 0) q s = s0 at j f ag ⊢
  generalize dq : t.kids.drop 1 = l3 at f ar cg c4 ag bj ⊢
  refine bW (ι := Nat × Mem × List FR) (fun y => y.1 ≤ l3.length ∧ MLe μ1 y.2.1 ∧ ER y.2.1 y.2.2 ((l3.take y.1).foldl (fun s k => nW N k q s) s0)) (fun y => l3.length - y.1) (fun y => y.2.1) (fun y => [(121, .int .i64 (y.1 : Int)), (120, .int .i64 (l3.length : Int)), (119, .slice A3 l3.length c3), (5, .pointer (some ⟨bp, 0, none⟩)), (0, .pointer (some ⟨xb, 0, none⟩))]) (fun y => .inl ⟨bp, 101, 12, idx 0 (hZ q (.slice Ar p.regs.length cr) (.slice Al p.labels.length cl) (.slice Ao p.loops.length co) (.slice none 0 0))⟩ :: EB xb mb ((l3.take y.1).foldl (fun s k => nW N k q s) s0) y.2.2) (0, μ1, i1) ⟨aI _, MLe.refl _, j⟩ (fun a w hs => hs.sel PU (eV (.refl _) (bS _ (fL _)))) ?_
  clear j
  rintro ⟨i, μ0, fs0⟩ ⟨hi, ao, j⟩
  dsimp only at hi ao j ⊢
  by_cases hlt : i < l3.length
  ·obtain ⟨k, bu⟩ : ∃ k, l3[i]? = some k := ⟨_, aA hlt⟩
   obtain ⟨ad3, x3, rfl, c0, dh, ch⟩ := bj i k bu
   have bx := ar k (aB bu)
   have cz := c0.mono ao
   obtain ⟨cy, -⟩ := hN k bx
   have dj := jO bu
   have c8 : Gr FF (2 * szs (l3.take i)) s0 ((l3.take i).foldl (fun s k => nW N k q s) s0) := by
    have h9 := oC (F := FF) (g := (fun s k => nW N k q s)) (c := fun k => 2 * T.size k) (l3.take i) s0 (fun k hk s => xM k (fun p s => (hN k (ar k (aZ hk))).2 p s) q s)
    rwa [pM] at h9
   have ct := SB.gr (n := szs (l3.take i)) (m := k.size) (ag.mono (by omega)) c8
   have bg : (fun s k => nW N k q s) ((l3.take i).foldl (fun s k => nW N k q s) s0) k = ((l3.take (i + 1)).foldl (fun s k => nW N k q s) s0) := (sL (fun s k => nW N k q s) l3 s0 bu).symm
   dsimp only at bg
   try repeat' (first | refine KO ?_ | (refine CF 104 ?_; refine iR 2 rfl rfl rfl EN rfl j (xZ N k cy _ _ q _ _ xb mb (ch.mono ao) (l.mono ao) (ab _ (Nat.le_of_lt (aj k bx))) ct (hm.mono ao)) ?_; (intro v1 μ1 i1 d j); (dsimp only [aL, aP])) | (refine KV (b := by first | exact U1 i | exact U4 cz) (c := ?_)) | refine KZ ?_ | refine NB fun b => ?_)
   rw [bg] at j ⊢
   exact cP (i + 1, μ1, i1) ⟨by dsimp only; omega, ao.trans d, j⟩ (by dsimp only; omega) rfl PU (dR (.refl _) (bS _ (fL _)))
  ·have c7 : i = l3.length := by omega
   subst c7
   rw [aG (aD _)] at j ⊢
   try repeat' (refine KZ ?_)
   all_goals exact gI 1 fs0 (by exact .inr rfl) r rfl rfl f j
 rw [if_neg h9] at f
 by_cases cp : t.op = 23
 rotate_left
 ·rw [if_neg cp] at f
  try repeat' (first | refine KO ?_ | (refine CF 109 ?_; refine iR 2 rfl rfl rfl EN rfl j (XP N t hq bo a7 xb mb _ _ q s _ hk l (ab _ (aD _)) hS hm) ?_; intro v1 μ1 i1 d j; dsimp only [aL, aP]) | refine KZ ?_)
  all_goals exact gI 2 i1 (by exact .inr rfl) r rfl rfl f j
 rw [if_pos cp] at f
 have al := hq.here.1.one (by omega)
 have hz := bq
 rw [EZ al, cO] at hz
 obtain ⟨ad, x0, rfl, o, bf, v⟩ := ax 0 _ (iC (by omega))
 obtain ⟨bh, ay⟩ := hN _ (eH (t := t) (i := 0) (by omega))
 obtain ⟨cl1, bz⟩ : ∃ b, q.labels.contains t.s = b := ⟨_, rfl⟩
 rw [bz] at f
 have c9 := (rD (F := FF) wdF t t.s q s).trans (lD cl1 t.at' 31 _) (aD _)
 have ag := SB.gr (n := 0) (m := (dC t 0).size) (hS.mono (by omega)) c9
 have cv : SsV μ (.slice Al p.labels.length cl) q.labels := by rw [bs]; exact bc
 try repeat' (first | refine KO ?_ | (refine CF 105 ?_; refine iR 2 rfl rfl rfl EN rfl j (qV xb mb t _ ou _ (by omega) q _ s _ l hm) ?_; intro v1 μ1 i1 d j; dsimp only [aL, aP]; have b5 := cv.mono d; have av := d; have o := o.mono d; have v := v.mono d; have l := l.mono d; have aq := aq.mono d; have hm := hm.mono d) | refine KZ ?_)
 refine aT 9 _ (by kernel_rfl) rfl (aC (aC aQ)) ?_
 all_goals (refine DD 0 ?_; refine DD 1 ?_; refine DD 2 ?_; refine DD 3 ?_; refine DD 4 ?_; refine DD 5 ?_; refine DD 6 ?_; refine D3 7 ?_; refine D5 ?_; refine K2 107 (fun w μc hw af => yC t.s q.labels _ bz _ w μc hw (b5.mono af) (by rw [bs]; omega)) ?_; refine D9 ?_)
 all_goals (refine D3 8 ?_; refine D5 ?_; (refine CF 106 ?_; refine iR 2 rfl rfl rfl EN rfl j (pU xb mb t _ ou _ _ _ _) ?_; intro v1 μ1 i1 d j; dsimp only [aL, aP]; have b5 := b5.mono d; have av := av.trans d; have o := o.mono d; have v := v.mono d; have l := l.mono d; have aq := aq.mono d; have hm := hm.mono d); refine D9 ?_)
 all_goals refine D8 ?_
 try repeat' (first | ((with_reducible show GC _ _ (Code.seq (Code.region 37 _ _) _) _ _ _ _); (apply dF)) | refine KZ ?_)
 have b6 := bc.mono av
 have e1 : (p.labels.flatMap lV).length = p.labels.length := MX p.labels
 have e2 := IF p.labels
 refine gcs (iB (ι := Mem × Value) (fun y => MLe μ1 y.1 ∧ SsV y.1 y.2 (p.labels ++ [t.s])) (fun y => y.1) (fun _ => [(0, .pointer (some ⟨xb, 0, none⟩)), (4, .pointer (some ⟨bn, 0, none⟩)), (5, .pointer (some ⟨bp, 0, none⟩)), (6, (.slice Am p.mine.length cm))]) (fun y => .inl ⟨bp, 101, 12, idx 0 (hZ { q with labels := p.labels ++ [t.s] } (.slice Ar p.regs.length cr) y.2 (.slice Ao p.loops.length co) (.slice none 0 0))⟩ :: .inl ⟨bn, 24, 6, idx 0 (aY t (.slice (some ad) t.kids.length c))⟩ :: EB xb mb (jC cl1 t.at' 31 (pG wdF t t.s q s)) i1) ?_ ?_)
 ·refine aT 11 _ (by kernel_rfl) rfl (dG (aC aQ)) ?_
  all_goals (refine DD 0 ?_; refine DD 1 ?_; refine DD 4 ?_; refine DD 5 ?_)
  refine iF 2 6 (by kernel_rfl) ?dr13_2 ?dr13_6
  case' dr13_2 =>
   (((with_reducible apply iW); (iterate 4 exact rfl); (((with_reducible apply wP); exact rfl; (repeat with_reducible exact fO); exact rfl))))
   refine iF 3 6 (by kernel_rfl) ?dr14_3 ?dr14_6
   case' dr14_3 =>
    (refine D5 ?_; (with_reducible apply F3 108); exact rfl; exact EN; exact fun w μc hw af => zF w μc hw p.labels _ (b6.mono af.le) (by omega); intro vr; refine D9 ?_)
    all_goals (refine D3 6 ?_; refine D5 ?_; refine NB fun b => ?_; refine D9 ?_)
    all_goals (refine D3 7 ?_; refine D5 ?_; refine AI (k := fun g cap hcap => ?_); refine D9 ?_)
    all_goals (refine DD 8 ?_; refine DD 9 ?_; refine D3 10 ?_; refine D5 ?_; refine Y0 ?_; refine D9 ?_; refine D8 ?_)
   case' dr14_6 =>
    (refine D5 ?_; refine NB fun b => ?_; refine D9 ?_)
    all_goals (refine D3 3 ?_; refine D5 ?_; (with_reducible apply F3 108); exact rfl; exact EN; exact fun w μc hw af => zF w μc hw p.labels _ (b6.mono af.le) (by omega); intro vr; refine D9 ?_)
    all_goals (refine D3 7 ?_; refine D5 ?_; refine AI (k := fun g cap hcap => ?_); refine D9 ?_)
    all_goals (refine DD 8 ?_; refine DD 9 ?_; refine D3 10 ?_; refine D5 ?_; refine Y0 ?_; refine D9 ?_; refine D8 ?_)
  case' dr13_6 =>
   (refine D5 ?_; refine NB fun b => ?_; refine D9 ?_)
   all_goals (refine D3 2 ?_; (with_reducible apply iW); (iterate 4 exact rfl); (((with_reducible apply wP); exact rfl; (repeat first | with_reducible exact fO | with_reducible apply oK); exact rfl)))
   all_goals (refine D3 3 ?_; refine D5 ?_; (with_reducible apply F3 108); exact rfl; exact EN; exact fun w μc hw af => zF w μc hw p.labels _ (b6.mono af.le) (by omega); intro vr; refine D9 ?_)
   all_goals (refine D3 7 ?_; refine D5 ?_; refine AI (k := fun g cap hcap => ?_); refine D9 ?_)
   all_goals (refine DD 8 ?_; refine DD 9 ?_; refine D3 10 ?_; refine D5 ?_; refine Y0 ?_; refine D9 ?_; refine D8 ?_)
  all_goals first
   | (refine AT rfl ?_; intro μ4 aw ae; have hv := SsV.mM (xs := p.labels ++ [t.s]) ae (by simp) (by rw [cG]; rfl))
   | (refine AS rfl ?_; intro μ4 aw ae; have hv := SsV.mM (xs := p.labels ++ [t.s]) ae (by simp) (by rw [cG]; rfl))
  all_goals exact eX (μ4, _) ⟨aw, hv⟩ rfl PU (dR (.cells PU) (dR (.cells PU) (bS _ (fL _))))
 rintro ⟨μ2, lv⟩ ⟨aa, b4⟩
 dsimp only at aa b4 ⊢
 have olv := b4.one
 have o := o.mono aa
 have v := v.mono aa
 have bt := bt.mono (av.trans aa)
 have a1 := a1.mono (av.trans aa)
 have aq := aq.mono aa
 have hm := hm.mono aa
 have j := j.mono aa
 have e1 : (p.mine.flatMap lV).length = p.mine.length := MX p.mine
 have e2 := IF p.mine
 refine iB (ι := Mem × Value) (fun y => MLe μ2 y.1 ∧ SsV y.1 y.2 (p.mine ++ [t.s])) (fun y => y.1) (fun _ => [(0, .pointer (some ⟨xb, 0, none⟩)), (4, .pointer (some ⟨bn, 0, none⟩)), (5, .pointer (some ⟨bp, 0, none⟩))]) (fun y => .inl ⟨bp, 101, 12, idx 0 (hZ { q with labels := p.labels ++ [t.s], mine := p.mine ++ [t.s] } (.slice Ar p.regs.length cr) lv (.slice Ao p.loops.length co) y.2)⟩ :: .inl ⟨bn, 24, 6, idx 0 (aY t (.slice (some ad) t.kids.length c))⟩ :: EB xb mb (jC cl1 t.at' 31 (pG wdF t t.s q s)) i1) ?_ ?_
 ·refine aT 8 _ (by kernel_rfl) rfl (dG (aC aQ)) ?_
  all_goals (refine DD 0 ?_; refine DD 2 ?_; refine DD 3 ?_)
  refine iF 1 4 (by kernel_rfl) ?dr15_1 ?dr15_4
  case' dr15_1 =>
   (refine D5 ?_; (with_reducible apply F3 108); exact rfl; exact EN; exact fun w μc hw af => zF w μc hw p.mine _ (aq.mono af.le) (by omega); intro vr; refine D9 ?_)
   all_goals (refine D3 4 ?_; refine D5 ?_; refine NB fun b => ?_; refine D9 ?_)
   all_goals (refine D3 5 ?_; refine D5 ?_; refine AI (k := fun g cap hcap => ?_); refine D9 ?_)
   all_goals (refine DD 6 ?_; refine D3 7 ?_; refine D5 ?_; refine Y0 ?_; refine D9 ?_; refine D8 ?_)
  case' dr15_4 =>
   (refine D5 ?_; refine NB fun b => ?_; refine D9 ?_)
   all_goals (refine D3 1 ?_; refine D5 ?_; (with_reducible apply F3 108); exact rfl; exact EN; exact fun w μc hw af => zF w μc hw p.mine _ (aq.mono af.le) (by omega); intro vr; refine D9 ?_)
   all_goals (refine D3 5 ?_; refine D5 ?_; refine AI (k := fun g cap hcap => ?_); refine D9 ?_)
   all_goals (refine DD 6 ?_; refine D3 7 ?_; refine D5 ?_; refine Y0 ?_; refine D9 ?_; refine D8 ?_)
  all_goals first
   | (refine AT rfl ?_; intro μ4 aw ae; have hv := SsV.mM (xs := p.mine ++ [t.s]) ae (by simp) (by rw [cG]; rfl))
   | (refine AS rfl ?_; intro μ4 aw ae; have hv := SsV.mM (xs := p.mine ++ [t.s]) ae (by simp) (by rw [cG]; rfl))
  all_goals exact eX (μ4, _) ⟨aw, hv⟩ rfl PU (dR (.cells PU) (dR (.cells PU) (bS _ (fL _))))
 rintro ⟨μ3, mv⟩ ⟨z, b3⟩
 dsimp only at z b3 ⊢
 have omv := b3.one
 have o := o.mono z
 have cw : PV μ3 { q with labels := p.labels ++ [t.s], mine := p.mine ++ [t.s] } (.agg (hZ { q with labels := p.labels ++ [t.s], mine := p.mine ++ [t.s] } (.slice Ar p.regs.length cr) lv (.slice Ao p.loops.length co) mv).toArray) := ⟨_, _, _, _, rfl, by show IsV _ _ q.regs; rw [cc]; exact bt.mono z, b4.mono z, by show SsV _ _ q.loops; rw [ca]; exact a1.mono z, b3⟩
 have j := j.mono z
 refine aT 7 _ (by kernel_rfl) rfl (aC (aC aQ)) ?_
 all_goals (refine DD 0 ?_; refine D1 1 ?_; refine DD 2 ?_; refine D2 3 rfl (by exact U1 0) ?_; refine D2 4 rfl (by exact U4 o) ?_; refine DD 5 ?_)
 all_goals (refine D3 6 ?_; refine D5 ?_; refine CF 104 ?_; refine iR 2 rfl rfl rfl EN rfl j (xZ N (dC t 0) bh _ _ { q with labels := p.labels ++ [t.s], mine := p.mine ++ [t.s] } _ _ xb mb (v.mono z) cw (b0 t.s _ (by omega)) ag (hm.mono z)) ?_; intro v1 μ1 i1 d j; dsimp only [aL, aP]; refine D9 ?_)
 all_goals refine D8 ?_
 all_goals try repeat' (refine KZ ?_)
 all_goals exact gI 2 i1 (by exact .inr rfl) r rfl rfl (by rw [← f, bs]) j
end
section
open Go.RowKit Go.Vcg
def fK (t : T) (m : Int) : Bool := decide (t.op = 4) && decide (0 ≤ t.n) && decide ((IntKind.i64.wrap (t.n.tdiv m)).tmod 2 = 1)
def vI (t : T) : Bool := decide (t.op = 2) || fK t 1 || decide (6 ≤ t.op) && decide (t.op ≤ 19) || decide (t.op = 21) || decide (t.op = 23)
def kU (t : T) : Bool := if t.op = 4 then !fK t 1 && !fK t 8 && !fK t 16 && !fK t 32 else decide (30 ≤ t.op) && decide (t.op ≤ 38) || decide (42 ≤ t.op) && decide (t.op ≤ 54)
def CD (t : T) : Bool := decide (t.op = 2) && decide (t.kids.length = 1) && FU t 1
attribute [local irreducible] jU G GC GQ GA eN Calls IntKind.wrap Int.decLt Int.decLe
theorem sI (m : Int) (hm : m ≠ 0) : ∀ (t : T) (u : Value) (w : World) (μ : Mem), MOk μ w → KR μ t.kids u →
 aV 90 #[.agg (aY t u).toArray, .int .i64 m] w (.bool (fK t m)) := by
 intro t u w μ hμ hk
 have ho := hk.one
 refine aE (args := [.agg (aY t u).toArray, .int .i64 m]) Tryz.func90 rfl Tryz.ntmps90 (by simp) hμ ?_
 try repeat' (first | refine KO ?_ | (refine KV (b := by ((with_reducible apply QG); exact rfl; exact rfl; exact hm)) (c := ?_)) | refine KZ ?_ | refine NB fun b => ?_ | (refine KB ?_ ?_ <;> intro a))
 all_goals (refine aJ rfl rfl ?_; simp_all [fK]; try omega)
theorem BZ : rQ 95 iE := by
 intro t u w μ hμ hk hs a
 have ho := hk.one
 refine aE (args := [.agg (aY t u).toArray]) Tryz.func95 rfl Tryz.ntmps95 (by simp) hμ ?_
 try repeat' (first | refine KZ ?_ | refine NB fun b => ?_ | (refine KB ?_ ?_ <;> intro c))
 all_goals (refine aJ rfl rfl ?_; simp_all [iE]; try omega)
theorem BY : rQ 94 cW := by
 intro t u w μ hμ hk hs a
 have ho := hk.one
 refine aE (args := [.agg (aY t u).toArray]) Tryz.func94 rfl Tryz.ntmps94 (by simp) hμ ?_
 try repeat' (first | refine KO ?_ | refine K2 95 (fun w μc hw c => BZ t u w μc hw (hk.mono c) hs a) ?_ | refine KZ ?_ | refine NB fun b => ?_ | (refine KB ?_ ?_ <;> intro d))
 all_goals (refine aJ rfl rfl ?_; simp_all [cW]; try omega)
theorem vJ : rQ 43 gU := by
 intro t u w μ hμ hk hs a
 have ho := hk.one
 refine aE (args := [.agg (aY t u).toArray]) Tryz.func43 rfl Tryz.ntmps43 (by simp) hμ ?_
 try repeat' (first | refine KZ ?_ | refine NB fun b => ?_ | (refine KB ?_ ?_ <;> intro c))
 all_goals (refine aJ rfl rfl ?_; simp_all [gU]; try omega)
theorem WA : rQ 93 vI := by
 intro t u w μ hμ hk hs c
 have ho := hk.one
 refine aE (args := [.agg (aY t u).toArray]) Tryz.func93 rfl Tryz.ntmps93 (by simp) hμ ?_
 try repeat' (first | refine KO ?_ | refine K2 90 (fun w μc hw a => sI 1 (by decide) t u w μc hw (hk.mono a)) ?_ | refine KZ ?_ | refine NB fun b => ?_ | (refine KB ?_ ?_ <;> intro d))
 all_goals (refine aJ rfl rfl ?_; simp_all [vI]; try (intros; omega))
theorem HT : rQ 68 kU := by
 intro t u w μ hμ hk hs c
 have ho := hk.one
 refine aE (args := [.agg (aY t u).toArray]) Tryz.func68 rfl Tryz.ntmps68 (by simp) hμ ?_
 try repeat' (first | refine KO ?_ | ((with_reducible apply F1 90); exact rfl; exact EN; exact fun w μc hw a => sI _ (by decide) t u w μc hw (hk.mono a.le)) | refine KZ ?_ | refine NB fun b => ?_ | (refine KB ?_ ?_ <;> intro d))
 all_goals (refine aJ rfl rfl ?_; simp_all [kU]; try (intros; omega))
theorem WC : rQ 96 CD := by
 intro t u w μ hμ hk hs h
 have ho := hk.one
 obtain ⟨A, c, rfl, p, d⟩ := hk.form
 have hlen := eL t
 refine aE (args := [.agg (aY t (.slice A t.kids.length c)).toArray]) Tryz.func96 rfl Tryz.ntmps96 (by simp) hμ ?_
 by_cases h0 : t.kids.length = 1
 ·obtain ⟨k, a⟩ := List.length_eq_one_iff.1 h0
  obtain ⟨ad, x, rfl, hm, l, e⟩ := d 0 k (by rw [a]; rfl)
  obtain ⟨A2, c2, rfl, f, -⟩ := e.form
  have g := T.fN (t := t) (i := 0) (k := k) (by rw [a]; rfl)
  have o := eL k
  have hg : CD t = (decide (t.op = 2) && decide (k.kids.length = 1)) := by
   unfold CD
   rw [yU a, h0]
   simp
  rw [hg]
  try repeat' (first | refine KO ?_ | (refine KV (b := by first | exact U1 0 | exact U4 hm) (c := ?_)) | refine KZ ?_ | refine NB fun b => ?_ | (refine KB ?_ ?_ <;> intro j))
  all_goals (refine aJ rfl rfl ?_; simp_all; try omega)
 ·have hg : CD t = false := by
   unfold CD
   rw [decide_eq_false h0]
   simp
  rw [hg]
  try repeat' (first | refine KZ ?_ | refine NB fun b => ?_ | (refine KB ?_ ?_ <;> intro j))
  all_goals (refine aJ rfl rfl ?_; simp_all; try omega)
theorem AQ (s : ByteArray) (hs : s.size ≤ 65536) (w : World) (μ : Mem) (hμ : MOk μ w) :
 aV 89 #[.string s] w (.bool (jU s)) := by
 refine aE (args := [.string s]) Tryz.func89 rfl Tryz.ntmps89 (by simp) hμ ?_
 try repeat' (refine KZ ?_)
 refine bW (ι := Nat) (fun i => i ≤ s.size ∧ ∀ (j : Nat) (c : UInt8), j < i → (bl s)[j]? = some c → xA j c) (fun i => s.size - i) (fun _ => μ) (fun i => [(3, .int .i64 i), (0, .string s)]) (fun _ => []) 0 ⟨aI _, fun j _ h => absurd h (by omega)⟩ (fun a w hs => J6 hs) ?_
 rintro i ⟨hi, g⟩
 by_cases hlt : i < s.size
 ·obtain ⟨c, k, r⟩ := aAr (s := s) (i := i) hlt
  have q := c.toNat_lt
  have f : xA i c → ∀ (j : Nat) (d : UInt8), j < i + 1 → (bl s)[j]? = some d → xA j d := fun h j d t hd => by
   rcases cY j i with h1 | h1
   ·exact g j d h1 hd
   ·obtain rfl : j = i := by omega
    rw [k] at hd
    cases hd
    exact h
  have l : ¬xA i c → jU s = false := fun h => GU fun hf => h (hf.2 i c k)
  by_cases hk : xA i c
  ·have hb := f hk
   unfold xA QD UU at hk
   try repeat' (first | refine KO ?_ | (refine KV (b := by exact U2 i) (c := ?_)) | refine KZ ?_ | (refine KB ?_ ?_ <;> intro p))
   all_goals first
    | exact J4 (i + 1) ⟨by omega, hb⟩ (by omega)
    | (exfalso; omega)
  ·rw [l hk]
   unfold xA QD UU at hk
   try repeat' (first | refine KO ?_ | (refine KV (b := by exact U2 i) (c := ?_)) | refine KZ ?_ | (refine KB ?_ ?_ <;> intro p))
   all_goals first
    | exact aJ rfl rfl rfl
    | (exfalso; omega)
 ·obtain rfl : i = s.size := by omega
  have o : ∀ (j : Nat) (c : UInt8), (bl s)[j]? = some c → xA j c := fun j c hc => g j c (by have := (List.getElem?_eq_some_iff.1 hc).1; rw [BF] at this; exact this) hc
  have hg : jU s = decide (s ≠ ⟨#[]⟩) := by
   by_cases h : s = ⟨#[]⟩
   ·rw [GU fun hf => hf.1 (by rw [h]), h]
    simp
   ·rw [PG ⟨fun e => h (YJ e), o⟩]
    simp [h]
  rw [hg]
  try repeat' (refine KZ ?_)
  exact aJ rfl rfl rfl
end
section
open Go.RowKit Go.Vcg
def opsL : List (Int × Int) := [(68, 3), (80, 5), (66, 6), (75, 22), (82, 39), (81, 62), (90, 64)]
noncomputable def oO (c : Int) (t : T) : Bool :=
 if c = 70 then cW t || decide (t.op = 63)
 else if c = 72 then cW t || decide (t.op = 63) || decide (t.op = 40)
 else if c = 107 then decide (t.op = 31) || decide (t.op = 30)
 else if c = 119 then nO t
 else if c = 103 then fK t 16 && FU t 0
 else if c = 115 then fK t 32 && FO t
 else if c = 109 then fK t 8
 else match opsL.find? (fun x => decide (x.1 = c)) with | some x => decide (t.op = x.2) | none => false
noncomputable def isT (c : Int) (t : T) : Bool :=
 if c = 83 then vI t
 else if c = 69 then kU t
 else if c = 84 then cW t
 else if c = 116 then iE t
 else if c = 99 then gU t
 else if c = 73 then decide (t.op = 2) || decide (t.op = 8) || decide (t.op = 7)
 else if c = 77 then kU t || decide (t.op = 7)
 else if c = 76 then cW t || CD t
 else if c = 89 then decide (t.op = 6) || decide (t.op = 7)
 else if c = 67 then decide (t.op = 20) || decide (t.op = 7)
 else if c = 71 then cW t || decide (t.op = 7)
 else if c = 65 then kU t || decide (t.op = 40) || decide (t.op = 41)
 else if c = 97 then kU t || decide (t.op = 41)
 else oO c t
attribute [local irreducible] vI kU cW iE gU CD nO fK oO jU G GC GQ GA eN Calls IntKind.wrap Int.decLt Int.decLe
theorem aIz (e : ∀ (c : Int) (t : T) (u : Value) (w : World) (μ : Mem), MOk μ w → KR μ t.kids u → t.size ≤ 100000 → t.s.size ≤ 65536 → aV 97 #[.int .u8 c, .agg (aY t u).toArray] w (.bool (oO c t))) (c : Int) (t : T) (u : Value) (w : World) (μ : Mem) (hμ : MOk μ w) (hk : KR μ t.kids u) (hs : t.size ≤ 100000) (d : t.s.size ≤ 65536) :
 aV 70 #[.int .u8 c, .agg (aY t u).toArray] w (.bool (isT c t)) := by
 have ho := hk.one
 refine aE (args := [.int .u8 c, .agg (aY t u).toArray]) Tryz.func70 rfl Tryz.ntmps70 (by simp) hμ ?_
 try repeat' (first | refine KO ?_ | refine K2 93 (fun w μc hw a => WA t u w μc hw (hk.mono a) hs d) ?_ | refine K2 68 (fun w μc hw a => HT t u w μc hw (hk.mono a) hs d) ?_ | refine K2 94 (fun w μc hw a => BY t u w μc hw (hk.mono a) hs d) ?_ | refine K2 95 (fun w μc hw a => BZ t u w μc hw (hk.mono a) hs d) ?_ | refine K2 43 (fun w μc hw a => vJ t u w μc hw (hk.mono a) hs d) ?_ | refine K2 96 (fun w μc hw a => WC t u w μc hw (hk.mono a) hs d) ?_ | refine K2 97 (fun w μc hw a => e c t u w μc hw (hk.mono a) hs d) ?_ | refine KZ ?_ | refine NB fun b => ?_ | (refine KB ?_ ?_ <;> intro f))
 all_goals (clear e hk ho hμ; refine aJ rfl rfl ?_; simp_all [isT])
end
section
open Go.RowKit Go.Vcg
attribute [local irreducible] cW nO fK jU G GC GQ GA eN Calls IntKind.wrap Int.decLt Int.decLe
theorem aL7 (t : T) (u : Value) (w : World) (μ : Mem) (hμ : MOk μ w) (hk : KR μ t.kids u) (hs : t.size ≤ 100000) (o : t.s.size ≤ 65536) :
 aV 97 #[.int .u8 103, .agg (aY t u).toArray] w (.bool (fK t 16 && FU t 0)) := by
 have ho := hk.one
 obtain ⟨A, c0, rfl, y, d⟩ := hk.form
 have hlen := eL t
 refine aE (args := [.int .u8 103, .agg (aY t (.slice A t.kids.length c0)).toArray]) Tryz.func97 rfl Tryz.ntmps97 (by simp) hμ ?_
 have h := fun (m : Int) (hm : m ≠ 0) (w : World) (μc : Mem) (hw : MOk μc w) (hle : MLe μ μc) => sI m hm t _ w μc hw (hk.mono hle)
 by_cases h0 : t.kids.length = 0
 ·rw [SQ (cF h0), gE]
  try repeat' (first | refine KO ?_ | refine K2 90 (h 16 (by decide)) ?_ | refine KZ ?_ | refine NB fun b => ?_ | (refine KB ?_ ?_ <;> intro p))
  all_goals (refine aJ rfl rfl ?_; simp_all)
 ·obtain ⟨k, r, a⟩ := gS (l := t.kids) (by intro e; rw [e] at h0; exact h0 rfl)
  obtain ⟨ad, x, rfl, hm, q, f⟩ := d 0 k (by rw [a]; rfl)
  obtain ⟨A2, c2, rfl, g, -⟩ := f.form
  have j := T.fN (t := t) (i := 0) (k := k) (by rw [a]; rfl)
  have v := eL k
  rw [yU a]
  try repeat' (first | refine KO ?_ | refine K2 90 (h 16 (by decide)) ?_ | (refine KV (b := by first | exact U1 0 | exact U4 hm) (c := ?_)) | refine KZ ?_ | refine NB fun b => ?_ | (refine KB ?_ ?_ <;> intro p))
  all_goals (refine aJ rfl rfl ?_; simp_all)
theorem aL6 (t : T) (u : Value) (w : World) (μ : Mem) (hμ : MOk μ w) (hk : KR μ t.kids u) (hs : t.size ≤ 100000) (ab : t.s.size ≤ 65536) :
 aV 97 #[.int .u8 115, .agg (aY t u).toArray] w (.bool (fK t 32 && FO t)) := by
 have ho := hk.one
 obtain ⟨A, c0, rfl, ag, f⟩ := hk.form
 have hlen := eL t
 refine aE (args := [.int .u8 115, .agg (aY t (.slice A t.kids.length c0)).toArray]) Tryz.func97 rfl Tryz.ntmps97 (by simp) hμ ?_
 have j := fun (m : Int) (hm : m ≠ 0) (w : World) (μc : Mem) (hw : MOk μc w) (hle : MLe μ μc) => sI m hm t _ w μc hw (hk.mono hle)
 by_cases h0 : t.kids.length = 0
 ·rw [QR (cF h0), gE]
  try repeat' (first | refine KO ?_ | refine K2 90 (j 32 (by decide)) ?_ | refine KZ ?_ | refine NB fun b => ?_ | (refine KB ?_ ?_ <;> intro p))
  all_goals (refine aJ rfl rfl ?_; simp_all)
 ·obtain ⟨k, r, a⟩ := gS (l := t.kids) (by intro e; rw [e] at h0; exact h0 rfl)
  obtain ⟨ad, x, rfl, hm, ae, h⟩ := f 0 k (by rw [a]; rfl)
  obtain ⟨A2, c2, rfl, v, d⟩ := h.form
  have aa := T.fN (t := t) (i := 0) (k := k) (by rw [a]; rfl)
  have af := eL k
  by_cases h1 : k.kids.length = 1
  ·obtain ⟨y, o⟩ := List.length_eq_one_iff.1 h1
   obtain ⟨ad2, x2, rfl, g, q, z⟩ := d 0 y (by rw [o]; rfl)
   rw [QQ a o]
   try repeat' (first | refine KO ?_ | refine K2 90 (j 32 (by decide)) ?_ | (refine KV (b := by first | exact U1 0 | exact U4 hm | exact U4 g) (c := ?_)) | refine KZ ?_ | refine NB fun b => ?_ | (refine KB ?_ ?_ <;> intro p))
   all_goals (refine aJ rfl rfl ?_; simp_all)
  ·rw [YZ a h1, gE]
   try repeat' (first | refine KO ?_ | refine K2 90 (j 32 (by decide)) ?_ | (refine KV (b := by first | exact U1 0 | exact U4 hm) (c := ?_)) | refine KZ ?_ | refine NB fun b => ?_ | (refine KB ?_ ?_ <;> intro p))
   all_goals (refine aJ rfl rfl ?_; simp_all; try omega)
theorem aBf (c : Int) (t : T) (u : Value) (w : World) (μ : Mem) (hμ : MOk μ w) (hk : KR μ t.kids u) (hs : t.size ≤ 100000) (e : t.s.size ≤ 65536) :
 aV 97 #[.int .u8 c, .agg (aY t u).toArray] w (.bool (oO c t)) := by
 by_cases j : c = 103
 ·subst j
  exact aL7 t u w μ hμ hk hs e
 by_cases g : c = 115
 ·subst g
  exact aL6 t u w μ hμ hk hs e
 have ho := hk.one
 obtain ⟨A, c0, rfl, p, f⟩ := hk.form
 have hlen := eL t
 refine aE (args := [.int .u8 c, .agg (aY t (.slice A t.kids.length c0)).toArray]) Tryz.func97 rfl Tryz.ntmps97 (by simp) hμ ?_
 have l := fun (m : Int) (hm : m ≠ 0) (w : World) (μc : Mem) (hw : MOk μc w) (hle : MLe μ μc) => sI m hm t _ w μc hw (hk.mono hle)
 have ht := fun w μc hw (hle : MLe μ μc) => BY t _ w μc hw (hk.mono hle) hs e
 by_cases v : c = 70 ∨ c = 72 ∨ c = 107 ∨ c = 119 ∨ c = 109
 ·try repeat' (first | refine KO ?_ | refine K2 94 ht ?_ | refine K2 89 (fun w μc hw o => AQ t.s e w μc hw) ?_ | refine K2 90 (l 8 (by decide)) ?_ | refine KZ ?_ | refine NB fun b => ?_ | (refine KB ?_ ?_ <;> intro q))
  all_goals first | (clear hk ho hμ l ht f; refine aJ rfl rfl ?_; simp_all [oO, nO]; done) | skip
 ·try repeat' (first | ((with_reducible show GC _ _ (Code.seq (Code.region 16 _ _) _) _ _ _ _); (apply dF)) | refine KZ ?_ | refine NB fun b => ?_)
  all_goals try (exfalso; omega)
  rename Nat => ba
  refine gcs ?_
  have d : ∀ r : Bool, (match opsL.find? (fun x => decide (x.1 = c)) with | some x => decide (t.op = x.2) | none => false) = r → oO c t = r := fun r h => by
   unfold oO
   rw [if_neg (by omega), if_neg (by omega), if_neg (by omega), if_neg (by omega), if_neg (by omega), if_neg (by omega), if_neg (by omega)]
   exact h
  try repeat' (first | refine KZ ?_ | refine NB fun b => ?_)
  refine bW (ι := Nat) (fun i => i ≤ 7 ∧ (1 ≤ i → c ≠ 68) ∧ (2 ≤ i → c ≠ 80) ∧ (3 ≤ i → c ≠ 66) ∧ (4 ≤ i → c ≠ 75) ∧ (5 ≤ i → c ≠ 82) ∧ (6 ≤ i → c ≠ 81) ∧ (7 ≤ i → c ≠ 90)) (fun i => 7 - i) (fun _ => μ) (fun i => [(7, .int .i64 i), (5, .string ⟨#[68, 80, 66, 75, 82, 81, 90]⟩), (6, .slice (some ⟨b, 0, none⟩) 7 7), (0, .int .u8 c), (3, .pointer (some ⟨ba, 0, none⟩))]) (fun _ => [.inl ⟨b, 3, 7, idx 0 [.int .i64 3, .int .i64 5, .int .i64 6, .int .i64 22, .int .i64 39, .int .i64 62, .int .i64 64]⟩, .inl ⟨ba, 24, 6, idx 0 (aY t (.slice A t.kids.length c0))⟩]) 0 (by omega) (fun a w hs => J5 hs) ?_
  rintro i ⟨hi, q0, q1, q2, q3, q4, q5, q6⟩
  have e0 : bAt ⟨#[68, 80, 66, 75, 82, 81, 90]⟩ 0 = 68 := rfl
  have e1 : bAt ⟨#[68, 80, 66, 75, 82, 81, 90]⟩ 1 = 80 := rfl
  have e2 : bAt ⟨#[68, 80, 66, 75, 82, 81, 90]⟩ 2 = 66 := rfl
  have e3 : bAt ⟨#[68, 80, 66, 75, 82, 81, 90]⟩ 3 = 75 := rfl
  have e4 : bAt ⟨#[68, 80, 66, 75, 82, 81, 90]⟩ 4 = 82 := rfl
  have e5 : bAt ⟨#[68, 80, 66, 75, 82, 81, 90]⟩ 5 = 81 := rfl
  have e6 : bAt ⟨#[68, 80, 66, 75, 82, 81, 90]⟩ 6 = 90 := rfl
  have k : ByteArray.size ⟨#[68, 80, 66, 75, 82, 81, 90]⟩ = 7 := rfl
  rcases (by omega : i = 7 ∨ i = 0 ∨ i = 1 ∨ i = 2 ∨ i = 3 ∨ i = 4 ∨ i = 5 ∨ i = 6) with rfl | rfl | rfl | rfl | rfl | rfl | rfl | rfl
  ·rw [d false (by simp [opsL, q0, q1, q2, q3, q4, q5, q6, show ¬ (68 : Int) = c from fun h => q0 (by omega) h.symm, show ¬ (80 : Int) = c from fun h => q1 (by omega) h.symm, show ¬ (66 : Int) = c from fun h => q2 (by omega) h.symm, show ¬ (75 : Int) = c from fun h => q3 (by omega) h.symm, show ¬ (82 : Int) = c from fun h => q4 (by omega) h.symm, show ¬ (81 : Int) = c from fun h => q5 (by omega) h.symm, show ¬ (90 : Int) = c from fun h => q6 (by omega) h.symm])]
   try repeat' (refine KZ ?_)
   all_goals exact aJ rfl rfl rfl
  ·by_cases hc : c = 68
   ·rw [d (decide (t.op = 3)) (by rw [hc]; rfl)]
    clear d
    try repeat' (first | refine KO ?_ | (refine KV (b := by exact U2 0) (c := ?_)))
    all_goals try (exfalso; omega)
    refine aT 8 _ (by kernel_rfl) rfl (aC (aC aQ)) ?_
    all_goals (refine D1 0 ?_; refine DD 1 ?_; refine DD 2 ?_; refine DD 3 ?_; refine D2 4 rfl (by exact U1 0) ?_; refine DD 5 ?_; refine D1 6 ?_; refine DD 7 ?_; refine D8 ?_)
    try repeat' (refine KZ ?_)
    all_goals exact aJ rfl rfl rfl
   ·clear d
    try repeat' (first | refine KO ?_ | (refine KV (b := by exact U2 0) (c := ?_)) | refine KZ ?_)
    all_goals exact J2 1 (by omega) (by decide)
  ·by_cases hc : c = 80
   ·rw [d (decide (t.op = 5)) (by rw [hc]; rfl)]
    clear d
    try repeat' (first | refine KO ?_ | (refine KV (b := by exact U2 1) (c := ?_)))
    all_goals try (exfalso; omega)
    refine aT 8 _ (by kernel_rfl) rfl (aC (aC aQ)) ?_
    all_goals (refine D1 0 ?_; refine DD 1 ?_; refine DD 2 ?_; refine DD 3 ?_; refine D2 4 rfl (by exact U1 1) ?_; refine DD 5 ?_; refine D1 6 ?_; refine DD 7 ?_; refine D8 ?_)
    try repeat' (refine KZ ?_)
    all_goals exact aJ rfl rfl rfl
   ·clear d
    try repeat' (first | refine KO ?_ | (refine KV (b := by exact U2 1) (c := ?_)) | refine KZ ?_)
    all_goals exact J2 2 (by omega) (by decide)
  ·by_cases hc : c = 66
   ·rw [d (decide (t.op = 6)) (by rw [hc]; rfl)]
    clear d
    try repeat' (first | refine KO ?_ | (refine KV (b := by exact U2 2) (c := ?_)))
    all_goals try (exfalso; omega)
    refine aT 8 _ (by kernel_rfl) rfl (aC (aC aQ)) ?_
    all_goals (refine D1 0 ?_; refine DD 1 ?_; refine DD 2 ?_; refine DD 3 ?_; refine D2 4 rfl (by exact U1 2) ?_; refine DD 5 ?_; refine D1 6 ?_; refine DD 7 ?_; refine D8 ?_)
    try repeat' (refine KZ ?_)
    all_goals exact aJ rfl rfl rfl
   ·clear d
    try repeat' (first | refine KO ?_ | (refine KV (b := by exact U2 2) (c := ?_)) | refine KZ ?_)
    all_goals exact J2 3 (by omega) (by decide)
  ·by_cases hc : c = 75
   ·rw [d (decide (t.op = 22)) (by rw [hc]; rfl)]
    clear d
    try repeat' (first | refine KO ?_ | (refine KV (b := by exact U2 3) (c := ?_)))
    all_goals try (exfalso; omega)
    refine aT 8 _ (by kernel_rfl) rfl (aC (aC aQ)) ?_
    all_goals (refine D1 0 ?_; refine DD 1 ?_; refine DD 2 ?_; refine DD 3 ?_; refine D2 4 rfl (by exact U1 3) ?_; refine DD 5 ?_; refine D1 6 ?_; refine DD 7 ?_; refine D8 ?_)
    try repeat' (refine KZ ?_)
    all_goals exact aJ rfl rfl rfl
   ·clear d
    try repeat' (first | refine KO ?_ | (refine KV (b := by exact U2 3) (c := ?_)) | refine KZ ?_)
    all_goals exact J2 4 (by omega) (by decide)
  ·by_cases hc : c = 82
   ·rw [d (decide (t.op = 39)) (by rw [hc]; rfl)]
    clear d
    try repeat' (first | refine KO ?_ | (refine KV (b := by exact U2 4) (c := ?_)))
    all_goals try (exfalso; omega)
    refine aT 8 _ (by kernel_rfl) rfl (aC (aC aQ)) ?_
    all_goals (refine D1 0 ?_; refine DD 1 ?_; refine DD 2 ?_; refine DD 3 ?_; refine D2 4 rfl (by exact U1 4) ?_; refine DD 5 ?_; refine D1 6 ?_; refine DD 7 ?_; refine D8 ?_)
    try repeat' (refine KZ ?_)
    all_goals exact aJ rfl rfl rfl
   ·clear d
    try repeat' (first | refine KO ?_ | (refine KV (b := by exact U2 4) (c := ?_)) | refine KZ ?_)
    all_goals exact J2 5 (by omega) (by decide)
  ·by_cases hc : c = 81
   ·rw [d (decide (t.op = 62)) (by rw [hc]; rfl)]
    clear d
    try repeat' (first | refine KO ?_ | (refine KV (b := by exact U2 5) (c := ?_)))
    all_goals try (exfalso; omega)
    refine aT 8 _ (by kernel_rfl) rfl (aC (aC aQ)) ?_
    all_goals (refine D1 0 ?_; refine DD 1 ?_; refine DD 2 ?_; refine DD 3 ?_; refine D2 4 rfl (by exact U1 5) ?_; refine DD 5 ?_; refine D1 6 ?_; refine DD 7 ?_; refine D8 ?_)
    try repeat' (refine KZ ?_)
    all_goals exact aJ rfl rfl rfl
   ·clear d
    try repeat' (first | refine KO ?_ | (refine KV (b := by exact U2 5) (c := ?_)) | refine KZ ?_)
    all_goals exact J2 6 (by omega) (by decide)
  ·by_cases hc : c = 90
   ·rw [d (decide (t.op = 64)) (by rw [hc]; rfl)]
    clear d
    try repeat' (first | refine KO ?_ | (refine KV (b := by exact U2 6) (c := ?_)))
    all_goals try (exfalso; omega)
    refine aT 8 _ (by kernel_rfl) rfl (aC (aC aQ)) ?_
    all_goals (refine D1 0 ?_; refine DD 1 ?_; refine DD 2 ?_; refine DD 3 ?_; refine D2 4 rfl (by exact U1 6) ?_; refine DD 5 ?_; refine D1 6 ?_; refine DD 7 ?_; refine D8 ?_)
    try repeat' (refine KZ ?_)
    all_goals exact aJ rfl rfl rfl
   ·clear d
    try repeat' (first | refine KO ?_ | (refine KV (b := by exact U2 6) (c := ?_)) | refine KZ ?_)
    all_goals exact J2 7 (by omega) (by decide)
end
section
open Go.RowKit Go.Vcg
noncomputable def oN : List UInt8 → List T → Bool
 | [], l => decide (l.length = 0)
 | [c], l => match l with
   | k :: r => if isT (c.toNat : Int) k = true then decide (r.length = 0) else false
   | [] => false
 | c :: d :: rr, l =>
   if d = 42 then oN rr (l.dropWhile (isT (c.toNat : Int)))
   else match l with
    | k :: r => if isT (c.toNat : Int) k = true then (if d = 63 then oN rr r else oN (d :: rr) r) else (if d = 63 then oN rr (k :: r) else false)
    | [] => if d = 63 then oN rr [] else false
theorem LV (c : UInt8) (rr : List UInt8) (l : List T) : oN (c :: 42 :: rr) l = oN rr (l.dropWhile (isT (c.toNat : Int))) := by
 rw [oN.eq_def]
 simp
theorem aEa (c : UInt8) (rr : List UInt8) (l : List T) : oN (c :: 63 :: rr) l = oN rr (match l with | k :: r => if isT (c.toNat : Int) k = true then r else k :: r | [] => []) := by
 rw [oN.eq_def]
 cases l with
 | nil => simp
 | cons k r => cases h : isT (c.toNat : Int) k <;> simp [h]
theorem aEc {c d : UInt8} {rr : List UInt8} {l : List T} (h1 : d ≠ 42) (h2 : d ≠ 63) : oN (c :: d :: rr) l = match l with | k :: r => if isT (c.toNat : Int) k = true then oN (d :: rr) r else false | [] => false := by
 rw [oN.eq_def]
 cases l with
 | nil => simp [h1, h2]
 | cons k r => cases h : isT (c.toNat : Int) k <;> simp [h, h1, h2]
theorem HP (l : List T) : oN [] l = decide (l.length = 0) := by rw [oN.eq_def]
theorem aEd (c : UInt8) (l : List T) : oN [c] l = match l with | k :: r => if isT (c.toNat : Int) k = true then oN [] r else false | [] => false := by
 rw [oN.eq_def]
 cases l with
 | nil => simp
 | cons k r => simp [HP]
attribute [local irreducible] isT G GC GQ GA eN Calls IntKind.wrap Int.decLt Int.decLe
theorem aD9 (s : ByteArray) (bd : s.size ≤ 1000) (ks : List T) (A : Option Addr) (n c : Nat) (w : World) (μ : Mem) (hμ : MOk μ w) (hk : KR μ ks (.slice A n c)) (aq : ks.length = n) (hn : n ≤ 100000) (aj : ∀ k ∈ ks, T.size k ≤ 100000 ∧ k.s.size ≤ 65536) :
 aV 46 #[.string s, .slice A n c] w (.bool (oN (bl s) ks)) := by
 refine aE (args := [.string s, .slice A n c]) Tryz.func46 rfl Tryz.ntmps46 (by simp) hμ ?_
 have ak := fun (c : Int) (t : T) (u : Value) (w : World) (μc : Mem) (hw : MOk μc w) (hk : KR μc t.kids u) (h1 : t.size ≤ 100000) (h2 : t.s.size ≤ 65536) => aIz aBf c t u w μc hw hk h1 h2
 generalize hR : oN (bl s) ks = R
 try repeat' (refine KZ ?_)
 refine bW (ι := Nat × Nat × Option Addr × Nat) (fun i => i.1 ≤ s.size ∧ i.2.1 ≤ n ∧ KR μ (ks.drop i.2.1) (.slice i.2.2.1 (n - i.2.1) i.2.2.2) ∧ oN ((bl s).drop i.1) (ks.drop i.2.1) = R) (fun i => s.size - i.1) (fun _ => μ) (fun i => [(5, .int .i64 i.1), (0, .string s), (1, .slice i.2.2.1 (n - i.2.1) i.2.2.2)]) (fun _ => []) (0, 0, A, c) ⟨by simp, by simp, by simpa using hk, by simpa using hR⟩ (fun a w hs => J6 hs) ?_
 rintro ⟨i, j, Aj, cj⟩ ⟨hi, hj, ab, f⟩
 dsimp only at hi hj ab f ⊢
 by_cases hlt : i < s.size
 ·obtain ⟨x, hx1, ai⟩ := aAr (s := s) (i := i) hlt
  have a7 := drop_cons hx1
  rw [a7] at f
  have ar : (ks.drop j).length = n - j := by rw [cQ, aq]
  by_cases ax : i + 1 < s.size
  ·obtain ⟨y, a6, ah⟩ := aAr (s := s) (i := i + 1) ax
   have aw := drop_cons a6
   rw [aw] at f
   have bc := y.toNat_lt
   by_cases an : y = 42
   ·subst an
    have a1 : bAt s (i + 1) = 42 := ah
    try repeat' (first | refine KO ?_ | (refine KV (b := by exact U2 (i + 1)) (c := ?_)) | refine KZ ?_)
    rw [LV, ← ai] at f
    refine bW (ι := Nat × Option Addr × Nat) (fun q => q.1 ≤ n ∧ KR μ (ks.drop q.1) (.slice q.2.1 (n - q.1) q.2.2) ∧ (ks.drop q.1).dropWhile (isT (bAt s i)) = (ks.drop j).dropWhile (isT (bAt s i))) (fun q => n - q.1) (fun _ => μ) (fun q => [(5, .int .i64 i), (0, .string s), (1, .slice q.2.1 (n - q.1) q.2.2)]) (fun _ => []) (j, Aj, cj) ⟨hj, ab, rfl⟩ (fun a w hs => J5 hs) ?_
    rintro ⟨j2, A2, c2⟩ ⟨au, ag, av⟩
    dsimp only at au ag av ⊢
    have al : (ks.drop j2).dropWhile (isT (bAt s i)) = ks.drop j2 → oN ((bl s).drop (i + 2)) (ks.drop j2) = R := fun h => by rw [← f, ← av, h]
    by_cases af : j2 < n
    ·have p : ks[j2]? = some ks[j2] := aA (by omega)
     generalize ks[j2] = t at p
     have g := qW p
     have z := ag.AE (by omega)
     rw [kD] at z
     obtain ⟨A', c', e, ad, aa⟩ := ag.form
     have ay : (ks.drop j2).length = n - j2 := by rw [cQ, aq]
     rw [ay] at e ad
     cases e
     obtain ⟨ad2, u2, rfl, v, ap, ae⟩ := aa 0 t (by rw [g]; rfl)
     have r := aj t (aB p)
     have d := fun w μc hw (hle : MLe μ μc) => ak (bAt s i) t u2 w μc hw (ae.mono hle) r.1 r.2
     cases l : isT (bAt s i) t
     ·have hE := al (by rw [g, iD, if_neg (by simp [l])])
      rw [l] at d
      try repeat' (refine KZ ?_)
      refine aT 12 ([]) (by kernel_rfl) rfl (by exact bE _) ?_
      all_goals (refine DD 0 ?_; refine D1 1 ?_; refine D1 2 ?_; refine DD 3 ?_)
      all_goals (try (refine D7 4 ?_; (repeat' (refine KO ?_))))
      all_goals (refine DD 4 ?_; refine DD 5 ?_; refine D2 6 rfl (by exact U2 i) ?_; refine DD 7 ?_; refine D2 8 rfl (by exact U1 0) ?_; refine D2 9 rfl (by exact U4 v) ?_)
      all_goals (refine D3 10 ?_; refine D5 ?_; (with_reducible apply C1); exact rfl; exact EN; exact fun w μc hw o => d w μc hw o.le; refine D9 ?_)
      all_goals (refine DD 11 ?_; refine D8 ?_)
      all_goals
       try repeat' (refine KZ ?_)
      all_goals first
       | exact J2 (i + 2, j2, _, _) ⟨by show i + 2 ≤ s.size; omega, au, ag, hE⟩ (by show s.size - (i + 2) < s.size - i; omega)
       | (exfalso; omega)
     ·rw [l] at d
      have hE : (ks.drop (j2 + 1)).dropWhile (isT (bAt s i)) = (ks.drop j).dropWhile (isT (bAt s i)) := by rw [← av, g, iD, if_pos l]
      try repeat' (refine KZ ?_)
      refine aT 12 ([]) (by kernel_rfl) rfl (by exact bE _) ?_
      all_goals (refine DD 0 ?_; refine D1 1 ?_; refine D1 2 ?_; refine DD 3 ?_)
      all_goals (try (refine D7 4 ?_; (repeat' (refine KO ?_))))
      all_goals (refine DD 4 ?_; refine DD 5 ?_; refine D2 6 rfl (by exact U2 i) ?_; refine DD 7 ?_; refine D2 8 rfl (by exact U1 0) ?_; refine D2 9 rfl (by exact U4 v) ?_)
      all_goals (refine D3 10 ?_; refine D5 ?_; (with_reducible apply C1); exact rfl; exact EN; exact fun w μc hw o => d w μc hw o.le; refine D9 ?_)
      all_goals (refine DD 11 ?_; refine D8 ?_)
      all_goals
       try repeat' (first | refine KO ?_ | (refine KV (b := by ((with_reducible apply kK 1); (iterate 5 exact rfl); omega)) (c := ?_)))
      all_goals first
       | exact J2 (j2 + 1, _, _) ⟨by show j2 + 1 ≤ n; omega, z, hE⟩ (by show n - (j2 + 1) < n - j2; omega)
       | (exfalso; omega)
    ·obtain rfl : j2 = n := by omega
     have g : ks.drop j2 = [] := bT (by omega)
     have hE := al (by rw [g]; rfl)
     try repeat' (refine KZ ?_)
     refine aT 12 ([]) (by kernel_rfl) rfl (by exact bE _) ?_
     all_goals (refine DD 0 ?_; refine D1 1 ?_; refine D1 2 ?_; refine DD 3 ?_)
     all_goals (try (refine D7 4 ?_; (repeat' (refine KO ?_))))
     all_goals (refine DD 4 ?_; refine DD 5 ?_; refine D1 6 ?_; refine DD 7 ?_; refine D1 8 ?_; refine D1 9 ?_; refine D3 10 (D6 ?_); refine DD 11 ?_; refine D8 ?_)
     all_goals
      try repeat' (refine KZ ?_)
     all_goals first
      | exact J2 (i + 2, j2, _, _) ⟨by show i + 2 ≤ s.size; omega, au, ag, hE⟩ (by show s.size - (i + 2) < s.size - i; omega)
      | (exfalso; omega)
   ·have bb : bAt s (i + 1) ≠ 42 := fun h => an (UInt8.toNat_inj.1 (by rw [ah] at h; simpa using (by omega : y.toNat = 42)))
    by_cases ao : y = 63
    ·subst ao
     have a1 : bAt s (i + 1) = 63 := ah
     rw [aEa, ← ai] at f
     by_cases af : j < n
     ·have p : ks[j]? = some ks[j] := aA (by omega)
      generalize ks[j] = t at p
      have g := qW p
      have z := ab.AE (by omega)
      rw [kD] at z
      obtain ⟨A', c', e, ad, aa⟩ := ab.form
      rw [ar] at e ad
      cases e
      obtain ⟨ad2, u2, rfl, v, ap, ae⟩ := aa 0 t (by rw [g]; rfl)
      have r := aj t (aB p)
      have d := fun w μc hw (hle : MLe μ μc) => ak (bAt s i) t u2 w μc hw (ae.mono hle) r.1 r.2
      rw [g] at f
      dsimp only at f
      cases l : isT (bAt s i) t
      ·rw [l, if_neg (by simp)] at f
       rw [l] at d
       rw [← g] at f
       try repeat' (first | refine KO ?_ | (refine KV (b := by exact U2 (i + 1)) (c := ?_)) | refine KZ ?_)
       refine aT 13 ([]) (by kernel_rfl) rfl (by exact bE _) ?_
       all_goals (refine DD 0 ?_; refine D1 1 ?_; refine D1 2 ?_; refine DD 3 ?_)
       all_goals (try (refine D7 4 ?_; (repeat' (refine KO ?_))))
       all_goals (refine DD 4 ?_; refine DD 5 ?_; refine D2 6 rfl (by exact U2 i) ?_; refine DD 7 ?_; refine D2 8 rfl (by exact U1 0) ?_; refine D2 9 rfl (by exact U4 v) ?_)
       all_goals (refine D3 10 ?_; refine D5 ?_; (with_reducible apply C1); exact rfl; exact EN; exact fun w μc hw o => d w μc hw o.le; refine D9 ?_)
       all_goals (refine DD 11 ?_; refine DD 12 ?_; refine D8 ?_)
       all_goals
        try repeat' (refine KZ ?_)
       all_goals exact J2 (i + 2, j, _, _) ⟨by show i + 2 ≤ s.size; omega, hj, ab, f⟩ (by show s.size - (i + 2) < s.size - i; omega)
      ·rw [l, if_pos rfl] at f
       rw [l] at d
       try repeat' (first | refine KO ?_ | (refine KV (b := by exact U2 (i + 1)) (c := ?_)) | refine KZ ?_)
       refine aT 13 ([]) (by kernel_rfl) rfl (by exact bE _) ?_
       all_goals (refine DD 0 ?_; refine D1 1 ?_; refine D1 2 ?_; refine DD 3 ?_)
       all_goals (try (refine D7 4 ?_; (repeat' (refine KO ?_))))
       all_goals (refine DD 4 ?_; refine DD 5 ?_; refine D2 6 rfl (by exact U2 i) ?_; refine DD 7 ?_; refine D2 8 rfl (by exact U1 0) ?_; refine D2 9 rfl (by exact U4 v) ?_)
       all_goals (refine D3 10 ?_; refine D5 ?_; (with_reducible apply C1); exact rfl; exact EN; exact fun w μc hw o => d w μc hw o.le; refine D9 ?_)
       all_goals (refine DD 11 ?_; refine DD 12 ?_; refine D8 ?_)
       all_goals
        try repeat' (first | refine KO ?_ | (refine KV (b := by ((with_reducible apply kK 1); (iterate 5 exact rfl); omega)) (c := ?_)) | refine KZ ?_)
       all_goals exact J2 (i + 2, j + 1, _, _) ⟨by show i + 2 ≤ s.size; omega, by show j + 1 ≤ n; omega, z, f⟩ (by show s.size - (i + 2) < s.size - i; omega)
     ·obtain rfl : j = n := by omega
      have g : ks.drop j = [] := bT (by omega)
      rw [g] at f
      dsimp only at f
      rw [← g] at f
      try repeat' (first | refine KO ?_ | (refine KV (b := by exact U2 (i + 1)) (c := ?_)) | refine KZ ?_)
      refine aT 13 ([]) (by kernel_rfl) rfl (by exact bE _) ?_
      all_goals (refine DD 0 ?_; refine D1 1 ?_; refine D1 2 ?_; refine DD 3 ?_)
      all_goals (try (refine D7 4 ?_; (repeat' (refine KO ?_))))
      all_goals (refine DD 4 ?_; refine DD 5 ?_; refine D1 6 ?_; refine DD 7 ?_; refine D1 8 ?_; refine D1 9 ?_; refine D3 10 (D6 ?_); refine DD 11 ?_; refine DD 12 ?_; refine D8 ?_)
      all_goals
       try repeat' (refine KZ ?_)
      all_goals exact J2 (i + 2, j, _, _) ⟨by show i + 2 ≤ s.size; omega, hj, ab, f⟩ (by show s.size - (i + 2) < s.size - i; omega)
    ·have ba : bAt s (i + 1) ≠ 63 := fun h => ao (UInt8.toNat_inj.1 (by rw [ah] at h; simpa using (by omega : y.toNat = 63)))
     rw [aEc an ao, ← ai, ← aw] at f
     by_cases af : j < n
     ·have p : ks[j]? = some ks[j] := aA (by omega)
      generalize ks[j] = t at p
      have g := qW p
      have z := ab.AE (by omega)
      rw [kD] at z
      obtain ⟨A', c', e, ad, aa⟩ := ab.form
      rw [ar] at e ad
      cases e
      obtain ⟨ad2, u2, rfl, v, ap, ae⟩ := aa 0 t (by rw [g]; rfl)
      have r := aj t (aB p)
      have d := fun w μc hw (hle : MLe μ μc) => ak (bAt s i) t u2 w μc hw (ae.mono hle) r.1 r.2
      rw [g] at f
      dsimp only at f
      cases l : isT (bAt s i) t
      ·rw [l, if_neg (by simp)] at f
       rw [l] at d
       try repeat' (first | refine KO ?_ | (refine KV (b := by exact U2 (i + 1)) (c := ?_)) | refine KZ ?_)
       refine aT 13 ([]) (by kernel_rfl) rfl (by exact bE _) ?_
       all_goals (refine DD 0 ?_; refine D1 1 ?_; refine D1 2 ?_; refine DD 3 ?_)
       all_goals (try (refine D7 4 ?_; (repeat' (refine KO ?_))))
       all_goals (refine DD 4 ?_; refine DD 5 ?_; refine D2 6 rfl (by exact U2 i) ?_; refine DD 7 ?_; refine D2 8 rfl (by exact U1 0) ?_; refine D2 9 rfl (by exact U4 v) ?_)
       all_goals (refine D3 10 ?_; refine D5 ?_; (with_reducible apply C1); exact rfl; exact EN; exact fun w μc hw o => d w μc hw o.le; refine D9 ?_)
       all_goals (refine DD 11 ?_; refine DD 12 ?_; refine D8 ?_)
       all_goals
        try repeat' (refine KO ?_)
       all_goals exact aJ rfl rfl (congrArg _ f)
      ·rw [l, if_pos rfl] at f
       rw [l] at d
       try repeat' (first | refine KO ?_ | (refine KV (b := by exact U2 (i + 1)) (c := ?_)) | refine KZ ?_)
       refine aT 13 ([]) (by kernel_rfl) rfl (by exact bE _) ?_
       all_goals (refine DD 0 ?_; refine D1 1 ?_; refine D1 2 ?_; refine DD 3 ?_)
       all_goals (try (refine D7 4 ?_; (repeat' (refine KO ?_))))
       all_goals (refine DD 4 ?_; refine DD 5 ?_; refine D2 6 rfl (by exact U2 i) ?_; refine DD 7 ?_; refine D2 8 rfl (by exact U1 0) ?_; refine D2 9 rfl (by exact U4 v) ?_)
       all_goals (refine D3 10 ?_; refine D5 ?_; (with_reducible apply C1); exact rfl; exact EN; exact fun w μc hw o => d w μc hw o.le; refine D9 ?_)
       all_goals (refine DD 11 ?_; refine DD 12 ?_; refine D8 ?_)
       all_goals
        try repeat' (first | refine KO ?_ | (refine KV (b := by ((with_reducible apply kK 1); (iterate 5 exact rfl); omega)) (c := ?_)) | refine KZ ?_)
       all_goals exact J2 (i + 1, j + 1, _, _) ⟨by show i + 1 ≤ s.size; omega, by show j + 1 ≤ n; omega, z, f⟩ (by show s.size - (i + 1) < s.size - i; omega)
     ·obtain rfl : j = n := by omega
      have g : ks.drop j = [] := bT (by omega)
      rw [g] at f
      dsimp only at f
      try repeat' (first | refine KO ?_ | (refine KV (b := by exact U2 (i + 1)) (c := ?_)) | refine KZ ?_)
      refine aT 13 ([]) (by kernel_rfl) rfl (by exact bE _) ?_
      all_goals (refine DD 0 ?_; refine D1 1 ?_; refine D1 2 ?_; refine DD 3 ?_)
      all_goals (try (refine D7 4 ?_; (repeat' (refine KO ?_))))
      all_goals (refine DD 4 ?_; refine DD 5 ?_; refine D1 6 ?_; refine DD 7 ?_; refine D1 8 ?_; refine D1 9 ?_; refine D3 10 (D6 ?_); refine DD 11 ?_; refine DD 12 ?_; refine D8 ?_)
      all_goals
       try repeat' (refine KZ ?_)
      all_goals exact aJ rfl rfl (congrArg _ f)
  ·have az : (bl s).drop (i + 1) = [] := bT (by rw [BF]; omega)
   rw [az, aEd, ← ai, ← az] at f
   by_cases af : j < n
   ·have p : ks[j]? = some ks[j] := aA (by omega)
    generalize ks[j] = t at p
    have g := qW p
    have z := ab.AE (by omega)
    rw [kD] at z
    obtain ⟨A', c', e, ad, aa⟩ := ab.form
    rw [ar] at e ad
    cases e
    obtain ⟨ad2, u2, rfl, v, ap, ae⟩ := aa 0 t (by rw [g]; rfl)
    have r := aj t (aB p)
    have d := fun w μc hw (hle : MLe μ μc) => ak (bAt s i) t u2 w μc hw (ae.mono hle) r.1 r.2
    rw [g] at f
    dsimp only at f
    cases l : isT (bAt s i) t
    ·rw [l, if_neg (by simp)] at f
     rw [l] at d
     try repeat' (refine KZ ?_)
     refine aT 13 ([]) (by kernel_rfl) rfl (by exact bE _) ?_
     all_goals (refine DD 0 ?_; refine D1 1 ?_; refine D1 2 ?_; refine DD 3 ?_)
     all_goals (try (refine D7 4 ?_; (repeat' (refine KO ?_))))
     all_goals (refine DD 4 ?_; refine DD 5 ?_; refine D2 6 rfl (by exact U2 i) ?_; refine DD 7 ?_; refine D2 8 rfl (by exact U1 0) ?_; refine D2 9 rfl (by exact U4 v) ?_)
     all_goals (refine D3 10 ?_; refine D5 ?_; (with_reducible apply C1); exact rfl; exact EN; exact fun w μc hw o => d w μc hw o.le; refine D9 ?_)
     all_goals (refine DD 11 ?_; refine DD 12 ?_; refine D8 ?_)
     all_goals
      try repeat' (refine KO ?_)
     all_goals exact aJ rfl rfl (congrArg _ f)
    ·rw [l, if_pos rfl] at f
     rw [l] at d
     try repeat' (refine KZ ?_)
     refine aT 13 ([]) (by kernel_rfl) rfl (by exact bE _) ?_
     all_goals (refine DD 0 ?_; refine D1 1 ?_; refine D1 2 ?_; refine DD 3 ?_)
     all_goals (try (refine D7 4 ?_; (repeat' (refine KO ?_))))
     all_goals (refine DD 4 ?_; refine DD 5 ?_; refine D2 6 rfl (by exact U2 i) ?_; refine DD 7 ?_; refine D2 8 rfl (by exact U1 0) ?_; refine D2 9 rfl (by exact U4 v) ?_)
     all_goals (refine D3 10 ?_; refine D5 ?_; (with_reducible apply C1); exact rfl; exact EN; exact fun w μc hw o => d w μc hw o.le; refine D9 ?_)
     all_goals (refine DD 11 ?_; refine DD 12 ?_; refine D8 ?_)
     all_goals
      try repeat' (first | refine KO ?_ | (refine KV (b := by ((with_reducible apply kK 1); (iterate 5 exact rfl); omega)) (c := ?_)) | refine KZ ?_)
     all_goals exact J2 (i + 1, j + 1, _, _) ⟨by show i + 1 ≤ s.size; omega, by show j + 1 ≤ n; omega, z, f⟩ (by show s.size - (i + 1) < s.size - i; omega)
   ·obtain rfl : j = n := by omega
    have g : ks.drop j = [] := bT (by omega)
    rw [g] at f
    dsimp only at f
    try repeat' (refine KZ ?_)
    refine aT 13 ([]) (by kernel_rfl) rfl (by exact bE _) ?_
    all_goals (refine DD 0 ?_; refine D1 1 ?_; refine D1 2 ?_; refine DD 3 ?_)
    all_goals (try (refine D7 4 ?_; (repeat' (refine KO ?_))))
    all_goals (refine DD 4 ?_; refine DD 5 ?_; refine D1 6 ?_; refine DD 7 ?_; refine D1 8 ?_; refine D1 9 ?_; refine D3 10 (D6 ?_); refine DD 11 ?_; refine DD 12 ?_; refine D8 ?_)
    all_goals
     try repeat' (refine KZ ?_)
    all_goals exact aJ rfl rfl (congrArg _ f)
 ·obtain rfl : i = s.size := by omega
  rw [bT (by rw [BF]; omega)] at f
  have a8 : decide (n - j = 0) = R := by rw [← f, ← aq, ← cQ, HP]
  try repeat' (refine KZ ?_)
  refine aJ rfl rfl ?_
  rw [← a8]
  congr 1
  simp
  try omega
end
end Go.Proofs.YtlllalmkkaolfaaGreatDoor
