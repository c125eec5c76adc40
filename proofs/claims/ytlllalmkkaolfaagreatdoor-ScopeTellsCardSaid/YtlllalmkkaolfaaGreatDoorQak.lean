/- Package early: function, walked. -/
import Derived.Test.YtlllalmkkaolfaaGreatDoorQaj
set_option maxRecDepth 20000
set_option maxHeartbeats 2000000
namespace Go.Proofs.YtlllalmkkaolfaaGreatDoor
section
open Go.RowKit Go.Vcg Ou
def aF0 (wd : ByteArray → Int) (t : T) (p : EP) (s : ES) : ES := if t.s ≠ ⟨#[]⟩ then pG wd t t.s { p with strict := (inP t p).strict } s else s
def aFz (t : T) (p : EP) (own : Bool) (s : ES) : ES := if pY t.n 1 then uW t.at' t.s ⟨!own, if own then p.regs else oF p, 0, false⟩ s else s
def aJk (t : T) (p : EP) : Bool := (inP t p).strict || pY t.n 2 || pY t.n 8 || !rZ (dC t 0)
theorem aJl (wd : ByteArray → Int) (N : T → EP → ES → ES) (B : T → EP → ED → ES → ES) (t : T) (p : EP) (own : Bool) (s : ES) : aCs wd N B t p own s =
 (let s3 := aFz t p own (jC (qZ t && !rZ (dC t 0)) t.at' 35 (aF0 wd t p s))
 let i := mU (inP t p) s3
 let s5 := (dC t 0).kids.foldl (fun s k => B k { i with head := true } ⟨false, i.regs, ((gA s3).regs : Int), aJk t p⟩ s) (gA s3)
 if (dC t 1).op ≠ 6 then N (dC t 1) i s5 else oT N (dC t 1).kids { i with own := true } s5) := rfl
def inE (ist g : Bool) : EP := ⟨ist, g, true, false, [], [], [], false, false, [], false, false⟩
theorem aI6 (wd : ByteArray → Int) (t : T) (p : EP) (s : ES) : Gr FF 0 s (aF0 wd t p s) := by
 unfold aF0
 split
 ·exact rD _ _ _ _ _
 ·exact Gr.refl s
theorem aI5 (t : T) (p : EP) (own : Bool) (s : ES) : Gr FF 1 s (aFz t p own s) := by
 unfold aFz
 split
 ·exact OW _ _ _ _ (fun h => h)
 ·exact Gr.refl s
theorem oM (n k : Int) (b : Bool) (h : pY n k = b) (w : World) (μ : Mem) (hμ : MOk μ w) : aV 137 #[.int .i64 n, .int .i64 k] w (.bool b) := by
 subst h
 exact UP n k w μ hμ
attribute [local irreducible] wdL anI mP mkD G GC GQ GA eN Calls IntKind.wrap Int.decLt Int.decLe
theorem aC5 (N : T → EP → ES → ES) (B : T → EP → ED → ES → ES) (t : T) (hq : eK qE t) (h4 : t.op = 4) (dd : t.size ≤ 80000) (hN : ∀ k, eK qE k → k.size < t.size → NCk N k ∧ NG N k) (ak : ∀ k, eK qE k → k.size < t.size → BCk B k ∧ BG B k)
 (xb mb : Nat) (u pv : Value) (p : EP) (own : Bool) (s : ES) (μ : Mem) (hk : KR μ t.kids u) (hp : PV μ p pv) (hB : PB p t.size) (hS : SB s t.size) (hm : tG μ) :
 CEs 99 [.pointer (some ⟨xb, 0, none⟩), .agg (aY t u).toArray, pv, .bool own] xb mb s (aCs wdF N B t p own s) μ := by
 intro w fs hμ f hO
 have bk := dJ hO.diff
 have ct := hp
 obtain ⟨r, lb, lo, mi, rfl, aw, bb, ba, a8⟩ := hp
 have o1 := aw.one
 have o2 := bb.one
 have o3 := ba.one
 have o4 := a8.one
 have bw := aw
 obtain ⟨Ar, cr, rfl, -, -⟩ := bw
 have ou := hk.one
 have c4 := hq.here.2
 have hne := hB.ne
 have de := hB.regs
 have h2 := hq.here.1.two (by simp [h4])
 have cp := bA t
 obtain ⟨rr, cs⟩ := wG h2
 rw [cs, cO, cO] at cp
 have dc := bA (dC t 0)
 have db := bA (dC t 1)
 have ck := hq.kid (eH (t := t) (i := 0) (by omega))
 have cj := hq.kid (eH (t := t) (i := 1) (by omega))
 have da := gR (dC t 0).kids
 have c9 := gR (dC t 1).kids
 obtain ⟨nv, b0, ap⟩ := DU μ p _ ct hne (by omega)
 have bz := b0
 obtain ⟨An, cn, rfl, -, -⟩ := bz
 have dh : (oF p).length ≤ 100000 := by
  unfold oF
  rw [cQ]
  omega
 have df : p.regs.length ≤ 100000 := by omega
 have ca := hk
 obtain ⟨A, c, rfl, hcap, bj⟩ := hk.form
 obtain ⟨ad, x0, rfl, b6, c8, cb⟩ := bj 0 _ (iC (by omega))
 obtain ⟨ad', x1, e, cv, c7, cw⟩ := bj 1 _ (iC (by omega))
 cases e
 generalize o : aCs wdF N B t p own s = s'
 rw [aJl] at o
 dsimp only at o
 have g1 := aI6 wdF t p s
 obtain ⟨S1, af⟩ : ∃ S, aF0 wdF t p s = S := ⟨_, rfl⟩
 rw [af] at o g1
 have az := fun w μc hw (hle : MLe μ μc) => CV t _ w μc hw (ca.mono hle) (by omega)
 have a1 := fun w μc hw (hle : MLe μ μc) => PM (dC t 0) _ w μc hw (cb.mono hle) (by omega)
 obtain ⟨says, an⟩ : ∃ b, qZ t = b := ⟨_, rfl⟩
 obtain ⟨ist, ar⟩ : ∃ b, (p.strict || says) = b := ⟨_, rfl⟩
 have bq : inP t p = inE ist (pY t.n 4) := by
  unfold inP inE
  rw [an, ar]
 obtain ⟨sm, bs⟩ : ∃ b, rZ (dC t 0) = b := ⟨_, rfl⟩
 rw [an] at o az
 rw [bq] at o
 rw [bs] at o a1
 have g2 := lD (F := FF) (says && !sm) t.at' 35 S1
 obtain ⟨S2, cl⟩ : ∃ S, jC (says && !sm) t.at' 35 S1 = S := ⟨_, rfl⟩
 rw [cl] at o g2
 have g3 := aI5 t p own S2
 obtain ⟨S3, v⟩ : ∃ S, aFz t p own S2 = S := ⟨_, rfl⟩
 rw [v] at o g3
 have al : AK S2.names ≤ 1000000 := by
  have := (g1.trans g2 (aD _)).wt
  unfold SB at hS
  omega
 have bm : S3.regs ≤ 1000000 := by
  have := ((g1.trans g2 (aD _)).trans g3 (aD _)).wt
  unfold SB at hS
  omega
 have a7 : SB (gA S3) (szs (dC t 0).kids + (dC t 1).size) := by
  have := (((g1.trans g2 (aD _)).trans g3 (aD _)).trans (sD S3) (aD _)).wt
  unfold SB at hS ⊢
  omega
 have hT : aJk t p = (ist || pY t.n 2 || pY t.n 8 || !sm) := by
  unfold aJk
  rw [bq, bs]
  rfl
 refine cC (args := [.pointer (some ⟨xb, 0, none⟩), .agg (aY t (.slice (some ad) t.kids.length c)).toArray, .agg (hZ p (.slice Ar p.regs.length cr) lb lo mi).toArray, .bool own]) Tryz.func99 rfl Tryz.ntmps99 (by simp) hμ hO ?_
 try repeat' (first | ((with_reducible show GC _ _ (Code.seq (Code.region 2 _ _) _) _ _ _ _); (apply dF)) | refine KO ?_ | refine K2 49 az ?_ | refine KZ ?_ | refine NB fun b => ?_)
 rename_i bn
 obtain ⟨bp, cg⟩ : ∃ y, y = b := ⟨_, rfl⟩
 rw [← cg]
 clear cg
 refine gcs (iB (ι := Nat) (fun _ => True) (fun _ => μ) (fun bi => [(0, .pointer (some ⟨xb, 0, none⟩)), (3, .bool own), (5, .pointer (some ⟨bn, 0, none⟩)), (6, .pointer (some ⟨bp, 0, none⟩)), (8, .bool says), (9, .pointer (some ⟨bi, 0, none⟩))]) (fun bi => .inl ⟨bi, 101, 12, idx 0 (hZ (inE ist (pY t.n 4)) (.slice none 0 0) (.slice none 0 0) (.slice none 0 0) (.slice none 0 0))⟩ :: .inl ⟨bp, 101, 12, idx 0 (hZ p (.slice Ar p.regs.length cr) lb lo mi)⟩ :: .inl ⟨bn, 24, 6, idx 0 (aY t (.slice (some ad) t.kids.length c))⟩ :: EB xb mb s fs) ?_ ?_)
 ·try repeat' (first | refine KO ?_ | refine K2 137 (fun w μc hw j => oM t.n 4 _ rfl w μc hw) ?_ | refine KZ ?_ | refine NB fun b => ?_ | (refine KB ?_ ?_ <;> intro hp))
  ·obtain rfl : true = ist := by rw [← ar, hp]; rfl
   exact eX b trivial rfl PU (eV (.cells PU) (eV (.cells PU) (eV (.cells PU) (fL _))))
  obtain rfl : says = ist := by rw [← ar, hp]; rfl
  exact eX b trivial rfl PU (eV (.cells PU) (eV (.cells PU) (eV (.cells PU) (fL _))))
 rintro bi -
 refine iB (ι := Mem × List FR) (fun q => MLe μ q.1 ∧ ER q.1 q.2 S1) (fun q => q.1) (fun _ => [(0, .pointer (some ⟨xb, 0, none⟩)), (3, .bool own), (5, .pointer (some ⟨bn, 0, none⟩)), (6, .pointer (some ⟨bp, 0, none⟩)), (8, .bool says), (9, .pointer (some ⟨bi, 0, none⟩))]) (fun q => .inl ⟨bi, 101, 12, idx 0 (hZ (inE ist (pY t.n 4)) (.slice none 0 0) (.slice none 0 0) (.slice none 0 0) (.slice none 0 0))⟩ :: .inl ⟨bp, 101, 12, idx 0 (hZ p (.slice Ar p.regs.length cr) lb lo mi)⟩ :: .inl ⟨bn, 24, 6, idx 0 (aY t (.slice (some ad) t.kids.length c))⟩ :: EB xb mb S1 q.2) ?_ ?_
 ·unfold aF0 at af
  by_cases bc : t.s = ⟨#[]⟩
  ·rw [if_neg (fun h => h bc)] at af
   subst af
   try repeat' (first | refine KZ ?_ | refine NB fun b => ?_ | (refine KB ?_ ?_ <;> intro hp))
   all_goals try (exfalso; contradiction)
   all_goals exact eX (μ, fs) ⟨MLe.refl _, f⟩ rfl PU (eV (.cells PU) (eV (.cells PU) (eV (.cells PU) (fL _))))
  ·rw [if_pos bc, bq] at af
   try repeat' (first | refine KO ?_ | (refine CF 105 ?_; refine iR 4 rfl rfl rfl EN rfl f (qV xb mb t _ ou _ (by omega) { p with strict := ist } _ _ _ ⟨_, _, _, _, rfl, aw, bb, ba, a8⟩ hm) ?_; intro v1 μ1 i1 l f; dsimp only [aL, aP]) | refine KZ ?_ | refine NB fun b => ?_)
   have af : pG wdF t t.s { p with strict := ist } s = S1 := af
   rw [af] at f ⊢
   exact eX (μ1, i1) ⟨l, f⟩ rfl PU (dR (.cells PU) (dR (.cells PU) (dR (.cells PU) (bS _ (fL _)))))
 rintro ⟨μ2, i2⟩ ⟨d, f⟩
 dsimp only at d f ⊢
 have ai := b6.mono d
 try repeat' (first | ((with_reducible show GC _ _ (Code.seq (Code.region 8 _ _) _) _ _ _ _); (apply dF)) | refine KO ?_ | refine K2 138 (fun w μc hw j => a1 w μc hw (d.trans j)) ?_ | (refine KV (b := by first | exact U1 0 | exact U4 ai) (c := ?_)) | refine KZ ?_)
 refine gcs (iB (ι := Mem × List FR) (fun q => MLe μ q.1 ∧ ER q.1 q.2 S2) (fun q => q.1) (fun _ => [(0, .pointer (some ⟨xb, 0, none⟩)), (3, .bool own), (5, .pointer (some ⟨bn, 0, none⟩)), (6, .pointer (some ⟨bp, 0, none⟩)), (9, .pointer (some ⟨bi, 0, none⟩)), (11, .bool sm)]) (fun q => .inl ⟨bi, 101, 12, idx 0 (hZ (inE ist (pY t.n 4)) (.slice none 0 0) (.slice none 0 0) (.slice none 0 0) (.slice none 0 0))⟩ :: .inl ⟨bp, 101, 12, idx 0 (hZ p (.slice Ar p.regs.length cr) lb lo mi)⟩ :: .inl ⟨bn, 24, 6, idx 0 (aY t (.slice (some ad) t.kids.length c))⟩ :: EB xb mb S2 q.2) ?_ ?_)
 ·try repeat' (first | refine KO ?_ | (refine CF 106 ?_; refine iR 3 rfl rfl rfl EN rfl f (KG xb mb t _ ou _ (says && !sm) (by simp_all) _ _ _) ?_; intro v1 μ1 i1 l f; dsimp only [aL, aP]) | refine KZ ?_ | (refine KB ?_ ?_ <;> intro hp))
  all_goals rw [cl] at f ⊢
  all_goals exact eX (μ1, i1) ⟨d.trans l, f⟩ rfl PU (eV (.cells PU) (eV (.cells PU) (eV (.cells PU) (fL _))))
 clear d f ai
 rintro ⟨μ2, i2⟩ ⟨d, f⟩
 dsimp only at d f ⊢
 refine iB (ι := Mem × List FR) (fun q => MLe μ q.1 ∧ ER q.1 q.2 S3) (fun q => q.1) (fun _ => [(0, .pointer (some ⟨xb, 0, none⟩)), (5, .pointer (some ⟨bn, 0, none⟩)), (9, .pointer (some ⟨bi, 0, none⟩)), (11, .bool sm)]) (fun q => .inl ⟨bi, 101, 12, idx 0 (hZ (inE ist (pY t.n 4)) (.slice none 0 0) (.slice none 0 0) (.slice none 0 0) (.slice none 0 0))⟩ :: .inl ⟨bn, 24, 6, idx 0 (aY t (.slice (some ad) t.kids.length c))⟩ :: EB xb mb S3 q.2) ?_ ?_
 ·unfold aFz at v
  obtain ⟨b1, ay⟩ : ∃ b, pY t.n 1 = b := ⟨_, rfl⟩
  rw [ay] at v
  have bu := aw.mono d
  have bx := b0.mono d
  cases b1
  ·rw [if_neg (by simp)] at v
   subst v
   try repeat' (first | refine KO ?_ | refine K2 137 (fun w μc hw j => oM t.n 1 _ ay w μc hw) ?_ | refine KZ ?_)
   all_goals exact eX (μ2, i2) ⟨d, f⟩ rfl PU (eV (.cells PU) (dR (.cells PU) (bS _ (fL _))))
  ·rw [if_pos rfl] at v
   cases own
   ·try repeat' (first | refine KO ?_ | refine K2 137 (fun w μc hw j => oM t.n 1 _ ay w μc hw) ?_ | refine K2 102 (fun w μc hw j => ap w μc hw (d.trans j)) ?_ | (refine CF 139 ?_; refine iR 4 rfl rfl rfl EN rfl f (vY xb mb t _ ou t.s ⟨true, oF p, 0, false⟩ _ _ _ bx (by simp only []; omega) al) ?_; intro v1 μ1 i1 l f; dsimp only [aL, aP]) | refine KZ ?_ | refine NB fun b => ?_)
    have v : uW t.at' t.s ⟨true, oF p, 0, false⟩ S2 = S3 := v
    rw [v] at f ⊢
    exact eX (μ1, i1) ⟨d.trans l, f⟩ rfl PU (dR (.cells PU) (rV (.cells PU) (bS _ (bS _ (fL _)))))
   ·try repeat' (first | refine KO ?_ | refine K2 137 (fun w μc hw j => oM t.n 1 _ ay w μc hw) ?_ | refine K2 102 (fun w μc hw j => ap w μc hw (d.trans j)) ?_ | (refine CF 139 ?_; refine iR 4 rfl rfl rfl EN rfl f (vY xb mb t _ ou t.s ⟨false, p.regs, 0, false⟩ _ _ _ bu (by simp only []; omega) al) ?_; intro v1 μ1 i1 l f; dsimp only [aL, aP]) | refine KZ ?_ | refine NB fun b => ?_)
    have v : uW t.at' t.s ⟨false, p.regs, 0, false⟩ S2 = S3 := v
    rw [v] at f ⊢
    exact eX (μ1, i1) ⟨d.trans l, f⟩ rfl PU (dR (.cells PU) (rV (.cells PU) (bS _ (bS _ (fL _)))))
 clear d f
 rintro ⟨μ2, i2⟩ ⟨d, f⟩
 dsimp only at d f ⊢
 try repeat' (first | ((with_reducible show GC _ _ (Code.seq (Code.region 17 _ _) _) _ _ _ _); (apply dF)) | refine KO ?_ | (refine CF 100 ?_; refine TQ 2 rfl rfl rfl EN rfl f (uL xb mb (inE ist (pY t.n 4)) _ _ _ ⟨_, _, _, _, rfl, IsV.nil _, SsV.nil _, SsV.nil _, SsV.nil _⟩ (aI _) bm) ?_; intro v1 μ1 i1 l f c0; dsimp only [aL, aP]; obtain ⟨r2, lb2, lo2, mi2, rfl, ag, ae, ab, aa⟩ := c0; have q1 := ag.one; have q2 := ae.one; have q3 := ab.one; have q4 := aa.one) | refine KZ ?_ | refine NB fun b => ?_)
 obtain ⟨bh, ch⟩ : ∃ y, y = b := ⟨_, rfl⟩
 rw [← ch]
 clear ch
 have bt := ag
 obtain ⟨Ai, ci, rfl, -, -⟩ := bt
 have cf : (mU (inE ist (pY t.n 4)) S3).strict = ist := rfl
 have z : ∀ n, n ≤ 80000 → PB (mU (inE ist (pY t.n 4)) S3) n := fun n hn => ⟨Nat.succ_pos _, by show 1 + n ≤ 90000; omega, by show 0 + n ≤ 90000; omega, aD _⟩
 have cd : (mU (inE ist (pY t.n 4)) S3).regs.length ≤ 100000 := by show 1 ≤ _; omega
 generalize mU (inE ist (pY t.n 4)) S3 = iP at o ag ae ab aa cf z cd ⊢
 obtain ⟨tw, cm⟩ : ∃ b, aJk t p = b := ⟨_, rfl⟩
 rw [cm] at o hT
 rw [← cf] at hT
 refine gcs ?_
 refine kV (show _ = _ :: _ :: _ :: Bk.inl ⟨xb, 95, 4, [(0, .map (some mb)), (1, .int .i64 ((gA S3).regs : Int)), (2, .int .i64 (gA S3).at'), (3, .int .i64 (gA S3).e)]⟩ :: .mp ⟨mb, mkD i1 0, i1.length⟩ :: mP i1 from rfl) ?_
 refine iB (ι := Nat × Bool) (fun q => q.2 = tw) (fun _ => μ1) (fun q => [(14, .pointer (some ⟨q.1, 0, none⟩)), (0, .pointer (some ⟨xb, 0, none⟩)), (5, .pointer (some ⟨bn, 0, none⟩)), (9, .pointer (some ⟨bi, 0, none⟩)), (11, .bool sm), (13, .pointer (some ⟨bh, 0, none⟩))]) (fun q => .inl ⟨q.1, 131, 4, idx 0 (pX (⟨false, iP.regs, ((gA S3).regs : Int), q.2⟩, .slice Ai iP.regs.length ci))⟩ :: .inl ⟨bh, 101, 12, idx 0 (hZ { iP with head := true } (.slice Ai iP.regs.length ci) lb2 lo2 mi2)⟩ :: .inl ⟨bi, 101, 12, idx 0 (hZ iP (.slice Ai iP.regs.length ci) lb2 lo2 mi2)⟩ :: .inl ⟨bn, 24, 6, idx 0 (aY t (.slice (some ad) t.kids.length c))⟩ :: EB xb mb (gA S3) i1) ?_ ?_
 ·clear o
  obtain ⟨b2, cz⟩ : ∃ b, pY t.n 2 = b := ⟨_, rfl⟩
  obtain ⟨b8, cy⟩ : ∃ b, pY t.n 8 = b := ⟨_, rfl⟩
  rw [cz, cy] at hT
  obtain ⟨st, gg, fnn, di, rg, lbs, los, lp, chh, mns, ow, ea⟩ := iP
  dsimp only at hT
  cases st
  rotate_left
  ·refine aT 27 _ (by kernel_rfl) rfl (dG (aC (aC (aC aQ)))) ?_
   all_goals (refine DD 0 ?_; refine DD 1 ?_; refine DD 2 ?_; refine DD 3 ?_; refine DD 4 ?_; refine DD 5 ?_; refine DD 6 ?_; refine DD 7 ?_; refine DD 8 ?_; refine DD 9 ?_; refine DD 10 ?_; (try refine D7 11 ?_); refine DD 11 ?_; refine DD 12 ?_)
   refine iF 13 25 (by kernel_rfl) ?dr5_13 ?dr5_25
   case' dr5_13 =>
    (refine D6 ?_)
    all_goals (refine DD 14 ?_; refine DD 15 ?_; (try refine D7 16 ?_); refine DD 16 ?_; refine DD 17 ?_)
    refine iF 18 25 (by kernel_rfl) ?dr6_18 ?dr6_25
    case' dr6_18 =>
     (refine D6 ?_)
     all_goals (refine DD 19 ?_; refine DD 20 ?_; (try refine D7 21 ?_); refine DD 21 ?_; refine DD 22 ?_; refine DD 23 ?_; refine DD 24 ?_; refine D3 25 ?_; refine D5 ?_; refine NB fun b => ?_; refine D9 ?_; refine D3 26 ?_; refine D5 ?_; refine Y0 ?_; refine D9 ?_; refine D8 ?_)
    case' dr6_25 =>
     (refine D5 ?_; refine NB fun b => ?_; refine D9 ?_)
     all_goals (refine D3 18 (D6 ?_); refine DD 19 ?_; refine DD 20 ?_)
     all_goals ((try refine D7 21 ?_); refine DD 21 ?_; refine DD 22 ?_; refine DD 23 ?_; refine DD 24 ?_; refine D3 26 ?_; refine D5 ?_; refine Y0 ?_; refine D9 ?_; refine D8 ?_)
   case' dr5_25 =>
    (refine D5 ?_; refine NB fun b => ?_; refine D9 ?_)
    all_goals (refine D3 13 (D6 ?_); refine DD 14 ?_; refine DD 15 ?_)
    all_goals try refine D7 16 ?_
    all_goals (refine DD 16 ?_; refine DD 17 ?_; refine D3 18 (D6 ?_); refine DD 19 ?_; refine DD 20 ?_)
    all_goals ((try refine D7 21 ?_); refine DD 21 ?_; refine DD 22 ?_; refine DD 23 ?_; refine DD 24 ?_; refine D3 26 ?_; refine D5 ?_; refine Y0 ?_; refine D9 ?_; refine D8 ?_)
   all_goals refine eX (b, _) ?_ rfl PU (eV (.cells PU) (eV (.cells PU) (eV (.cells PU) (eV (.cells PU) (fL _)))))
   all_goals dsimp only
   all_goals rw [hT]
   all_goals (clear hS hB hN ak; cases sm <;> simp_all)
  cases b2
  rotate_left
  ·refine aT 27 _ (by kernel_rfl) rfl (dG (aC (aC (aC aQ)))) ?_
   all_goals (refine DD 0 ?_; refine DD 1 ?_; refine DD 2 ?_; refine DD 3 ?_; refine DD 4 ?_; refine DD 5 ?_; refine DD 6 ?_; refine DD 7 ?_; refine DD 8 ?_; refine DD 9 ?_; refine DD 10 ?_; (try refine D7 11 ?_); refine DD 11 ?_; refine DD 12 ?_)
   refine iF 13 25 (by kernel_rfl) ?dr7_13 ?dr7_25
   case' dr7_13 =>
    (refine D5 ?_; (with_reducible apply F1 137); exact rfl; exact EN; exact fun w μc hw j => oM t.n _ _ (by assumption) w μc hw; refine D9 ?_)
    all_goals (refine DD 14 ?_; refine DD 15 ?_; (try refine D7 16 ?_); refine DD 16 ?_; refine DD 17 ?_)
    refine iF 18 25 (by kernel_rfl) ?dr8_18 ?dr8_25
    case' dr8_18 =>
     (refine D6 ?_)
     all_goals (refine DD 19 ?_; refine DD 20 ?_; (try refine D7 21 ?_); refine DD 21 ?_; refine DD 22 ?_; refine DD 23 ?_; refine DD 24 ?_; refine D3 25 ?_; refine D5 ?_; refine NB fun b => ?_; refine D9 ?_; refine D3 26 ?_; refine D5 ?_; refine Y0 ?_; refine D9 ?_; refine D8 ?_)
    case' dr8_25 =>
     (refine D5 ?_; refine NB fun b => ?_; refine D9 ?_)
     all_goals (refine D3 18 (D6 ?_); refine DD 19 ?_; refine DD 20 ?_)
     all_goals ((try refine D7 21 ?_); refine DD 21 ?_; refine DD 22 ?_; refine DD 23 ?_; refine DD 24 ?_; refine D3 26 ?_; refine D5 ?_; refine Y0 ?_; refine D9 ?_; refine D8 ?_)
   case' dr7_25 =>
    (refine D5 ?_; refine NB fun b => ?_; refine D9 ?_)
    all_goals (refine D3 13 ?_; refine D5 ?_; (with_reducible apply F1 137); exact rfl; exact EN; exact fun w μc hw j => oM t.n _ _ (by assumption) w μc hw; refine D9 ?_)
    all_goals (refine DD 14 ?_; refine DD 15 ?_; (try refine D7 16 ?_))
    all_goals (refine DD 16 ?_; refine DD 17 ?_; refine D3 18 (D6 ?_); refine DD 19 ?_; refine DD 20 ?_)
    all_goals ((try refine D7 21 ?_); refine DD 21 ?_; refine DD 22 ?_; refine DD 23 ?_; refine DD 24 ?_; refine D3 26 ?_; refine D5 ?_; refine Y0 ?_; refine D9 ?_; refine D8 ?_)
   all_goals refine eX (b, _) ?_ rfl PU (eV (.cells PU) (eV (.cells PU) (eV (.cells PU) (eV (.cells PU) (fL _)))))
   all_goals dsimp only
   all_goals rw [hT]
   all_goals (clear hS hB hN ak; cases sm <;> simp_all)
  cases b8
  rotate_left
  ·refine aT 27 _ (by kernel_rfl) rfl (dG (aC (aC (aC aQ)))) ?_
   all_goals (refine DD 0 ?_; refine DD 1 ?_; refine DD 2 ?_; refine DD 3 ?_; refine DD 4 ?_; refine DD 5 ?_; refine DD 6 ?_; refine DD 7 ?_; refine DD 8 ?_; refine DD 9 ?_; refine DD 10 ?_; (try refine D7 11 ?_); refine DD 11 ?_; refine DD 12 ?_)
   refine iF 13 25 (by kernel_rfl) ?dr9_13 ?dr9_25
   case' dr9_13 =>
    (refine D5 ?_; (with_reducible apply F1 137); exact rfl; exact EN; exact fun w μc hw j => oM t.n _ _ (by assumption) w μc hw; refine D9 ?_)
    all_goals (refine DD 14 ?_; refine DD 15 ?_; (try refine D7 16 ?_); refine DD 16 ?_; refine DD 17 ?_)
    refine iF 18 25 (by kernel_rfl) ?dr10_18 ?dr10_25
    case' dr10_18 =>
     (refine D5 ?_; (with_reducible apply F1 137); exact rfl; exact EN; exact fun w μc hw j => oM t.n _ _ (by assumption) w μc hw; refine D9 ?_)
     all_goals (refine DD 19 ?_; refine DD 20 ?_; (try refine D7 21 ?_); refine DD 21 ?_; refine DD 22 ?_; refine DD 23 ?_; refine DD 24 ?_; refine D3 25 ?_; refine D5 ?_; refine NB fun b => ?_; refine D9 ?_; refine D3 26 ?_; refine D5 ?_; refine Y0 ?_; refine D9 ?_; refine D8 ?_)
    case' dr10_25 =>
     (refine D5 ?_; refine NB fun b => ?_; refine D9 ?_)
     all_goals (refine D3 18 ?_; refine D5 ?_; (with_reducible apply F1 137); exact rfl; exact EN; exact fun w μc hw j => oM t.n _ _ (by assumption) w μc hw; refine D9 ?_)
     all_goals (refine DD 19 ?_; refine DD 20 ?_; (try refine D7 21 ?_); refine DD 21 ?_; refine DD 22 ?_; refine DD 23 ?_; refine DD 24 ?_; refine D3 26 ?_; refine D5 ?_; refine Y0 ?_; refine D9 ?_; refine D8 ?_)
   case' dr9_25 =>
    (refine D5 ?_; refine NB fun b => ?_; refine D9 ?_)
    all_goals (refine D3 13 ?_; refine D5 ?_; (with_reducible apply F1 137); exact rfl; exact EN; exact fun w μc hw j => oM t.n _ _ (by assumption) w μc hw; refine D9 ?_)
    all_goals (refine DD 14 ?_; refine DD 15 ?_; (try refine D7 16 ?_); refine DD 16 ?_; refine DD 17 ?_)
    all_goals (refine D3 18 ?_; refine D5 ?_; (with_reducible apply F1 137); exact rfl; exact EN; exact fun w μc hw j => oM t.n _ _ (by assumption) w μc hw; refine D9 ?_)
    all_goals (refine DD 19 ?_; refine DD 20 ?_; (try refine D7 21 ?_); refine DD 21 ?_; refine DD 22 ?_; refine DD 23 ?_; refine DD 24 ?_; refine D3 26 ?_; refine D5 ?_; refine Y0 ?_; refine D9 ?_; refine D8 ?_)
   all_goals refine eX (b, _) ?_ rfl PU (eV (.cells PU) (eV (.cells PU) (eV (.cells PU) (eV (.cells PU) (fL _)))))
   all_goals dsimp only
   all_goals rw [hT]
   all_goals (clear hS hB hN ak; cases sm <;> simp_all)
  ·refine aT 27 _ (by kernel_rfl) rfl (dG (aC (aC (aC aQ)))) ?_
   all_goals (refine DD 0 ?_; refine DD 1 ?_; refine DD 2 ?_; refine DD 3 ?_; refine DD 4 ?_; refine DD 5 ?_; refine DD 6 ?_; refine DD 7 ?_; refine DD 8 ?_; refine DD 9 ?_; refine DD 10 ?_; (try refine D7 11 ?_); refine DD 11 ?_; refine DD 12 ?_)
   refine iF 13 25 (by kernel_rfl) ?dr11_13 ?dr11_25
   case' dr11_13 =>
    (refine D5 ?_; (with_reducible apply F1 137); exact rfl; exact EN; exact fun w μc hw j => oM t.n _ _ (by assumption) w μc hw; refine D9 ?_)
    all_goals (refine DD 14 ?_; refine DD 15 ?_; (try refine D7 16 ?_); refine DD 16 ?_; refine DD 17 ?_)
    refine iF 18 25 (by kernel_rfl) ?dr12_18 ?dr12_25
    case' dr12_18 =>
     (refine D5 ?_; (with_reducible apply F1 137); exact rfl; exact EN; exact fun w μc hw j => oM t.n _ _ (by assumption) w μc hw; refine D9 ?_)
     all_goals (refine DD 19 ?_; refine DD 20 ?_; (try refine D7 21 ?_); refine DD 21 ?_; refine DD 22 ?_; refine DD 23 ?_; refine DD 24 ?_; refine D3 25 ?_; refine D5 ?_; refine NB fun b => ?_; refine D9 ?_; refine D3 26 ?_; refine D5 ?_; refine Y0 ?_; refine D9 ?_; refine D8 ?_)
    case' dr12_25 =>
     (refine D5 ?_; refine NB fun b => ?_; refine D9 ?_)
     all_goals (refine D3 18 ?_; refine D5 ?_; (with_reducible apply F1 137); exact rfl; exact EN; exact fun w μc hw j => oM t.n _ _ (by assumption) w μc hw; refine D9 ?_)
     all_goals (refine DD 19 ?_; refine DD 20 ?_; (try refine D7 21 ?_); refine DD 21 ?_; refine DD 22 ?_; refine DD 23 ?_; refine DD 24 ?_; refine D3 26 ?_; refine D5 ?_; refine Y0 ?_; refine D9 ?_; refine D8 ?_)
   case' dr11_25 =>
    (refine D5 ?_; refine NB fun b => ?_; refine D9 ?_)
    all_goals (refine D3 13 ?_; refine D5 ?_; (with_reducible apply F1 137); exact rfl; exact EN; exact fun w μc hw j => oM t.n _ _ (by assumption) w μc hw; refine D9 ?_)
    all_goals (refine DD 14 ?_; refine DD 15 ?_; (try refine D7 16 ?_); refine DD 16 ?_; refine DD 17 ?_)
    all_goals (refine D3 18 ?_; refine D5 ?_; (with_reducible apply F1 137); exact rfl; exact EN; exact fun w μc hw j => oM t.n _ _ (by assumption) w μc hw; refine D9 ?_)
    all_goals (refine DD 19 ?_; refine DD 20 ?_; (try refine D7 21 ?_); refine DD 21 ?_; refine DD 22 ?_; refine DD 23 ?_; refine DD 24 ?_; refine D3 26 ?_; refine D5 ?_; refine Y0 ?_; refine D9 ?_; refine D8 ?_)
   all_goals refine eX (b, _) ?_ rfl PU (eV (.cells PU) (eV (.cells PU) (eV (.cells PU) (eV (.cells PU) (fL _)))))
   all_goals dsimp only
   all_goals rw [hT]
   all_goals (clear hS hB hN ak; cases sm <;> simp_all)
 rintro ⟨bd, x⟩ hx
 dsimp only at hx ⊢
 subst x
 have aj := d.trans l
 have b9 := cb.mono aj
 have ai := b6.mono aj
 obtain ⟨A2, c2, rfl, cx, br⟩ := b9.form
 try repeat' (first | refine KO ?_ | (refine KV (b := by first | exact U1 0 | exact U4 ai) (c := ?_)) | refine KZ ?_)
 refine bW (ι := Nat × Mem × List FR) (fun q => q.1 ≤ (dC t 0).kids.length ∧ MLe μ1 q.2.1 ∧ ER q.2.1 q.2.2 (((dC t 0).kids.take q.1).foldl (fun s k => B k { iP with head := true } ⟨false, iP.regs, ((gA S3).regs : Int), tw⟩ s) (gA S3))) (fun q => (dC t 0).kids.length - q.1) (fun q => q.2.1) (fun q => [(114, .int .i64 (q.1 : Int)), (113, .int .i64 ((dC t 0).kids.length : Int)), (112, .slice A2 (dC t 0).kids.length c2), (0, .pointer (some ⟨xb, 0, none⟩)), (5, .pointer (some ⟨bn, 0, none⟩)), (9, .pointer (some ⟨bi, 0, none⟩)), (13, .pointer (some ⟨bh, 0, none⟩)), (14, .pointer (some ⟨bd, 0, none⟩))]) (fun q => .inl ⟨bd, 131, 4, idx 0 (pX (⟨false, iP.regs, ((gA S3).regs : Int), tw⟩, .slice Ai iP.regs.length ci))⟩ :: .inl ⟨bh, 101, 12, idx 0 (hZ { iP with head := true } (.slice Ai iP.regs.length ci) lb2 lo2 mi2)⟩ :: .inl ⟨bi, 101, 12, idx 0 (hZ iP (.slice Ai iP.regs.length ci) lb2 lo2 mi2)⟩ :: .inl ⟨bn, 24, 6, idx 0 (aY t (.slice (some ad) t.kids.length c))⟩ :: EB xb mb (((dC t 0).kids.take q.1).foldl (fun s k => B k { iP with head := true } ⟨false, iP.regs, ((gA S3).regs : Int), tw⟩ s) (gA S3)) q.2.2) (0, μ1, i1) ⟨aI _, MLe.refl _, f⟩ (fun a w hs => hs.sel PU (fL _)) ?_
 clear f
 rintro ⟨i, μ0, fs0⟩ ⟨hi, hle, f⟩
 dsimp only at hi hle f ⊢
 have bg : ∀ n, Gr FF (2 * szs ((dC t 0).kids.take n)) (gA S3) (((dC t 0).kids.take n).foldl (fun s k => B k { iP with head := true } ⟨false, iP.regs, ((gA S3).regs : Int), tw⟩ s) (gA S3)) := fun n => by
  have h9 := oC (F := FF) (g := (fun s k => B k { iP with head := true } ⟨false, iP.regs, ((gA S3).regs : Int), tw⟩ s)) (c := fun k => 2 * T.size k) ((dC t 0).kids.take n) (gA S3) (fun k hk s => (ak k (ck.kid (aZ hk)) (by
   have : k.size ≤ szs (dC t 0).kids := T.eF (List.mem_map.2 ⟨k, aZ hk, rfl⟩)
   omega)).2 _ _ _)
  rwa [pM] at h9
 by_cases hlt : i < (dC t 0).kids.length
 ·obtain ⟨k, ax⟩ : ∃ k, (dC t 0).kids[i]? = some k := ⟨_, aA hlt⟩
  obtain ⟨ad3, x3, rfl, cu, c6, b7⟩ := br i k ax
  have b4 := cu.mono hle
  have b5 := aB ax
  have hz := jO ax
  obtain ⟨bo, -⟩ := ak k (ck.kid b5) (by omega)
  have cq := SB.gr (n := szs ((dC t 0).kids.take i)) (m := k.size) (a7.mono (by omega)) (bg i)
  have ao : (fun s k => B k { iP with head := true } ⟨false, iP.regs, ((gA S3).regs : Int), tw⟩ s) (((dC t 0).kids.take i).foldl (fun s k => B k { iP with head := true } ⟨false, iP.regs, ((gA S3).regs : Int), tw⟩ s) (gA S3)) k = (((dC t 0).kids.take (i + 1)).foldl (fun s k => B k { iP with head := true } ⟨false, iP.regs, ((gA S3).regs : Int), tw⟩ s) (gA S3)) := (sL (fun s k => B k { iP with head := true } ⟨false, iP.regs, ((gA S3).regs : Int), tw⟩ s) (dC t 0).kids (gA S3) ax).symm
  dsimp only at ao
  try repeat' (first | refine KO ?_ | (refine CF 101 ?_; refine iR 5 rfl rfl rfl EN rfl f (bo xb mb _ _ _ { iP with head := true } ⟨false, iP.regs, ((gA S3).regs : Int), tw⟩ _ _ (b7.mono hle) ⟨_, _, _, _, rfl, ag.mono hle, ae.mono hle, ab.mono hle, aa.mono hle⟩ (ag.mono hle) cd ⟨(z k.size (by omega)).ne, (z k.size (by omega)).regs, (z k.size (by omega)).labels, (z k.size (by omega)).loops⟩ cq (hm.mono (aj.trans hle))) ?_; (intro v1 μ1 i1 l f); (dsimp only [aL, aP])) | (refine KV (b := by first | exact U1 i | exact U4 b4) (c := ?_)) | refine KZ ?_ | refine NB fun b => ?_)
  rw [ao] at f ⊢
  exact cP (i + 1, μ1, i1) ⟨by dsimp only; omega, hle.trans l, f⟩ (by dsimp only; omega) rfl PU (dR (.refl _) (dR (.refl _) (dR (.refl _) (dR (.refl _) (bS _ (fL _))))))
 ·have cc : i = (dC t 0).kids.length := by omega
  have au := bg (dC t 0).kids.length
  subst cc
  rw [aG (aD _)] at f au ⊢
  generalize (dC t 0).kids.foldl (fun s k => B k { iP with head := true } ⟨false, iP.regs, ((gA S3).regs : Int), tw⟩ s) (gA S3) = S5 at f o au ⊢
  have a6 := SB.gr (n := szs (dC t 0).kids) (m := (dC t 1).size) a7 au
  have aq := aj.trans hle
  have ah := cv.mono aq
  have bf := cw.mono aq
  have b3 := hm.mono aq
  by_cases h6 : (dC t 1).op = 6
  ·rw [if_neg (fun h => h h6)] at o
   have c1 : ∀ y ∈ (dC t 1).kids, NCk N y ∧ NG N y := fun y hy => hN y (cj.kid hy) (by
    have : y.size ≤ szs (dC t 1).kids := T.eF (List.mem_map.2 ⟨y, hy, rfl⟩)
    omega)
   have av : ∀ y ∈ (dC t 1).kids, y.size ≤ 80000 := fun y hy => by
    have : y.size ≤ szs (dC t 1).kids := T.eF (List.mem_map.2 ⟨y, hy, rfl⟩)
    omega
   try repeat' (first | refine KO ?_ | (refine KV (b := by first | exact U1 1 | exact U4 ah) (c := ?_)) | refine KZ ?_)
   refine aT 8 _ (by kernel_rfl) rfl (dG (dG (aC (aC aQ)))) ?_
   all_goals (refine DD 0 ?_; refine D1 1 ?_; refine DD 2 ?_; refine D2 3 rfl (by exact U1 1) ?_; refine DD 4 ?_; refine D2 5 rfl (by exact U4 ah) ?_; refine DD 6 ?_)
   all_goals (refine D3 7 ?_; refine D5 ?_; refine CF 48 ?_; refine iR 4 rfl rfl rfl EN rfl f (kJ N (dC t 1).kids _ _ { iP with own := true } _ _ xb mb c1 bf ⟨_, _, _, _, rfl, ag.mono hle, ae.mono hle, ab.mono hle, aa.mono hle⟩ (fun y hy => ⟨(z y.size (av y hy)).ne, (z y.size (av y hy)).regs, (z y.size (av y hy)).labels, (z y.size (av y hy)).loops⟩) (a6.mono (by omega)) (by omega) b3) ?_; intro v1 μ1 i1 l f; dsimp only [aL, aP]; refine D9 ?_)
   all_goals refine D8 ?_
   all_goals exact gI 4 i1 (by exact .inr rfl) bk rfl rfl o f
  ·rw [if_pos h6] at o
   obtain ⟨bo, -⟩ := hN _ cj (by omega)
   try repeat' (first | refine KO ?_ | (refine KV (b := by first | exact U1 1 | exact U4 ah) (c := ?_)) | refine KZ ?_)
   refine aT 7 _ (by kernel_rfl) rfl (dG (dG (aC (aC aQ)))) ?_
   all_goals (refine DD 0 ?_; refine D1 1 ?_; refine DD 2 ?_; refine D2 3 rfl (by exact U1 1) ?_; refine D2 4 rfl (by exact U4 ah) ?_; refine DD 5 ?_)
   all_goals (refine D3 6 ?_; refine D5 ?_; refine CF 71 ?_; refine iR 4 rfl rfl rfl EN rfl f (bo xb mb _ _ iP _ _ bf ⟨_, _, _, _, rfl, ag.mono hle, ae.mono hle, ab.mono hle, aa.mono hle⟩ (z _ (by omega)) a6 b3) ?_; intro v1 μ1 i1 l f; dsimp only [aL, aP]; refine D9 ?_)
   all_goals refine D8 ?_
   all_goals try repeat' (refine KZ ?_)
   all_goals exact gI 4 i1 (by exact .inl rfl) bk rfl rfl o f
end
section
open Go.RowKit Go.Vcg Ou
theorem aCl {t : T} (h1 : 1 ≤ t.kids.length) : szs t.kids = szs (t.kids.take (t.kids.length - 1)) + (dC t (t.kids.length - 1)).size := by
 have a : t.kids = t.kids.take (t.kids.length - 1) ++ [dC t (t.kids.length - 1)] := by
  unfold dC
  conv => lhs; rw [← dD (t.kids.length - 1) t.kids]
  congr 1
  rw [dT (by omega), aA (by omega), List.drop_eq_nil_of_le (by omega)]
  rfl
 conv => lhs; rw [a]
 rw [BR, cO]
 rfl
attribute [local irreducible] wdL anI mP mkD G GC GQ GA eN Calls IntKind.wrap Int.decLt Int.decLe
theorem XU (N : T → EP → ES → ES) (t : T) (hq : eK qE t) (b9 : t.op = 10 ∨ t.op = 11 ∨ t.op = 12 ∨ t.op = 13 ∨ t.op = 14) (b6 : t.size ≤ 80000) (hN : ∀ k, eK qE k → k.size < t.size → NCk N k ∧ NG N k)
 (xb mb : Nat) (u pv mv : Value) (p : EP) (mine : List ByteArray) (s : ES) (μ : Mem) (hk : KR μ t.kids u) (hp : PV μ p pv) (j : SsV μ mv mine) (hB : PB p t.size) (br : p.loops.length + mine.length + p.mine.length ≤ p.labels.length) (hS : SB s t.size) (hm : tG μ) :
 CEs 103 [.pointer (some ⟨xb, 0, none⟩), .agg (aY t u).toArray, pv, mv] xb mb s (MG N t p mine s) μ := by
 intro w fs hμ hR hO
 have ar := dJ hO.diff
 have h := hp
 obtain ⟨r, lb, lo, mi, rfl, bx, bj, bi, bh⟩ := hp
 have o1 := bx.one
 have o2 := bj.one
 have o3 := bi.one
 have o4 := bh.one
 have ou := hk.one
 have bq := j
 obtain ⟨Am, cm, rfl, -, -⟩ := bq
 have b8 := hB.regs
 have ca := hB.labels
 have bf := bA t
 have hlen := gR t.kids
 have hle : ∀ {k l}, k ∈ l → T.size k ≤ szs l := fun {k l} hk => T.eF (List.mem_map.2 ⟨k, hk, rfl⟩)
 have bu : ∀ n, n < t.size → PB { p with loops := p.loops ++ mine } n := fun n hn => ⟨hB.ne, by show p.regs.length + n ≤ 90000; omega, by show p.labels.length + n ≤ 90000; omega, by show (p.loops ++ mine).length + p.mine.length ≤ p.labels.length; rw [aK]; exact br⟩
 have a1 : s.regs ≤ 1000000 := by
  unfold SB at hS
  omega
 obtain ⟨A, c, rfl, hcap, ag⟩ := hk.form
 generalize aa : MG N t p mine s = s'
 unfold MG at aa
 refine cC (args := [.pointer (some ⟨xb, 0, none⟩), .agg (aY t (.slice A t.kids.length c)).toArray, .agg (hZ p r lb lo mi).toArray, .slice Am mine.length cm]) Tryz.func103 rfl Tryz.ntmps103 (by simp) hμ hO ?_
 by_cases bd : t.op = 13
 ·rw [if_pos bd] at aa
  have h2 := hq.here.1.two (by simp [bd])
  obtain ⟨rr, az⟩ := wG h2
  have hz := bf
  rw [az, cO, cO] at hz
  obtain ⟨ad, x0, rfl, o, bm, af⟩ := ag 0 _ (iC (by omega))
  obtain ⟨ad', x1, e, z, bk, ae⟩ := ag 1 _ (iC (by omega))
  cases e
  obtain ⟨a6, bb⟩ := hN _ (hq.kid (eH (t := t) (i := 0) (by omega))) (by omega)
  obtain ⟨ah, b3⟩ := hN _ (hq.kid (eH (t := t) (i := 1) (by omega))) (by omega)
  have an := SB.gr (s' := N (dC t 0) p s) (n := (dC t 0).size) (m := (dC t 1).size) (hS.mono (by omega)) (bb p s)
  try repeat' (first | refine KZ ?_ | refine NB fun b => ?_)
  refine aT 7 _ (by kernel_rfl) rfl (aC (aC aQ)) ?_
  all_goals (refine DD 0 ?_; refine D1 1 ?_; refine DD 2 ?_; refine D2 3 rfl (by exact U1 0) ?_; refine D2 4 rfl (by exact U4 o) ?_; refine DD 5 ?_)
  all_goals (refine D3 6 ?_; refine D5 ?_; refine CF 71 ?_; refine iR 2 rfl rfl rfl EN rfl hR (a6 xb mb _ _ p s _ af h (hB.mono (by omega)) (hS.mono (by omega)) hm) ?_; intro v1 μ1 i1 d hR; dsimp only [aL, aP]; have o := o.mono d; have z := z.mono d; have af := af.mono d; have ae := ae.mono d; have h := h.mono d; have j := j.mono d; have hm := hm.mono d; refine D9 ?_)
  all_goals refine D8 ?_
  all_goals try repeat' (refine KZ ?_)
  refine aT 8 _ (by kernel_rfl) rfl (aC (aC aQ)) ?_
  all_goals (refine DD 0 ?_; refine D1 1 ?_; refine DD 2 ?_; refine D2 3 rfl (by exact U1 1) ?_; refine D2 4 rfl (by exact U4 z) ?_; refine DD 5 ?_; refine DD 6 ?_)
  all_goals (refine D3 7 ?_; refine D5 ?_; refine CF 141 ?_; refine iR 2 rfl rfl rfl EN rfl hR (xX N (dC t 1) ah _ _ _ p mine _ _ xb mb ae h j (bu _ (by omega)) an hm) ?_; intro v1 μ1 i1 d hR; dsimp only [aL, aP]; have o := o.mono d; have z := z.mono d; have af := af.mono d; have ae := ae.mono d; have h := h.mono d; have j := j.mono d; have hm := hm.mono d; refine D9 ?_)
  all_goals refine D8 ?_
  all_goals try repeat' (refine KZ ?_)
  all_goals exact gI 2 i1 (by exact .inl rfl) ar rfl rfl aa hR
 rw [if_neg bd] at aa
 by_cases bc : t.op = 14
 ·rw [if_pos bc] at aa
  have h2 := hq.here.1.two (by simp [bc])
  obtain ⟨rr, az⟩ := wG h2
  have hz := bf
  rw [az, cO, cO] at hz
  obtain ⟨ad, x0, rfl, o, bm, af⟩ := ag 0 _ (iC (by omega))
  obtain ⟨ad', x1, e, z, bk, ae⟩ := ag 1 _ (iC (by omega))
  cases e
  obtain ⟨a6, bb⟩ := hN _ (hq.kid (eH (t := t) (i := 0) (by omega))) (by omega)
  obtain ⟨ah, b3⟩ := hN _ (hq.kid (eH (t := t) (i := 1) (by omega))) (by omega)
  have an := SB.gr (s' := DM N (dC t 0) p mine s) (n := (dC t 0).size) (m := (dC t 1).size) (hS.mono (by omega)) (xM (dC t 0) (fun p s => bb p s) _ s)
  try repeat' (first | refine KZ ?_ | refine NB fun b => ?_)
  refine aT 8 _ (by kernel_rfl) rfl (aC (aC aQ)) ?_
  all_goals (refine DD 0 ?_; refine D1 1 ?_; refine DD 2 ?_; refine D2 3 rfl (by exact U1 0) ?_; refine D2 4 rfl (by exact U4 o) ?_; refine DD 5 ?_; refine DD 6 ?_)
  all_goals (refine D3 7 ?_; refine D5 ?_; refine CF 141 ?_; refine iR 2 rfl rfl rfl EN rfl hR (xX N (dC t 0) a6 _ _ _ p mine _ _ xb mb af h j (bu _ (by omega)) (hS.mono (by omega)) hm) ?_; intro v1 μ1 i1 d hR; dsimp only [aL, aP]; have o := o.mono d; have z := z.mono d; have af := af.mono d; have ae := ae.mono d; have h := h.mono d; have j := j.mono d; have hm := hm.mono d; refine D9 ?_)
  all_goals refine D8 ?_
  all_goals try repeat' (refine KZ ?_)
  refine aT 7 _ (by kernel_rfl) rfl (aC (aC aQ)) ?_
  all_goals (refine DD 0 ?_; refine D1 1 ?_; refine DD 2 ?_; refine D2 3 rfl (by exact U1 1) ?_; refine D2 4 rfl (by exact U4 z) ?_; refine DD 5 ?_)
  all_goals (refine D3 6 ?_; refine D5 ?_; refine CF 71 ?_; refine iR 2 rfl rfl rfl EN rfl hR (ah xb mb _ _ p _ _ ae h (hB.mono (by omega)) an hm) ?_; intro v1 μ1 i1 d hR; dsimp only [aL, aP]; have o := o.mono d; have z := z.mono d; have af := af.mono d; have ae := ae.mono d; have h := h.mono d; have j := j.mono d; have hm := hm.mono d; refine D9 ?_)
  all_goals refine D8 ?_
  all_goals try repeat' (refine KZ ?_)
  all_goals exact gI 2 i1 (by exact .inl rfl) ar rfl rfl aa hR
 rw [if_neg bc] at aa
 dsimp only at aa
 have h1 := hq.here.1.one (by omega)
 have cb := aCl h1
 have aw : SB (gA s) (szs t.kids) := by
  have := (sD (F := FF) s).wt
  unfold SB at hS ⊢
  omega
 try repeat' (first | ((with_reducible show GC _ _ (Code.seq (Code.region 9 _ _) _) _ _ _ _); (apply dF)) | refine KZ ?_ | refine NB fun b => ?_)
 rename_i bn
 obtain ⟨bp, bt⟩ : ∃ y, y = b := ⟨_, rfl⟩
 rw [← bt]
 clear bt
 refine gcs ?_
 have v : ∀ n, n < t.size → PB (mU p s) n := fun n hn => ⟨by show 0 < (p.regs ++ _).length; simp, by show (p.regs ++ _).length + n ≤ 90000; rw [aK, cT]; omega, by show p.labels.length + n ≤ 90000; omega, hB.loops⟩
 have ay : ∀ n, n < t.size → PB { mU p s with loops := (mU p s).loops ++ mine } n := fun n hn => ⟨(v n hn).ne, (v n hn).regs, (v n hn).labels, by show (p.loops ++ mine).length + p.mine.length ≤ p.labels.length; rw [aK]; exact br⟩
 try repeat' (first | ((with_reducible show GC _ _ (Code.seq (Code.seq (Code.region 10 _ _) _) _) _ _ _ _); (apply dF)) | refine KO ?_ | (refine CF 100 ?_; refine TQ 2 rfl rfl rfl EN rfl hR (uL xb mb p _ s _ h (by omega) a1) ?_; intro v1 μ1 i1 d hR b4; dsimp only [aL, aP]; obtain ⟨r2, lb2, lo2, mi2, rfl, au, al, ak, aj⟩ := b4; have q1 := au.one; have q2 := al.one; have q3 := ak.one; have q4 := aj.one) | refine KZ ?_)
 generalize mU p s = q at aa au al ak aj v ay ⊢
 refine gcs ?_
 have a8 : ((t.kids.length : Int) - 1) = ((t.kids.length - 1 : Nat) : Int) := by omega
 have b5 := j.mono d
 have z := hm.mono d
 have b7 : (t.kids.take (t.kids.length - 1)).length = t.kids.length - 1 := by rw [cE]; omega
 try repeat' (first | refine KO ?_ | (refine KV (b := by ((with_reducible apply uZ (t.kids.length - 1)); (iterate 4 exact rfl); exact a8; omega)) (c := ?_)) | refine KZ ?_)
 refine bW (ι := Nat × Mem × List FR) (fun y => y.1 ≤ t.kids.length - 1 ∧ MLe μ1 y.2.1 ∧ ER y.2.1 y.2.2 (((t.kids.take (t.kids.length - 1)).take y.1).foldl (fun s k => N k { q with each := decide (t.op ≠ 10) } s) (gA s))) (fun y => t.kids.length - 1 - y.1) (fun y => y.2.1) (fun y => [(60, .int .i64 (y.1 : Int)), (59, .int .i64 ((t.kids.length - 1 : Nat) : Int)), (58, .slice A (t.kids.length - 1) c), (8, .int .i64 ((t.kids.length : Int) - 1)), (6, .pointer (some ⟨bp, 0, none⟩)), (5, .pointer (some ⟨bn, 0, none⟩)), (3, .slice Am mine.length cm), (0, .pointer (some ⟨xb, 0, none⟩))]) (fun y => .inl ⟨bp, 101, 12, idx 0 (hZ q r2 lb2 lo2 mi2)⟩ :: .inl ⟨bn, 24, 6, idx 0 (aY t (.slice A t.kids.length c))⟩ :: EB xb mb (((t.kids.take (t.kids.length - 1)).take y.1).foldl (fun s k => N k { q with each := decide (t.op ≠ 10) } s) (gA s)) y.2.2) (0, μ1, i1) ⟨aI _, MLe.refl _, hR⟩ (fun a w hs => hs.sel (by ((repeat first | exact fM | refine eJ rfl ?_); done)) (eV (.cells PU) (fL _))) ?_
 clear hR
 rintro ⟨i, μ0, fs0⟩ ⟨hi, f, hR⟩
 dsimp only at hi f hR ⊢
 have ai : ∀ k ∈ t.kids.take (t.kids.length - 1), eK qE k ∧ k.size < t.size := fun k hk => ⟨hq.kid (aZ hk), by have := hle (aZ hk); omega⟩
 have ax : ∀ n, Gr FF (2 * szs ((t.kids.take (t.kids.length - 1)).take n)) (gA s) (((t.kids.take (t.kids.length - 1)).take n).foldl (fun s k => N k { q with each := decide (t.op ≠ 10) } s) (gA s)) := fun n => by
  have h9 := oC (F := FF) (g := (fun s k => N k { q with each := decide (t.op ≠ 10) } s)) (c := fun k => 2 * T.size k) ((t.kids.take (t.kids.length - 1)).take n) (gA s) (fun k hk s => (hN k (ai k (aZ hk)).1 (ai k (aZ hk)).2).2 _ _)
  rwa [pM] at h9
 have ab := d.trans f
 by_cases hlt : i < t.kids.length - 1
 ·obtain ⟨k, av⟩ : ∃ k, t.kids[i]? = some k := ⟨_, aA (by omega)⟩
  have ba : (t.kids.take (t.kids.length - 1))[i]? = some k := by rw [List.getElem?_take_of_lt hlt]; exact av
  obtain ⟨ad, x, rfl, o, bz, b2⟩ := ag i k av
  have a7 := o.mono ab
  obtain ⟨ha, ap⟩ := ai k (aB ba)
  obtain ⟨ah, -⟩ := hN k ha ap
  have hz := jO ba
  have an := SB.gr (n := szs ((t.kids.take (t.kids.length - 1)).take i)) (m := k.size) (aw.mono (by omega)) (ax i)
  have ao : (fun s k => N k { q with each := decide (t.op ≠ 10) } s) (((t.kids.take (t.kids.length - 1)).take i).foldl (fun s k => N k { q with each := decide (t.op ≠ 10) } s) (gA s)) k = (((t.kids.take (t.kids.length - 1)).take (i + 1)).foldl (fun s k => N k { q with each := decide (t.op ≠ 10) } s) (gA s)) := (sL (fun s k => N k { q with each := decide (t.op ≠ 10) } s) (t.kids.take (t.kids.length - 1)) (gA s) ba).symm
  dsimp only at ao
  try repeat' (first | refine KO ?_ | (refine CF 71 ?_; refine iR 4 rfl rfl rfl EN rfl hR (ah xb mb _ _ { q with each := decide (t.op ≠ 10) } _ _ (b2.mono ab) ⟨_, _, _, _, rfl, au.mono f, al.mono f, ak.mono f, aj.mono f⟩ ⟨(v _ ap).ne, (v _ ap).regs, (v _ ap).labels, (v _ ap).loops⟩ an (hm.mono ab)) ?_; (intro v1 μ1 i1 d hR); (dsimp only [aL, aP])) | (refine KV (b := by first | exact U1 i | exact U4 a7) (c := ?_)) | refine KZ ?_ | refine NB fun b => ?_)
  rw [ao] at hR ⊢
  exact cP (i + 1, μ1, i1) ⟨by dsimp only; omega, f.trans d, hR⟩ (by dsimp only; omega) rfl PU (rV (.refl _) (rV (.refl _) (bS _ (bS _ (fL _)))))
 ·have cc : i = t.kids.length - 1 := by omega
  have aq := ax i
  have bw : (t.kids.take (t.kids.length - 1)).take i = t.kids.take (t.kids.length - 1) := aG (by omega)
  rw [bw] at hR aq ⊢
  generalize (t.kids.take (t.kids.length - 1)).foldl (fun s k => N k { q with each := decide (t.op ≠ 10) } s) (gA s) = S5 at hR aa aq ⊢
  have bg := SB.gr (n := szs (t.kids.take (t.kids.length - 1))) (m := (dC t (t.kids.length - 1)).size) (aw.mono (by omega)) aq
  obtain ⟨ad, x, rfl, b1, bz, bs⟩ := ag (t.kids.length - 1) _ (iC (by omega))
  have a7 := b1.mono ab
  have av := bs.mono ab
  have bo := j.mono ab
  have b0 := hm.mono ab
  obtain ⟨ah, -⟩ := hN _ (hq.kid (eH (t := t) (i := t.kids.length - 1) (by omega))) (by omega)
  try repeat' (refine KZ ?_)
  refine aT 9 _ (by kernel_rfl) rfl (aC (aC aQ)) ?_
  all_goals (refine DD 0 ?_; refine D1 1 ?_; refine DD 2 ?_; refine DD 3 ?_; refine D2 4 rfl (by exact U1 (t.kids.length - 1)) ?_; refine D2 5 rfl (by exact U4 a7) ?_; refine DD 6 ?_; refine DD 7 ?_)
  all_goals (refine D3 8 ?_; refine D5 ?_; refine CF 141 ?_; refine iR 2 rfl rfl rfl EN rfl hR (xX N (dC t (t.kids.length - 1)) ah _ _ _ q mine _ _ xb mb av ⟨_, _, _, _, rfl, au.mono f, al.mono f, ak.mono f, aj.mono f⟩ bo (ay _ (by omega)) bg b0) ?_; intro v1 μ1 i1 d hR; dsimp only [aL, aP]; refine D9 ?_)
  all_goals refine D8 ?_
  all_goals exact gI 2 i1 (by exact .inr rfl) ar rfl rfl aa hR
end
section
open Go.RowKit Go.Vcg Ou
def aNh (p : EP) : Bool := !p.fn || p.head
def aNg (p : EP) : Bool := !p.gen || p.head
def aNi (t : T) (p : EP) : Bool := p.strict && decide (t.s = "delete".toUTF8) && decide ((dC t 0).op = 34)
theorem VG : ("delete".toUTF8 : ByteArray) = ⟨#[100, 101, 108, 101, 116, 101]⟩ := by decide +kernel
attribute [local irreducible] wdL anI mP mkD G GC GQ GA eN Calls IntKind.wrap Int.decLt Int.decLe
theorem XP (N : T → EP → ES → ES) (t : T) (hq : eK qE t) (ar : t.size ≤ 80000) (aq : ∀ k, eK qE k → k.size < t.size → NCk N k ∧ NG N k)
 (xb mb : Nat) (u pv : Value) (p : EP) (s : ES) (μ : Mem) (hk : KR μ t.kids u) (hp : PV μ p pv) (hB : PB p t.size) (hS : SB s t.size) (hm : tG μ) :
 CEs 109 [.pointer (some ⟨xb, 0, none⟩), .agg (aY t u).toArray, pv] xb mb s (LZ wdF N t p s) μ := by
 intro w fs hμ f hO
 have g := dJ hO.diff
 have e := hp
 obtain ⟨r, lb, lo, mi, rfl, al, af, ae, ab⟩ := hp
 have o1 := al.one
 have o2 := af.one
 have o3 := ae.one
 have o4 := ab.one
 have ou := hk.one
 have aw := hB.labels
 have ax := hB.loops
 have aa := hq.here.2
 have au := bA t
 have an := gR t.kids
 have hlen : t.kids.length ≤ 100000 := by omega
 have hN : ∀ k ∈ t.kids, NCk N k ∧ NG N k := fun k hk => aq k (hq.kid hk) (by
  have : k.size ≤ szs t.kids := T.eF (List.mem_map.2 ⟨k, hk, rfl⟩)
  omega)
 have o : ∀ k ∈ t.kids, PB p k.size := fun k hk => hB.mono (by
  have : k.size ≤ szs t.kids := T.eF (List.mem_map.2 ⟨k, hk, rfl⟩)
  omega)
 have l : ∀ s1, Gr FF 0 s s1 → SB s1 (szs t.kids) := fun s1 hg => SB.gr (n := 0) (m := szs t.kids) (hS.mono (by omega)) hg
 generalize d : LZ wdF N t p s = s'
 unfold LZ at d
 by_cases x : t.op = 15 ∨ t.op = 16
 ·rw [if_pos x] at d
  have j := l _ (ZY (wd := wdF) t p s)
  refine cC (args := [.pointer (some ⟨xb, 0, none⟩), .agg (aY t u).toArray, .agg (hZ p r lb lo mi).toArray]) Tryz.func109 rfl Tryz.ntmps109 (by simp) hμ hO ?_
  rcases x with x | x
  all_goals try repeat' (first | refine KO ?_ | (refine CF 144 ?_; refine iR 2 rfl rfl rfl EN rfl f (XV t aa _ _ p s _ xb mb ou e (by omega) (by omega) hm) ?_; intro v1 μ1 i1 a f; dsimp only [aL, aP]; have hk := hk.mono a; have e := e.mono a; have hm := hm.mono a) | (refine CF 48 ?_; refine iR 2 rfl rfl rfl EN rfl f (kJ N t.kids _ _ p _ _ xb mb hN hk e o j hlen hm) ?_; intro v1 μ1 i1 a f; dsimp only [aL, aP]) | refine KZ ?_ | refine NB fun b => ?_)
  all_goals exact gI 2 i1 (by exact .inr rfl) g rfl rfl d f
 rw [if_neg x] at d
 by_cases ak : t.op = 17
 ·rw [if_pos ak] at d
  have j := l _ (lD (aNh p) t.at' 33 s)
  refine cC (args := [.pointer (some ⟨xb, 0, none⟩), .agg (aY t u).toArray, .agg (hZ p r lb lo mi).toArray]) Tryz.func109 rfl Tryz.ntmps109 (by simp) hμ hO ?_
  try repeat' (first | refine KO ?_ | (refine CF 106 ?_; refine iR 2 rfl rfl rfl EN rfl f (KG xb mb t _ ou _ (aNh p) (by unfold aNh; simp_all) _ _ _) ?_; intro v1 μ1 i1 a f; dsimp only [aL, aP]; have hk := hk.mono a; have e := e.mono a; have hm := hm.mono a) | (refine CF 48 ?_; refine iR 2 rfl rfl rfl EN rfl f (kJ N t.kids _ _ p _ _ xb mb hN hk e o j hlen hm) ?_; intro v1 μ1 i1 a f; dsimp only [aL, aP]) | refine KZ ?_ | refine NB fun b => ?_ | (refine KB ?_ ?_ <;> intro hp))
  all_goals exact gI 2 i1 (by exact .inr rfl) g rfl rfl d f
 rw [if_neg ak] at d
 by_cases aj : t.op = 34
 ·rw [if_pos aj] at d
  have j := l _ (rD wdF t t.s p s)
  refine cC (args := [.pointer (some ⟨xb, 0, none⟩), .agg (aY t u).toArray, .agg (hZ p r lb lo mi).toArray]) Tryz.func109 rfl Tryz.ntmps109 (by simp) hμ hO ?_
  try repeat' (first | refine KO ?_ | (refine CF 105 ?_; refine iR 2 rfl rfl rfl EN rfl f (qV xb mb t _ ou _ (by omega) p _ _ _ e hm) ?_; intro v1 μ1 i1 a f; dsimp only [aL, aP]; have hk := hk.mono a; have e := e.mono a; have hm := hm.mono a) | (refine CF 48 ?_; refine iR 2 rfl rfl rfl EN rfl f (kJ N t.kids _ _ p _ _ xb mb hN hk e o j hlen hm) ?_; intro v1 μ1 i1 a f; dsimp only [aL, aP]) | refine KZ ?_ | refine NB fun b => ?_)
  all_goals exact gI 2 i1 (by exact .inr rfl) g rfl rfl d f
 rw [if_neg aj] at d
 by_cases v : t.op = 39 ∧ t.n = 3
 ·rw [if_pos v] at d
  have h1 := hq.here.1.one (by omega)
  obtain ⟨A, c, rfl, hcap, q⟩ := hk.form
  obtain ⟨ad, x0, rfl, y, z, ap⟩ := q 0 _ (iC (by omega))
  have av := (hq.kid (eH (t := t) (i := 0) (by omega))).here.2
  obtain ⟨v, h3⟩ := v
  refine cC (args := [.pointer (some ⟨xb, 0, none⟩), .agg (aY t (.slice (some ad) t.kids.length c)).toArray, .agg (hZ p r lb lo mi).toArray]) Tryz.func109 rfl Tryz.ntmps109 (by simp) hμ hO ?_
  try repeat' (first | refine KZ ?_ | refine NB fun b => ?_)
  refine aT 12 _ (by kernel_rfl) rfl (aC (aC aQ)) ?_
  all_goals (refine DD 0 ?_; refine D1 1 ?_; refine DD 2 ?_; refine D2 3 rfl (by exact U1 0) ?_; refine D2 4 rfl (by exact U4 y) ?_; refine D1 5 ?_; refine DD 6 ?_; refine D2 7 rfl (by exact U1 0) ?_; refine DD 8 ?_; refine D2 9 rfl (by exact U4 y) ?_; refine DD 10 ?_)
  all_goals (refine D3 11 ?_; refine D5 ?_; refine CF 105 ?_; refine iR 2 rfl rfl rfl EN rfl f (qV xb mb (dC t 0) _ z _ (by omega) p _ _ _ e hm) ?_; intro v1 μ1 i1 a f; dsimp only [aL, aP]; refine D9 ?_)
  all_goals refine D8 ?_
  all_goals try repeat' (refine KZ ?_)
  all_goals exact gI 2 i1 (by exact .inl rfl) g rfl rfl d f
 rw [if_neg v] at d
 by_cases ag : t.op = 54
 ·rw [if_pos ag] at d
  have j := l _ (lD (aNg p) t.at' 34 s)
  refine cC (args := [.pointer (some ⟨xb, 0, none⟩), .agg (aY t u).toArray, .agg (hZ p r lb lo mi).toArray]) Tryz.func109 rfl Tryz.ntmps109 (by simp) hμ hO ?_
  try repeat' (first | refine KO ?_ | (refine CF 106 ?_; refine iR 2 rfl rfl rfl EN rfl f (KG xb mb t _ ou _ (aNg p) (by unfold aNg; simp_all) _ _ _) ?_; intro v1 μ1 i1 a f; dsimp only [aL, aP]; have hk := hk.mono a; have e := e.mono a; have hm := hm.mono a) | (refine CF 48 ?_; refine iR 2 rfl rfl rfl EN rfl f (kJ N t.kids _ _ p _ _ xb mb hN hk e o j hlen hm) ?_; intro v1 μ1 i1 a f; dsimp only [aL, aP]) | refine KZ ?_ | refine NB fun b => ?_ | (refine KB ?_ ?_ <;> intro hp))
  all_goals exact gI 2 i1 (by exact .inr rfl) g rfl rfl d f
 rw [if_neg ag] at d
 by_cases ah : t.op = 42
 ·rw [if_pos ah] at d
  have h1 := hq.here.1.one (by omega)
  have ao := hk
  obtain ⟨A, c, rfl, hcap, q⟩ := ao.form
  obtain ⟨ad, x0, rfl, y, z, ap⟩ := q 0 _ (iC (by omega))
  have j := l _ (lD (aNi t p) t.at' 35 s)
  refine cC (args := [.pointer (some ⟨xb, 0, none⟩), .agg (aY t (.slice (some ad) t.kids.length c)).toArray, .agg (hZ p r lb lo mi).toArray]) Tryz.func109 rfl Tryz.ntmps109 (by simp) hμ hO ?_
  try repeat' (first | refine KZ ?_ | refine NB fun b => ?_)
  refine aT 19 _ (by kernel_rfl) rfl (aC (aC aQ)) ?_
  all_goals (refine DD 0 ?_; refine DD 1 ?_; refine D1 2 ?_; refine D1 3 ?_; refine DD 4 ?_; refine DD 5 ?_)
  all_goals (try (refine D7 6 ?_; (repeat' (refine KB ?_ ?_ <;> intro hp))))
  all_goals (refine D1 6 ?_; (first | refine D1 7 ?_ | refine DD 7 ?_); refine D1 8 ?_; refine DD 9 ?_; refine DD 10 ?_)
  all_goals (try (refine D7 11 ?_; (repeat' (refine KB ?_ ?_ <;> intro hp))))
  all_goals (refine D1 11 ?_; (first | refine D1 12 ?_ | refine DD 12 ?_); (first | refine D1 13 ?_ | (refine D2 13 rfl (by exact U1 0) ?_)); (first | refine D1 14 ?_ | refine DD 14 ?_); (first | refine D1 15 ?_ | (refine D2 15 rfl (by exact U4 y) ?_)); refine D1 16 ?_; refine DD 17 ?_)
  all_goals (refine D3 18 ?_; refine D5 ?_; refine CF 106 ?_; refine iR 2 rfl rfl rfl EN rfl f (KG xb mb t _ ou _ (aNi t p) (by unfold aNi; rw [VG]; simp_all) _ _ _) ?_; intro v1 μ1 i1 a f; dsimp only [aL, aP]; have hk := hk.mono a; have e := e.mono a; have hm := hm.mono a; refine D9 ?_)
  all_goals refine D8 ?_
  all_goals try repeat' (first | refine KO ?_ | (refine CF 48 ?_; refine iR 2 rfl rfl rfl EN rfl f (kJ N t.kids _ _ p _ _ xb mb hN hk e o j hlen hm) ?_; intro v1 μ1 i1 a f; dsimp only [aL, aP]) | refine KZ ?_)
  all_goals exact gI 2 i1 (by exact .inr rfl) g rfl rfl d f
 rw [if_neg ah] at d
 have j := l _ (Gr.refl s)
 refine cC (args := [.pointer (some ⟨xb, 0, none⟩), .agg (aY t u).toArray, .agg (hZ p r lb lo mi).toArray]) Tryz.func109 rfl Tryz.ntmps109 (by simp) hμ hO ?_
 by_cases ai : t.op = 39
 ·have h3 : ¬t.n = 3 := fun h => v ⟨ai, h⟩
  try repeat' (first | refine KO ?_ | (refine CF 48 ?_; refine iR 2 rfl rfl rfl EN rfl f (kJ N t.kids _ _ p _ _ xb mb hN hk e o j hlen hm) ?_; intro v1 μ1 i1 a f; dsimp only [aL, aP]) | refine KZ ?_ | refine NB fun b => ?_)
  all_goals exact gI 2 i1 (by exact .inr rfl) g rfl rfl d f
 ·try repeat' (first | refine KO ?_ | (refine CF 48 ?_; refine iR 2 rfl rfl rfl EN rfl f (kJ N t.kids _ _ p _ _ xb mb hN hk e o j hlen hm) ?_; intro v1 μ1 i1 a f; dsimp only [aL, aP]) | refine KZ ?_ | refine NB fun b => ?_)
  all_goals exact gI 2 i1 (by exact .inr rfl) g rfl rfl d f
end
end Go.Proofs.YtlllalmkkaolfaaGreatDoor
