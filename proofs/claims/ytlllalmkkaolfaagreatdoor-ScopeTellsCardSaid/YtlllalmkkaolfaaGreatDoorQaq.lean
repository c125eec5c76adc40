/- Package scope: loop, walked. -/
import Derived.Test.YtlllalmkkaolfaaGreatDoorQap
set_option maxRecDepth 20000
set_option maxHeartbeats 2000000
namespace Go.Proofs.YtlllalmkkaolfaaGreatDoor
section
open Go.RowKit Go.Vcg Go.MapKept
def zY (N : T → Wh → FS → FS) (t : T) (ws : Int) (w1 : Wh) (s : FS) (k : T × Nat) : FS :=
 if k.2 = 1 ∧ t.op ≠ 10 ∧ w1.scope ≠ ws then { N k.1 w1 { s with heads := kM w1.scope true s.heads } with heads := zN w1.scope (N k.1 w1 { s with heads := kM w1.scope true s.heads }).heads } else N k.1 w1 s
theorem aEz (N : T → Wh → FS → FS) (t : T) (w : Wh) (s : FS) : zX N t w s = (t.kids.zipIdx).foldl (zY N t w.scope (if (decide ((dM t 0).op = 2) && !decide ((dM t 0).n = 0)) = true then fU w (eP (dM t 0) []) s else w)) (if (decide ((dM t 0).op = 2) && !decide ((dM t 0).n = 0)) = true then kA 3 t.at' w (eP (dM t 0) []) s else s) := rfl
theorem QE {β : Type} (G : β → T × Nat → β) (s : β) {l : List T} {i : Nat} {k : T} (a : l[i]? = some k) : ((l.take (i + 1)).zipIdx).foldl G s = G (((l.take i).zipIdx).foldl G s) (k, i) := by
 rw [bQ, a, List.zipIdx_append, gV]
 have hlt := (List.getElem?_eq_some_iff.1 a).1
 simp [cE, iG (Nat.le_of_lt hlt)]
theorem aFk {G : FS → T × Nat → FS} (l : List T) (s : FS) (h : ∀ k ∈ l, ∀ i s, GrS (3 * k.size) s (G s (k, i))) : GrS (3 * szs l) s (l.zipIdx.foldl G s) := by
 have g2 := rN G (fun k => 3 * k.1.size) l.zipIdx s fun k hk s => h k.1 (vP hk) k.2 s
 rw [LN] at g2
 exact g2
attribute [local irreducible] oS kM zN mC findF qJ nD pF jG zY kA fU
attribute [local irreducible] jN dU eP bN dV eG anI jE fZ G GC GQ GA eN Calls IntKind.wrap Int.decLt Int.decLe
theorem VJ (N : T → Wh → FS → FS) (t : T) (hq : eK qS t) (bp : t.op = 10 ∨ t.op = 11 ∨ t.op = 12) (bj : t.size ≤ 2000) (hN : ∀ k, eK qS k → k.size < t.size → NK N k ∧ NGs N k) (u : Value) (w0 : Wh) (s : FS) (μ : Mem) (xb cb hb db : Nat) (hk : KR μ t.kids u) (hB : BS s t.size) :
 LG 86 [.pointer (some ⟨xb, 0, none⟩), .agg (aY t u).toArray, WV w0] xb cb hb db s (zX N t w0 s) μ (fun _ => True) := by
 intro w q hμ g hO
 have ax := dJ hO.diff
 have bk := bA t
 have br := gR t.kids
 have bs : 1 ≤ t.kids.length := hq.here.1.kc.one (by omega)
 obtain ⟨bd, bc⟩ := hB
 obtain ⟨A, c, rfl, hcap, ai⟩ := hk.form
 obtain ⟨d0, ab⟩ : ∃ d, t.kids[0]? = some d := ⟨_, aA (by omega)⟩
 obtain ⟨ad, x0, e0, ar, bq, hx0⟩ := ai 0 d0 ab
 cases e0
 have ao := hq.kid (aB ab)
 have bh : d0.size ≤ szs t.kids := T.eF (List.mem_map.2 ⟨d0, aB ab, rfl⟩)
 have bu := bA d0
 have ag : ∀ k ∈ t.kids, k.size < t.size := fun k hk => by
  have : k.size ≤ szs t.kids := T.eF (List.mem_map.2 ⟨k, hk, rfl⟩)
  omega
 obtain ⟨ws, wf, wd⟩ := w0
 generalize z : zX N t ⟨ws, wf, wd⟩ s = s'
 rw [aEz, iV ab] at z
 have az := mY d0 []
 rw [bJ] at az
 have al := fun (lv : Value) (μ : Mem) (h : s.scopes.length ≤ 8000) => yK 3 t.at' ⟨ws, wf, wd⟩ (eP d0 []) lv s μ xb cb hb db h
 have gg := tS (kind := 3) (at' := t.at') (w := ⟨ws, wf, wd⟩) (l := eP d0 []) s (by omega)
 have ae : s.scopes.length ≤ 8000 := by unfold wtS at bd; omega
 generalize hc : (decide (d0.op = 2) && !decide (d0.n = 0)) = cc at z
 obtain ⟨s1, p⟩ : ∃ y, (if cc = true then kA 3 t.at' ⟨ws, wf, wd⟩ (eP d0 []) s else s) = y := ⟨_, rfl⟩
 obtain ⟨w1, r⟩ : ∃ y, (if cc = true then fU ⟨ws, wf, wd⟩ (eP d0 []) s else ⟨ws, wf, wd⟩) = y := ⟨_, rfl⟩
 rw [p, r] at z
 have g1 : GrS 1 s s1 := by
  subst p
  cases cc
  ·exact (GrS.refl s).mono (by omega)
  ·exact gg
 have bf : BS s1 (szs t.kids) := ⟨by have := g1.wt; omega, g1.nm bc⟩
 have bb : ∀ i, GrS (3 * szs (t.kids.take i)) s1 (((t.kids.take i).zipIdx).foldl (zY N t ws w1) s1) := fun i => aFk _ _ fun k hk i s => by
  have av := (hN k (hq.kid (aZ hk)) (ag k (aZ hk))).2
  unfold zY
  dsimp only
  split
  ·refine GrS.other (s1 := N k w1 { s with heads := kM w1.scope true s.heads }) ?_ rfl rfl rfl
   have ga : GrS 0 s { s with heads := kM w1.scope true s.heads } := (GrS.refl s).other rfl rfl rfl
   exact (ga.trans (av _ _)).mono (by omega)
  ·exact av _ _
 refine cC (args := [.pointer (some ⟨xb, 0, none⟩), .agg (aY t (.slice (some ad) t.kids.length c)).toArray, WV ⟨ws, wf, wd⟩]) Tryz.func86 rfl Tryz.ntmps86 (by simp) hμ hO ?_
 try repeat' (first | ((with_reducible show GC _ _ (Code.seq (Code.seq (Code.region 2 _ _) _) _) _ _ _ _); (apply dF)) | refine KZ ?_ | refine NB fun b => ?_)
 rename_i bn
 obtain ⟨bw, ay⟩ : ∃ y, y = b := ⟨_, rfl⟩
 rw [← ay]
 clear ay
 refine gcs (iB (ι := FW × Mem) (fun j => FR' j.1 s1 ∧ MLe μ j.2) (fun j => j.2) (fun _ => [(6, .int .i64 ws), (5, .pointer (some ⟨bw, 0, none⟩)), (4, .pointer (some ⟨bn, 0, none⟩)), (0, .pointer (some ⟨xb, 0, none⟩))]) (fun j => .inl ⟨bw, 85, 3, idx 0 (zM w1)⟩ :: .inl ⟨bn, 24, 6, idx 0 (aY t (.slice (some ad) t.kids.length c))⟩ :: FB xb cb hb db s1 j.1) ?_ ?_)
 ·by_cases v : d0.op = 2 ∧ d0.n ≠ 0
  ·have ecc : cc = true := by rw [← hc]; simp [v.1, v.2]
   subst ecc
   rw [if_pos rfl] at p r
   subst p r
   have ak := fun (μc : Mem) (hle : MLe μ μc) => DB d0 x0 (.slice none 0 0) [] μc (hx0.mono hle) (ao.here.1.vn v.1) (ao.here.1.kc.sub v.1) (by omega) (by rw [bJ]; omega)
   try repeat' (first | refine KO ?_ | (refine KV (b := by first | exact U1 0 | exact U4 ar) (c := ?_)) | refine KZ ?_ | refine NB fun b => ?_)
   all_goals
    refine aT 8 _ (by kernel_rfl) rfl (aC (dG (aC aQ))) ?_
    all_goals (refine DD 0 ?_; refine DD 1 ?_; refine DD 2 ?_; refine DD 4 ?_)
    refine iF 3 5 (by kernel_rfl) ?dr21_3 ?dr21_5
    case' dr21_3 =>
     (((with_reducible apply iW); (iterate 4 exact rfl); (((with_reducible apply wP); exact rfl; (repeat first | with_reducible exact fO | with_reducible apply oK); exact rfl))))
     all_goals (refine D3 5 ?_; refine D5 ?_; (refine CF 62 ?_; refine rC 40 4 ?_; (with_reducible apply pQ (bl := ([] : List Bd)) 0); (iterate 3 exact rfl); exact EN; exact rfl; exact ak _ (MLe.refl _); intro v5 μ5 ah; dsimp only [fD]); refine D9 ?_)
     all_goals (refine D3 6 ?_; refine D5 ?_; (refine CF 84 ?_; refine sC (dR (.refl _) (dR (.refl _) (dR (.refl _) (eW _)))) ?_; (with_reducible apply wI (bl := eP d0 []) 3); (iterate 3 exact rfl); exact EN; exact rfl; exact g; exact al _ _ ae; rintro v1 μ1 i1 f g rfl; dsimp only [aL, aP]); refine D9 ?_)
     all_goals (refine D3 7 ?_; refine D5 ?_; refine Y0 ?_; refine D9 ?_; refine D8 ?_)
    case' dr21_5 =>
     (refine D5 ?_; (refine CF 62 ?_; refine rC 40 4 ?_; (with_reducible apply pQ (bl := ([] : List Bd)) 0); (iterate 3 exact rfl); exact EN; exact rfl; exact ak _ (MLe.refl _); intro v5 μ5 ah; dsimp only [fD]); refine D9 ?_)
     all_goals (refine D3 3 ?_; (with_reducible apply iW); (iterate 4 exact rfl); (((with_reducible apply wP); exact rfl; (repeat first | with_reducible exact fO | with_reducible apply oK); exact rfl)))
     all_goals (refine D3 6 ?_; refine D5 ?_; (refine CF 84 ?_; refine sC (dR (.refl _) (dR (.refl _) (dR (.refl _) (eW _)))) ?_; (with_reducible apply wI (bl := eP d0 []) 3); (iterate 3 exact rfl); exact EN; exact rfl; exact g; exact al _ _ ae; rintro v1 μ1 i1 f g rfl; dsimp only [aL, aP]); refine D9 ?_)
     all_goals (refine D3 7 ?_; refine D5 ?_; refine Y0 ?_; refine D9 ?_; refine D8 ?_)
   all_goals exact eX (i1, _) ⟨g, ah.trans f⟩ rfl PU (by repeat first | exact bS _ (eW _) | (refine dR ?_ ?_; focus (refine jQ.cells ?_; repeat first | exact fM | refine eJ rfl ?_)))
  ·have ecc : cc = false := by
    rw [← hc]
    by_cases h2 : d0.op = 2
    ·have : d0.n = 0 := by
      by_cases h : d0.n = 0
      ·exact h
      ·exact absurd ⟨h2, h⟩ v
     simp [this]
    ·simp [h2]
   subst ecc
   rw [if_neg (by simp)] at p r
   subst p r
   try repeat' (first | refine KO ?_ | (refine KV (b := by first | exact U1 0 | exact U4 ar) (c := ?_)) | refine KZ ?_ | refine NB fun b => ?_ | (refine KB ?_ ?_ <;> intro hp))
   all_goals exact eX (q, _) ⟨g, MLe.refl _⟩ rfl PU (by repeat exact bS _ (eW _))
 rintro ⟨q1, μ1⟩ ⟨g, f⟩
 dsimp only at g f ⊢
 try repeat' (refine KZ ?_)
 refine bW (ι := Nat × Mem × FW) (fun j => j.1 ≤ t.kids.length ∧ MLe μ j.2.1 ∧ FR' j.2.2 (((t.kids.take j.1).zipIdx).foldl (zY N t ws w1) s1)) (fun j => t.kids.length - j.1) (fun j => j.2.1) (fun j => [(35, .int .i64 (j.1 : Int)), (34, .int .i64 (t.kids.length : Int)), (33, .slice (some ad) t.kids.length c), (6, .int .i64 ws), (5, .pointer (some ⟨bw, 0, none⟩)), (4, .pointer (some ⟨bn, 0, none⟩)), (0, .pointer (some ⟨xb, 0, none⟩))]) (fun j => .inl ⟨bw, 85, 3, idx 0 (zM w1)⟩ :: .inl ⟨bn, 24, 6, idx 0 (aY t (.slice (some ad) t.kids.length c))⟩ :: FB xb cb hb db (((t.kids.take j.1).zipIdx).foldl (zY N t ws w1) s1) j.2.2) (0, μ1, q1) ⟨aI _, f, g⟩ (fun a w hs => hs.sel PU (by repeat exact eW _)) ?_
 rintro ⟨i, μ0, q0⟩ ⟨hi, hle, g⟩
 dsimp only at hi hle g ⊢
 by_cases hlt : i < t.kids.length
 ·obtain ⟨k, aa⟩ : ∃ k, t.kids[i]? = some k := ⟨_, aA hlt⟩
  obtain ⟨ad5, x, e5, a7, bo, au⟩ := ai i k aa
  cases e5
  have aq := a7.mono hle
  have af := aB aa
  obtain ⟨ap, -⟩ := hN k (hq.kid af) (ag k af)
  have bm := jO aa
  have aj := BS.gr (bf.mono (m := szs (t.kids.take i) + k.size) (by omega)) (bb i)
  have e := QE (zY N t ws w1) s1 aa
  generalize ((t.kids.take i).zipIdx).foldl (zY N t ws w1) s1 = st at g aj e ⊢
  have ba : zY N t ws w1 st (k, i) = (if i = 1 ∧ t.op ≠ 10 ∧ w1.scope ≠ ws then { N k w1 { st with heads := kM w1.scope true st.heads } with heads := zN w1.scope (N k w1 { st with heads := kM w1.scope true st.heads }).heads } else N k w1 st) := by unfold zY; rfl
  rw [ba] at e
  by_cases hh : i = 1 ∧ t.op ≠ 10 ∧ w1.scope ≠ ws
  ·rw [if_pos hh] at e
   obtain ⟨bt, bg, bi⟩ := hh
   obtain ⟨es', ck', a1, an⟩ := aKw (P := Tryz.prog) (enc := UE) (t := 56) (kt := 3) (et := 4) (by kernel_rfl) (by kernel_rfl) w1.scope (by exact rfl) true g.hd q0.hc
   have o := ap xb cb hb db x w1 { st with heads := kM w1.scope true st.heads } _ (au.mono hle) (aj.other rfl rfl rfl)
   refine kV (congrArg (List.cons _) (congrArg (List.cons _) (lI xb cb hb db st q0))) ?_
   try repeat' (first | refine KO ?_ | (refine KV (b := by first | exact U1 i | exact U4 aq) (c := ?_)) | refine KZ ?_ | refine NB fun b => ?_)
   refine aT 7 _ (by kernel_rfl) rfl (aC (aC (aC (aC (aC (aC (aC (dG aQ)))))))) ?_
   all_goals (refine DD 0 ?_; refine DD 1 ?_; refine DD 2 ?_; refine DD 3 ?_; refine DD 4 ?_; refine DD 5 ?_)
   all_goals (refine D3 6 ?_; refine D5 ?_; (with_reducible apply XI (kv := .int .i64 w1.scope)); (iterate 4 exact rfl); (repeat first | with_reducible exact sO | with_reducible apply tZ); exact an; refine D9 ?_)
   all_goals refine D8 ?_
   try repeat' (first | ((with_reducible show GC _ _ (Code.seq (Code.region 11 _ _) _) _ _ _ _); (apply dF)) | refine KZ ?_)
   refine gcs (kV (L' := _ :: _ :: _ :: FB xb cb hb db { st with heads := kM w1.scope true st.heads } { q0 with he := es', hc := ck' }) rfl ?_)
   have g : FR' { q0 with he := es', hc := ck' } { st with heads := kM w1.scope true st.heads } := ⟨g.sc, g.ca, a1, g.dn⟩
   try repeat' (first | refine KO ?_ | (refine CF 65 ?_; refine rO 3 rfl rfl rfl EN rfl g (o) ?_; rintro v1 μ1 i1 f g -; dsimp only [aL, aP]) | refine KZ ?_)
   generalize N k w1 { st with heads := kM w1.scope true st.heads } = s5 at g e ⊢
   obtain ⟨es2, a6, aw⟩ := aPg (P := Tryz.prog) (enc := UE) (t := 56) (kt := 3) (et := 4) (by kernel_rfl) (by kernel_rfl) w1.scope (by exact rfl) g.hd i1.hc
   refine kV (congrArg (List.cons _) (congrArg (List.cons _) (congrArg (List.cons _) (lI xb cb hb db s5 i1)))) ?_
   refine aT 7 _ (by kernel_rfl) rfl (aC (aC (aC (aC (aC (aC (aC (dG aQ)))))))) ?_
   all_goals (refine DD 0 ?_; refine DD 1 ?_; refine DD 2 ?_; refine DD 3 ?_; refine DD 4 ?_; refine DD 5 ?_)
   all_goals (refine D3 6 ?_; refine D5 ?_; (with_reducible apply aM1); (iterate 3 exact rfl); (repeat first | with_reducible exact sO | with_reducible apply tZ); exact aw _; refine D9 ?_)
   all_goals refine D8 ?_
   all_goals try repeat' (refine KZ ?_)
   all_goals exact cP (i + 1, μ1, { i1 with he := es2 }) ⟨by dsimp only; omega, hle.trans f, by dsimp only; rw [e]; exact ⟨g.sc, g.ca, a6, g.dn⟩⟩ (by dsimp only; omega) rfl PU (by dsimp only; rw [e, lI]; exact (by repeat exact bS _ (eW _)))
  ·rw [if_neg hh] at e
   have o := ap xb cb hb db x w1 st _ (au.mono hle) aj
   rw [← e] at o
   try repeat' (first | refine KO ?_ | (refine CF 65 ?_; refine rO 3 rfl rfl rfl EN rfl g (o) ?_; (rintro v1 μ1 i1 f g -); (dsimp only [aL, aP])) | (refine KV (b := by first | exact U1 i | exact U4 aq) (c := ?_)) | refine KZ ?_ | refine NB fun b => ?_ | (refine KB ?_ ?_ <;> intro hp))
   all_goals exact cP (i + 1, μ1, i1) ⟨by dsimp only; omega, hle.trans f, g⟩ (by dsimp only; omega) rfl PU (by repeat exact bS _ (eW _))
 ·have a8 : i = t.kids.length := by omega
  subst a8
  rw [aG (aD _)] at g ⊢
  try repeat' (refine KZ ?_)
  all_goals exact mL 2 q0 (by exact .inr rfl) ax rfl rfl z g
end
section
open Go.RowKit Go.Vcg Go.MapKept
def rH (N : T → Wh → FS → FS) (ws : Int) (w1 : Wh) (s : FS) (k : T × Nat) : FS := N k.1 w1 (if w1.scope ≠ ws then { s with cases := kM w1.scope (k.2 : Int) s.cases } else s)
def tW (t : T) : List Bd := (t.kids.drop 1).foldl (fun l k => bN k.kids true l) []
theorem YE (N : T → Wh → FS → FS) (t : T) (w : Wh) (s : FS) : rG N t w s = ((t.kids.drop 1).zipIdx).foldl (rH N w.scope (fU w (tW t) s)) (N (dM t 0) w (kA 2 t.at' w (tW t) s)) := rfl
attribute [local irreducible] oS kM zN mC findF qJ nD pF jG kA fU rH
attribute [local irreducible] jN dU eP bN dV eG anI jE fZ G GC GQ GA eN Calls IntKind.wrap Int.decLt Int.decLe
theorem OI (N : T → Wh → FS → FS) (t : T) (hq : eK qS t) (bt : t.op = 21) (br : t.size ≤ 2000) (hN : ∀ k, eK qS k → k.size < t.size → NK N k ∧ NGs N k) (u : Value) (w0 : Wh) (s : FS) (μ : Mem) (xb cb hb db : Nat) (hk : KR μ t.kids u) (hB : BS s t.size) :
 LG 85 [.pointer (some ⟨xb, 0, none⟩), .agg (aY t u).toArray, WV w0] xb cb hb db s (rG N t w0 s) μ (fun _ => True) := by
 intro w q hμ o hO
 have az := dJ hO.diff
 have bs := bA t
 have ax : 1 ≤ t.kids.length := hq.here.1.kc.one (by omega)
 have ba := GB ax
 obtain ⟨bp, bo⟩ := hB
 obtain ⟨A, c, rfl, hcap, ay⟩ := hk.form
 obtain ⟨d0, ai⟩ : ∃ d, t.kids[0]? = some d := ⟨_, aA (by omega)⟩
 obtain ⟨ad, x0, e0, z, bu, hx0⟩ := ay 0 d0 ai
 cases e0
 have bc := hq.kid (aB ai)
 have ak : ∀ k ∈ t.kids, k.size < t.size := fun k hk => by
  have : k.size ≤ szs t.kids := T.eF (List.mem_map.2 ⟨k, hk, rfl⟩)
  omega
 rw [iV ai] at ba
 have a7 := hN d0 bc (by omega)
 have bj := hk.AE ax
 have b0 : (t.kids.drop 1).length = t.kids.length - 1 := cQ
 have bx := gR (t.kids.drop 1)
 obtain ⟨A2, c2, e2, bm, aa⟩ := bj.form
 obtain ⟨ws, wf, wd⟩ := w0
 generalize p : rG N t ⟨ws, wf, wd⟩ s = s'
 rw [YE, iV ai] at p
 dsimp only at p
 have bq : (tW t).length ≤ szs (t.kids.drop 1) := by
  have h2 := nR (fun l (k : T) => bN k.kids true l) T.size (t.kids.drop 1) [] fun k _ a => by
   have h3 := iQ k.kids true a
   have h4 := bA k
   omega
  have h5 : ((t.kids.drop 1).map T.size).sum = szs (t.kids.drop 1) := rfl
  rw [h5, bJ, bB] at h2
  exact h2
 refine cC (args := [.pointer (some ⟨xb, 0, none⟩), .agg (aY t (.slice (some ad) t.kids.length c)).toArray, WV ⟨ws, wf, wd⟩]) Tryz.func85 rfl Tryz.ntmps85 (by simp) hμ hO ?_
 refine nH 40 4 ?_
 try repeat' (first | refine KO ?_ | (refine KV (b := by ((with_reducible apply kK 1); (iterate 4 exact rfl); omega; omega)) (c := ?_)) | refine KZ ?_ | refine NB fun b => ?_)
 rename_i bn
 obtain ⟨bw, a1⟩ : ∃ y, y = b := ⟨_, rfl⟩
 rw [← a1]
 clear a1
 rw [e2]
 refine bW (ι := Nat × Value × Mem) (fun j => j.1 ≤ (t.kids.drop 1).length ∧ MLe μ j.2.2) (fun j => (t.kids.drop 1).length - j.1) (fun j => j.2.2) (fun j => [(17, .int .i64 (j.1 : Int)), (16, .int .i64 ((t.kids.length - 1 : Nat) : Int)), (15, .slice A2 (t.kids.drop 1).length c2), (6, j.2.1), (5, .pointer (some ⟨bw, 0, none⟩)), (4, .pointer (some ⟨bn, 0, none⟩)), (0, .pointer (some ⟨xb, 0, none⟩))]) (fun j => .inl ⟨bw, 85, 3, idx 0 (zM ⟨ws, wf, wd⟩)⟩ :: .inl ⟨bn, 24, 6, idx 0 (aY t (.slice (some ad) t.kids.length c))⟩ :: lH j.2.1 (((t.kids.drop 1).take j.1).foldl (fun l k => bN k.kids true l) []) :: FB xb cb hb db s q) (0, .slice none 0 0, μ) ⟨aI _, MLe.refl _⟩ (fun a w hs => hs.sel PU (eW _)) ?_
 rintro ⟨i, v, μi⟩ ⟨hi, hle⟩
 dsimp only at hi hle ⊢
 by_cases hlt : i < (t.kids.drop 1).length
 ·obtain ⟨d, ah⟩ : ∃ d, (t.kids.drop 1)[i]? = some d := ⟨_, aA hlt⟩
  obtain ⟨ad5, x, e5, an, bd, af⟩ := aa i d ah
  subst e5
  have ae := an.mono hle
  have r := cD (aB ah)
  have bb := jO ah
  have bz := bA d
  have a6 : (((t.kids.drop 1).take i).foldl (fun l k => bN k.kids true l) []).length ≤ szs ((t.kids.drop 1).take i) := by
   have h2 := nR (fun l (k : T) => bN k.kids true l) T.size ((t.kids.drop 1).take i) [] fun k _ a => by
    have h3 := iQ k.kids true a
    have h4 := bA k
    omega
   rw [bJ, bB] at h2
   exact h2
  have e := kN (fun l (k : T) => bN k.kids true l) (l := []) ah
  generalize ((t.kids.drop 1).take i).foldl (fun l k => bN k.kids true l) [] = acc at a6 e ⊢
  try repeat' (first | refine KO ?_ | (refine CF 40 ?_; (with_reducible apply pQ 3); (iterate 3 exact rfl); exact EN; exact rfl; (exact vF d.kids true x _ acc _ (af.mono hle) (fun k hk => ((hq.kid r).kid hk).here.1) (by omega) (by omega)); (intro v4 μ4 aw); (dsimp only [fD])) | (refine KV (b := by first | exact U1 i | exact U4 ae) (c := ?_)) | refine KZ ?_ | refine NB fun b => ?_)
  all_goals exact cP (i + 1, v4, μ4) ⟨by dsimp only; omega, hle.trans aw⟩ (by dsimp only; omega) rfl PU (by dsimp only; rw [e]; exact (by repeat exact bS _ (eW _)))
 have ao : i = (t.kids.drop 1).length := by omega
 subst ao
 rw [aG (aD _)]
 have bk : (t.kids.drop 1).foldl (fun l k => bN k.kids true l) [] = tW t := rfl
 rw [bk]
 have ab := fun (lv : Value) (μ : Mem) (h : s.scopes.length ≤ 8000) => yK 2 t.at' ⟨ws, wf, wd⟩ (tW t) lv s μ xb cb hb db h
 have gg := tS (kind := 2) (at' := t.at') (w := ⟨ws, wf, wd⟩) (l := tW t) s (by omega)
 have ap : s.scopes.length ≤ 8000 := by unfold wtS at bp; omega
 have aj : BS (kA 2 t.at' ⟨ws, wf, wd⟩ (tW t) s) (d0.size + szs (t.kids.drop 1)) := ⟨by have := gg.wt; omega, gg.nm bo⟩
 generalize tW t = bl at ab p aj ⊢
 generalize kA 2 t.at' ⟨ws, wf, wd⟩ bl s = s1 at ab p aj
 generalize fU ⟨ws, wf, wd⟩ bl s = w1 at ab p
 have z := z.mono hle
 have a8 := BS.gr aj (a7.2 ⟨ws, wf, wd⟩ s1)
 try repeat' (refine KZ ?_)
 refine aT 6 _ (by kernel_rfl) rfl (aC aQ) ?_
 all_goals (refine DD 0 ?_; refine DD 1 ?_; refine DD 2 ?_; refine D3 3 ?_; refine D5 ?_; refine NB fun b => ?_; refine D9 ?_; refine DD 4 ?_; refine D3 5 ?_; refine D5 ?_; refine Y0 ?_; refine D9 ?_; refine D8 ?_)
 try repeat' (first | refine KO ?_ | (refine CF 84 ?_; (with_reducible apply wI (bl := bl) 3); (iterate 3 exact rfl); exact EN; exact rfl; exact o; exact ab _ _ ap; rintro v1 μ1 i1 f o rfl; dsimp only [aL, aP]) | refine KZ ?_)
 have z := z.mono f
 refine aT 7 _ (by kernel_rfl) rfl (aC (aC (aC aQ))) ?_
 all_goals (refine DD 0 ?_; refine D1 1 ?_; refine DD 2 ?_; refine D2 3 rfl (by exact U1 0) ?_; refine D2 4 rfl (by exact U4 z) ?_; refine DD 5 ?_)
 all_goals (refine D3 6 ?_; refine D5 ?_; refine CF 65 ?_; refine rO 3 rfl rfl rfl EN rfl o (a7.1 xb cb hb db _ ⟨ws, wf, wd⟩ s1 _ (hx0.mono (hle.trans f)) (aj.mono (by omega))) ?_; rintro v6 μ6 i6 av o -; dsimp only [aL, aP]; refine D9 ?_)
 all_goals refine D8 ?_
 generalize N d0 ⟨ws, wf, wd⟩ s1 = s2 at o p a8
 have au := (hle.trans f).trans av
 have bi : ∀ i, GrS (3 * szs ((t.kids.drop 1).take i)) s2 ((((t.kids.drop 1).take i).zipIdx).foldl (rH N ws w1) s2) := fun i => aFk _ _ fun k hk i s => by
  have hm := cD (aZ hk)
  have bg := (hN k (hq.kid hm) (ak k hm)).2
  unfold rH
  have ga : GrS 0 s (if w1.scope ≠ ws then { s with cases := kM w1.scope (i : Int) s.cases } else s) := by
   split
   ·exact (GrS.refl s).other rfl rfl rfl
   ·exact GrS.refl s
  exact (ga.trans (bg _ _)).mono (by omega)
 try repeat' (first | refine KO ?_ | (refine KV (b := by ((with_reducible apply kK 1); (iterate 4 exact rfl); omega; omega)) (c := ?_)) | refine KZ ?_)
 rw [e2]
 refine bW (ι := Nat × Mem × FW) (fun j => j.1 ≤ (t.kids.drop 1).length ∧ MLe μ j.2.1 ∧ FR' j.2.2 ((((t.kids.drop 1).take j.1).zipIdx).foldl (rH N ws w1) s2)) (fun j => (t.kids.drop 1).length - j.1) (fun j => j.2.1) (fun j => [(46, .int .i64 (j.1 : Int)), (45, .int .i64 ((t.kids.length - 1 : Nat) : Int)), (44, .slice A2 (t.kids.drop 1).length c2), (9, .int .i64 ws), (5, .pointer (some ⟨bw, 0, none⟩)), (0, .pointer (some ⟨xb, 0, none⟩))]) (fun j => .inl ⟨bw, 85, 3, idx 0 (zM w1)⟩ :: FB xb cb hb db ((((t.kids.drop 1).take j.1).zipIdx).foldl (rH N ws w1) s2) j.2.2) (0, _, i6) ⟨aI _, au, o⟩ (fun a w hs => hs.sel PU (by repeat first | exact bS _ (bS _ (eW _)) | (refine dR ?_ ?_; focus (refine jQ.cells ?_; repeat first | exact fM | refine eJ rfl ?_)))) ?_
 rintro ⟨i, μ0, q0⟩ ⟨hi, hle, o⟩
 dsimp only at hi hle o ⊢
 by_cases hlt : i < (t.kids.drop 1).length
 ·obtain ⟨k, ag⟩ : ∃ k, (t.kids.drop 1)[i]? = some k := ⟨_, aA hlt⟩
  obtain ⟨ad5, x, e5, an, bd, af⟩ := aa i k ag
  subst e5
  have ae := an.mono hle
  have r := cD (aB ag)
  obtain ⟨ar, -⟩ := hN k (hq.kid r) (ak k r)
  have bb := jO ag
  have al := BS.gr (a8.mono (m := szs ((t.kids.drop 1).take i) + k.size) (by omega)) (bi i)
  have e := QE (rH N ws w1) s2 ag
  generalize (((t.kids.drop 1).take i).zipIdx).foldl (rH N ws w1) s2 = st at o al e ⊢
  have bh : rH N ws w1 st (k, i) = N k w1 (if w1.scope ≠ ws then { st with cases := kM w1.scope (i : Int) st.cases } else st) := by unfold rH; rfl
  rw [bh] at e
  by_cases hh : w1.scope ≠ ws
  ·rw [if_pos hh] at e
   obtain ⟨es', ck', bf, aq⟩ := aKw (P := Tryz.prog) (enc := aAl) (t := 55) (kt := 3) (et := 3) (by kernel_rfl) (by kernel_rfl) w1.scope (by exact rfl) (i : Int) o.ca q0.cc
   have g := ar xb cb hb db x w1 { st with cases := kM w1.scope (i : Int) st.cases } _ (af.mono hle) (al.other rfl rfl rfl)
   rw [← e] at g
   refine kV (congrArg (List.cons _) (lI xb cb hb db st q0)) ?_
   try repeat' (first | refine KO ?_ | (refine KV (b := by first | exact U1 i | exact U4 ae) (c := ?_)) | refine KZ ?_ | refine NB fun b => ?_)
   refine aT 8 _ (by kernel_rfl) rfl (aC (aC (aC (aC (aC (dG aQ)))))) ?_
   all_goals (refine DD 0 ?_; refine DD 1 ?_; refine DD 2 ?_; refine DD 3 ?_; refine DD 4 ?_; refine DD 5 ?_; refine DD 6 ?_)
   all_goals (refine D3 7 ?_; refine D5 ?_; (with_reducible apply XI (kv := .int .i64 w1.scope)); (iterate 4 exact rfl); (repeat first | with_reducible exact sO | with_reducible apply tZ); exact aq; refine D9 ?_)
   all_goals refine D8 ?_
   try repeat' (first | ((with_reducible show GC _ _ (Code.region 15 _ _) _ _ _ _); (apply dF)) | refine KZ ?_)
   refine gcs (kV (L' := _ :: _ :: FB xb cb hb db { st with cases := kM w1.scope (i : Int) st.cases } { q0 with ce := es', cc := ck' }) rfl ?_)
   have o : FR' { q0 with ce := es', cc := ck' } { st with cases := kM w1.scope (i : Int) st.cases } := ⟨o.sc, bf, o.hd, o.dn⟩
   try repeat' (first | refine KO ?_ | (refine CF 65 ?_; refine rO 2 rfl rfl rfl EN rfl o (g) ?_; rintro v1 μ1 i1 f o -; dsimp only [aL, aP]) | refine KZ ?_)
   all_goals exact cP (i + 1, μ1, i1) ⟨by dsimp only; omega, hle.trans f, o⟩ (by dsimp only; omega) rfl PU (by repeat exact bS _ (eW _))
  ·rw [if_neg hh] at e
   have g := ar xb cb hb db x w1 st _ (af.mono hle) al
   rw [← e] at g
   try repeat' (first | refine KO ?_ | (refine CF 65 ?_; refine rO 2 rfl rfl rfl EN rfl o (g) ?_; (rintro v1 μ1 i1 f o -); (dsimp only [aL, aP])) | (refine KV (b := by first | exact U1 i | exact U4 ae) (c := ?_)) | refine KZ ?_ | refine NB fun b => ?_)
   all_goals exact cP (i + 1, μ1, i1) ⟨by dsimp only; omega, hle.trans f, o⟩ (by dsimp only; omega) rfl PU (by repeat exact bS _ (eW _))
 ·have ao : i = (t.kids.drop 1).length := by omega
  subst ao
  rw [aG (aD _)] at o ⊢
  try repeat' (refine KZ ?_)
  all_goals exact mL 1 q0 (by exact .inr rfl) az rfl rfl p o
end
section
open Go.RowKit Go.Vcg Go.MapKept
attribute [local irreducible] oS kM zN mC findF qJ nD pF jG kA fU JD zX rG yB uF
attribute [local irreducible] jN dU eP bN dV eG anI jE fZ G GC GQ GA eN Calls IntKind.wrap Int.decLt Int.decLe
theorem VI (N : T → Wh → FS → FS) (fu : Nat) (t : T) (hq : eK qS t) (ae : t.size ≤ 2000) (bj : t.size ≤ fu) (hN : ∀ k, eK qS k → k.size < t.size → NK N k ∧ NGs N k) : NK (zS N fu) t := by
 intro xb cb hb db u w0 s μ hk hB
 intro w q hμ f hO
 have g := dJ hO.diff
 have ou := hk.one
 have bq := bA t
 obtain ⟨af, bp, bu⟩ := hB.sc
 have ag := hB.2
 have p := hk
 have ah : ∀ k ∈ t.kids, k.size < t.size := fun k hk => by
  have : k.size ≤ szs t.kids := T.eF (List.mem_map.2 ⟨k, hk, rfl⟩)
  omega
 have an : ∀ k ∈ t.kids, NK N k ∧ NGs N k := fun k hk => hN k (hq.kid hk) (ah k hk)
 obtain ⟨A, c, rfl, hcap, ai⟩ := hk.form
 obtain ⟨ws, wf, wd⟩ := w0
 generalize e : zS N fu t ⟨ws, wf, wd⟩ s = s'
 unfold zS at e
 dsimp only at e
 have bz := hB.1
 refine cC (args := [.pointer (some ⟨xb, 0, none⟩), .agg (aY t (.slice A t.kids.length c)).toArray, WV ⟨ws, wf, wd⟩]) Tryz.func65 rfl Tryz.ntmps65 (by simp) hμ hO ?_
 by_cases a8 : t.op = 34
 ·rw [if_pos a8] at e
  try repeat' (first | refine KO ?_ | (refine CF 82 ?_; refine rO 2 rfl rfl rfl EN rfl f (MB t _ ⟨ws, wf, wd⟩ s _ xb cb hb db ou af ag (by omega)) ?_; rintro v1 μ1 i1 i f -; dsimp only [aL, aP]) | refine KZ ?_ | refine NB fun b => ?_)
  all_goals exact mL 2 i1 (by exact .inr rfl) g rfl rfl e f
 rw [if_neg a8] at e
 by_cases h4 : t.op = 4
 ·rw [if_pos h4] at e
  try repeat' (first | refine KO ?_ | (refine CF 83 ?_; refine rO 2 rfl rfl rfl EN rfl f (aA7 N fu t hq h4 ae bj hN _ ⟨ws, wf, false⟩ s _ xb cb hb db p hB) ?_; rintro v1 μ1 i1 i f -; dsimp only [aL, aP]) | refine KZ ?_ | refine NB fun b => ?_)
  all_goals exact mL 2 i1 (by exact .inr rfl) g rfl rfl e f
 rw [if_neg h4] at e
 by_cases h6 : t.op = 6
 ·rw [if_pos h6] at e
  have ba := iQ t.kids true []
  rw [bJ, bB] at ba
  have aa := fun (μc : Mem) (hle : MLe μ μc) => vF t.kids true _ (.slice none 0 0) [] μc (p.mono hle) (fun k hk => (hq.kid hk).here.1) (by omega) (by rw [bJ]; omega)
  have o := fun (lv : Value) (μ : Mem) (h : s.scopes.length ≤ 8000) => yK 2 t.at' ⟨ws, wf, wd⟩ (bN t.kids true []) lv s μ xb cb hb db h
  have gg := tS (kind := 2) (at' := t.at') (w := ⟨ws, wf, wd⟩) (l := bN t.kids true []) s (by omega)
  have v : BS (kA 2 t.at' ⟨ws, wf, wd⟩ (bN t.kids true []) s) (szs t.kids) := ⟨by have := gg.wt; omega, gg.nm ag⟩
  generalize bN t.kids true [] = bl at o e v aa
  generalize kA 2 t.at' ⟨ws, wf, wd⟩ bl s = s1 at o e v
  generalize fU ⟨ws, wf, wd⟩ bl s = w1 at o e
  try repeat' (first | refine KZ ?_ | refine NB fun b => ?_)
  refine aT 12 _ (by kernel_rfl) rfl (aC (aC aQ)) ?_
  all_goals (refine DD 0 ?_; refine DD 1 ?_; refine DD 2 ?_; refine DD 3 ?_; refine DD 4 ?_; refine DD 5 ?_; refine DD 6 ?_; refine DD 7 ?_; refine DD 8 ?_)
  all_goals (refine D3 9 ?_; refine D5 ?_; (refine CF 40 ?_; refine rC 40 4 ?_; (with_reducible apply pQ (bl := ([] : List Bd)) 0); (iterate 3 exact rfl); exact EN; exact rfl; exact aa _ (MLe.refl _); intro v5 μ5 ax; dsimp only [fD]); refine D9 ?_)
  all_goals (refine D3 10 ?_; refine D5 ?_; (refine CF 84 ?_; refine sC (dR (.refl _) (dR (.refl _) (eW _))) ?_; (with_reducible apply wI (bl := bl) 2); (iterate 3 exact rfl); exact EN; exact rfl; exact f; exact o _ _ af; rintro v6 μ6 i6 ab f rfl; dsimp only [aL, aP]); refine D9 ?_)
  all_goals (refine D3 11 ?_; refine D5 ?_; (refine CF 41 ?_; refine rO 2 rfl rfl rfl EN rfl f (sG N t.kids _ w1 s1 _ xb cb hb db an ((p.mono ax).mono ab) v) ?_; rintro v7 μ7 i7 aw f -; dsimp only [aL, aP]); refine D9 ?_)
  all_goals refine D8 ?_
  all_goals try repeat' (refine KZ ?_)
  all_goals exact mL 2 i7 (by exact .inr rfl) g rfl rfl e f
 rw [if_neg h6] at e
 by_cases ap : t.op = 21
 ·rw [if_pos ap] at e
  try repeat' (first | refine KO ?_ | (refine CF 85 ?_; refine rO 2 rfl rfl rfl EN rfl f (OI N t hq ap ae hN _ ⟨ws, wf, wd⟩ s _ xb cb hb db p hB) ?_; rintro v1 μ1 i1 i f -; dsimp only [aL, aP]) | refine KZ ?_ | refine NB fun b => ?_)
  all_goals exact mL 2 i1 (by exact .inr rfl) g rfl rfl e f
 rw [if_neg ap] at e
 by_cases r : t.op = 10 ∨ t.op = 11 ∨ t.op = 12
 ·rw [if_pos r] at e
  have av := VJ N t hq r ae hN _ ⟨ws, wf, wd⟩ s μ xb cb hb db p hB
  rw [e] at av
  rcases r with al | al | al
  all_goals try repeat' (first | refine KO ?_ | (refine CF 86 ?_; refine rO 2 rfl rfl rfl EN rfl f (av) ?_; rintro v1 μ1 i1 i f -; dsimp only [aL, aP]) | refine KZ ?_ | refine NB fun b => ?_)
  all_goals exact mL 2 i1 (by exact .inr rfl) g rfl rfl rfl f
 rw [if_neg r] at e
 have al : t.op ≠ 10 := fun h => r (.inl h)
 have bt : t.op ≠ 11 := fun h => r (.inr (.inl h))
 have bs : t.op ≠ 12 := fun h => r (.inr (.inr h))
 by_cases aq : t.op = 20
 ·rw [if_pos aq] at e
  have bg : 2 ≤ t.kids.length := hq.here.1.kc.two (.inr (.inl aq))
  obtain ⟨d0, z⟩ : ∃ d, t.kids[0]? = some d := ⟨_, aA (by omega)⟩
  obtain ⟨ad, x0, e0, ak, au, hx0⟩ := ai 0 d0 z
  cases e0
  rw [iV z] at e
  have bo := ah d0 (aB z)
  have br := kH d0
  have a6 := nA 5 (bD d0) []
  rw [bJ, bB] at a6
  have bc := fun w μc hw (hle : MLe μ μc) => vO d0 w μc x0 hw (hx0.mono hle) (by omega)
  refine nH 40 4 ?_
  try repeat' (first | refine KO ?_ | ((with_reducible apply C3); exact rfl; exact EN; (exact fun w μc hw bb => bc w μc hw bb.le); intro v2; (with_reducible apply eU 0); exact rfl; rintro A2 c2 rfl bm) | (refine KV (b := by first | exact U1 0 | exact U4 ak) (c := ?_)) | refine KZ ?_ | refine NB fun b => ?_)
  rename_i bn
  obtain ⟨bw, a1⟩ : ∃ y, y = b := ⟨_, rfl⟩
  rw [← a1]
  clear a1
  refine oY rfl ?_
  intro μ2 az ar
  have bk := SsV.mM (xs := bD d0) ar rfl rfl
  obtain ⟨A3, c3, e3, hS, bx⟩ := bk
  cases e3
  refine bW (ι := Nat × Value × Mem) (fun j => j.1 ≤ (bD d0).length ∧ MLe μ2 j.2.2) (fun j => (bD d0).length - j.1) (fun j => j.2.2) (fun j => [(64, .int .i64 (j.1 : Int)), (63, .int .i64 ((bD d0).length : Int)), (62, .slice A2 (bD d0).length c2), (6, j.2.1), (5, .pointer (some ⟨bw, 0, none⟩)), (4, .pointer (some ⟨bn, 0, none⟩)), (0, .pointer (some ⟨xb, 0, none⟩))]) (fun j => .inl ⟨bw, 85, 3, idx 0 (zM ⟨ws, wf, wd⟩)⟩ :: .inl ⟨bn, 24, 6, idx 0 (aY t (.slice (some ad) t.kids.length c))⟩ :: lH j.2.1 (dU 5 ((bD d0).take j.1) []) :: FB xb cb hb db s q) (0, .slice none 0 0, μ2) ⟨aI _, MLe.refl _⟩ (fun a w hs => hs.sel PU (by rw [iY, zG]; exact eW _)) ?_
  rintro ⟨j, v3, μ3⟩ ⟨hj, x⟩
  dsimp only at hj x ⊢
  by_cases bh : j < (bD d0).length
  ·obtain ⟨ad3, y, rfl, hy, bf⟩ := hS.get bh
   have bd := bf.mono x
   have aa := wC (k := 5) (l := []) hy
   have a7 := nA 5 ((bD d0).take j) []
   rw [cE, bJ] at a7
   generalize dU 5 ((bD d0).take j) [] = acc2 at aa a7 ⊢
   try repeat' (first | refine KO ?_ | (refine CF 64 ?_; (with_reducible apply pQ 2); (iterate 3 exact rfl); exact EN; exact rfl; (exact DA acc2 _ y 5 _ (by omega)); (intro v4 μ4 ay); (dsimp only [fD])) | (refine KV (b := by first | exact U1 j | exact U3 (bd.at 0 rfl)) (c := ?_)) | refine KZ ?_)
   all_goals rw [← aa]
   all_goals exact cP (j + 1, v4, μ4) ⟨by dsimp only; omega, x.trans ay⟩ (by dsimp only; omega) rfl PU (eW _)
  have bi : j = (bD d0).length := by omega
  subst bi
  rw [aG (aD _)]
  have o := fun (lv : Value) (μ : Mem) (h : s.scopes.length ≤ 8000) => yK 4 t.at' ⟨ws, wf, wd⟩ (dU 5 (bD d0) []) lv s μ xb cb hb db h
  have gg := tS (kind := 4) (at' := t.at') (w := ⟨ws, wf, wd⟩) (l := dU 5 (bD d0) []) s (by omega)
  have v : BS (kA 4 t.at' ⟨ws, wf, wd⟩ (dU 5 (bD d0) []) s) (szs t.kids) := ⟨by have := gg.wt; omega, gg.nm ag⟩
  generalize dU 5 (bD d0) [] = bl at o e v ⊢
  generalize kA 4 t.at' ⟨ws, wf, wd⟩ bl s = s1 at o e v
  generalize fU ⟨ws, wf, wd⟩ bl s = w1 at o e
  try repeat' (refine KZ ?_)
  refine aT 10 _ (by kernel_rfl) rfl (aC (aC aQ)) ?_
  all_goals (refine DD 0 ?_; refine DD 1 ?_; refine DD 2 ?_; refine DD 3 ?_; refine DD 4 ?_; refine DD 5 ?_; refine DD 6 ?_; refine DD 7 ?_)
  all_goals (refine D3 8 ?_; refine D5 ?_; (refine CF 84 ?_; (with_reducible apply wI (bl := bl) 2); (iterate 3 exact rfl); exact EN; exact rfl; exact f; exact o _ _ af; rintro v6 μ6 i6 ab f rfl; dsimp only [aL, aP]); refine D9 ?_)
  all_goals (refine D3 9 ?_; refine D5 ?_; (refine CF 41 ?_; refine rO 2 rfl rfl rfl EN rfl f (sG N t.kids _ w1 s1 _ xb cb hb db an (((p.mono az).mono x).mono ab) v) ?_; rintro v7 μ7 i7 aw f -; dsimp only [aL, aP]); refine D9 ?_)
  all_goals refine D8 ?_
  all_goals try repeat' (refine KZ ?_)
  all_goals exact mL 2 i7 (by exact .inr rfl) g rfl rfl e f
 rw [if_neg aq] at e
 by_cases h3 : t.op = 3
 ·rw [if_pos h3] at e
  try repeat' (first | refine KO ?_ | (refine CF 87 ?_; refine rO 2 rfl rfl rfl EN rfl f (VO N t hq h3 ae hN _ ⟨ws, wf, wd⟩ s _ xb cb hb db p hB) ?_; rintro v1 μ1 i1 i f -; dsimp only [aL, aP]) | refine KZ ?_ | refine NB fun b => ?_)
  all_goals exact mL 2 i1 (by exact .inr rfl) g rfl rfl e f
 rw [if_neg h3] at e
 by_cases ao : t.op = 39
 ·rw [if_pos ao] at e
  by_cases aj : t.n = 3
  ·rw [if_pos aj] at e
   have bg := hq.here.1.kc.one (.inr (.inr (.inr (.inr (.inr (.inr (.inr ⟨ao, aj⟩)))))))
   obtain ⟨d0, z⟩ : ∃ d, t.kids[0]? = some d := ⟨_, aA (by omega)⟩
   obtain ⟨ad, x0, e0, ak, au, hx0⟩ := ai 0 d0 z
   cases e0
   rw [iV z] at e
   try repeat' (first | refine KZ ?_ | refine NB fun b => ?_)
   refine aT 7 _ (by kernel_rfl) rfl (aC (aC aQ)) ?_
   all_goals (refine DD 0 ?_; refine D1 1 ?_; refine DD 2 ?_; refine D2 3 rfl (by exact U1 0) ?_; refine D2 4 rfl (by exact U4 ak) ?_; refine DD 5 ?_)
   all_goals (refine D3 6 ?_; refine D5 ?_; refine CF 82 ?_; refine rO 2 rfl rfl rfl EN rfl f (MB d0 _ ⟨ws, wf, wd⟩ s _ xb cb hb db au af ag (by omega)) ?_; rintro v1 μ1 i1 i f -; dsimp only [aL, aP]; refine D9 ?_)
   all_goals refine D8 ?_
   all_goals try repeat' (refine KZ ?_)
   all_goals exact mL 2 i1 (by exact .inl rfl) g rfl rfl e f
  ·rw [if_neg aj] at e
   try repeat' (first | refine KO ?_ | (refine CF 41 ?_; refine rO 2 rfl rfl rfl EN rfl f (sG N t.kids _ ⟨ws, wf, wd⟩ s _ xb cb hb db an p (hB.mono (by omega))) ?_; rintro v1 μ1 i1 i f -; dsimp only [aL, aP]) | refine KZ ?_ | refine NB fun b => ?_)
   all_goals exact mL 2 i1 (by exact .inr rfl) g rfl rfl e f
 rw [if_neg ao] at e
 try repeat' (first | refine KO ?_ | (refine CF 88 ?_; refine rO 2 rfl rfl rfl EN rfl f (QM N t hq hN _ ⟨ws, wf, wd⟩ s _ xb cb hb db p hB) ?_; rintro v1 μ1 i1 i f -; dsimp only [aL, aP]) | refine KZ ?_ | refine NB fun b => ?_)
 all_goals exact mL 2 i1 (by exact .inr rfl) g rfl rfl e f
end
section
open Go.RowKit Go.Vcg Go.MapKept
theorem SU {t : T} {d : Nat} {s : Bool} (h : Rt t d s) : Ks t := by
 refine ⟨aK1 h, fun h3 => ?_, fun h2 => ?_⟩
 ·cases h with
  | mk hd hn hk hr =>
    unfold bC stB at hk
    simp [h3] at hk
    exact zD hk
 ·cases h with
  | mk hd hn hk hr =>
    obtain ⟨-, hf, -⟩ := hn
    unfold lZ at hf
    split at hf
    ·cases hf
    ·rw [if_neg (by omega)] at hf
     simp only [aS, decide_eq_true_eq] at hf
     have hm : kC t.op = 2 := by rw [h2]; simp [kC]
     rw [hm] at hf
     omega
theorem yG (t : T) : ∀ (d : Nat) (s : Bool), Rt t d s → Sh t → eK qS t := T.XA (p := fun t => ∀ (d : Nat) (s : Bool), Rt t d s → Sh t → eK qS t) (fun t ih d s h hs => by
 refine .mk ⟨SU h, by have := KS hs; omega⟩ fun k hk => ?_
 obtain ⟨i, hi⟩ := List.mem_iff_getElem?.1 hk
 cases h with
 | mk _ _ _ hr => exact ih k hk _ _ (hr i k hi) (uB hs hk)) t
theorem YX (fu : Nat) : ∀ (f : Nat) (t : T), eK qS t → t.size ≤ f → t.size ≤ fu → t.size ≤ 2000 → NK (nbS fu f) t
 | 0, t, _, h, _, _ => by
   have := bA t
   omega
 | f + 1, t, c, hf, b, a => VI (nbS fu f) fu t c a b fun k hk h => ⟨YX fu f k hk (by omega) (by omega) (by omega), IW fu f k hk (by omega)⟩
end
section
open Go.RowKit Go.Vcg
def nk (b : Bd) : ByteArray × Int := (b.name, b.kind)
def nZ (l l' : List Sc) : Prop := l.length = l'.length ∧ ∀ (i : Nat) (c c' : Sc), l[i]? = some c → l'[i]? = some c' → c'.up = c.up ∧ c'.fn = c.fn ∧ c'.names.map nk = c.names.map nk
theorem nZ.refl (l : List Sc) : nZ l l := ⟨rfl, fun i c c' h a => by rw [h] at a; cases a; exact ⟨rfl, rfl, rfl⟩⟩
theorem nZ.trans {a b c : List Sc} (h : nZ a b) (f : nZ b c) : nZ a c := ⟨h.1.trans f.1, fun i x z e g => by
 obtain ⟨y, d⟩ : ∃ y, b[i]? = some y := ⟨_, aA (by have := (List.getElem?_eq_some_iff.1 e).1; rw [← h.1]; exact this)⟩
 obtain ⟨h1, h2, h3⟩ := h.2 i x y e d
 obtain ⟨h4, h5, h6⟩ := f.2 i y z d g
 exact ⟨h4.trans h1, h5.trans h2, h6.trans h3⟩⟩
theorem LY {x : ByteArray} : ∀ {l l' : List Bd} {k : Nat}, l'.map nk = l.map nk → fF x l' k = fF x l k
 | [], [], _, _ => rfl
 | [], _ :: _, _, h => by simp at h
 | _ :: _, [], _, h => by simp at h
 | a :: r, b :: r', k, h => by
   simp only [aO, iH] at h
   have h1 : b.name = a.name := congrArg Prod.fst h.1
   unfold fF
   rw [h1, LY h.2]
theorem JI {l l' : List Sc} {x : ByteArray} (h : nZ l l') : ∀ (f : Nat) (at' : Int), findF l' x f at' = findF l x f at'
 | 0, _ => rfl
 | f + 1, at' => by
   by_cases h0 : 0 ≤ at' ∧ at' < l.length
   ·obtain ⟨c, hc⟩ : ∃ c, l[at'.toNat]? = some c := ⟨_, aA (by omega)⟩
    obtain ⟨c', a⟩ : ∃ c', l'[at'.toNat]? = some c' := ⟨_, aA (by rw [← h.1]; omega)⟩
    obtain ⟨h1, h2, h3⟩ := h.2 _ c c' hc a
    rw [qT h0 hc, qT (l := l') (by rw [← h.1]; exact h0) a, LY h3, h1, JI h f c.up]
   ·rw [pK h0, pK (by rw [← h.1]; exact h0)]
theorem MW {l l' : List Sc} (h : nZ l l') (at' : Int) (x : ByteArray) : mC l' at' x = mC l at' x := JI h _ at'
theorem QT {l : List Sc} (a : Nat) (g : Sc → Sc) (hg : ∀ c, (g c).up = c.up ∧ (g c).fn = c.fn ∧ (g c).names.map nk = c.names.map nk) : nZ l (l.modify a g) := by
 refine ⟨by rw [List.length_modify], fun i c c' h b => ?_⟩
 rw [hG, h] at b
 split at b
 ·cases b
  exact hg c
 ·cases b
  exact ⟨rfl, rfl, rfl⟩
theorem zW (l : List Bd) (b : Nat) : (l.modify b fun x => { x with held := true }).map nk = l.map nk := by
 apply dW
 intro i
 rw [aN, aN, hG]
 cases l[i]? with
 | none => simp
 | some y => simp only [dY]; split <;> rfl
theorem DJ (l : List Sc) (a b : Nat) : nZ l (wH l a b) := QT a _ fun c => ⟨rfl, rfl, zW c.names b⟩
theorem yL : ∀ (us : List Ux) (l : List Sc), nZ l (xL us l)
 | [], l => nZ.refl l
 | u :: r, l => by
   unfold xL
   rw [bY]
   split
   ·exact (DJ l u.ts u.tb).trans (yL r _)
   ·exact yL r l
theorem CB : ∀ (l : List Bd) (h c : Nat), (hI h c l).map nk = l.map nk
 | [], _, _ => rfl
 | b :: r, h, c => by
   unfold hI
   split
   ·simp only [aO, CB r]
    rfl
   ·simp only [aO, CB r]
    rfl
theorem yS : ∀ (l pre : List Sc) (j : Nat), (kQ pre l)[j]? = (l[j]?).map (nL (pre ++ l.take j))
 | [], _, _ => by simp [kQ]
 | s :: r, pre, 0 => by simp [kQ]
 | s :: r, pre, j + 1 => by
   rw [kQ, bG, bG, yS r (pre ++ [s]) j]
   simp
theorem aD6 (l : List Sc) : nZ l (kQ [] l) := by
 refine ⟨(xB l []).symm, fun i c c' h a => ?_⟩
 rw [yS, h] at a
 cases a
 exact ⟨rfl, rfl, CB _ _ _⟩
def sF (s : FS) : List Sc := kQ [] (xL s.uses s.scopes)
theorem BV (s : FS) : nZ s.scopes (sF s) := (yL _ _).trans (aD6 _)
def YL (l : List Sc) (a b : Nat) : Bd := (((l[a]?).bind fun c => c.names[b]?)).getD ⟨⟨#[]⟩, 0, false, 0⟩
def oG (l : List Sc) : Nat → Int → Int → Nat
 | 0, _, _ => 0
 | f + 1, a, b => if a = b then 0 else match l[a.toNat]? with
   | none => 0
   | some c => (if 0 < gN c.names then 1 else 0) + oG l f c.up b
def zL (l : List Sc) (x : Ux) : Us :=
 if x.found = true then
  let b := YL l x.ts x.tb
  if b.held = true then { x.u with wh := 1, slot := b.slot, hops := (oG l (x.u.scope.toNat + 1) x.u.scope x.ts : Nat) } else { x.u with wh := 0, slot := b.slot }
 else x.u
inductive wL (l : List Sc) (b : Nat) : Int → Prop
 | here : wL l b b
 | up {a : Int} {c : Sc} (h0 : 0 ≤ a) (hc : l[a.toNat]? = some c) (hlt : c.up < a) (hne : a ≠ b) (h : wL l b c.up) : wL l b a
theorem wL.WK {l : List Sc} {b : Nat} {a : Int} (h : wL l b a) : 0 ≤ a ∧ (b : Int) ≤ a := by
 induction h with
 | here => exact ⟨by omega, nK _⟩
 | up h0 _ hlt _ _ ih => exact ⟨h0, by omega⟩
theorem UN {l : List Sc} {x : ByteArray} : ∀ {f : Nat} {at' : Int} {a b : Nat}, findF l x f at' = some (a, b) → wL l a at'
 | 0, _, _, _, h => by cases h
 | f + 1, at', a, b, h => by
   by_cases h0 : 0 ≤ at' ∧ at' < l.length
   ·obtain ⟨c, hc⟩ : ∃ c, l[at'.toNat]? = some c := ⟨_, aA (by omega)⟩
    rw [qT h0 hc] at h
    cases d : fF x c.names 0 with
    | some k =>
      rw [d] at h
      cases h
      have e : at' = ((at'.toNat : Nat) : Int) := by omega
      rw [e]
      exact wL.here
    | none =>
      rw [d] at h
      dsimp only at h
      split at h
      ·cases h
      ·have h2 := UN h
       have h3 := h2.WK
       exact wL.up h0.1 hc (by omega) (by omega) h2
   ·rw [pK h0] at h
    cases h
theorem XB {l : List Sc} {b : Nat} {a : Int} (h : wL l b a) : ∀ (f g : Nat), a < f → a < g → oG l f a b = oG l g a b := by
 induction h with
 | here =>
   intro f g hf hg
   cases f with
   | zero => omega
   | succ f =>
     cases g with
     | zero => omega
     | succ g => unfold oG; rw [if_pos rfl, if_pos rfl]
 | @up a c h0 hc hlt hne h ih =>
   intro f g hf hg
   cases f with
   | zero => omega
   | succ f =>
     cases g with
     | zero => omega
     | succ g =>
       unfold oG
       rw [if_neg hne, if_neg hne, hc]
       dsimp only
       rw [ih f g (by omega) (by omega)]
open Go.MapKept
theorem HR {P : Program} {μ : Mem} {l : bP} {L : List Bk} {w : World} {fn : Func} {n : Nat} {rs : List ResultVar} {vs : List Value} {μ0 : Mem} {M : List Nat} {ι : Type} {Ls : ι → List Bk} {Post : Mem → Value → ι → Prop} {L' Lr : List Bk} (k : Nat) (i : ι) (d : ∀ D, M.count D ≤ 1) (hr : fn.results = rs.toArray) (h : RVs P μ l L rs vs) (hl : Nat.beq vs.length 1 = false) (hL : splitB k L = some (L', Lr)) (b : Ls i = L')
 (c : ∀ μ', MLe μ μ' → Post μ' (.tuple vs.toArray) i) :
 GQ ⟨w, μ0, M, n⟩ (bodyPost P fn (fun e w' => ∃ v μ' i, e = .returned v ∧ lT M w w' μ0 (Ls i) μ' ∧ Post μ' v i)) .ret μ l L := fun a w' hs => by
 have he := pD hL
 subst he
 obtain ⟨μ', hb, hle⟩ := hs.IZ
 subst b
 exact ⟨hs.defers.none d, .tuple vs.toArray, RD hr h hl hs.rd, .tuple vs.toArray, μ', i, rfl, hb, c μ' hle⟩
def uI (f : Nat) (t : T) : FS := { iA f t with scopes := sF (iA f t) }
def fLs (sE : FS) : Option (Nat × Nat × Nat × Nat × FW) → List Bk
 | none => []
 | some i => FB i.1 i.2.1 i.2.2.1 i.2.2.2.1 sE i.2.2.2.2
def aAg (sR sE : FS) (v : Value) : Option (Nat × Nat × Nat × Nat × FW) → Prop
 | none => 4096 < fG sR.scopes ∧ v = .tuple #[.pointer none, .int .i64 9]
 | some i => ¬ 4096 < fG sR.scopes ∧ v = .tuple #[.pointer (some ⟨i.1, 0, none⟩), .int .i64 0] ∧ FR' i.2.2.2.2 sE
theorem IP {α : Type} {f : α → α} {l : List α} {i : Nat} {x : α} (h : l[i]? = some x) : l.modify i f = l.set i (f x) := by
 apply dW
 intro k
 rw [hG, iZ]
 by_cases hk : i = k
 ·subst hk
  have hlt := (List.getElem?_eq_some_iff.1 h).1
  rw [if_pos rfl, if_pos hlt, h]
  simp
 ·rw [if_neg hk]
  cases l[k]? <;> simp [hk]
theorem aKn {cs : List (Sc × Value)} {a : Nat} {c c2 : Sc} {v : Value} (h : cs[a]? = some (c, v)) (he : eE (c2, v) = eE (c, v)) : (cs.set a (c2, v)).flatMap eE = cs.flatMap eE := by
 have := nT (enc := eE) (s := 5) (fun _ => rfl) (vs := []) (k := 0) (n := 0) (y := (c2, v)) (by omega) cs a (c, v) h (by rw [he]; simp)
 rw [← this, fI, cB, dD]
theorem TY (cs : List (Sc × Value)) (a : Nat) (c2 : Sc) (v : Value) : jE (cs.set a (c2, v)) = (jE cs).set a (v, c2.names) := by unfold jE; rw [iU]
theorem aCn (us : List Ux) (l : List Sc) {j : Nat} {x : Ux} (h : us[j]? = some x) : xL (us.take (j + 1)) l = if x.found = true ∧ x.fn ≠ CO (xL (us.take j) l) x.ts then wH (xL (us.take j) l) x.ts x.tb else xL (us.take j) l := by
 unfold xL
 exact kN (fun l u => if u.found = true ∧ u.fn ≠ CO l u.ts then wH l u.ts u.tb else l) h
theorem TK {cs : List (Sc × Value)} {a k : Nat} {c : Sc} {v : Value} {d : Bd} (h : cs[a]? = some (c, v)) (hd : c.names[k]? = some d) : wH (scs cs) a k = scs (cs.set a ({ c with names := c.names.set k { d with held := true } }, v)) := by
 unfold wH
 rw [IP (jB h)]
 dsimp only
 rw [IP hd]
 unfold scs
 rw [iU]
def II (cs : List (Sc × Value)) : List (Sc × Value) := cs.zipIdx.map fun p => (nL ((scs cs).take p.2) p.1.1, p.1.2)
theorem SA (cs : List (Sc × Value)) (j : Nat) : (II cs)[j]? = (cs[j]?).map fun c => (nL ((scs cs).take j) c.1, c.2) := by
 unfold II
 rw [aN, List.getElem?_zipIdx]
 cases cs[j]? <;> simp
theorem RZ (cs : List (Sc × Value)) : (II cs).length = cs.length := by unfold II; simp
theorem aEr (cs : List (Sc × Value)) : scs (II cs) = kQ [] (scs cs) := by
 apply dW
 intro j
 rw [yS, aP]
 show ((II cs).map (·.1))[j]? = ((cs.map (·.1))[j]?).map _
 rw [aN, SA, aN]
 cases cs[j]? <;> rfl
theorem aBm (cs : List (Sc × Value)) : (II cs).flatMap eE = cs.flatMap eE := by
 unfold II
 rw [List.flatMap_map]
 have e : (fun p : (Sc × Value) × Nat => eE (nL ((scs cs).take p.2) p.1.1, p.1.2)) = fun p => eE p.1 := rfl
 rw [e]
 conv => rhs; rw [← List.zipIdx_map_fst 0 cs]
 rw [List.flatMap_map]
theorem aJq {cs : List (Sc × Value)} {i : List Fm} (h : UT (scs cs) (jE cs) (scs cs).length i) : i = jE (II cs) := by
 apply dW
 intro j
 cases a : cs[j]? with
 | none =>
   have h1 := List.getElem?_eq_none_iff.1 a
   rw [dL (by rw [h.1, xU]; exact h1), dL (by rw [xU, RZ]; exact h1)]
 | some c =>
   have hlt := (List.getElem?_eq_some_iff.1 a).1
   rw [h.2 j _ c.1 (sW a) (jB a), if_pos (by rw [lG]; exact hlt), sW (c := (nL ((scs cs).take j) c.1, c.2)) (by rw [SA, a]; rfl)]
theorem aH5 (f : Nat) (t : T) : 1 ≤ (iA f t).scopes.length := by
 have h0 : SI ⟨[], [], 0, [], [], []⟩ := ⟨fun i c h => by simp at h, fun x a => by simp at a⟩
 obtain ⟨g, hw⟩ := CJ (kind := 0) (at' := t.at') (w := ⟨-1, 0, false⟩) (l := bN t.kids false []) h0 ⟨nK _, by simp⟩
 have h1 := (AU (aFp f f) t.kids (w := ⟨0, 0, false⟩) (s := nB t) hw g.si).pre.length_le
 have h2 : (nB t).scopes.length = 1 := rfl
 rw [h2] at h1
 exact h1
def s00 : FS := ⟨[], [], 0, [], [], []⟩
def q00 : FW := ⟨.slice none 0 0, .slice none 0 0, [], [], [], [], 0, 0, 0⟩
theorem aPk (xb cb hb db : Nat) : FB xb cb hb db s00 q00 = [.inl ⟨xb, 59, 6, [(0, .slice none 0 0), (1, .slice none 0 0), (2, .int .i64 0), (3, .map (some cb)), (4, .map (some hb)), (5, .map (some db))]⟩, .inr ⟨.slice none 0 0, 43, 5, 0, []⟩, .inr ⟨.slice none 0 0, 63, 12, 0, []⟩, .mp ⟨cb, [], 0⟩, .mp ⟨hb, [], 0⟩, .mp ⟨db, [], 0⟩] := rfl
theorem DH (t : T) : nB t = lO 0 t.at' ⟨-1, 0, false⟩ (bN t.kids false []) s00 := rfl
attribute [local irreducible] oS kM zN mC findF qJ nD pF jG nbS lO rtB
attribute [local irreducible] jN dU eP bN dV eG anI jE fZ G GC GQ GA eN Calls IntKind.wrap Int.decLt Int.decLe
theorem aCu (f : Nat) (t : T) (u : Value) (w : World) (μ : Mem) (hμ : MOk μ w) (hO : Go.Vcg.Own μ [] w) (hk : KR μ t.kids u) (cg : t.size ≤ 2000) (hf : t.size ≤ f) (a7 : Sh t) (hT : qX μ) (b8 : t.op = 1) (a8 : rtB t 1 false = true) :
 Calls Tryz.prog 21 #[.agg (aY t u).toArray] w fun e w' => ∃ (v : Value) (μ' : Mem) (i : Option (Nat × Nat × Nat × Nat × FW)), e = .returned v ∧ lT (kI []) w w' μ (fLs (uI f t) i) μ' ∧ aAg (iA f t) (uI f t) v i := by
 have aq := dJ hO.diff
 generalize ag : uI f t = sE
 unfold uI at ag
 have ou := hk.one
 have ch := bA t
 have hq := yG t 1 false (iJ a8) a7
 have ba := fun w μc hw (hle : MLe μ μc) => wQ t _ w μc hw (hk.mono hle) (by omega) a7 (hT.mono hle)
 rw [a8] at ba
 have bf := hk
 obtain ⟨A, c, rfl, hcap, cf⟩ := hk.form
 have bj : ∀ k ∈ t.kids, NK (nbS f f) k ∧ NGs (nbS f f) k := fun k hk => by
  have h1 : k.size ≤ szs t.kids := T.eF (List.mem_map.2 ⟨k, hk, rfl⟩)
  exact ⟨YX f f k (hq.kid hk) (by omega) (by omega) (by omega), IW f f k (hq.kid hk) (by omega)⟩
 have bp := iQ t.kids false []
 rw [bJ, bB] at bp
 have aj := fun (μc : Mem) (hle : MLe μ μc) => vF t.kids false _ (.slice none 0 0) [] μc (bf.mono hle) (fun k hk => (hq.kid hk).here.1) (by omega) (by rw [bJ]; omega)
 have au := fun (lv : Value) (μ : Mem) (xb cb hb db : Nat) (h : s00.scopes.length ≤ 8000) => yP 0 t.at' ⟨-1, 0, false⟩ (bN t.kids false []) lv s00 μ xb cb hb db h
 have bg := tT (kind := 0) (at' := t.at') (w := ⟨-1, 0, false⟩) (l := bN t.kids false []) s00 (by omega)
 have bm : BS (nB t) (szs t.kids) := by
  rw [DH]
  refine ⟨?_, bg.nm (fun c hc => by cases hc)⟩
  have h1 := bg.wt
  have h2 : wtS s00 = 0 := rfl
  omega
 have al : iA f t = uJ (nbS f f) t.kids ⟨0, 0, false⟩ (nB t) := rfl
 refine cC (args := [.agg (aY t (.slice A t.kids.length c)).toArray]) Tryz.func21 rfl Tryz.ntmps21 (by simp) hμ hO ?_
 try repeat' (first | ((with_reducible show GC _ _ (Code.seq (Code.region 4 _ _) _) _ _ _ _); (apply dF)) | refine KO ?_ | refine K2 38 ba ?_ | refine KZ ?_ | refine NB fun b => ?_ | ((with_reducible apply PF); exact rfl; exact rfl; intro b))
 rename_i bn cb hb db
 obtain ⟨xb, ay⟩ : ∃ y, y = b := ⟨_, rfl⟩
 rw [← ay]
 clear ay
 refine gcs (nH 63 12 (nH 43 5 ?_))
 refine xQ (L' := .inl ⟨bn, 24, 6, idx 0 (aY t (.slice A t.kids.length c))⟩ :: FB xb cb hb db s00 q00) (by rw [aPk]; exact PS) ?_
 have z : FR' q00 s00 := aPt
 refine iB (ι := Nat × FW × Mem) (fun j => FR' j.2.1 (nB t) ∧ MLe μ j.2.2) (fun j => j.2.2) (fun j => [(5, .pointer (some ⟨j.1, 0, none⟩)), (4, .pointer (some ⟨xb, 0, none⟩)), (1, .pointer (some ⟨bn, 0, none⟩))]) (fun j => .inl ⟨j.1, 85, 3, idx 0 (zM ⟨0, 0, false⟩)⟩ :: .inl ⟨bn, 24, 6, idx 0 (aY t (.slice A t.kids.length c))⟩ :: FB xb cb hb db (nB t) j.2.1) ?_ ?_
 ·refine aT 10 _ (by kernel_rfl) rfl (aC aQ) ?_
  all_goals (refine DD 0 ?_; refine DD 1 ?_; refine DD 2 ?_; refine DD 3 ?_; refine DD 4 ?_; refine DD 5 ?_)
  refine iF 6 8 (by kernel_rfl) ?dr22_6 ?dr22_8
  case' dr22_6 =>
   (refine D5 ?_; (refine CF 40 ?_; refine rC 40 4 ?_; (with_reducible apply pQ (bl := ([] : List Bd)) 0); (iterate 3 exact rfl); exact EN; exact rfl; exact aj _ (MLe.refl _); intro v5 μ5 ao; dsimp only [fD]); refine D9 ?_)
   refine iF 7 8 (by kernel_rfl) ?dr23_7 ?dr23_8
   case' dr23_7 =>
    (refine D5 ?_; (refine CF 39 ?_; refine sC (dR (.refl _) (eW _)) ?_; (with_reducible apply wI (bl := bN t.kids false []) 1); (iterate 3 exact rfl); exact EN; exact rfl; exact z; exact au _ _ xb cb hb db (by simp [s00]); rintro v6 μ6 i6 af z rfl; dsimp only [aL, aP]); refine D9 ?_)
    all_goals (refine D3 8 ?_; refine D5 ?_; refine NB fun b => ?_; refine D9 ?_; refine D3 9 ?_; refine D5 ?_; refine Y0 ?_; refine D9 ?_; refine D8 ?_)
   case' dr23_8 =>
    (refine D5 ?_; refine NB fun b => ?_; refine D9 ?_)
    all_goals (refine D3 7 ?_; refine D5 ?_; (refine CF 39 ?_; refine sC (eV (.refl _) (dR (.refl _) (eW _))) ?_; (with_reducible apply wI (bl := bN t.kids false []) 2); (iterate 3 exact rfl); exact EN; exact rfl; exact z; exact au _ _ xb cb hb db (by simp [s00]); rintro v6 μ6 i6 af z rfl; dsimp only [aL, aP]); refine D9 ?_)
    all_goals (refine D3 9 ?_; refine D5 ?_; refine Y0 ?_; refine D9 ?_; refine D8 ?_)
  case' dr22_8 =>
   (refine D5 ?_; refine NB fun b => ?_; refine D9 ?_)
   all_goals (refine D3 6 ?_; refine D5 ?_; (refine CF 40 ?_; refine rC 40 4 ?_; (with_reducible apply pQ (bl := ([] : List Bd)) 0); (iterate 3 exact rfl); exact EN; exact rfl; exact aj _ (MLe.refl _); intro v5 μ5 ao; dsimp only [fD]); refine D9 ?_)
   all_goals (refine D3 7 ?_; refine D5 ?_; (refine CF 39 ?_; refine sC (dR (.refl _) (dR (.refl _) (eW _))) ?_; (with_reducible apply wI (bl := bN t.kids false []) 2); (iterate 3 exact rfl); exact EN; exact rfl; exact z; exact au _ _ xb cb hb db (by simp [s00]); rintro v6 μ6 i6 af z rfl; dsimp only [aL, aP]); refine D9 ?_)
   all_goals (refine D3 9 ?_; refine D5 ?_; refine Y0 ?_; refine D9 ?_; refine D8 ?_)
  all_goals exact eX (b, i6, _) ⟨z, ao.trans af⟩ rfl PU (by repeat first | exact eW _ | (refine eV ?_ ?_; focus (refine jQ.cells ?_; repeat first | exact fM | refine eJ rfl ?_)))
 rintro ⟨bw, q1, μ1⟩ ⟨z, ap⟩
 dsimp only at z ap ⊢
 have ad := sG (nbS f f) t.kids _ ⟨0, 0, false⟩ (nB t) μ1 xb cb hb db bj (bf.mono ap) bm
 rw [← al] at ad
 try repeat' (first | ((with_reducible show GC _ _ (Code.seq (Code.region 6 _ _) _) _ _ _ _); (apply dF)) | refine KO ?_ | (refine CF 41 ?_; refine rO 2 rfl rfl rfl EN rfl z (ad) ?_; rintro v2 μ2 i2 cd z -; dsimp only [aL, aP]) | refine KZ ?_)
 have a6 : SI (iA f t) := VS f t
 have bq := aH5 f t
 have bh := rE (N := nbS f f) t.kids (fun k hk => (bj k hk).2) ⟨0, 0, false⟩ (nB t)
 rw [← al] at bh
 have ai : BS (iA f t) 0 := BS.gr bm bh
 generalize iA f t = sR at z a6 ai ag bq ⊢
 obtain ⟨sv, uv, cs, ce, he, de, qc, qh, qd⟩ := i2
 refine gcs (xQ (L' := FB xb cb hb db sR ⟨sv, uv, cs, ce, he, de, qc, qh, qd⟩) (bS _ (bS _ (eW _))) ?_)
 refine kV (lI xb cb hb db sR _) ?_
 have hlen := z.len
 obtain ⟨b7, b6, -⟩ := ai.sc
 have q := z.sc
 dsimp only at hlen q ⊢
 have bs : ∀ (i : Nat) (y : Sc × Value), cs[i]? = some y → y.1.names.length ≤ 10000000 := fun i y h => ai.2 y.1 (by rw [← q]; exact eT (aB h))
 refine fW 1 rfl ?_
 rintro As cas rfl ab
 have a1 : ∀ i, fG ((scs cs).take i) ≤ 10000000 * i := fun i => by
  induction i with
  | zero => simp [fG]
  | succ i ih =>
    cases hi : (scs cs)[i]? with
    | none =>
      rw [aG (by have := List.getElem?_eq_none_iff.1 hi; omega)] at ih ⊢
      omega
    | some y =>
      have hy : y.names.length ≤ 10000000 := ai.2 y (by rw [← q]; exact aB hi)
      unfold fG at ih ⊢
      rw [bQ, hi, bI, jP, lX, aO, gZ, dQ, List.sum_nil]
      omega
 try repeat' (refine KZ ?_)
 refine bW (ι := Nat) (fun j => j ≤ cs.length) (fun j => cs.length - j) (fun _ => μ2) (fun j => [(42, .int .i64 (j : Int)), (41, .int .i64 (cs.length : Int)), (40, .slice As cs.length cas), (6, .int .i64 (fG ((scs cs).take j) : Int)), (4, .pointer (some ⟨xb, 0, none⟩))]) (fun _ => FB xb cb hb db sR ⟨.slice As cs.length cas, uv, cs, ce, he, de, qc, qh, qd⟩) 0 (aI _) (fun a w hs => hs.sel PU (eW _)) ?_
 rintro i hi
 by_cases hlt : i < cs.length
 ·obtain ⟨cc, p⟩ : ∃ cc, cs[i]? = some cc := ⟨_, aA hlt⟩
  obtain ⟨c', v⟩ := cc
  have o := xV (sW p)
  have bt := bs i _ p
  have ck := a1 i
  have cj : fG ((scs cs).take (i + 1)) = fG ((scs cs).take i) + c'.names.length := by
   unfold fG
   rw [bQ, jB p, bI, jP, lX, aO, gZ, dQ, List.sum_nil, cB]
  rcases ab.form with ⟨-, h0, -⟩ | ⟨gs, rfl⟩
  ·exfalso; omega
  refine kV (lI xb cb hb db sR _) ?_
  dsimp only at o bt ⊢
  refine pP (kF (F := [_, _, _, _, _, _]) o) ?_
  dsimp only [aL, aP, CS]
  refine fW 0 rfl ?_
  rintro A4 c4 ar an
  subst ar
  refine pP (kF (F := [_, _, _, _, _, _]) o).symm ?_
  dsimp only [aL, aP]
  have hcell : ∀ (j : Nat) (y : Value), (eE (c', Value.slice A4 c'.names.length c4))[j]? = some y → (cs.flatMap eE)[i * 5 + j]? = some y := fun j y hy => Go.Vcg.kR (enc := eE) (s := 5) (fun _ => rfl) p j y hy
  try repeat' (first | refine KO ?_ | (refine KV (b := by first | exact U1 i | ((with_reducible apply rI (vs := eE (c', Value.slice A4 c'.names.length c4)) 1); (iterate 5 exact rfl); exact hcell)) (c := ?_)) | refine KZ ?_ | refine NB fun b => ?_)
  all_goals rw [show ((fG ((scs cs).take i) : Nat) : Int) + (c'.names.length : Int) = ((fG ((scs cs).take (i + 1)) : Nat) : Int) by omega]
  all_goals exact cP (i + 1) (by omega) (by omega) rfl PU (by rw [lI]; exact (by repeat exact bS _ (eW _)))
 ·have b0 : i = cs.length := by omega
  subst b0
  rw [aG (by rw [lG]; omega), q]
  by_cases h4 : 4096 < fG sR.scopes
  ·try repeat' (refine KZ ?_)
   all_goals exact HR (Ls := fLs sE) (Post := fun _ v i => aAg sR sE v i) 0 none aq rfl (by repeat first | exact jX | refine iI (by exact cN rfl) ?_) rfl rfl rfl (fun _ _ => ⟨h4, rfl⟩)
  ·refine kV (lI xb cb hb db sR _) ?_
   dsimp only
   refine fW 2 rfl ?_
   rintro Au cau rfl bb
   try repeat' (refine KZ ?_)
   refine bW (ι := Nat × List (Sc × Value)) (fun j => j.1 ≤ sR.uses.length ∧ scs j.2 = xL (sR.uses.take j.1) sR.scopes) (fun j => sR.uses.length - j.1) (fun _ => μ2) (fun j => [(59, .int .i64 (j.1 : Int)), (58, .int .i64 (sR.uses.length : Int)), (57, .slice Au sR.uses.length cau), (4, .pointer (some ⟨xb, 0, none⟩))]) (fun j => FB xb cb hb db sR ⟨.slice As j.2.length cas, .slice Au sR.uses.length cau, j.2, ce, he, de, qc, qh, qd⟩) (0, cs) ⟨aI _, q⟩ (fun a w hs => hs.sel PU (by rw [lI]; exact (by repeat exact eW _))) ?_
   rintro ⟨j, cs'⟩ ⟨hj, r⟩
   dsimp only at hj r ⊢
   have aa := yL (sR.uses.take j) sR.scopes
   rw [← r] at aa
   have ae : cs'.length = sR.scopes.length := by rw [← lG]; exact aa.1.symm
   by_cases bx : j < sR.uses.length
   ·obtain ⟨x, hx⟩ : ∃ x, sR.uses[j]? = some x := ⟨_, aA bx⟩
    have br := a6.uses x (aB hx)
    have g := aCn sR.uses sR.scopes hx
    rw [← r] at g
    have ax : ∀ (k : Nat) (y : Value), (tV x)[k]? = some y → (sR.uses.flatMap tV)[j * 12 + k]? = some y := fun k y hy => Go.Vcg.kR (enc := tV) (s := 12) (fun _ => rfl) hx k y hy
    rcases bb.form with ⟨-, h0, -⟩ | ⟨gu, rfl⟩
    ·exfalso; omega
    obtain ⟨u9, ts, tb, found, fn⟩ := x
    cases found with
    | false =>
      rw [if_neg (by simp)] at g
      refine kV (lI xb cb hb db sR _) ?_
      dsimp only
      try repeat' (first | refine KO ?_ | (refine KV (b := by first | exact U1 j | ((with_reducible apply rI (vs := tV ⟨u9, ts, tb, false, fn⟩) 2); (iterate 5 exact rfl); exact ax)) (c := ?_)) | refine KZ ?_ | refine NB fun b => ?_)
      refine aT 17 _ (by kernel_rfl) rfl (aC (aC (aC (aC (aC (aC (aC aQ))))))) ?_
      all_goals (refine DD 0 ?_; refine DD 1 ?_; refine DD 2 ?_; (try refine D7 3 ?_); refine DD 3 ?_; refine DD 4 ?_; refine DD 5 ?_; refine DD 6 ?_; refine DD 7 ?_; refine DD 8 ?_; refine DD 9 ?_; refine DD 10 ?_; refine DD 11 ?_; refine DD 12 ?_; refine DD 13 ?_; refine DD 14 ?_; refine DD 15 ?_; refine DD 16 ?_; refine D8 ?_)
      all_goals try repeat' (refine KZ ?_)
      all_goals exact cP (j + 1, cs') ⟨by dsimp only; omega, g.symm⟩ (by dsimp only; omega) rfl PU (by rw [lI]; exact (by repeat exact bS _ (eW _)))
    | true =>
      obtain ⟨av, -⟩ := br.yes rfl
      dsimp only at av
      unfold mC at av
      obtain ⟨c0, d0, ah, b3, -, -⟩ := qU av
      have az : ts < cs'.length := by rw [ae]; exact (List.getElem?_eq_some_iff.1 ah).1
      obtain ⟨cc, p⟩ : ∃ cc, cs'[ts]? = some cc := ⟨_, aA az⟩
      obtain ⟨c', v⟩ := cc
      have ak := jB p
      obtain ⟨-, cl, bd⟩ := aa.2 ts c0 c' ah ak
      have bo : tb < c'.names.length := by
       have h8 := congrArg List.length bd
       rw [aH, aH] at h8
       have := (List.getElem?_eq_some_iff.1 b3).1
       omega
      obtain ⟨d, hd⟩ : ∃ d, c'.names[tb]? = some d := ⟨_, aA bo⟩
      have b2 : CO (scs cs') ts = c'.fn := by unfold CO; rw [ak]; rfl
      have aj := TK p hd
      rw [b2, aj] at g
      have o := xV (sW p)
      rcases ab.form with ⟨-, h0, -⟩ | ⟨gs, rfl⟩
      ·exfalso; omega
      refine kV (lI xb cb hb db sR _) ?_
      dsimp only at o g ⊢
      refine pP (kF (F := [_, _, _, _, _, _]) o) ?_
      obtain ⟨Rf, aw⟩ : ∃ R, (fZ (jE cs')).eraseIdx ts = R := ⟨_, rfl⟩
      rw [aw]
      dsimp only [aL, aP, CS]
      refine fW 0 rfl ?_
      rintro A4 c4 ar an
      subst ar
      rcases an.form with ⟨-, h0, -⟩ | ⟨g4, rfl⟩
      ·exfalso; omega
      have b1 := JE c'.names
      have b5 : (cs'.flatMap eE)[ts * 5 + 1]? = some (.int .i64 c'.fn) := Go.Vcg.kR (enc := eE) (s := 5) (fun _ => rfl) p 1 _ rfl
      have b4 : (cs'.flatMap eE)[ts * 5 + 4]? = some (.slice (some ⟨g4, 0, none⟩) c'.names.length c4) := Go.Vcg.kR (enc := eE) (s := 5) (fun _ => rfl) p 4 _ rfl
      try repeat' (first | refine KO ?_ | (refine KV (b := by first | exact U1 j | ((with_reducible apply rI (vs := tV ⟨u9, ts, tb, true, fn⟩) 3); (iterate 5 exact rfl); exact ax)) (c := ?_)) | refine KZ ?_ | refine NB fun b => ?_)
      refine aT 17 _ (by kernel_rfl) rfl (aC (aC (aC (aC (aC (aC (aC (aC aQ)))))))) ?_
      all_goals (refine D1 0 ?_; refine DD 1 ?_; refine DD 2 ?_; (try refine D7 3 ?_); refine D1 3 ?_; refine DD 4 ?_; refine DD 5 ?_; refine DD 6 ?_; refine D1 7 ?_; refine DD 8 ?_; refine D1 9 ?_; refine D1 10 ?_; refine DD 11 ?_; refine D2 12 rfl (by exact U1 ts) ?_; refine DD 13 ?_; refine D2 14 rfl (by ((with_reducible apply eQ 3); (iterate 3 exact rfl); exact b5)) ?_; refine D1 15 ?_; refine DD 16 ?_; refine D8 ?_)
      by_cases bi : fn = c'.fn
      ·rw [if_neg (fun h => h.2 bi)] at g
       try repeat' (first | refine KZ ?_ | (refine KB ?_ ?_ <;> intro hp))
       all_goals try (exfalso; contradiction)
       all_goals refine gL (bS _ (eW _)) ?_
       all_goals rw [← aw]
       all_goals refine lR (kF (F := [_, _, _, _, _, _]) o).symm ?_
       all_goals dsimp only [aL, aP]
       all_goals exact cP (j + 1, cs') ⟨by dsimp only; omega, g.symm⟩ (by dsimp only; omega) rfl PU (by rw [lI]; exact (by repeat exact eW _))
      ·rw [if_pos ⟨rfl, bi⟩] at g
       try repeat' (refine KZ ?_)
       refine aT 16 _ (by kernel_rfl) rfl (aC (dG (aC (aC (aC (aC (aC (aC aQ)))))))) ?_
       all_goals (refine D1 0 ?_; refine D1 1 ?_; refine D1 2 ?_; refine DD 3 ?_; refine D1 4 ?_; refine D1 5 ?_; refine DD 6 ?_; refine D2 7 rfl (by exact U1 ts) ?_; refine DD 8 ?_; refine D2 9 rfl (by ((with_reducible apply eQ 2); (iterate 3 exact rfl); exact b4)) ?_; refine D1 10 ?_; refine D1 11 ?_; refine DD 12 ?_; refine D2 13 rfl (by exact U1 tb) ?_; refine DD 14 ?_)
       all_goals (refine D3 15 ?_; refine D5 ?_; (((with_reducible apply kW 1); (iterate 7 exact rfl); (rw [b1]; omega); dsimp only [fD])); refine D9 ?_)
       all_goals refine D8 ?_
       all_goals try repeat' (refine KZ ?_)
       all_goals refine gL (bS _ (eW _)) ?_
       all_goals refine gC (n' := (c'.names.set tb { d with held := true }).length) (xs' := (c'.names.set tb { d with held := true }).flatMap jF) 0 rfl (by simp) (nT (enc := jF) (s := 4) (fun _ => rfl) (vs := [.bool true]) (k := 2) (n := 1) (by omega) c'.names tb _ hd rfl) ?_
       all_goals dsimp only [fD]
       all_goals refine lR (L' := [_, _, _, _, _, _] ++ fZ (jE (cs'.set ts ({ c' with names := c'.names.set tb { d with held := true } }, .slice (some ⟨g4, 0, none⟩) c'.names.length c4)))) (by rw [TY, JM, ← aw]; exact wY (F := [_, _, _, _, _, _]) _ (by rw [JO, xU]; exact az)) ?_
       all_goals dsimp only [aL, aP]
       all_goals exact cP (j + 1, cs'.set ts ({ c' with names := c'.names.set tb { d with held := true } }, .slice (some ⟨g4, 0, none⟩) c'.names.length c4)) ⟨by dsimp only; omega, g.symm⟩ (by dsimp only; omega) rfl PU (by rw [lI]; dsimp only; rw [fH, aKn (c2 := { c' with names := c'.names.set tb { d with held := true } }) p rfl]; exact (by repeat exact eW _))
   ·have bz : j = sR.uses.length := by omega
    subst bz
    rw [aG (aD _)] at r
    rcases ab.form with ⟨-, h0, -⟩ | ⟨gs, rfl⟩
    ·exfalso; omega
    have bc := fun (w : World) (μ : Mem) (hμ : MOk μ w) (hO : Go.Vcg.Own μ (.inr ⟨.slice (some ⟨gs, 0, none⟩) cs'.length cas, 43, 5, cs'.length, cs'.flatMap eE⟩ :: fZ (jE cs')) w) => EV (scs cs') cs' (jE cs') gs cas w μ hμ rfl (xU cs') (by rw [lG]; omega) (fun y hy => by
     obtain ⟨k, hk⟩ := List.mem_iff_getElem?.1 hy
     have bu := (List.getElem?_eq_some_iff.1 hk).1
     obtain ⟨c0, ah⟩ : ∃ c0, sR.scopes[k]? = some c0 := ⟨_, aA (by rw [← ae, ← lG]; exact bu)⟩
     have h8 := congrArg List.length (aa.2 k c0 y ah hk).2.2
     rw [aH, aH] at h8
     rw [h8]
     exact ai.2 c0 (aB ah)) (fun k c f hc hf => by
     rw [sW hc] at hf
     cases hf
     exact ⟨rfl, rfl⟩) hO
    refine kV (lI xb cb hb db sR _) ?_
    dsimp only
    refine xQ (eV (.refl _) (dR (.refl _) (dR (.refl _) (dR (.refl _) (dR (.refl _) (eW _)))))) ?_
    try repeat' (first | refine KO ?_ | (refine CF 36 ?_; (with_reducible apply pJ (Ls := fun i : List Fm => .inr ⟨.slice (some ⟨gs, 0, none⟩) cs'.length cas, 43, 5, cs'.length, cs'.flatMap eE⟩ :: fZ i) (Post := fun _ v i => v = .slice (some ⟨gs, 0, none⟩) cs'.length cas ∧ UT (scs cs') (jE cs') (scs cs').length i) 5); (iterate 3 exact rfl); exact EN; exact rfl; exact fun w hμ hO => bc w _ hμ hO; rintro v3 μ3 i3 b9 ⟨rfl, bk⟩; dsimp only [aL, aP]) | refine KZ ?_)
    subst ag
    all_goals rw [aJq bk]
    all_goals refine gL (L' := FB xb cb hb db { sR with scopes := sF sR } ⟨.slice (some ⟨gs, 0, none⟩) cs'.length cas, .slice Au sR.uses.length cau, II cs', ce, he, de, qc, qh, qd⟩) (by rw [lI]; dsimp only; rw [aBm, RZ]; exact (by repeat first | exact eW _ | (refine eV ?_ ?_; focus (refine jQ.cells ?_; repeat first | exact fM | refine eJ rfl ?_)) | (refine aKo ?_ ?_; focus (exact jQ.refl _)))) ?_
    all_goals exact HR (Ls := fLs { sR with scopes := sF sR }) (Post := fun _ v i => aAg sR { sR with scopes := sF sR } v i) _ (some (xb, cb, hb, db, _)) aq rfl (by repeat first | exact jX | refine iI (by exact cN rfl) ?_) rfl (splitB_all _) rfl (fun _ _ => ⟨h4, rfl, ⟨by show scs (II cs') = sF sR; rw [aEr, r]; rfl, z.ca, z.hd, z.dn⟩⟩)
end
section
open Go.RowKit Go.Vcg Go.MapKept
def FB1 (xb cb hb db : Nat) (s : FS) (q : FW) (L : List Bk) : List Bk := .inl ⟨xb, 59, 6, [(0, q.sv), (1, q.uv), (2, .int .i64 (s.funcs : Int)), (3, .map (some cb)), (4, .map (some hb)), (5, .map (some db))]⟩ ::
 .inr ⟨q.sv, 43, 5, q.cs.length, q.cs.flatMap eE⟩ :: .inr ⟨q.uv, 63, 12, s.uses.length, s.uses.flatMap tV⟩ :: .mp ⟨cb, q.ce, q.cc⟩ :: .mp ⟨hb, q.he, q.hc⟩ :: .mp ⟨db, q.de, q.dc⟩ :: (fZ (jE q.cs) ++ L)
theorem aFx {X : Ctx} {ops : Array Oper} {Q : Exit → Act → World → Prop} {rest : List Oper} {μ : Mem} {l : bP} {L : List Bk} {o : Oper} {d : Nat} (f : Nat) (t : T) {u : Value} (hd : o.dst = some d) (hn : Nat.blt d X.n = true) (hw : gQ ops l o = some true) (hr : Ent Tryz.prog μ l L o 21 [.agg (aY t u).toArray].toArray)
 (hk : KR μ t.kids u) (b : t.size ≤ 2000) (hf : t.size ≤ f) (c : Sh t) (h : qX μ) (a : t.op = 1) (e : rtB t 1 false = true)
 (h0 : ∀ μ', MLe μ μ' → 4096 < fG (iA f t).scopes → G Tryz.prog X ops Q rest μ' ((d, .tuple #[.pointer none, .int .i64 9]) :: l) L)
 (h1 : ∀ μ' xb cb hb db q, MLe μ μ' → ¬ 4096 < fG (iA f t).scopes → FR' q (uI f t) → G Tryz.prog X ops Q rest μ' ((d, .tuple #[.pointer (some ⟨xb, 0, none⟩), .int .i64 0]) :: l) (FB1 xb cb hb db (uI f t) q L)) : G Tryz.prog X ops Q (o :: rest) μ l L :=
 mG (LB := []) (Lr := L) (Ls := fLs (uI f t)) (Post := fun _ v i => aAg (iA f t) (uI f t) v i) 0 hd hn hw hr rfl (fun w hμ k => aCu f t u w μ hμ k hk b hf c h a e) fun v μ' i hle g => by
  cases i with
  | none =>
    obtain ⟨hn, rfl⟩ := g
    exact h0 μ' hle hn
  | some i =>
    obtain ⟨hn, rfl, j⟩ := g
    exact h1 μ' i.1 i.2.1 i.2.2.1 i.2.2.2.1 i.2.2.2.2 hle hn j
theorem aGc {μ : Mem} {xb cb hb db : Nat} {s : FS} {q : FW} {L : List Bk} (h : ∀ y ∈ FB1 xb cb hb db s q L, Bk.sh y μ) : ∀ y ∈ FB xb cb hb db s q, Bk.sh y μ := fun y a => h y (by
 rw [lI] at a
 unfold FB1
 rcases aW.1 a with rfl | a
 ·exact aF ..
 refine cK ?_
 rcases aW.1 a with rfl | a
 ·exact aF ..
 refine cK ?_
 rcases aW.1 a with rfl | a
 ·exact aF ..
 refine cK ?_
 rcases aW.1 a with rfl | a
 ·exact aF ..
 refine cK ?_
 rcases aW.1 a with rfl | a
 ·exact aF ..
 refine cK ?_
 rcases aW.1 a with rfl | a
 ·exact aF ..
 refine cK ?_
 exact eC _ a)
def tY (f : Nat) (t : T) (μ : Mem) (v : Value) : Prop := (4096 < fG (iA f t).scopes ∧ v = .tuple #[.slice none 0 0, .int .i64 9]) ∨ (¬ 4096 < fG (iA f t).scopes ∧ ∃ A c ps, v = .tuple #[.slice A ps.length c, .int .i64 0] ∧ ScR μ A ps ∧ scs ps = sF (iA f t))
theorem BA (f : Nat) (t : T) (p : t.size ≤ 2000) (hf : t.size ≤ f) (r : eK qS t) : (uI f t).scopes.length ≤ 9000 ∧ NmB (uI f t) := by
 have q := bA t
 have g := iQ t.kids false []
 rw [bJ, bB] at g
 have a := tT (kind := 0) (at' := t.at') (w := ⟨-1, 0, false⟩) (l := bN t.kids false []) s00 (by omega)
 have j : BS (nB t) (szs t.kids) := by
  rw [DH]
  refine ⟨?_, a.nm (fun c hc => by cases hc)⟩
  have h1 := a.wt
  have h2 : wtS s00 = 0 := rfl
  omega
 have i := rE (N := nbS f f) t.kids (fun k hk => IW f f k (r.kid hk) (by
  have : k.size ≤ szs t.kids := T.eF (List.mem_map.2 ⟨k, hk, rfl⟩)
  omega)) ⟨0, 0, false⟩ (nB t)
 have d : BS (iA f t) 0 := BS.gr j i
 have hs := BV (iA f t)
 refine ⟨?_, fun y e => ?_⟩
 ·show (sF (iA f t)).length ≤ 9000
  rw [← hs.1]
  have := d.sc.1
  omega
 ·have e : y ∈ sF (iA f t) := e
  obtain ⟨k, hk⟩ := List.mem_iff_getElem?.1 e
  have h := (List.getElem?_eq_some_iff.1 hk).1
  obtain ⟨c0, b⟩ : ∃ c0, (iA f t).scopes[k]? = some c0 := ⟨_, aA (by rw [hs.1]; exact h)⟩
  have o := congrArg List.length (hs.2 k c0 y b hk).2.2
  rw [aH, aH] at o
  rw [o]
  exact d.2 c0 (aB b)
attribute [local irreducible] uI iA rtB
attribute [local irreducible] jN dU eP bN dV eG anI jE fZ G GC GQ GA eN Calls IntKind.wrap Int.decLt Int.decLe
theorem QN (f : Nat) (t : T) (u : Value) (w : World) (μ : Mem) (hμ : MOk μ w) (hk : KR μ t.kids u) (d : t.size ≤ 2000) (hf : t.size ≤ f) (g : Sh t) (x : qX μ) (i : t.op = 1) (h : rtB t 1 false = true) :
 Calls Tryz.prog 12 #[.agg (aY t u).toArray] w fun e w' => ∃ v μ', e = .returned v ∧ tB w w' μ μ' ∧ tY f t μ' v := by
 have ou := hk.one
 obtain ⟨o, l⟩ := BA f t d hf (yG t 1 false (iJ h) g)
 have k : (uI f t).scopes = sF (iA f t) := by unfold uI; rfl
 refine aE (args := [.agg (aY t u).toArray]) Tryz.func12 rfl Tryz.ntmps12 (by simp) hμ ?_
 try repeat' (first | refine KO ?_ | (refine CF 21 ?_; (with_reducible apply aFx f t); (iterate 3 exact rfl); exact EN; exact hk; exact d; exact hf; exact g; exact x; exact i; exact h; rintro μ1 j a; rotate_left; rintro μ1 xb cb hb db q j a r; unfold FB1) | refine KZ ?_ | refine NB fun b => ?_)
 ·refine DP rfl (cN rfl) (cN rfl) (fun μ' p hL => .inr ⟨a, ?_⟩)
  obtain ⟨A, c, e, y⟩ := VP r (aGc (L := _) hL) o l
  exact ⟨A, c, q.cs, by rw [e], y, by rw [r.sc, k]⟩
 ·exact DP rfl (cN rfl) (cN rfl) (fun μ' _ _ => .inl ⟨a, rfl⟩)
end
end Go.Proofs.YtlllalmkkaolfaaGreatDoor
