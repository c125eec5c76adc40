/- Package scope's reference: names. -/
import Derived.Test.YtlllalmkkaolfaaGreatDoorQat
set_option maxRecDepth 20000
set_option maxHeartbeats 2000000
namespace Go.Proofs.YtlllalmkkaolfaaGreatDoor
section
open Go.RowKit Go.Vcg Go.MapKept
def PRN (f : FuncId) (args : List Value) (r : List Bd × Int) (μ : Mem) : Prop := ∀ (w : World), MOk μ w → Go.Vcg.Own μ [] w →
 Calls Tryz.prog f args.toArray w fun e w' => ∃ (v : Value) (μ' : Mem) (i : Value), e = .returned v ∧ lT (kI []) w w' μ [lH i r.1] μ' ∧ v = .tuple #[i, .int .i64 r.2]
theorem TO {X : Ctx} {ops : Array Oper} {Q : Exit → Act → World → Prop} {rest : List Oper} {μ : Mem} {l : bP} {L : List Bk} {o : Oper} {d : Nat} {f : FuncId} {args : List Value} {r : List Bd × Int} (hd : o.dst = some d) (hn : Nat.blt d X.n = true) (hw : gQ ops l o = some true) (hr : Ent Tryz.prog μ l L o f args.toArray) (hc : PRN f args r μ)
 (h : ∀ (v : Value) (μ' : Mem), MLe μ μ' → G Tryz.prog X ops Q rest μ' ((d, .tuple #[v, .int .i64 r.2]) :: l) (lH v r.1 :: L)) : G Tryz.prog X ops Q (o :: rest) μ l L :=
 mG (LB := []) (Lr := L) (Ls := fun j => [lH j r.1]) (Post := fun _ v j => v = .tuple #[j, .int .i64 r.2]) 0 hd hn hw hr rfl (fun w hμ b => hc w hμ b) fun v μ' j hle a => by subst a; exact h j μ' hle
theorem oB {P : Program} {μ : Mem} {l : bP} {L : List Bk} {w : World} {fn : Func} {n : Nat} {rs : List ResultVar} {lv : Value} {k : Int} {μ0 : Mem} {M : List Nat} {bl : List Bd} {r : List Bd × Int} (a : ∀ D, M.count D ≤ 1) (hr : fn.results = rs.toArray) (h : RVs P μ l L rs [lv, .int .i64 k]) (hL : gT L 0 = some (lH lv bl)) (hb : (bl, k) = r) :
 GQ ⟨w, μ0, M, n⟩ (bodyPost P fn (fun e w' => ∃ (v : Value) (μ' : Mem) (i : Value), e = .returned v ∧ lT M w w' μ0 [lH i r.1] μ' ∧ v = .tuple #[i, .int .i64 r.2])) .ret μ l L := by
 subst hb
 cases L with
 | nil => cases hL
 | cons y L =>
   cases hL
   exact HR (Ls := fun i => [lH i bl]) (Post := fun _ v i => v = .tuple #[i, .int .i64 k]) 1 lv a hr h rfl rfl rfl (fun _ _ => rfl)
theorem aDz (k : Int) : nN ([] : List Bd) k = ([], -1) := rfl
theorem TT : ∀ ks : List T, (ks.foldl (fun l k => bN k.kids true l) ([] : List Bd)).length ≤ szs ks := by
 have h : ∀ (ks : List T) (l : List Bd), (ks.foldl (fun l k => bN k.kids true l) l).length ≤ l.length + szs ks := by
  intro ks
  induction ks with
  | nil => intro l; exact Nat.le_add_right _ _
  | cons k r ih =>
    intro l
    have h1 := ih (bN k.kids true l)
    have h2 := iQ k.kids true l
    have h3 := bA k
    rw [bY, cO]
    omega
 intro ks
 have := h ks []
 rw [bJ, bB] at this
 exact this
theorem aA2 (l : List T) (j : Nat) : szs (l.drop j) ≤ szs l := by
 conv => rhs; rw [← dD j l]
 rw [BR]
 omega
theorem GF {l : List Bd} (k : Int) (h : l.length = 0) : nN l k = (l, -1) := by unfold nN; rw [if_pos h]
theorem GD {l : List Bd} (k : Int) (h : ¬l.length = 0) : nN l k = (l, k) := by unfold nN; rw [if_neg h]
attribute [local irreducible] PY nN dH
attribute [local irreducible] jN dU eP bN dV eG anI jE fZ G GC GQ GA eN Calls IntKind.wrap Int.decLt Int.decLe
theorem EQ (E : List Fl) (fv : Value) (es : List (Fl × Value)) (a : Nat) (μ : Mem) (hF : FLs μ E fv es) (ad : YP E) (ha : a < E.length) :
 PRN 73 [fv, .int .i64 (a : Int)] (nmE E a) μ := by
 intro w hμ hO
 have g := dJ hO.diff
 have al := fun h4 => VY E fv es a μ hF ad ha h4
 obtain ⟨A0, cA, rfl⟩ := hF.form
 obtain ⟨adA, e, u, rfl, ao, ba, an, v, ae⟩ := hF.get ha
 have bo := ad.last a e ao
 have z := ad.vw e (aB ao)
 have bj := ad.sz e (aB ao)
 have bh := ad.up a e ao
 have b5 := ad.len
 rw [ba] at al
 generalize f : nmE E a = r
 unfold nmE at f
 rw [ba] at f
 dsimp only at f
 have ap : 0 ≤ e.up → ∃ ep up', dH E e.up.toNat = ep ∧ e.up = ((e.up.toNat : Nat) : Int) ∧ eM μ (adA.add (e.up.toNat * 11)) [.int .i64 ep.t.op, .int .i64 ep.t.at', .int .i64 ep.t.n, .int .i64 ep.t.m, .string ep.t.s, up', .int .i64 ep.up, .int .i64 (ep.kid : Int), .int .i64 (ep.fn : Int), .int .i64 (ep.num : Int), .int .i64 (ep.last : Int)] := fun h0 => by
  obtain ⟨ad9, ep, up', e9, -, ay, ah, -, -⟩ := hF.get (i := e.up.toNat) (by omega)
  cases e9
  exact ⟨ep, up', ay, by omega, ah⟩
 obtain ⟨t, up, kid, fn, num, last⟩ := e
 dsimp only at bo z bj f ae an v bh ap al
 have ou := ae.one
 have b0 := bA t
 have hlen := gR t.kids
 have aj := fun fs => AF t.kids fs u (.slice none 0 0) [] μ ae (fun k hk => z.kid hk) (by omega) (by simp; omega)
 refine cC (args := [.slice (some adA) E.length cA, .int .i64 (a : Int)]) Tryz.func73 rfl Tryz.ntmps73 (by simp) hμ hO ?_
 by_cases o1 : t.op = 1
 ·rw [if_pos o1] at f
  try repeat' (first | refine KO ?_ | (refine CF 110 ?_; (refine rC 40 4 ?_); (with_reducible apply pQ (bl := ([] : List Bd)) 0); (iterate 3 exact rfl); exact EN; exact rfl; (exact aj false); (intro v4 μ4 ab); (dsimp only [fD])) | (refine KV (b := by first | exact U1 a | exact U4 v) (c := ?_)) | refine KZ ?_ | refine NB fun b => ?_)
  all_goals exact oB g rfl (by repeat first | exact jX | refine iI (by exact cN rfl) ?_) rfl f
 rw [if_neg o1] at f
 by_cases o4 : t.op = 4
 ·rw [if_pos o4] at f
  try repeat' (first | refine KO ?_ | (refine CF 111 ?_; (with_reducible apply aFv); (iterate 3 exact rfl); exact EN; (exact al o4); (intro v4 μ4 ab)) | (refine KV (b := by first | exact U1 a | exact U4 v) (c := ?_)) | refine KZ ?_ | refine NB fun b => ?_)
  all_goals exact oB g rfl (by repeat first | exact jX | refine iI (by exact cN rfl) ?_) rfl f
 rw [if_neg o4] at f
 have o : ∀ k : Int, nN ([] : List Bd) k = ([], -1) := fun k => aDz k
 by_cases o6 : t.op = 6
 ·rw [if_pos o6] at f
  by_cases av : 0 ≤ up
  ·obtain ⟨ep, up9, ay, au, ah⟩ := ap av
   rw [ay] at f
   generalize up.toNat = k at au ah
   by_cases a1 : ep.t.op = 4
   ·rw [if_neg (fun h => h.2 a1), o] at f
    refine nH 40 4 ?_
    subst au
    try repeat' (first | refine KO ?_ | (refine KV (b := by first | exact U1 a | exact U1 k | exact U4 v | exact U4 an | exact U4 ah) (c := ?_)) | refine KZ ?_ | refine NB fun b => ?_)
    all_goals refine gL (L' := [_]) (dR (.refl _) (.nil _)) ?_
    all_goals exact oB (bl := []) g rfl (by repeat first | exact jX | refine iI (by exact cN rfl) ?_) rfl f
   ·rw [if_pos ⟨av, a1⟩] at f
    generalize br : bN t.kids true [] = bl at f aj
    have hd := aj true
    rw [br] at hd
    subst au
    try repeat' (first | refine KO ?_ | (refine CF 110 ?_; (refine rC 40 4 ?_); (with_reducible apply pQ (bl := ([] : List Bd)) 0); (iterate 3 exact rfl); exact EN; exact rfl; (exact hd); (intro v4 μ4 ab); (dsimp only [fD])) | (refine KV (b := by first | exact U1 a | exact U1 k | exact U4 v | exact U4 an | exact U4 ah) (c := ?_)) | refine KZ ?_ | refine NB fun b => ?_ | (refine KB ?_ ?_ <;> intro hp))
    all_goals first
     | exact oB g rfl (by repeat first | exact jX | refine iI (by exact cN rfl) ?_) rfl ((GF 2 (by (dsimp only at *; omega))).symm.trans f)
     | exact oB g rfl (by repeat first | exact jX | refine iI (by exact cN rfl) ?_) rfl ((GD 2 (by (dsimp only at *; omega))).symm.trans f)
  ·rw [if_neg (fun h => av h.1), o] at f
   refine nH 40 4 ?_
   try repeat' (first | refine KO ?_ | (refine KV (b := by first | exact U1 a | exact U4 v | exact U4 an) (c := ?_)) | refine KZ ?_ | refine NB fun b => ?_)
   all_goals refine gL (L' := [_]) (dR (.refl _) (.nil _)) ?_
   all_goals exact oB (bl := []) g rfl (by repeat first | exact jX | refine iI (by exact cN rfl) ?_) rfl f
 rw [if_neg o6] at f
 by_cases o21 : t.op = 21
 ·rw [if_pos o21] at f
  obtain ⟨Ak, ck, rfl, ak, p⟩ := ae.form
  try repeat' (first | refine KO ?_ | (refine KV (b := by first | exact U1 a | exact U4 v) (c := ?_)) | refine KZ ?_ | refine NB fun b => ?_)
  obtain ⟨bn, bb⟩ : ∃ y, y = b := ⟨_, rfl⟩
  rw [← bb]
  clear bb
  have af := z.here.ks.kc.one (by omega)
  refine bW (ι := Nat × Value × Mem) (fun q => q.1 + 1 ≤ t.kids.length ∧ MLe μ q.2.2) (fun q => t.kids.length - q.1) (fun q => q.2.2) (fun q => [(9, .int .i64 ((q.1 + 1 : Nat) : Int)), (6, .pointer (some ⟨bn, 0, none⟩)), (8, .int .i64 2), (7, q.2.1)]) (fun q => [lH q.2.1 (((t.kids.drop 1).take q.1).foldl (fun l k => bN k.kids true l) []), .inl ⟨bn, 24, 6, idx 0 (aY t (.slice Ak t.kids.length ck))⟩]) (0, .slice none 0 0, μ) ⟨af, MLe.refl _⟩ (fun a w hs => (hs.vN 40 4).sel PU PS) ?_
  rintro ⟨j, v7, μ7⟩ ⟨hj, aa⟩
  dsimp only at hj aa ⊢
  have bc : (((t.kids.drop 1).take j).foldl (fun l k => bN k.kids true l) []).length ≤ szs ((t.kids.drop 1).take j) := TT _
  have b2 := aA2 t.kids 1
  have bt := DG (t.kids.drop 1) j
  by_cases bq : j + 1 < t.kids.length
  ·obtain ⟨y, ar⟩ : ∃ d, t.kids[j + 1]? = some d := ⟨_, aA bq⟩
   obtain ⟨ady, xy, rfl, a7, b3, bp⟩ := p (j + 1) y ar
   have bm := a7.mono aa
   have aq := aB ar
   have bz : y.size ≤ szs t.kids := T.eF (List.mem_map.2 ⟨y, aq, rfl⟩)
   have b1 := bA y
   have bf : (t.kids.drop 1)[j]? = some y := by rw [gM, lF]; exact ar
   have ag := kN (fun l (k : T) => bN k.kids true l) (l := []) bf
   generalize ((t.kids.drop 1).take j).foldl (fun l k => bN k.kids true l) [] = acc9 at bc ag ⊢
   have hd := AF y.kids true xy v7 acc9 μ7 (bp.mono aa) (fun k hk => (z.kid aq).kid hk) (by omega) (by omega)
   rw [← ag] at hd
   try repeat' (first | refine KO ?_ | (refine CF 110 ?_; (with_reducible apply pQ 0); (iterate 3 exact rfl); exact EN; exact rfl; (exact hd); (intro v8 μ8 a8); (dsimp only [fD])) | (refine KV (b := by first | exact U1 (j + 1) | exact U4 bm) (c := ?_)) | refine KZ ?_)
   all_goals exact J2 (j + 1, v8, μ8) ⟨by dsimp only; omega, aa.trans a8⟩ (by dsimp only; omega)
  ·rw [aG (by rw [cQ]; omega)]
   generalize (t.kids.drop 1).foldl (fun l k => bN k.kids true l) [] = bl at f ⊢
   refine fW 0 rfl ?_
   rintro A7 c7 rfl bu
   try repeat' (first | refine KZ ?_ | (refine KB ?_ ?_ <;> intro hp))
   all_goals first
    | exact oB g rfl (by repeat first | exact jX | refine iI (by exact cN rfl) ?_) rfl ((GF 2 (by omega)).symm.trans f)
    | exact oB g rfl (by repeat first | exact jX | refine iI (by exact cN rfl) ?_) rfl ((GD 2 (by omega)).symm.trans f)
 rw [if_neg o21] at f
 by_cases ol : t.op = 10 ∨ t.op = 11 ∨ t.op = 12
 ·rw [if_pos ol] at f
  obtain ⟨Ak, ck, rfl, ak, p⟩ := ae.form
  have af := z.here.ks.kc.one (by omega)
  obtain ⟨d0, x⟩ : ∃ d0, t.kids[0]? = some d0 := ⟨_, aA (by omega)⟩
  obtain ⟨ad0, x0, rfl, aw, a6, ai⟩ := p 0 d0 x
  have ax := iV x
  rw [ax] at f
  have bd := T.fN x
  have hd := fun (μc : Mem) (hle : MLe μ μc) => DN d0 x0 (.slice none 0 0) [] false μc (ai.mono hle) (z.kid (aB x)) (by omega) (by simp; omega)
  generalize bN [d0] false [] = bl at f hd
  try repeat' (first | refine KO ?_ | (refine CF 112 ?_; (refine rC 40 4 ?_); (with_reducible apply pQ (bl := ([] : List Bd)) 0); (iterate 3 exact rfl); exact EN; exact rfl; (exact hd _ (MLe.refl _)); (intro v4 μ4 ab); (dsimp only [fD])) | (refine KV (b := by first | exact U1 a | exact U1 0 | exact U4 v | exact U4 aw) (c := ?_)) | refine KZ ?_ | refine NB fun b => ?_ | (refine KB ?_ ?_ <;> intro hp))
  all_goals first
   | (exfalso; first | fail)
   | exact oB g rfl (by repeat first | exact jX | refine iI (by exact cN rfl) ?_) rfl ((GF 3 (by (dsimp only at *; omega))).symm.trans f)
   | exact oB g rfl (by repeat first | exact jX | refine iI (by exact cN rfl) ?_) rfl ((GD 3 (by (dsimp only at *; omega))).symm.trans f)
 rw [if_neg ol] at f
 by_cases o20 : t.op = 20
 ·rw [if_pos o20] at f
  obtain ⟨Ak, ck, rfl, ak, p⟩ := ae.form
  have af := z.here.ks.kc.two (by omega)
  obtain ⟨d0, x⟩ : ∃ d0, t.kids[0]? = some d0 := ⟨_, aA (by omega)⟩
  obtain ⟨ad0, x0, rfl, aw, a6, ai⟩ := p 0 d0 x
  have ax := iV x
  rw [ax] at f
  have bd := T.fN x
  have b4 := kH d0
  have bg : eK Vp d0 := (z.kid (aB x)).imp' fun t h => h.vp
  have bk := fun w μc hw (hle : MLe μ μc) => tN d0 w μc x0 hw (ai.mono hle) (by omega) bg
  have hd := fun (μc : Mem) (sv : Value) (hS : SsV μc sv (bD d0)) => uO [] (.slice none 0 0) sv (bD d0) 5 μc hS (by simp; omega)
  generalize dU 5 (bD d0) [] = bl at f hd
  try repeat' (first | refine KO ?_ | ((with_reducible apply F3 74); exact rfl; exact EN; (exact fun w μc hw bi => bk w μc hw bi.le); intro v2; (with_reducible apply eU 0); exact rfl; (rintro A2 c2 rfl bw); (refine pI rfl ?_); (intro μ2 bx az); (have bs := SsV.mM (xs := bD d0) az rfl rfl)) | (refine CF 113 ?_; (refine rC 40 4 ?_); (with_reducible apply pQ (bl := ([] : List Bd)) 0); (iterate 3 exact rfl); exact EN; exact rfl; (exact hd _ _ bs); (intro v4 μ4 ab); (dsimp only [fD])) | (refine KV (b := by first | exact U1 a | exact U1 0 | exact U4 v | exact U4 aw) (c := ?_)) | refine KZ ?_ | refine NB fun b => ?_ | (refine KB ?_ ?_ <;> intro hp))
  all_goals first
   | (exfalso; first | fail)
   | exact oB g rfl (by repeat first | exact jX | refine iI (by exact cN rfl) ?_) rfl ((GF 4 (by (dsimp only at *; omega))).symm.trans f)
   | exact oB g rfl (by repeat first | exact jX | refine iI (by exact cN rfl) ?_) rfl ((GD 4 (by (dsimp only at *; omega))).symm.trans f)
 rw [if_neg o20, o] at f
 refine nH 40 4 ?_
 try repeat' (first | refine KO ?_ | (refine KV (b := by first | exact U1 a | exact U4 v) (c := ?_)) | refine KZ ?_ | refine NB fun b => ?_)
 all_goals refine gL (L' := [_]) (dR (.refl _) (.nil _)) ?_
 all_goals exact oB (bl := []) g rfl (by repeat first | exact jX | refine iI (by exact cN rfl) ?_) rfl f
end
section
open Go.RowKit Go.Vcg Go.MapKept
def mE (l : List Int) (n : Nat) : List Value := l.map (fun x => Value.int .i64 x) ++ List.replicate (n - l.length) (.int .i64 0)
theorem oP (n : Nat) : mE [] n = List.replicate n (.int .i64 0) := rfl
theorem ID {l : List Int} {n : Nat} (h : l.length ≤ n) : (mE l n).length = n := by
 unfold mE
 rw [aK, aH, List.length_replicate]
 omega
theorem IE {l : List Int} {n k : Nat} {x : Int} (h : l[k]? = some x) : (mE l n)[k * 1]? = some (.int .i64 x) := by
 unfold mE
 have hk := (List.getElem?_eq_some_iff.1 h).1
 rw [lS, aU (by rw [aH]; exact hk), aN, h]
 rfl
theorem IC {l : List Int} {n : Nat} {a x : Int} (h : l.length < n) (b : Bool) : (mE (if b = true then l ++ [a] else l) n).take (l.length * 1) ++ [.int .i64 x] ++ (mE (if b = true then l ++ [a] else l) n).drop (l.length * 1 + 1) = mE (l ++ [x]) n := by
 obtain ⟨m, hm⟩ : ∃ m, n - l.length = m + 1 := ⟨n - l.length - 1, by omega⟩
 have c : n - (l ++ [x]).length = m := by rw [aK, cT]; omega
 have key : ∀ z : Value, (l.map (fun x => Value.int .i64 x) ++ z :: List.replicate m (.int .i64 0)).take (l.length * 1) ++ [.int .i64 x] ++ (l.map (fun x => Value.int .i64 x) ++ z :: List.replicate m (.int .i64 0)).drop (l.length * 1 + 1) = mE (l ++ [x]) n := fun z => by
  rw [lS, iK (by rw [aH]; exact aD _), aG (by rw [aH]; exact aD _), List.drop_append, aH, bT (by rw [aH]; omega), show l.length + 1 - l.length = 1 by omega, List.drop_succ_cons, nY, aP]
  unfold mE
  rw [c, bI]
  rfl
 cases b with
 | false =>
   rw [if_neg (by simp)]
   have e : mE l n = l.map (fun x => Value.int .i64 x) ++ .int .i64 0 :: List.replicate m (.int .i64 0) := by
    unfold mE
    rw [hm]
    rfl
   rw [e]
   exact key _
 | true =>
   rw [if_pos rfl]
   have e : mE (l ++ [a]) n = l.map (fun x => Value.int .i64 x) ++ .int .i64 a :: List.replicate m (.int .i64 0) := by
    unfold mE
    rw [aK, cT, show n - (l.length + 1) = m by omega, bI, bO]
    rfl
   rw [e]
   exact key _
structure TW where
 (sv : Value) (ib ob : Nat) (cs : List (Sc × Value))
def TB (n : Nat) (ins ops : List Int) (q : TW) : List Bk := .inr ⟨q.sv, 43, 5, q.cs.length, q.cs.flatMap eE⟩ :: .inr ⟨.slice (some ⟨q.ib, 0, none⟩) n n, 3, 1, n, mE ins n⟩ :: .inr ⟨.slice (some ⟨q.ob, 0, none⟩) n n, 3, 1, n, mE ops n⟩ :: fZ (jE q.cs)
theorem BX (E : List Fl) : ∀ (m i : Nat) (s : RS), (foldI (bM E) i m s).ins.length = s.ins.length + m ∧ (foldI (bM E) i m s).ops.length = s.ops.length + m ∧ (foldI (bM E) i m s).L.length ≤ s.L.length + 2 * m
 | 0, _, s => ⟨rfl, rfl, by rw [foldI]; omega⟩
 | m + 1, i, s => by
   obtain ⟨h1, h2, h3⟩ := BX E m (i + 1) (bM E s i)
   have hs : (bM E s i).ins.length = s.ins.length + 1 ∧ (bM E s i).ops.length = s.ops.length + 1 ∧ (bM E s i).L.length ≤ s.L.length + 2 := by
    unfold bM
    dsimp only
    split
    ·exact ⟨by simp, by simp, by dsimp only; omega⟩
    ·refine ⟨by simp, by simp, ?_⟩
     dsimp only
     split
     ·simp
     ·simp
   rw [foldI]
   exact ⟨by omega, by omega, by omega⟩
theorem aGj (fs : List Fm) (f g : Fm) : fZ (fs ++ [f, g]) = (fZ fs ++ [CS f]) ++ [CS g] := by unfold fZ; rw [bI, bO]; rfl
theorem GK (a b : List (Sc × Value)) : scs (a ++ b) = scs a ++ scs b := bI ..
attribute [local irreducible] mE bM foldI dH nmE inG jG
attribute [local irreducible] jN dU eP bN dV eG anI jE fZ G GC GQ GA eN Calls IntKind.wrap Int.decLt Int.decLe
theorem OJ (E : List Fl) (fv : Value) (es : List (Fl × Value)) (μ : Mem) (hF : FLs μ E fv es) (ak : YP E) (w : World) (hμ : MOk μ w) (hO : Go.Vcg.Own μ [] w) :
 Calls Tryz.prog 51 #[fv] w fun e w' => ∃ (v : Value) (μ' : Mem) (q : TW), e = .returned v ∧ lT (kI []) w w' μ (TB E.length (foldI (bM E) 0 E.length kL).ins (foldI (bM E) 0 E.length kL).ops q) μ' ∧ (v = .agg #[q.sv, .slice (some ⟨q.ib, 0, none⟩) E.length E.length, .slice (some ⟨q.ob, 0, none⟩) E.length E.length] ∧ scs q.cs = (foldI (bM E) 0 E.length kL).L) := by
 have bp := dJ hO.diff
 obtain ⟨A0, cA, rfl⟩ := hF.form
 have b6 := ak.len
 refine cC (args := [.slice A0 E.length cA]) Tryz.func51 rfl Tryz.ntmps51 (by simp) hμ hO ?_
 try repeat' (first | ((with_reducible show GC _ _ (Code.seq (Code.region 1 _ _) _) _ _ _ _); (apply dF)) | refine KZ ?_ | refine NB fun b => ?_)
 refine gcs (iB (ι := Nat × Nat × Nat × Nat) (fun _ => True) (fun _ => μ) (fun q => [(0, .slice A0 E.length cA), (2, .pointer (some ⟨q.1, 0, none⟩)), (3, .pointer (some ⟨q.2.1, 0, none⟩))]) (fun q => [.inl ⟨q.2.1, 73, 3, [(0, .slice none 0 0), (1, .slice (some ⟨q.2.2.1, 0, none⟩) E.length E.length), (2, .slice (some ⟨q.2.2.2, 0, none⟩) E.length E.length)]⟩, .inl ⟨q.1, 73, 3, idx 0 [.slice none 0 0, .slice none 0 0, .slice none 0 0]⟩, .inr ⟨.slice (some ⟨q.2.2.1, 0, none⟩) E.length E.length, 3, 1, E.length, mE [] E.length⟩, .inr ⟨.slice (some ⟨q.2.2.2, 0, none⟩) E.length E.length, 3, 1, E.length, mE [] E.length⟩]) ?_ ?_)
 ·refine aT 9 _ (by kernel_rfl) rfl (dG aQ) ?_
  all_goals (refine DD 0 ?_; refine DD 1 ?_; refine DD 3 ?_; refine DD 4 ?_)
  refine aJg 2 5 7 (by kernel_rfl) ?dr24_2 ?dr24_5 ?dr24_7
  case' dr24_2 =>
   (refine D5 ?_; refine rF (z := .int .i64 0) (bytes := 8) E.length (mE [] E.length) (by exact rfl) (by exact rfl) (by exact rfl) (by exact rfl) rfl rfl (by exact rfl) (by exact rfl) (by exact rfl) (by omega) (by omega) (oP _) (fun b => ?_); refine D9 ?_)
   refine iF 5 7 (by kernel_rfl) ?dr25_5 ?dr25_7
   case' dr25_5 =>
    (refine D5 ?_; refine rF (z := .int .i64 0) (bytes := 8) E.length (mE [] E.length) (by exact rfl) (by exact rfl) (by exact rfl) (by exact rfl) rfl rfl (by exact rfl) (by exact rfl) (by exact rfl) (by omega) (by omega) (oP _) (fun b => ?_); refine D9 ?_)
    all_goals (refine DD 6 ?_; refine D3 7 ?_; refine D5 ?_; refine NB fun b => ?_; refine D9 ?_; refine D3 8 ?_; refine D5 ?_; refine Y0 ?_; refine D9 ?_; refine D8 ?_)
   case' dr25_7 =>
    (refine D5 ?_; refine NB fun b => ?_; refine D9 ?_)
    all_goals (refine D3 5 ?_; refine D5 ?_; refine rF (z := .int .i64 0) (bytes := 8) E.length (mE [] E.length) (by exact rfl) (by exact rfl) (by exact rfl) (by exact rfl) rfl rfl (by exact rfl) (by exact rfl) (by exact rfl) (by omega) (by omega) (oP _) (fun b => ?_); refine D9 ?_)
    all_goals (refine DD 6 ?_; refine D3 8 ?_; refine D5 ?_; refine Y0 ?_; refine D9 ?_; refine D8 ?_)
  case' dr24_5 =>
   (refine D5 ?_; refine rF (z := .int .i64 0) (bytes := 8) E.length (mE [] E.length) (by exact rfl) (by exact rfl) (by exact rfl) (by exact rfl) rfl rfl (by exact rfl) (by exact rfl) (by exact rfl) (by omega) (by omega) (oP _) (fun b => ?_); refine D9 ?_)
   refine iF 2 7 (by kernel_rfl) ?dr26_2 ?dr26_7
   case' dr26_2 =>
    (refine D5 ?_; refine rF (z := .int .i64 0) (bytes := 8) E.length (mE [] E.length) (by exact rfl) (by exact rfl) (by exact rfl) (by exact rfl) rfl rfl (by exact rfl) (by exact rfl) (by exact rfl) (by omega) (by omega) (oP _) (fun b => ?_); refine D9 ?_)
    all_goals (refine DD 6 ?_; refine D3 7 ?_; refine D5 ?_; refine NB fun b => ?_; refine D9 ?_; refine D3 8 ?_; refine D5 ?_; refine Y0 ?_; refine D9 ?_; refine D8 ?_)
   case' dr26_7 =>
    (refine D5 ?_; refine NB fun b => ?_; refine D9 ?_)
    all_goals (refine D3 2 ?_; refine D5 ?_; refine rF (z := .int .i64 0) (bytes := 8) E.length (mE [] E.length) (by exact rfl) (by exact rfl) (by exact rfl) (by exact rfl) rfl rfl (by exact rfl) (by exact rfl) (by exact rfl) (by omega) (by omega) (oP _) (fun b => ?_); refine D9 ?_)
    all_goals (refine DD 6 ?_; refine D3 8 ?_; refine D5 ?_; refine Y0 ?_; refine D9 ?_; refine D8 ?_)
  case' dr24_7 =>
   (refine D5 ?_; refine NB fun b => ?_; refine D9 ?_)
   refine iF 2 5 (by kernel_rfl) ?dr27_2 ?dr27_5
   case' dr27_2 =>
    (refine D5 ?_; refine rF (z := .int .i64 0) (bytes := 8) E.length (mE [] E.length) (by exact rfl) (by exact rfl) (by exact rfl) (by exact rfl) rfl rfl (by exact rfl) (by exact rfl) (by exact rfl) (by omega) (by omega) (oP _) (fun b => ?_); refine D9 ?_)
    all_goals (refine D3 5 ?_; refine D5 ?_; refine rF (z := .int .i64 0) (bytes := 8) E.length (mE [] E.length) (by exact rfl) (by exact rfl) (by exact rfl) (by exact rfl) rfl rfl (by exact rfl) (by exact rfl) (by exact rfl) (by omega) (by omega) (oP _) (fun b => ?_); refine D9 ?_)
    all_goals (refine DD 6 ?_; refine D3 8 ?_; refine D5 ?_; refine Y0 ?_; refine D9 ?_; refine D8 ?_)
   case' dr27_5 =>
    (refine D5 ?_; refine rF (z := .int .i64 0) (bytes := 8) E.length (mE [] E.length) (by exact rfl) (by exact rfl) (by exact rfl) (by exact rfl) rfl rfl (by exact rfl) (by exact rfl) (by exact rfl) (by omega) (by omega) (oP _) (fun b => ?_); refine D9 ?_)
    all_goals (refine D3 2 ?_; refine D5 ?_; refine rF (z := .int .i64 0) (bytes := 8) E.length (mE [] E.length) (by exact rfl) (by exact rfl) (by exact rfl) (by exact rfl) rfl rfl (by exact rfl) (by exact rfl) (by exact rfl) (by omega) (by omega) (oP _) (fun b => ?_); refine D9 ?_)
    all_goals (refine DD 6 ?_; refine D3 8 ?_; refine D5 ?_; refine Y0 ?_; refine D9 ?_; refine D8 ?_)
  all_goals exact J1 (_, _, _, _) trivial
 rintro ⟨br, bt, ib, ob⟩ -
 dsimp only
 try repeat' (refine KZ ?_)
 have a1 : foldI (bM E) 0 0 kL = kL := by rw [foldI]
 have b0 : fZ (jE []) = [] := by unfold jE; exact UC
 have a7 := fun i => BX E i 0 kL
 have ag := fun i => nS (bM E) 0 i kL
 refine bW (ι := Nat × Value × List (Sc × Value) × Mem) (fun q => q.1 ≤ E.length ∧ MLe μ q.2.2.2 ∧ scs q.2.2.1 = (foldI (bM E) 0 q.1 kL).L) (fun q => E.length - q.1) (fun q => q.2.2.2) (fun q => [(4, .int .i64 (q.1 : Int)), (0, .slice A0 E.length cA), (2, .pointer (some ⟨br, 0, none⟩)), (3, .pointer (some ⟨bt, 0, none⟩))]) (fun q => .inl ⟨bt, 73, 3, [(0, q.2.1), (1, .slice (some ⟨ib, 0, none⟩) E.length E.length), (2, .slice (some ⟨ob, 0, none⟩) E.length E.length)]⟩ :: .inl ⟨br, 73, 3, idx 0 [.slice none 0 0, .slice none 0 0, .slice none 0 0]⟩ :: .inr ⟨q.2.1, 43, 5, q.2.2.1.length, q.2.2.1.flatMap eE⟩ :: .inr ⟨.slice (some ⟨ib, 0, none⟩) E.length E.length, 3, 1, E.length, mE (foldI (bM E) 0 q.1 kL).ins E.length⟩ :: .inr ⟨.slice (some ⟨ob, 0, none⟩) E.length E.length, 3, 1, E.length, mE (foldI (bM E) 0 q.1 kL).ops E.length⟩ :: fZ (jE q.2.2.1)) (0, .slice none 0 0, [], μ) ⟨aI _, MLe.refl _, by dsimp only; rw [a1]; rfl⟩ (fun a w hs => by
  dsimp only
  rw [a1, b0]
  exact (hs.vN 43 5).sel PU PS) ?_
 rintro ⟨i, sv, cs, μ1⟩ ⟨hi, p, ab⟩
 dsimp only at hi p ab ⊢
 obtain ⟨bb, ba, a8⟩ := a7 i
 have f := ag i
 rw [bB] at f
 obtain ⟨st, ap⟩ : ∃ x, foldI (bM E) 0 i kL = x := ⟨_, rfl⟩
 rw [ap] at ab bb ba a8 f ⊢
 have b8 : cs.length ≤ 2 * i := by
  have := congrArg List.length ab
  rw [lG] at this
  have h0 : kL.L.length = 0 := rfl
  omega
 have bn : st.ins.length = i := by have h0 : kL.ins.length = 0 := rfl; omega
 have hops : st.ops.length = i := by have h0 : kL.ops.length = 0 := rfl; omega
 clear bb ba a8 a7 ag
 refine fW 2 rfl ?_
 rintro As9 cs9 rfl b3
 by_cases hlt : i < E.length
 ·obtain ⟨adA, e, u, rfl, ay, bz, bi, bj, bm⟩ := hF.get hlt
  have j := bi.mono p
  have af := bj.mono p
  have bq := ak.up i e ay
  have a6 := ak.vw e (aB ay)
  have bs := ak.sz e (aB ay)
  have b4 := EQ E (.slice (some adA) E.length cA) es i
  have aq : 0 ≤ e.up → ∃ k ep up' o v, e.up = ((k : Nat) : Int) ∧ dH E k = ep ∧ st.ops[k]? = some o ∧ st.ins[k]? = some v ∧ eM μ1 (adA.add (k * 11)) [.int .i64 ep.t.op, .int .i64 ep.t.at', .int .i64 ep.t.n, .int .i64 ep.t.m, .string ep.t.s, up', .int .i64 ep.up, .int .i64 (ep.kid : Int), .int .i64 (ep.fn : Int), .int .i64 (ep.num : Int), .int .i64 (ep.last : Int)] := fun h0 => by
   obtain ⟨ad9, ep, up', e9, -, ax, al, -, -⟩ := hF.get (i := e.up.toNat) (by omega)
   cases e9
   exact ⟨e.up.toNat, ep, up', _, _, by omega, ax, aA (by omega), aA (by omega), al.mono p⟩
  obtain ⟨t, up, kid, fn, num, last⟩ := e
  dsimp only at j af bq a6 bs aq
  have y : inG E st.ins st.ops up kid = if 0 ≤ up then (if (st.ops[up.toNat]?).getD 0 < 0 ∨ ((dH E up.toNat).t.op = 21 ∧ kid = 0) then (st.ins[up.toNat]?).getD 0 else (st.ops[up.toNat]?).getD 0) else -1 := by unfold inG; rfl
  obtain ⟨in0, au⟩ : ∃ x, inG E st.ins st.ops up kid = x := ⟨_, rfl⟩
  rw [au] at y
  try repeat' (first | ((with_reducible show GC _ _ (Code.seq (Code.seq (Code.region 6 _ _) _) _) _ _ _ _); (apply dF)) | refine KZ ?_)
  refine gcs (iB (ι := Unit) (fun _ => True) (fun _ => μ1) (fun _ => [(5, .int .i64 in0), (4, .int .i64 (i : Int)), (0, .slice (some adA) E.length cA), (2, .pointer (some ⟨br, 0, none⟩)), (3, .pointer (some ⟨bt, 0, none⟩))]) (fun _ => (.inl ⟨bt, 73, 3, [(0, .slice As9 cs.length cs9), (1, .slice (some ⟨ib, 0, none⟩) E.length E.length), (2, .slice (some ⟨ob, 0, none⟩) E.length E.length)]⟩ :: .inl ⟨br, 73, 3, idx 0 [.slice none 0 0, .slice none 0 0, .slice none 0 0]⟩ :: .inr ⟨.slice As9 cs.length cs9, 43, 5, cs.length, cs.flatMap eE⟩ :: .inr ⟨.slice (some ⟨ib, 0, none⟩) E.length E.length, 3, 1, E.length, mE st.ins E.length⟩ :: .inr ⟨.slice (some ⟨ob, 0, none⟩) E.length E.length, 3, 1, E.length, mE st.ops E.length⟩ :: fZ (jE cs))) ?_ ?_)
  ·by_cases aw : 0 ≤ up
   ·obtain ⟨k, ep, up', o, v, rfl, ax, ho, hv, al⟩ := aq aw
    rw [if_pos aw, cL, ho, hv, ax, jH, jH] at y
    have bx := IE (n := E.length) ho
    have bo := IE (n := E.length) hv
    try repeat' (first | refine KO ?_ | (refine KV (b := by first | exact U1 i | exact U4 j) (c := ?_)) | refine KZ ?_)
    refine aT 10 _ (by kernel_rfl) rfl (aC (dG (dG (aC (aC aQ))))) ?_
    all_goals (refine D1 0 ?_; refine DD 1 ?_; refine DD 2 ?_; refine DD 3 ?_; refine D2 4 rfl (by exact U1 i) ?_; refine DD 5 ?_; refine D2 6 rfl (by exact U4 j) ?_; refine D2 7 rfl (by exact U1 k) ?_; refine D2 8 rfl (by ((with_reducible apply oW 2); (iterate 3 exact rfl); exact bx)) ?_; refine DD 9 ?_; refine D8 ?_)
    by_cases bh : o < 0
    ·rw [if_pos (.inl bh)] at y
     subst y
     all_goals try repeat' (refine KZ ?_)
     refine aT 10 _ (by kernel_rfl) rfl (aC (dG (dG (aC aQ)))) ?_
     all_goals (refine D1 0 ?_; refine DD 1 ?_; refine DD 2 ?_; refine DD 3 ?_; refine D2 4 rfl (by exact U1 i) ?_; refine DD 5 ?_; refine D2 6 rfl (by exact U4 j) ?_; refine D2 7 rfl (by exact U1 k) ?_; refine D2 8 rfl (by ((with_reducible apply oW 1); (iterate 3 exact rfl); exact bo)) ?_; refine DD 9 ?_; refine D8 ?_)
     all_goals exact eX () trivial rfl PU (by repeat exact eW _)
    ·by_cases an : ep.t.op = 21 ∧ kid = 0
     ·rw [if_pos (.inr an)] at y
      subst y
      obtain ⟨an, rfl⟩ := an
      all_goals try repeat' (first | refine KO ?_ | (refine KV (b := by first | exact U1 i | exact U1 k | exact U4 j | exact U4 al) (c := ?_)) | refine KZ ?_)
      refine aT 10 _ (by kernel_rfl) rfl (aC (dG (dG (aC aQ)))) ?_
      all_goals (refine D1 0 ?_; refine DD 1 ?_; refine DD 2 ?_; refine DD 3 ?_; refine D2 4 rfl (by exact U1 i) ?_; refine DD 5 ?_; refine D2 6 rfl (by exact U4 j) ?_; refine D2 7 rfl (by exact U1 k) ?_; refine D2 8 rfl (by ((with_reducible apply oW 1); (iterate 3 exact rfl); exact bo)) ?_; refine DD 9 ?_; refine D8 ?_)
      all_goals exact eX () trivial rfl PU (by repeat exact eW _)
     ·rw [if_neg (by rintro (h | h); exact bh h; exact an h)] at y
      subst y
      by_cases h2 : ep.t.op = 21
      ·have b7 : ¬ (kid : Int) = 0 := fun h => an ⟨h2, by omega⟩
       all_goals try repeat' (first | refine KO ?_ | (refine KV (b := by first | exact U1 i | exact U1 k | exact U4 j | exact U4 al) (c := ?_)) | refine KZ ?_)
       all_goals exact eX () trivial rfl PU (by repeat exact eW _)
      ·all_goals try repeat' (first | refine KO ?_ | (refine KV (b := by first | exact U1 i | exact U1 k | exact U4 j | exact U4 al) (c := ?_)) | refine KZ ?_)
       all_goals exact eX () trivial rfl PU (by repeat exact eW _)
   ·rw [if_neg aw] at y
    subst y
    try repeat' (first | refine KO ?_ | (refine KV (b := by first | exact U1 i | exact U4 j) (c := ?_)) | refine KZ ?_)
    all_goals exact eX () trivial rfl PU (by repeat exact eW _)
  rintro ⟨⟩ -
  have av := a6.here.fl
  have ao : t.op = 4 → (jG t 1 = true ↔ t.n.tmod 2 = 1) := fun h4 => by
   have := (PW (av h4)).1
   unfold jG
   rw [decide_eq_true h4, cH, decide_eq_true_iff]
   exact this
  obtain ⟨us9, bw⟩ : ∃ us9, bM E st i = if (nmE E i).2 < 0 then (⟨st.L, st.ins ++ [in0], st.ops ++ [-1], us9⟩ : RS) else ⟨(if nF t = true then st.L ++ [⟨in0, (if t.op = 4 then (num : Int) else (fn : Int)), 5, t.at', [⟨t.s, 7, false, 0⟩]⟩] else st.L) ++ [⟨if nF t = true then (st.L.length : Int) else in0, (if t.op = 4 then (num : Int) else (fn : Int)), (nmE E i).2, t.at', (nmE E i).1⟩], st.ins ++ [in0], st.ops ++ [(((if nF t = true then st.L ++ [⟨in0, (if t.op = 4 then (num : Int) else (fn : Int)), 5, t.at', [⟨t.s, 7, false, 0⟩]⟩] else st.L) : List Sc).length : Int)], us9⟩ := by
   refine ⟨if tC E i = true then st.us ++ [(in0, t.s, (fn : Int))] else st.us, ?_⟩
   unfold bM
   rw [bz]
   dsimp only
   rw [au]
  rw [bw] at f
  have ou := bm.one
  have bd : (mE st.ins E.length).length = E.length := ID (by omega)
  have bc : (mE st.ops E.length).length = E.length := ID (by omega)
  have bg := IC (a := 0) (x := in0) (show st.ins.length < E.length by omega) false
  have bf := IC (a := 0) (x := -1) (show st.ops.length < E.length by omega) false
  rw [if_neg (by simp), bn] at bg
  rw [if_neg (by simp), hops] at bf
  have aa := EQ E (.slice (some adA) E.length cA) es i μ1 (hF.mono p) ak hlt
  generalize nmE E i = r at f aa
  obtain ⟨rl, rk⟩ := r
  dsimp only at f
  try repeat' (first | ((with_reducible show GC _ _ (Code.seq (Code.region 12 _ _) _) _ _ _ _); (apply dF)) | refine KO ?_ | ((with_reducible apply nP 3); (iterate 7 exact rfl); (rw [bd]; omega); dsimp only [fD]) | ((with_reducible apply nP 4); (iterate 7 exact rfl); (rw [bc]; omega); dsimp only [fD]) | (refine KV (b := by exact U1 i) (c := ?_)) | refine KZ ?_)
  rw [show (Value.int .i64 in0).cells.toList = [Value.int .i64 in0] from rfl, show (Value.int .i64 (-1)).cells.toList = [Value.int .i64 (-1)] from rfl, bg, bf]
  refine gcs ?_
  by_cases ar : rk < 0
  ·rw [if_pos ar] at f
   try repeat' (first | refine KO ?_ | (refine CF 73 ?_; (with_reducible apply TO); (iterate 3 exact rfl); exact EN; (exact aa); (intro v4 μ4 l)) | (refine KV (b := by first | exact U1 i | exact U4 af) (c := ?_)) | refine KZ ?_ | refine NB fun b => ?_)
   all_goals refine cP (i + 1, .slice As9 cs.length cs9, cs, μ4) ⟨by dsimp only; omega, p.trans l, by dsimp only; rw [f]; exact ab⟩ (by dsimp only; omega) rfl PU ?_
   all_goals dsimp only
   all_goals rw [f]
   all_goals exact bS _ (bS _ (eW _))
  rw [if_neg ar] at f
  have ae : (mE (st.ops ++ [-1]) E.length).length = E.length := ID (by rw [aK, cT]; omega)
  have ai := fun x => IC (a := -1) (x := x) (show st.ops.length < E.length by omega) true
  simp only [if_pos, hops] at ai
  have ah : st.L.length = cs.length := by rw [← ab, lG]
  by_cases o4 : t.op = 4
  rotate_left
  ·have d : nF t = false := by unfold nF; rw [decide_eq_false o4]; rfl
   rw [d, if_neg (by simp), if_neg (by simp), if_neg o4] at f
   try repeat' (first | refine KO ?_ | (refine CF 73 ?_; (with_reducible apply TO); (iterate 3 exact rfl); exact EN; (exact aa); (intro v4 μ4 l); (have j := j.mono l); (dsimp only); (refine eU 0 rfl ?_); (rintro A4 c4 rfl aj)) | ((with_reducible apply nP 6); (iterate 7 exact rfl); (rw [ae]; omega); (dsimp only [fD])) | (((with_reducible apply oZ); (iterate 3 exact rfl); (repeat first | with_reducible exact fE | with_reducible apply fV); (iterate 6 exact rfl); (((with_reducible apply jS); exact rfl; (repeat with_reducible exact fO); exact rfl)); (exact rfl); ((exact gB (by (repeat first | with_reducible exact fS | ((with_reducible apply eY); (exact rfl)))))); omega; omega; intro v; (refine lM 5 rfl (by omega) fun g cap hv hcap => ?_); (subst hv))) | (refine KV (b := by first | exact U1 i | exact U4 j | exact U4 af) (c := ?_)) | refine KZ ?_ | refine NB fun b => ?_)
   refine gL (L' := lH (.slice A4 rl.length c4) rl :: _) (dR (.refl _) (bS _ (bS _ (eW _)))) ?_
   refine lR (dE _ _) ?_
   dsimp only [aL]
   rw [show (Value.int .i64 (cs.length : Int)).cells.toList = [Value.int .i64 (cs.length : Int)] from rfl, ai]
   refine gC (n' := (cs ++ [((⟨in0, (fn : Int), rk, t.at', rl⟩ : Sc), Value.slice A4 rl.length c4)]).length) (xs' := (cs ++ [((⟨in0, (fn : Int), rk, t.at', rl⟩ : Sc), Value.slice A4 rl.length c4)]).flatMap eE) 2 rfl (by simp) (by simp) ?_
   dsimp only [fD]
   refine cP (i + 1, .slice (some ⟨g, 0, none⟩) (cs.length + 1) cap, cs ++ [((⟨in0, (fn : Int), rk, t.at', rl⟩ : Sc), Value.slice A4 rl.length c4)], μ4) ⟨by dsimp only; omega, p.trans l, by dsimp only; rw [f, GK, ab]; rfl⟩ (by dsimp only; omega) rfl PU ?_
   dsimp only
   rw [f, CP, xW, ah]
   exact eV (.cells PU) (eW _)
  simp only [if_pos o4] at f
  have ao := ao o4
  have b5 : t.n.tmod 2 = t.n % 2 := Int.tmod_eq_emod_of_nonneg (av o4).1
  by_cases d : nF t = true
  rotate_left
  ·rw [if_neg d, if_neg d] at f
   have ad : t.n.tmod 2 = 0 → t.s = ⟨#[]⟩ := fun h0 => by
    by_cases hs : t.s = ⟨#[]⟩
    ·exact hs
    ·refine absurd ?_ d
     unfold nF
     have az : jG t 1 = false := by
      cases hb : jG t 1 with
      | false => rfl
      | true => have := ao.1 hb; omega
     rw [decide_eq_true o4, decide_eq_false hs, az]
     rfl
   by_cases bk : t.n.tmod 2 = 0
   ·have bu := ad bk
    try repeat' (first | refine KO ?_ | (refine CF 73 ?_; (with_reducible apply TO); (iterate 3 exact rfl); exact EN; (exact aa); (intro v4 μ4 l); (have j := j.mono l); (dsimp only); (refine eU 0 rfl ?_); (rintro A4 c4 rfl aj)) | ((with_reducible apply nP 6); (iterate 7 exact rfl); (rw [ae]; omega); (dsimp only [fD])) | (((with_reducible apply oZ); (iterate 3 exact rfl); (repeat first | with_reducible exact fE | with_reducible apply fV); (iterate 6 exact rfl); (((with_reducible apply jS); exact rfl; (repeat with_reducible exact fO); exact rfl)); (exact rfl); ((exact gB (by (repeat first | with_reducible exact fS | ((with_reducible apply eY); (exact rfl)))))); omega; omega; intro v; (refine lM 5 rfl (by omega) fun g cap hv hcap => ?_); (subst hv))) | (refine KV (b := by first | exact U1 i | exact U4 j | exact U4 af) (c := ?_)) | refine KZ ?_ | refine NB fun b => ?_ | (refine KB ?_ ?_ <;> intro hp))
    all_goals try (exfalso; contradiction)
    refine gL (L' := lH (.slice A4 rl.length c4) rl :: _) (dR (.refl _) (bS _ (bS _ (eW _)))) ?_
    refine lR (dE _ _) ?_
    dsimp only [aL]
    rw [show (Value.int .i64 (cs.length : Int)).cells.toList = [Value.int .i64 (cs.length : Int)] from rfl, ai]
    refine gC (n' := (cs ++ [((⟨in0, (num : Int), rk, t.at', rl⟩ : Sc), Value.slice A4 rl.length c4)]).length) (xs' := (cs ++ [((⟨in0, (num : Int), rk, t.at', rl⟩ : Sc), Value.slice A4 rl.length c4)]).flatMap eE) 2 rfl (by simp) (by simp) ?_
    dsimp only [fD]
    refine cP (i + 1, .slice (some ⟨g, 0, none⟩) (cs.length + 1) cap, cs ++ [((⟨in0, (num : Int), rk, t.at', rl⟩ : Sc), Value.slice A4 rl.length c4)], μ4) ⟨by dsimp only; omega, p.trans l, by dsimp only; rw [f, GK, ab]; rfl⟩ (by dsimp only; omega) rfl PU ?_
    dsimp only
    rw [f, CP, xW, ah]
    exact eV (.cells PU) (eW _)
   ·try repeat' (first | refine KO ?_ | (refine CF 73 ?_; (with_reducible apply TO); (iterate 3 exact rfl); exact EN; (exact aa); (intro v4 μ4 l); (have j := j.mono l); (dsimp only); (refine eU 0 rfl ?_); (rintro A4 c4 rfl aj)) | ((with_reducible apply nP 6); (iterate 7 exact rfl); (rw [ae]; omega); (dsimp only [fD])) | (((with_reducible apply oZ); (iterate 3 exact rfl); (repeat first | with_reducible exact fE | with_reducible apply fV); (iterate 6 exact rfl); (((with_reducible apply jS); exact rfl; (repeat with_reducible exact fO); exact rfl)); (exact rfl); ((exact gB (by (repeat first | with_reducible exact fS | ((with_reducible apply eY); (exact rfl)))))); omega; omega; intro v; (refine lM 5 rfl (by omega) fun g cap hv hcap => ?_); (subst hv))) | (refine KV (b := by first | exact U1 i | exact U4 j | exact U4 af) (c := ?_)) | refine KZ ?_ | refine NB fun b => ?_)
    refine gL (L' := lH (.slice A4 rl.length c4) rl :: _) (dR (.refl _) (bS _ (bS _ (eW _)))) ?_
    refine lR (dE _ _) ?_
    dsimp only [aL]
    rw [show (Value.int .i64 (cs.length : Int)).cells.toList = [Value.int .i64 (cs.length : Int)] from rfl, ai]
    refine gC (n' := (cs ++ [((⟨in0, (num : Int), rk, t.at', rl⟩ : Sc), Value.slice A4 rl.length c4)]).length) (xs' := (cs ++ [((⟨in0, (num : Int), rk, t.at', rl⟩ : Sc), Value.slice A4 rl.length c4)]).flatMap eE) 2 rfl (by simp) (by simp) ?_
    dsimp only [fD]
    refine cP (i + 1, .slice (some ⟨g, 0, none⟩) (cs.length + 1) cap, cs ++ [((⟨in0, (num : Int), rk, t.at', rl⟩ : Sc), Value.slice A4 rl.length c4)], μ4) ⟨by dsimp only; omega, p.trans l, by dsimp only; rw [f, GK, ab]; rfl⟩ (by dsimp only; omega) rfl PU ?_
    dsimp only
    rw [f, CP, xW, ah]
    exact eV (.cells PU) (eW _)
  ·rw [if_pos d, if_pos d] at f
   have ad : t.n.tmod 2 = 0 ∧ t.s ≠ ⟨#[]⟩ := by
    unfold nF at d
    rw [aS, aS] at d
    refine ⟨?_, by simpa using d.2.1⟩
    have az : jG t 1 = false := by simpa using d.2.2
    by_cases h1 : t.n.tmod 2 = 1
    ·have := ao.2 h1
     rw [az] at this
     cases this
    ·omega
   obtain ⟨bk, bu⟩ := ad
   try repeat' (first | refine KO ?_ | (refine CF 73 ?_; (with_reducible apply TO); (iterate 3 exact rfl); exact EN; (exact aa); (intro v4 μ4 l); (have j := j.mono l); (dsimp only); (refine eU 0 rfl ?_); (rintro A4 c4 rfl aj)) | ((with_reducible apply nP 8); (iterate 7 exact rfl); (rw [ae]; omega); (dsimp only [fD])) | (((with_reducible apply oZ); (iterate 3 exact rfl); (repeat first | with_reducible exact fE | with_reducible apply fV); (iterate 6 exact rfl); (((with_reducible apply jS); exact rfl; (repeat with_reducible exact fO); exact rfl)); (exact rfl); ((exact gB (by (repeat first | with_reducible exact fS | ((with_reducible apply eY); (exact rfl)))))); omega; omega; intro v; (first | (refine lM 6 rfl (by omega) fun g cap hv hcap => ?_; subst hv) | (refine lM 7 rfl (by omega) fun g2 cap2 hv b1 => ?_; subst hv)))) | (refine KV (b := by first | exact U1 i | exact U4 j | exact U4 af) (c := ?_)) | refine KZ ?_ | refine NB fun b => ?_)
   rename_i bn9 bb9 bs9
   have b2 : (st.L ++ [(⟨in0, (num : Int), 5, t.at', [⟨t.s, 7, false, 0⟩]⟩ : Sc)]).length = cs.length + 1 := by rw [aK, ah]; rfl
   rw [b2, ah] at f
   refine gL (L' := .inl ⟨bb9, 40, 4, _⟩ :: lH (.slice A4 rl.length c4) rl :: _) (rV (.refl _) (rV (.refl _) (bS _ (bS _ (bS _ (eW _)))))) ?_
   refine DY (xs := [Value.string t.s, .int .i64 7, .bool false, .int .i64 0]) 1 4 rfl (by repeat first | exact bZ | refine bH rfl ?_) (by omega) ?_
   refine lR (dE _ _) ?_
   dsimp only [aL]
   refine lR (dE _ _) ?_
   dsimp only [aL]
   have e1 : ((cs.length + 1 : Nat) : Int) - 1 = (cs.length : Int) := by omega
   rw [show (Value.int .i64 ((cs.length + 1 : Nat) : Int)).cells.toList = [Value.int .i64 ((cs.length + 1 : Nat) : Int)] from rfl, ai, e1]
   refine gC (n' := (cs ++ [((⟨in0, (num : Int), 5, t.at', [⟨t.s, 7, false, 0⟩]⟩ : Sc), Value.slice (some ⟨bb9, 0, none⟩) 1 1), ((⟨(cs.length : Int), (num : Int), rk, t.at', rl⟩ : Sc), Value.slice A4 rl.length c4)]).length) (xs' := (cs ++ [((⟨in0, (num : Int), 5, t.at', [⟨t.s, 7, false, 0⟩]⟩ : Sc), Value.slice (some ⟨bb9, 0, none⟩) 1 1), ((⟨(cs.length : Int), (num : Int), rk, t.at', rl⟩ : Sc), Value.slice A4 rl.length c4)]).flatMap eE) 2 rfl (by simp) (by simp) ?_
   dsimp only [fD]
   refine cP (i + 1, .slice (some ⟨g2, 0, none⟩) (cs.length + 1 + 1) cap2, cs ++ [((⟨in0, (num : Int), 5, t.at', [⟨t.s, 7, false, 0⟩]⟩ : Sc), Value.slice (some ⟨bb9, 0, none⟩) 1 1), ((⟨(cs.length : Int), (num : Int), rk, t.at', rl⟩ : Sc), Value.slice A4 rl.length c4)], μ4) ⟨by dsimp only; omega, p.trans l, by dsimp only; rw [f, GK, ab, bO]; rfl⟩ (by dsimp only; omega) rfl PU ?_
   dsimp only
   rw [f, show jE (cs ++ [((⟨in0, (num : Int), 5, t.at', [⟨t.s, 7, false, 0⟩]⟩ : Sc), Value.slice (some ⟨bb9, 0, none⟩) 1 1), ((⟨(cs.length : Int), (num : Int), rk, t.at', rl⟩ : Sc), Value.slice A4 rl.length c4)]) = jE cs ++ [(Value.slice (some ⟨bb9, 0, none⟩) 1 1, [⟨t.s, 7, false, 0⟩]), (Value.slice A4 rl.length c4, rl)] by unfold jE; rw [bI]; rfl, aGj]
   exact eV (.cells PU) (eW _)
 ·obtain rfl : i = E.length := by omega
  rw [ap]
  try repeat' (refine KZ ?_)
  refine gL (L' := .inl ⟨br, 73, 3, _⟩ :: TB E.length st.ins st.ops ⟨.slice As9 cs.length cs9, ib, ob, cs⟩) (dR (.refl _) (bS _ (eW _))) ?_
  exact OL (Ls := fun q => TB E.length st.ins st.ops q) (Post := fun _ v q => v = .agg #[q.sv, .slice (some ⟨q.ib, 0, none⟩) E.length E.length, .slice (some ⟨q.ob, 0, none⟩) E.length E.length] ∧ scs q.cs = st.L) 1 ⟨.slice As9 cs.length cs9, ib, ob, cs⟩ bp rfl (RG (vs := [.slice As9 cs.length cs9, .slice (some ⟨ib, 0, none⟩) E.length E.length, .slice (some ⟨ob, 0, none⟩) E.length E.length]) 0 rfl rfl rfl rfl rfl) rfl rfl (fun _ _ => ⟨rfl, ab⟩)
end
section
open Go.RowKit Go.Vcg
theorem CM {P : Program} {X : Ctx} {Q : Exit → Act → World → Prop} {l : bP} {c : Code} {L1 : List Bk} : ∀ {L2 : List Bk} {μ : Mem}, (∀ μ', MLe μ μ' → (∀ x ∈ L2, Bk.sh x μ') → GC P X c Q μ' l L1) → GC P X c Q μ l (L1 ++ L2)
 | [], μ, h => by rw [fI]; exact h μ (MLe.refl _) fun x b => by cases b
 | y :: L2, μ, h => pP gH.symm (aFr rfl fun μ1 a d => CM fun μ' hle b => h μ' (a.trans hle) fun x hm => by
     rcases aW.1 hm with rfl | hm
     ·exact Bk.YY d hle
     ·exact b x hm)
open Go.MapKept
abbrev UF (x : Int) : List Value := [.int .i64 x]
theorem MA {l : List Int} {n : Nat} (h : l.length = n) : mE l n = l.flatMap UF := by
 unfold mE
 rw [h, dN, List.replicate_zero, fI]
 induction l generalizing n with
 | nil => rfl
 | cons a r ih => rw [aO, bU, ih rfl]; rfl
theorem aKp {μ : Mem} {cs : List (Sc × Value)} {sv : Value} (h1 : Bk.sh (.inr ⟨sv, 43, 5, cs.length, cs.flatMap eE⟩) μ) (h2 : ∀ y ∈ fZ (jE cs), Bk.sh y μ) (hl : cs.length ≤ 9000) (hn : ∀ c ∈ scs cs, c.names.length ≤ 10000000) : ∃ A c, sv = .slice A cs.length c ∧ ScR μ A cs := by
 obtain ⟨A, c, e, b⟩ := sT (enc := eE) (xs := cs) h1 rfl (by simp) rfl
 refine ⟨A, c, e, b, hl, fun p a => ?_⟩
 have hm : p.1 ∈ scs cs := eT a
 have hf : (p.2, p.1.names) ∈ jE cs := eT (f := fun c : Sc × Value => (c.2, c.1.names)) a
 exact GV (f := (p.2, p.1.names)) (h2 _ (JN hf)) (hn _ hm)
def rM (E : List Fl) (ins : List Int) (l : List Sc) (i : Nat) : List Sc :=
 if tC E i = true then (match mC l ((ins[i]?).getD 0) (dH E i).t.s with | some ab => if CO l ab.1 ≠ ((dH E i).fn : Int) then wH l ab.1 ab.2 else l | none => l) else l
theorem KW (E : List Fl) (ins : List Int) (l : List Sc) (i : Nat) : nZ l (rM E ins l i) := by
 unfold rM
 split
 ·cases mC l ((ins[i]?).getD 0) (dH E i).t.s with
  | none => exact nZ.refl l
  | some ab =>
    dsimp only
    split
    ·exact DJ l _ _
    ·exact nZ.refl l
 ·exact nZ.refl l
theorem IV (E : List Fl) (ins : List Int) (L : List Sc) : ∀ k : Nat, nZ L (foldI (rM E ins) 0 k L)
 | 0 => by rw [foldI]; exact nZ.refl L
 | k + 1 => by
   rw [nS]
   exact (IV E ins L k).trans (KW E ins _ _)
theorem aAj (E : List Fl) : ∀ (m i : Nat) (s : RS), Ext s (foldI (bM E) i m s)
 | 0, _, s => by rw [foldI]; exact Ext.refl s
 | m + 1, i, s => by
   rw [foldI]
   refine Ext.trans ?_ (aAj E m (i + 1) _)
   unfold bM
   dsimp only
   split
   ·exact ⟨_, _, rfl, rfl⟩
   ·exact ⟨_, _, rfl, rfl⟩
theorem XC (us : List (Int × ByteArray × Int)) (u : Int × ByteArray × Int) (l : List Sc) : qB (us ++ [u]) l = (match mC (qB us l) u.1 u.2.1 with | some ab => if CO (qB us l) ab.1 ≠ u.2.2 then wH (qB us l) ab.1 ab.2 else qB us l | none => qB us l) := by
 unfold qB
 rw [gV]
 rfl
theorem TL (E : List Fl) (N : Nat) (L : List Sc) : ∀ k : Nat, k ≤ N → qB (foldI (bM E) 0 k kL).us L = foldI (rM E (foldI (bM E) 0 N kL).ins) 0 k L
 | 0, _ => by rw [foldI, foldI]; rfl
 | k + 1, hk => by
   have ih := TL E N L k (by omega)
   obtain ⟨h1, h2, -⟩ := BX E k 0 kL
   have h0 : kL.ins.length = 0 := rfl
   rw [nS, nS, bB, ← ih]
   have f : Ext (foldI (bM E) 0 (k + 1) kL) (foldI (bM E) 0 N kL) := by
    have := aAj E (N - (k + 1)) (0 + (k + 1)) (foldI (bM E) 0 (k + 1) kL)
    rw [← lC, show k + 1 + (N - (k + 1)) = N by omega] at this
    exact this
   obtain ⟨a, b, d, -⟩ := f
   rw [d, nS, bB]
   generalize foldI (bM E) 0 k kL = s at h1 h2
   have c : ((bM E s k).ins ++ a)[k]? = some (inG E s.ins s.ops (dH E k).up (dH E k).kid) := by
    have hi : (bM E s k).ins = s.ins ++ [inG E s.ins s.ops (dH E k).up (dH E k).kid] := by
     unfold bM
     dsimp only
     split <;> rfl
    rw [hi, bO, aX (by omega), show k - s.ins.length = 0 by omega]
    rfl
   have e : (bM E s k).us = if tC E k = true then s.us ++ [(inG E s.ins s.ops (dH E k).up (dH E k).kid, (dH E k).t.s, ((dH E k).fn : Int))] else s.us := by
    unfold bM
    dsimp only
    split <;> rfl
   rw [e]
   unfold rM
   rw [c]
   by_cases hu : tC E k = true
   ·rw [if_pos hu, if_pos hu, XC]
    rfl
   ·rw [if_neg hu, if_neg hu]
attribute [local irreducible] dH tC
attribute [local irreducible] jN dU eP bN dV eG anI jE fZ G GC GQ GA eN Calls IntKind.wrap Int.decLt Int.decLe
theorem aA9 (E : List Fl) (fv : Value) (es : List (Fl × Value)) (i : Nat) (μ : Mem) (x : FLs μ E fv es) (j : YP E) (hi : i < E.length) (w : World) (hμ : MOk μ w) :
 aV 29 #[fv, .int .i64 (i : Int)] w (.bool (tC E i)) := by
 obtain ⟨A0, cA, rfl⟩ := x.form
 obtain ⟨adA, e, u, rfl, v, r, d, y, aa⟩ := x.get hi
 have p := j.up i e v
 have z := j.len
 generalize a : tC E i = rb
 unfold tC at a
 rw [r] at a
 have g : 0 ≤ e.up → ∃ k ep up', e.up = ((k : Nat) : Int) ∧ dH E k = ep ∧ eM μ (adA.add (k * 11)) [.int .i64 ep.t.op, .int .i64 ep.t.at', .int .i64 ep.t.n, .int .i64 ep.t.m, .string ep.t.s, up', .int .i64 ep.up, .int .i64 (ep.kid : Int), .int .i64 (ep.fn : Int), .int .i64 (ep.num : Int), .int .i64 (ep.last : Int)] := fun h0 => by
  obtain ⟨ad9, ep, up', e9, -, h, f, -, -⟩ := x.get (i := e.up.toNat) (by omega)
  cases e9
  exact ⟨e.up.toNat, ep, up', by omega, h, f⟩
 obtain ⟨t, up, kid, fn, num, last⟩ := e
 dsimp only at a d p g
 refine aE (args := [.slice (some adA) E.length cA, .int .i64 (i : Int)]) Tryz.func29 rfl Tryz.ntmps29 (by simp) hμ ?_
 by_cases o : t.op = 34
 ·rw [decide_eq_true o, Bool.true_or] at a
  try repeat' (first | refine KO ?_ | (refine KV (b := by first | exact U1 i | exact U4 d) (c := ?_)) | refine KZ ?_)
  all_goals exact aJ rfl rfl (congrArg _ a)
 rw [decide_eq_false o, mA] at a
 by_cases h0 : 0 ≤ up
 ·obtain ⟨k, ep, up', rfl, h, f⟩ := g h0
  rw [decide_eq_true h0, cH, cL, h] at a
  by_cases l : ep.t.op = 39
  ·rw [decide_eq_true l, cH] at a
   by_cases h3 : ep.t.n = 3
   ·rw [decide_eq_true h3, cH] at a
    by_cases hk : kid = 0
    ·rw [decide_eq_true hk] at a
     subst hk
     try repeat' (first | refine KO ?_ | (refine KV (b := by first | exact U1 i | exact U1 k | exact U4 d | exact U4 f) (c := ?_)) | refine KZ ?_)
     all_goals exact aJ rfl rfl (congrArg _ a)
    ·rw [decide_eq_false hk] at a
     have q : ¬ (kid : Int) = 0 := by omega
     try repeat' (first | refine KO ?_ | (refine KV (b := by first | exact U1 i | exact U1 k | exact U4 d | exact U4 f) (c := ?_)) | refine KZ ?_)
     all_goals (refine aJ rfl rfl (congrArg _ ?_); rw [← a]; exact decide_eq_false q)
   ·rw [decide_eq_false h3, dX] at a
    try repeat' (first | refine KO ?_ | (refine KV (b := by first | exact U1 i | exact U1 k | exact U4 d | exact U4 f) (c := ?_)) | refine KZ ?_)
    all_goals exact aJ rfl rfl (congrArg _ a)
  ·rw [decide_eq_false l, dX, dX] at a
   try repeat' (first | refine KO ?_ | (refine KV (b := by first | exact U1 i | exact U1 k | exact U4 d | exact U4 f) (c := ?_)) | refine KZ ?_)
   all_goals exact aJ rfl rfl (congrArg _ a)
 ·rw [decide_eq_false h0, dX, dX, dX] at a
  try repeat' (first | refine KO ?_ | (refine KV (b := by first | exact U1 i | exact U4 d) (c := ?_)) | refine KZ ?_)
  all_goals exact aJ rfl rfl (congrArg _ a)
def aKk (E : List Fl) (rn : RS) (μ : Mem) (v : Value) : Prop := ∃ A c ps ib ob, v = .agg #[.slice A ps.length c, .slice (some ⟨ib, 0, none⟩) E.length E.length, .slice (some ⟨ob, 0, none⟩) E.length E.length] ∧ ScR μ A ps ∧ scs ps = kQ [] (qB rn.us rn.L) ∧ Sl UF 1 μ (some ⟨ib, 0, none⟩) E.length rn.ins ∧ Sl UF 1 μ (some ⟨ob, 0, none⟩) E.length rn.ops
theorem aBg (E : List Fl) (fv : Value) (es : List (Fl × Value)) (μ : Mem) (hF : FLs μ E fv es) (ar : YP E) (ca : 0 < E.length) (a8 : ∀ c ∈ (foldI (bM E) 0 E.length kL).L, c.names.length ≤ 10000000) (w : World) (hμ : MOk μ w) :
 Calls Tryz.prog 27 #[fv] w fun e w' => ∃ v μ', e = .returned v ∧ tB w w' μ μ' ∧ aKk E (foldI (bM E) 0 E.length kL) μ' v := by
 have ak := fun (w : World) (hμ : MOk μ w) (hO : Go.Vcg.Own μ [] w) => OJ E fv es μ hF ar w hμ hO
 obtain ⟨bn, bm, bk⟩ := BX E E.length 0 kL
 have l := TL E E.length (foldI (bM E) 0 E.length kL).L E.length (aD _)
 generalize foldI (bM E) 0 E.length kL = rn at a8 ak bn bm bk l ⊢
 have b6 := ar.len
 have ao : rn.ins.length = E.length := by have h0 : kL.ins.length = 0 := rfl; omega
 have hops : rn.ops.length = E.length := by have h0 : kL.ops.length = 0 := rfl; omega
 have b9 : rn.L.length ≤ 4000 := by have h0 : kL.L.length = 0 := rfl; omega
 obtain ⟨A0, cA, rfl⟩ := hF.form
 refine aE (args := [.slice A0 E.length cA]) Tryz.func27 rfl Tryz.ntmps27 (by simp) hμ ?_
 try repeat' (first | ((with_reducible show GC _ _ (Code.seq (Code.region 2 _ _) _) _ _ _ _); (apply dF)) | refine KO ?_ | (refine CF 51 ?_; (with_reducible apply pJ (LB := []) (Ls := fun q => TB E.length rn.ins rn.ops q) (Post := fun _ v q => v = .agg #[q.sv, .slice (some ⟨q.ib, 0, none⟩) E.length E.length, .slice (some ⟨q.ob, 0, none⟩) E.length E.length] ∧ scs q.cs = rn.L) 1); (iterate 3 exact rfl); exact EN; exact rfl; exact fun w hμ hO => ak w hμ hO; rintro v1 μ1 ⟨sv, ib, ob, cs⟩ ba ⟨rfl, aw⟩; dsimp only at aw ⊢; unfold TB; dsimp only [aL, aP]; refine eU 1 rfl ?_; rintro As cas rfl a1) | refine KZ ?_ | refine NB fun b => ?_)
 rename_i br
 obtain ⟨bt, bg⟩ : ∃ x, x = b := ⟨_, rfl⟩
 rw [← bg]
 clear bg
 refine gcs ?_
 try repeat' (refine KZ ?_)
 have bh := hF.mono ba
 have b3 : cs.length = rn.L.length := by rw [← aw, lG]
 have ap := fun k => IV E rn.ins rn.L k
 have bj := fun k => nS (rM E rn.ins) 0 k rn.L
 refine bW (ι := Nat × List (Sc × Value)) (fun q => q.1 ≤ E.length ∧ scs q.2 = foldI (rM E rn.ins) 0 q.1 rn.L) (fun q => E.length - q.1) (fun _ => μ1) (fun q => [(4, .int .i64 (q.1 : Int)), (0, .slice A0 E.length cA), (2, .pointer (some ⟨br, 0, none⟩)), (3, .pointer (some ⟨bt, 0, none⟩))]) (fun q => .inl ⟨bt, 73, 3, [(0, .slice As q.2.length cas), (1, .slice (some ⟨ib, 0, none⟩) E.length E.length), (2, .slice (some ⟨ob, 0, none⟩) E.length E.length)]⟩ :: .inl ⟨br, 73, 3, idx 0 [.slice none 0 0, .slice none 0 0, .slice none 0 0]⟩ :: .inr ⟨.slice As q.2.length cas, 43, 5, q.2.length, q.2.flatMap eE⟩ :: .inr ⟨.slice (some ⟨ib, 0, none⟩) E.length E.length, 3, 1, E.length, mE rn.ins E.length⟩ :: .inr ⟨.slice (some ⟨ob, 0, none⟩) E.length E.length, 3, 1, E.length, mE rn.ops E.length⟩ :: fZ (jE q.2)) (0, cs) ⟨aI _, by dsimp only; rw [aw, foldI]⟩ (fun a w hs => hs.sel PU (by exact eV (.cells PU) (eW _))) ?_
 rintro ⟨i, cs'⟩ ⟨hi, o⟩
 dsimp only at hi o ⊢
 have z := ap i
 have f := bj i
 rw [bB, ← o] at f
 rw [← o] at z
 have au : cs'.length = rn.L.length := by rw [← lG]; exact z.1.symm
 have al : ∀ y ∈ scs cs', y.names.length ≤ 10000000 := fun y hy => by
  obtain ⟨k, hk⟩ := List.mem_iff_getElem?.1 hy
  have bp := (List.getElem?_eq_some_iff.1 hk).1
  obtain ⟨c0, bf⟩ : ∃ c0, rn.L[k]? = some c0 := ⟨_, aA (by rw [← au, ← lG]; exact bp)⟩
  have h8 := congrArg List.length (z.2 k c0 y bf hk).2.2
  rw [aH, aH] at h8
  rw [h8]
  exact a8 c0 (aB bf)
 by_cases hlt : i < E.length
 ·obtain ⟨adA, e, u, rfl, b8, ai, ah, b5, b7⟩ := bh.get hlt
  have g := fun w μc hw (hle : MLe μ1 μc) => aA9 E (.slice (some adA) E.length cA) es i μc (bh.mono hle) ar hlt w hw
  obtain ⟨v, hv⟩ : ∃ v, rn.ins[i]? = some v := ⟨_, aA (by omega)⟩
  have bc := IE (n := E.length) hv
  rw [show rM E rn.ins (scs cs') i = if tC E i = true then (match mC (scs cs') ((rn.ins[i]?).getD 0) (dH E i).t.s with | some ab => if CO (scs cs') ab.1 ≠ ((dH E i).fn : Int) then wH (scs cs') ab.1 ab.2 else scs cs' | none => scs cs') else scs cs' from rfl, hv, jH, ai] at f
  obtain ⟨t, up, kid, fn, num, last⟩ := e
  dsimp only at f ah
  cases ag : tC E i with
  | false =>
    rw [ag] at g
    rw [ag, if_neg (by simp)] at f
    try repeat' (first | refine KO ?_ | refine K2 29 g ?_ | refine KZ ?_)
    all_goals exact cP (i + 1, cs') ⟨by dsimp only; omega, f.symm⟩ (by dsimp only; omega) rfl PU (eW _)
  | true =>
    rw [ag] at g
    rw [ag, if_pos rfl] at f
    have j : ∀ (w : World) (μc : Mem), MOk μc w → Bk.sh (.inr ⟨.slice As cs'.length cas, 43, 5, cs'.length, cs'.flatMap eE⟩) μc → (∀ y ∈ fZ (jE cs'), Bk.sh y μc) → aV 30 #[.slice As cs'.length cas, .int .i64 v, .string t.s] w (AA (mC (scs cs') v t.s)) := fun w μc hw h1 h2 => by
     obtain ⟨A9, c9, e9, ax⟩ := aKp h1 h2 (by omega) al
     rw [e9]
     exact VW w μc hw cs' A9 c9 ax v t.s
    have bd : ∀ a b, mC (scs cs') v t.s = some (a, b) → ∃ c d, (scs cs')[a]? = some c ∧ c.names[b]? = some d ∧ d.name = t.s ∧ (a : Int) ≤ v := fun a b h => by
     unfold mC at h
     exact qU h
    generalize mC (scs cs') v t.s = r at j f bd
    cases r with
    | none =>
      dsimp only [AA] at j f
      try repeat' (first | refine KO ?_ | refine K2 29 g ?_)
      refine aT 21 _ (by kernel_rfl) rfl (aC (dG (aC (aC aQ)))) ?_
      all_goals (refine D1 0 ?_; refine DD 1 ?_; refine D1 2 ?_; refine DD 3 ?_; refine DD 4 ?_; refine D2 5 rfl (by exact U1 i) ?_; refine D2 6 rfl (by ((with_reducible apply oW 2); (iterate 3 exact rfl); exact bc)) ?_; refine DD 7 ?_; refine DD 8 ?_; refine D2 9 rfl (by exact U1 i) ?_; refine DD 10 ?_; refine DD 11 ?_; refine D2 12 rfl (by exact U4 ah) ?_)
      all_goals (refine D3 13 ?_; refine D5 ?_; (with_reducible apply F1 30); exact rfl; exact EN; exact fun w μc hw aa => j w μc hw (aa.own _ (by (apply cV; (apply cV; exact aF ..)))) (fun y hy => aa.own y (by repeat (first | exact hy | apply cV))); refine D9 ?_)
      all_goals (refine DD 14 ?_; refine DD 15 ?_; refine DD 16 ?_; refine DD 17 ?_; refine DD 18 ?_; refine DD 19 ?_; refine DD 20 ?_; refine D8 ?_)
      all_goals try repeat' (refine KZ ?_)
      refine aT 15 _ (by kernel_rfl) rfl (aC (dG (aC (aC aQ)))) ?_
      all_goals (refine DD 0 ?_; refine DD 1 ?_; (try refine D7 2 ?_); refine DD 2 ?_; refine DD 3 ?_; refine DD 4 ?_; refine DD 5 ?_; refine DD 6 ?_; refine DD 7 ?_; refine DD 8 ?_; refine DD 9 ?_; refine DD 10 ?_; refine DD 11 ?_; refine DD 12 ?_; refine DD 13 ?_; refine DD 14 ?_; refine D8 ?_)
      all_goals try repeat' (refine KZ ?_)
      all_goals exact cP (i + 1, cs') ⟨by dsimp only; omega, f.symm⟩ (by dsimp only; omega) rfl PU (eW _)
    | some ab =>
      obtain ⟨ts, tb⟩ := ab
      obtain ⟨c', d, ad, hd, -, -⟩ := bd ts tb rfl
      dsimp only [AA] at j f
      have az : ts < cs'.length := by rw [← lG]; exact (List.getElem?_eq_some_iff.1 ad).1
      obtain ⟨cc, p⟩ : ∃ cc, cs'[ts]? = some cc := ⟨_, aA az⟩
      obtain ⟨c'', vv⟩ := cc
      obtain rfl : c'' = c' := by
       have h9 := jB p
       rw [ad] at h9
       cases h9
       rfl
      have b4 := (List.getElem?_eq_some_iff.1 hd).1
      have bu : CO (scs cs') ts = c''.fn := by unfold CO; rw [ad]; rfl
      have bq := TK p hd
      rw [bu, bq] at f
      have af := xV (sW p)
      dsimp only at af
      rcases a1.form with ⟨-, h0, -⟩ | ⟨gs, rfl⟩
      ·exfalso; omega
      try repeat' (first | refine KO ?_ | refine K2 29 g ?_)
      refine aT 21 _ (by kernel_rfl) rfl (aC (dG (aC (aC aQ)))) ?_
      all_goals (refine D1 0 ?_; refine DD 1 ?_; refine D1 2 ?_; refine DD 3 ?_; refine DD 4 ?_; refine D2 5 rfl (by exact U1 i) ?_; refine D2 6 rfl (by ((with_reducible apply oW 2); (iterate 3 exact rfl); exact bc)) ?_; refine DD 7 ?_; refine DD 8 ?_; refine D2 9 rfl (by exact U1 i) ?_; refine DD 10 ?_; refine DD 11 ?_; refine D2 12 rfl (by exact U4 ah) ?_)
      all_goals (refine D3 13 ?_; refine D5 ?_; (with_reducible apply F1 30); exact rfl; exact EN; exact fun w μc hw aa => j w μc hw (aa.own _ (by (apply cV; (apply cV; exact aF ..)))) (fun y hy => aa.own y (by repeat (first | exact hy | apply cV))); refine D9 ?_)
      all_goals (refine DD 14 ?_; refine DD 15 ?_; refine DD 16 ?_; refine DD 17 ?_; refine DD 18 ?_; refine DD 19 ?_; refine DD 20 ?_; refine D8 ?_)
      try repeat' (refine KZ ?_)
      refine pP (kF (F := [_, _, _, _, _]) af) ?_
      obtain ⟨Rf, ay⟩ : ∃ R, (fZ (jE cs')).eraseIdx ts = R := ⟨_, rfl⟩
      rw [ay]
      dsimp only [aL, aP, CS]
      refine fW 0 rfl ?_
      rintro A4 c4 bi a6
      subst bi
      rcases a6.form with ⟨-, h0, -⟩ | ⟨g4, rfl⟩
      ·exfalso; omega
      have bs := JE c''.names
      have bx : (cs'.flatMap eE)[ts * 5 + 1]? = some (.int .i64 c''.fn) := Go.Vcg.kR (enc := eE) (s := 5) (fun _ => rfl) p 1 _ rfl
      have bw : (cs'.flatMap eE)[ts * 5 + 4]? = some (.slice (some ⟨g4, 0, none⟩) c''.names.length c4) := Go.Vcg.kR (enc := eE) (s := 5) (fun _ => rfl) p 4 _ rfl
      refine aT 15 _ (by kernel_rfl) rfl (aC (aC (dG (aC (aC (aC aQ)))))) ?_
      all_goals (refine DD 0 ?_; refine DD 1 ?_; (try refine D7 2 ?_); refine D1 2 ?_; refine DD 3 ?_; refine DD 4 ?_; refine D2 5 rfl (by exact U1 ts) ?_; refine DD 6 ?_; refine D2 7 rfl (by ((with_reducible apply eQ 2); (iterate 3 exact rfl); exact bx)) ?_; refine DD 8 ?_; refine DD 9 ?_; refine D2 10 rfl (by exact U1 i) ?_; refine DD 11 ?_; refine D2 12 rfl (by exact U4 ah) ?_; refine D1 13 ?_; refine DD 14 ?_; refine D8 ?_)
      by_cases ai : c''.fn = (fn : Int)
      ·rw [if_neg (fun h => h ai)] at f
       try repeat' (refine KZ ?_)
       all_goals rw [← ay]
       all_goals refine lR (kF (F := [_, _, _, _, _]) af).symm ?_
       all_goals dsimp only [aL, aP]
       all_goals exact cP (i + 1, cs') ⟨by dsimp only; omega, f.symm⟩ (by dsimp only; omega) rfl PU (eW _)
      ·rw [if_pos ai] at f
       try repeat' (first | refine KO ?_ | ((with_reducible apply kW 0); (iterate 7 exact rfl); (rw [bs]; omega); (dsimp only [fD])) | (refine KV (b := by first | exact U1 ts | exact U1 tb | ((with_reducible apply eQ 3); (iterate 3 exact rfl); exact bw)) (c := ?_)) | refine KZ ?_)
       all_goals refine gC (n' := (c''.names.set tb { d with held := true }).length) (xs' := (c''.names.set tb { d with held := true }).flatMap jF) 0 rfl (by simp) (nT (enc := jF) (s := 4) (fun _ => rfl) (vs := [.bool true]) (k := 2) (n := 1) (by omega) c''.names tb _ hd rfl) ?_
       all_goals dsimp only [fD]
       all_goals refine lR (L' := [_, _, _, _, _] ++ fZ (jE (cs'.set ts ({ c'' with names := c''.names.set tb { d with held := true } }, .slice (some ⟨g4, 0, none⟩) c''.names.length c4)))) (by rw [TY, JM, ← ay]; exact wY (F := [_, _, _, _, _]) _ (by rw [JO, xU]; exact az)) ?_
       all_goals dsimp only [aL, aP]
       all_goals exact cP (i + 1, cs'.set ts ({ c'' with names := c''.names.set tb { d with held := true } }, .slice (some ⟨g4, 0, none⟩) c''.names.length c4)) ⟨by dsimp only; omega, f.symm⟩ (by dsimp only; omega) rfl PU (by dsimp only; rw [fH, aKn (c2 := { c'' with names := c''.names.set tb { d with held := true } }) p rfl]; exact eW _)
 ·obtain rfl : i = E.length := by omega
  rw [← o] at l
  have av := MA ao
  have aq := MA hops
  refine CM (L1 := [_, _]) fun μ2 b2 aj => ?_
  obtain ⟨A9, c9, e9, ax⟩ := aKp (aj _ (aF ..)) (fun y hy => aj y (cK (cK (cK hy)))) (by omega) al
  have bb := aj _ (cK (aF ..))
  have a7 := aj _ (cK (cK (aF ..)))
  rw [av] at bb
  rw [aq] at a7
  obtain ⟨Ai, ci, ei, b0⟩ := sT (enc := UF) (xs := rn.ins) bb ao (by simp) rfl
  obtain ⟨Ao, co, eo, bz⟩ := sT (enc := UF) (xs := rn.ops) a7 hops (by simp) rfl
  cases ei
  cases eo
  cases e9
  try repeat' (first | refine KZ ?_ | ((with_reducible apply F2 52); exact rfl; exact EN; exact fun w hw => KU w _ hw cs' As cas ax; rintro v3 μ3 an ⟨A3, c3, qs, rfl, b1, bo⟩))
  refine qI rfl (RG (vs := [.slice A3 qs.length c3, .slice (some ⟨ib, 0, none⟩) E.length E.length, .slice (some ⟨ob, 0, none⟩) E.length E.length]) 1 rfl rfl rfl rfl rfl) (fun μ' ae hL => ⟨A3, c3, qs, ib, ob, rfl, b1.mono ae, by rw [bo, ← l], ?_, ?_⟩)
  ·exact b0.mono (an.trans ae)
  ·exact bz.mono (an.trans ae)
end
section
open Go.RowKit Go.Vcg Go.MapKept
theorem SH {l : List Sc} {k : Nat} {s : Sc} (h : l[k]? = some s) : fG (l.take (k + 1)) = fG (l.take k) + s.names.length := by
 unfold fG
 rw [bQ, h, bI, jP]
 simp
theorem aBq {l : List Sc} (h : ∀ s ∈ l, s.names.length ≤ 10000000) : fG l ≤ 10000000 * l.length := by
 unfold fG
 induction l with
 | nil => simp
 | cons a r ih =>
   have h1 := ih fun s hs => h s (cK hs)
   have h2 := h a (aF ..)
   rw [aO, dQ, bF]
   omega
theorem SJ {l l' : List Sc} (h : nZ l l') : fG l' = fG l := by
 unfold fG
 congr 1
 apply dW
 intro i
 rw [aN, aN]
 cases hc : l[i]? with
 | none =>
   have h1 := List.getElem?_eq_none_iff.1 hc
   rw [dL (by rw [← h.1]; exact h1)]
 | some c =>
   obtain ⟨c', a⟩ : ∃ c', l'[i]? = some c' := ⟨_, aA (by rw [← h.1]; exact (List.getElem?_eq_some_iff.1 hc).1)⟩
   have b := congrArg List.length (h.2 i c c' hc a).2.2
   rw [aH, aH] at b
   rw [a, dY, dY, b]
theorem FD {n : Nat} (hf : ∀ (t : T) (up : Int) (kid fn i c j : Nat) (e : Fl), t.size ≤ n → (gJ n t up kid fn i c)[j]? = some e → e.last = i + j + e.t.size - 1 ∧ j + e.t.size ≤ t.size) : ∀ (ks : List T) (pa : Int) (j0 fn i c j : Nat) (e : Fl), (∀ k ∈ ks, k.size ≤ n) → (gP (gJ n) ks pa j0 fn i c)[j]? = some e → e.last = i + j + e.t.size - 1 ∧ j + e.t.size ≤ szs ks
 | [], _, _, _, _, _, _, _, _, h => by simp [gP] at h
 | k :: r, pa, j0, fn, i, c, j, e, hk, h => by
   rw [gP] at h
   have hl := qP n k pa j0 fn i c (hk k (aF ..))
   rw [cO]
   by_cases a : j < k.size
   ·rw [aU (by omega)] at h
    obtain ⟨h1, h2⟩ := hf k pa j0 fn i c j e (hk k (aF ..)) h
    exact ⟨h1, by omega⟩
   ·rw [aX (by omega), hl] at h
    obtain ⟨h1, h2⟩ := FD hf r pa (j0 + 1) fn (i + k.size) _ (j - k.size) e (fun k h => hk k (cK h)) h
    exact ⟨by omega, by omega⟩
theorem AZ : ∀ (n : Nat) (t : T) (up : Int) (kid fn i c j : Nat) (e : Fl), t.size ≤ n → (gJ n t up kid fn i c)[j]? = some e → e.last = i + j + e.t.size - 1 ∧ j + e.t.size ≤ t.size
 | 0, t, _, _, _, _, _, _, _, h, _ => by have := bA t; omega
 | n + 1, t, up, kid, fn, i, c, j, e, hs, h => by
   rw [gJ] at h
   have a := bA t
   cases j with
   | zero =>
     have h : some _ = some e := h
     cases h
     exact ⟨rfl, by dsimp only; omega⟩
   | succ j =>
     rw [bG] at h
     obtain ⟨h1, h2⟩ := FD (AZ n) t.kids i 0 _ (i + 1) _ j e (fun k hk => jM hs hk) h
     exact ⟨by omega, by omega⟩
theorem aF5 {t : T} {d : Nat} {s : Bool} (h : Rt t d s) (a : t.size ≤ 2000) : YP (jV t) := by
 have hw := aKe t d s h
 refine ⟨by rw [zC]; exact a, fun i e he => ?_, fun e he => zB (p := eK Vw) (fun t k h hk => h.kid hk) _ _ _ _ _ _ _ hw e he, fun e he => ?_, fun i e he => ?_⟩
 ·obtain ⟨h1, h2⟩ := AZ t.size t (-1) 0 0 0 0 i e (aD _) he
  have := bA e.t
  rw [zC]
  omega
 ·obtain ⟨i, hi⟩ := List.mem_iff_getElem?.1 he
  obtain ⟨h1, h2⟩ := AZ t.size t (-1) 0 0 0 0 i e (aD _) hi
  omega
 ·obtain ⟨h1, -⟩ := EA t.size t (-1) 0 0 0 0 i e (aD _) he
  rcases h1 with h1 | h1 <;> omega
def GY (t : T) (μ : Mem) (v : Value) : Prop := (4096 < fG (wO t) ∧ v = .tuple #[.slice none 0 0, .int .i64 9]) ∨ (¬ 4096 < fG (wO t) ∧ ∃ A c ps, v = .tuple #[.slice A ps.length c, .int .i64 0] ∧ ScR μ A ps ∧ scs ps = wO t)
attribute [local irreducible] fG wO jV rtB foldI bM
attribute [local irreducible] jN dU eP bN dV eG anI jE fZ G GC GQ GA eN Calls IntKind.wrap Int.decLt Int.decLe
theorem VU (ps : List (Sc × Value)) (A : Option Addr) (c : Nat) (w : World) (μ : Mem) (hμ : MOk μ w) (i : ScR μ A ps) :
 aV 28 #[.slice A ps.length c] w (.bool (decide (4096 < fG (scs ps)))) := by
 obtain ⟨x, hl, e⟩ := i
 have j : ∀ s ∈ scs ps, s.names.length ≤ 10000000 := fun s hs => by
  obtain ⟨p, t, rfl⟩ := List.mem_map.1 hs
  obtain ⟨_, _, _, _, h, _⟩ := e p t
  exact h
 have r : (scs ps).length = ps.length := lG ps
 have d := fun {k : Nat} {s : Sc} (h : (scs ps)[k]? = some s) => SH h
 have o := fun k => aBq (l := (scs ps).take k) fun s hs => j s (aZ hs)
 have h0 : fG ((scs ps).take 0) = 0 := by unfold fG; rfl
 have f : fG ((scs ps).take ps.length) = fG (scs ps) := by rw [aG (by omega)]
 refine aE (args := [.slice A ps.length c]) Tryz.func28 rfl Tryz.ntmps28 (by simp) hμ ?_
 try repeat' (refine KZ ?_)
 refine bW (ι := Nat) (fun k => k ≤ ps.length) (fun k => ps.length - k) (fun _ => μ) (fun k => [(4, .int .i64 (k : Int)), (3, .int .i64 ((fG ((scs ps).take k) : Nat) : Int)), (0, .slice A ps.length c)]) (fun _ => []) 0 (aI _) (fun a w hs => by
  rw [h0]
  exact J5 hs) ?_
 rintro k hk
 have hb := o k
 rw [cE] at hb
 by_cases hlt : k < ps.length
 ·obtain ⟨ad, y, rfl, q, hm⟩ := x.get hlt
  obtain ⟨s, v⟩ := y
  have g := e _ (aB q)
  dsimp only at g hm
  obtain ⟨A2, c2, rfl, z, u, -⟩ := g
  have d := d (jB q)
  dsimp only at d
  try repeat' (first | refine KO ?_ | (refine KV (b := by first | exact U1 k | exact U4 hm) (c := ?_)) | refine KZ ?_)
  all_goals refine cP (k + 1) (by omega) (by omega) rfl (by refine eJ rfl (eJ ?_ (eJ rfl fM)); rw [d]; rfl) PS
 ·obtain rfl : k = ps.length := by omega
  rw [f] at hb ⊢
  try repeat' (refine KZ ?_)
  all_goals refine aJ rfl rfl (congrArg _ ?_)
  all_goals exact decide_eq_decide.2 (by omega)
theorem VT (t : T) (u : Value) (w : World) (μ : Mem) (hμ : MOk μ w) (hk : KR μ t.kids u) (h : t.size ≤ 2000) (i : Sh t) (o : t.op = 1) (d : rtB t 1 false = true) :
 Calls Tryz.prog 16 #[.agg (aY t u).toArray] w fun e w' => ∃ v μ', e = .returned v ∧ tB w w' μ μ' ∧ GY t μ' v := by
 have ou := hk.one
 have l := fun w μc hw (hle : MLe μ μc) => wW t u w μc hw (hk.mono hle) (by omega) i
 rw [d] at l
 have aa := fun (w : World) (hw : MOk μ w) => aB0 t u w μ hw (by omega) hk
 have z := aF5 (iJ d) h
 have hlen := zC t
 have af := bA t
 obtain ⟨hL, hU, -⟩ := run_eq o d t.size (aD _)
 obtain ⟨ab, r⟩ := BA t.size t h (aD _) (yG t 1 false (iJ d) i)
 have g := BV (iA t.size t)
 have p : ∀ c ∈ (foldI (bM (jV t)) 0 t.size kL).L, c.names.length ≤ 10000000 := fun c hc => by
  rw [hL] at hc
  obtain ⟨k, hk⟩ := List.mem_iff_getElem?.1 hc
  obtain ⟨y, hy⟩ : ∃ y, (sF (iA t.size t))[k]? = some y := ⟨_, aA (by rw [← g.1]; exact (List.getElem?_eq_some_iff.1 hk).1)⟩
  have h8 := congrArg List.length (g.2 k c y hk hy).2.2
  rw [aH, aH] at h8
  rw [← h8]
  exact r y (by show y ∈ sF (iA t.size t); exact aB hy)
 have f : wO t = kQ [] (qB (foldI (bM (jV t)) 0 t.size kL).us (foldI (bM (jV t)) 0 t.size kL).L) := by unfold wO; rfl
 have x := fun (μc : Mem) (fv : Value) (es : List (Fl × Value)) (hF : FLs μc (jV t) fv es) (w : World) (hw : MOk μc w) => by
  have := aBg (jV t) fv es μc hF z (by omega) (by rw [hlen]; exact p) w hw
  rw [hlen] at this
  exact this
 clear p ab r g hL hU
 refine aE (args := [.agg (aY t u).toArray]) Tryz.func16 rfl Tryz.ntmps16 (by simp) hμ ?_
 try repeat' (first | ((with_reducible show GC _ _ (Code.seq (Code.seq (Code.region 4 _ _) _) _) _ _ _ _); (apply dF)) | refine KO ?_ | refine K2 9 l ?_ | refine KZ ?_ | ((with_reducible apply F2 26); exact rfl; exact EN; exact fun w hw => aa w hw; rintro v1 μ1 ae ⟨es, hF⟩) | ((with_reducible apply F2 27); exact rfl; exact EN; exact fun w hw => x _ _ _ hF w hw; rintro v2 μ2 ad ⟨A, c, ps, ib, ob, rfl, hS, j, -, -⟩) | refine NB fun b => ?_)
 refine gcs ?_
 have a := fun w μc hw (hle : MLe μ2 μc) => VU ps A c w μc hw (hS.mono hle)
 rw [j, ← f] at a
 by_cases hn : 4096 < fG (wO t)
 ·rw [decide_eq_true hn] at a
  try repeat' (first | refine KO ?_ | refine K2 28 a ?_ | refine KZ ?_)
  exact DP rfl (cN rfl) (cN rfl) (fun μ' _ _ => .inl ⟨hn, rfl⟩)
 ·rw [decide_eq_false hn] at a
  try repeat' (first | refine KO ?_ | refine K2 28 a ?_ | refine KZ ?_)
  exact DP rfl (cN rfl) (cN rfl) (fun μ' q _ => .inr ⟨hn, A, c, ps, rfl, hS.mono q, by rw [j, f]⟩)
theorem aF7 (t : T) (u : Value) (w : World) (μ : Mem) (hμ : MOk μ w) (hk : KR μ t.kids u) (d : t.size ≤ 2000) (c : Sh t) (e : qX μ) (h : t.op ≠ 1 ∨ rtB t 1 false = false) :
 aV 21 #[.agg (aY t u).toArray] w (.tuple #[.pointer none, .int .i64 1]) := by
 have ou := hk.one
 have a := fun w μc hw (hle : MLe μ μc) => wQ t _ w μc hw (hk.mono hle) (by omega) c (e.mono hle)
 refine aE (args := [.agg (aY t u).toArray]) Tryz.func21 rfl Tryz.ntmps21 (by simp) hμ ?_
 by_cases h1 : t.op = 1
 ·rw [h.resolve_left (fun h => h h1)] at a
  try repeat' (first | refine KO ?_ | refine K2 38 a ?_ | refine KZ ?_ | refine NB fun b => ?_)
  all_goals exact uE rfl (cN rfl) (cN rfl) rfl rfl
 ·try repeat' (first | refine KZ ?_ | refine NB fun b => ?_)
  all_goals exact uE rfl (cN rfl) (cN rfl) rfl rfl
theorem aH3 (t : T) (u : Value) (w : World) (μ : Mem) (hμ : MOk μ w) (hk : KR μ t.kids u) (a : t.size ≤ 2000) (c : Sh t) (d : qX μ) (h : t.op ≠ 1 ∨ rtB t 1 false = false) :
 aV 12 #[.agg (aY t u).toArray] w (.tuple #[.slice none 0 0, .int .i64 1]) := by
 have ou := hk.one
 have hf := fun w μc hw (hle : MLe μ μc) => aF7 t u w μc hw (hk.mono hle) a c (d.mono hle) h
 refine aE (args := [.agg (aY t u).toArray]) Tryz.func12 rfl Tryz.ntmps12 (by simp) hμ ?_
 try repeat' (first | refine KO ?_ | refine K2 21 hf ?_ | refine KZ ?_ | refine NB fun b => ?_)
 all_goals exact uE rfl (cN rfl) (cN rfl) rfl rfl
end
end Go.Proofs.YtlllalmkkaolfaaGreatDoor
