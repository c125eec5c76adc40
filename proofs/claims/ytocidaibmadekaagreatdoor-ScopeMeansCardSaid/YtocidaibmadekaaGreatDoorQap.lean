/- Package scope: note, walked. No statement of the seat is proved here. -/
import Derived.Test.YtocidaibmadekaaGreatDoorQao
set_option maxRecDepth 20000
set_option maxHeartbeats 2000000
namespace Go.Proofs.YtocidaibmadekaaGreatDoor
open Go.RowKit Go.Vcg Go.MapKept
theorem ZK {q : FW} {s : FS} (hR : FR' q s) (at' : Int) (x : ByteArray) : findF (scs q.cs) x (at'.toNat + 1) at' = iC s.scopes at' x := by rw [hR.sc]; rfl
theorem TB (t : T) (w : Wh) (s : FS) : ∃ x, lX t w s = { s with uses := s.uses ++ [x] } ∧ x = (match iC s.scopes w.scope t.s with
    | none => ⟨⟨t.at', w.scope, 2, 0, 0, 0, t.s, false⟩, 0, 0, false, w.fn⟩
    | some (a, b) =>
      let k := fJ s.scopes a b
      ⟨⟨t.at', w.scope, 2, 0, 0, k, t.s, (decide (k = 1) || decide (k = 2)) && !w.decl && !jQ s a b w.fn⟩, a, b, true, w.fn⟩) := ⟨_, rfl, rfl⟩
attribute [local irreducible] iB iC findF jQ fJ lX
attribute [local irreducible] fM cM cH bA bY cK anI fU eG G GC GQ GA bX Calls IntKind.wrap Int.decLt Int.decLe
theorem NE (q : FW) (s : FS) (xb cb hb db : Nat) (hR : FR' q s) (hs : s.scopes.length ≤ 9000) (hn : NmB s) (at' : Int) (x : ByteArray) (w : World) (μ : Mem) (hμ : MOk μ w) (h : ∀ y ∈ FB xb cb hb db s q, Bk.sh y μ) :
    Calls Tryz.prog 11 #[q.sv, .int .i64 at', .string x] w fun e w' => e = .returned (BK (iC s.scopes at' x)) ∧ Below w.heap.size w w' := by
  obtain ⟨A, c, e, hS⟩ := IT hR h hs hn
  rw [e, ← ZK hR]
  exact xP w μ hμ q.cs A c hS at' x
theorem AN (t : T) (u : Value) (w0 : Wh) (s : FS) (μ : Mem) (xb cb hb db : Nat) (hu : u.oneCell' = true) (hs : s.scopes.length ≤ 8000) (hn : NmB s) (hus : s.uses.length ≤ 100000) :
    zX 94 [.pointer (some ⟨xb, 0, none⟩), .agg (aD t u).toArray, WV w0] xb cb hb db s (lX t w0 s) μ (fun _ => True) := by
  intro w q hμ hR hO
  have hcnt := bG hO.diff
  obtain ⟨x, hx, hx0⟩ := TB t w0 s
  rw [hx]
  have hfind := fun (w : World) (μc : Mem) (hw : MOk μc w) (h : ∀ y ∈ FB xb cb hb db s q, Bk.sh y μc) => NE q s xb cb hb db hR (by omega) hn w0.scope t.s w μc hw h
  have hfs : ∀ a b, iC s.scopes w0.scope t.s = some (a, b) → ∃ c d, s.scopes[a]? = some c ∧ c.names[b]? = some d ∧ d.name = t.s ∧ (a : Int) ≤ w0.scope := fun a b h => by
    unfold iC at h
    exact iL h
  generalize iC s.scopes w0.scope t.s = r at hfind hx0 hfs
  refine aS (args := [.pointer (some ⟨xb, 0, none⟩), .agg (aD t u).toArray, WV w0]) Tryz.func94 rfl Tryz.ntmps94 (by simp) hμ hO ?_
  refine eO (eX xb cb hb db s q) ?_
  cases r with
  | none =>
    dsimp only [BK] at hfind hx0
    repeat' (first | refine KK ?_ | refine NB fun b => ?_ | fail)
    refine aC 21 _ (by kernel_rfl) rfl (List.Sublist.cons _ (List.Sublist.cons_cons _ (List.Sublist.cons_cons _ (List.Sublist.cons_cons _ (List.Sublist.cons_cons _ (List.Sublist.cons_cons _ (List.Sublist.cons_cons _ (List.Sublist.cons_cons _ (List.Sublist.cons_cons _ (List.nil_sublist _)))))))))) ?_
    all_goals refine DD 0 ?_
    all_goals refine DD 1 ?_
    all_goals refine DD 2 ?_
    all_goals refine DD 3 ?_
    all_goals refine DD 4 ?_
    all_goals refine DD 5 ?_
    all_goals refine DD 6 ?_
    all_goals refine DD 7 ?_
    all_goals ((refine D3 8 ?_; refine D5 ?_; (with_reducible apply F1 11); exact rfl; exact EN; (exact fun w μc hw hse => hfind w μc hw (fun y hy => hse.own y (by repeat (first | exact hy | apply List.mem_cons_of_mem)))); refine D9 ?_))
    all_goals refine DD 9 ?_
    all_goals refine DD 10 ?_
    all_goals refine DD 11 ?_
    all_goals refine DD 12 ?_
    all_goals refine DD 13 ?_
    all_goals refine DD 14 ?_
    all_goals ((refine D3 15 ?_; refine D5 ?_; refine Y0 ?_; refine D9 ?_))
    all_goals refine DD 16 ?_
    all_goals refine DD 17 ?_
    all_goals ((refine D3 18 ?_; refine D5 ?_; refine Y0 ?_; refine D9 ?_))
    all_goals refine DD 19 ?_
    all_goals ((refine D3 20 ?_; refine D5 ?_; refine Y0 ?_; refine D9 ?_))
    all_goals refine D8 ?_
    repeat' (first | ((with_reducible show GC _ _ (Code.region 7 _ _) _ _ _ _); (apply bF)) | refine KK ?_ | fail)
    refine gcs ?_
    refine aC 11 _ (by kernel_rfl) rfl (List.Sublist.cons_cons _ (List.Sublist.cons_cons _ (List.Sublist.cons_cons _ (List.Sublist.cons _ (List.nil_sublist _))))) ?_
    all_goals refine DD 0 ?_
    all_goals refine DD 1 ?_
    all_goals refine DD 2 ?_
    all_goals refine DD 3 ?_
    all_goals refine DD 5 ?_
    refine dW 4 6 (by kernel_rfl) ?dr18_4 ?dr18_6
    case' dr18_4 =>
      (((with_reducible apply dL); (iterate 4 exact rfl); (((with_reducible apply oX); exact rfl; (repeat first | with_reducible exact cU | with_reducible apply gJ); exact rfl))))
      all_goals ((refine D3 6 ?_; refine D5 ?_; refine NB fun b => ?_; refine D9 ?_))
      all_goals ((refine D3 7 ?_; refine D5 ?_; (((with_reducible apply oG); (iterate 3 exact rfl); (repeat first | with_reducible exact dT | with_reducible apply eI); (iterate 6 exact rfl); (((with_reducible apply gH); exact rfl; (repeat with_reducible exact cU); exact rfl)); (exact rfl); ((exact eJ (by (repeat first | with_reducible exact dU | ((with_reducible apply dC); (exact rfl)))))); omega; omega; intro v; (refine jW 6 rfl (by omega) fun g cap hv hcap => ?_); (subst hv))); refine D9 ?_))
      all_goals refine DD 8 ?_
      all_goals refine DD 9 ?_
      all_goals ((refine D3 10 ?_; refine D5 ?_; refine Y0 ?_; refine D9 ?_))
      all_goals refine D8 ?_
    case' dr18_6 =>
      ((refine D5 ?_; refine NB fun b => ?_; refine D9 ?_))
      all_goals ((refine D3 4 ?_; (with_reducible apply dL); (iterate 4 exact rfl); (((with_reducible apply oX); exact rfl; (repeat first | with_reducible exact cU | with_reducible apply gJ); exact rfl))))
      all_goals ((refine D3 7 ?_; refine D5 ?_; (((with_reducible apply oG); (iterate 3 exact rfl); (repeat first | with_reducible exact dT | with_reducible apply eI); (iterate 6 exact rfl); (((with_reducible apply gH); exact rfl; (repeat with_reducible exact cU); exact rfl)); (exact rfl); ((exact eJ (by (repeat first | with_reducible exact dU | ((with_reducible apply dC); (exact rfl)))))); omega; omega; intro v; (refine jW 6 rfl (by omega) fun g cap hv hcap => ?_); (subst hv))); refine D9 ?_))
      all_goals refine DD 8 ?_
      all_goals refine DD 9 ?_
      all_goals ((refine D3 10 ?_; refine D5 ?_; refine Y0 ?_; refine D9 ?_))
      all_goals refine D8 ?_
    all_goals repeat' (first | fail)
    all_goals refine fF (n' := (s.uses ++ [x]).length) (xs' := (s.uses ++ [x]).flatMap mR) 6 rfl (by simp) (by rw [hx0]; simp) ?_
    all_goals exact MI (s := { s with uses := s.uses ++ [x] }) { q with uv := .slice (some ⟨g, 0, none⟩) (s.uses.length + 1) cap } (by exact .inr rfl) hcnt rfl (by rw [eX]; exact (by repeat first | exact aO _ (aO _ (aO _ (aO _ (cR _)))) | (refine aAj ?_ ?_; focus ((refine eL.cells ?_; repeat first | exact cI | refine bR rfl ?_))))) rfl ⟨hR.sc, hR.ca, hR.hd, hR.dn⟩
  | some ab =>
    obtain ⟨a, k0⟩ := ab
    obtain ⟨c, d, hc, hd, hdn, hle0⟩ := hfs a k0 rfl
    have hpc := fun fn => OP (tb := k0) (fn := fn) hc
    have hkd : fJ s.scopes a k0 = d.kind := by
      unfold fJ
      rw [hc]
      simp [hd]
    dsimp only [BK] at hfind hx0
    rw [hkd, hpc] at hx0
    have halt := (List.getElem?_eq_some_iff.1 hc).1
    have hblt := (List.getElem?_eq_some_iff.1 hd).1
    obtain ⟨cc, hcc⟩ : ∃ cc, q.cs[a]? = some cc := ⟨_, List.getElem?_eq_getElem (by rw [hR.len]; exact halt)⟩
    obtain ⟨c', v⟩ := cc
    obtain rfl : c' = c := by
      have h9 := gR hcc
      rw [hR.sc, hc] at h9
      cases h9
      rfl
    have hfam := tM (nL hcc)
    have hnmb := hn c' (List.mem_of_getElem? hc)
    have hqR := hR
    obtain ⟨sv, uv, cs, ce, he, de, qc, qh, qd⟩ := q
    have hlen := hR.len
    dsimp only at hcc hfam hlen hfind ⊢
    refine fG 1 rfl ?_
    rintro As cas rfl hoks
    rcases hoks.form with ⟨-, h0, -⟩ | ⟨gs, rfl⟩
    · exfalso; omega
    refine lI (fA (F := [_, _, _, _, _, _]) hfam) ?_
    dsimp only [List.cons_append, List.nil_append, yO]
    refine fG 0 rfl ?_
    rintro A4 c4 hv4 hok4
    subst hv4
    refine lI (fA (F := [_, _, _, _, _, _]) hfam).symm ?_
    rcases hok4.form with ⟨-, h0, -⟩ | ⟨g4, rfl⟩
    · exfalso; omega
    dsimp only [List.cons_append, List.nil_append]
    repeat' (first | refine KK ?_ | refine NB fun b => ?_ | fail)
    refine aC 21 _ (by kernel_rfl) rfl (List.Sublist.cons _ (List.Sublist.cons_cons _ (List.Sublist.cons_cons _ (List.Sublist.cons_cons _ (List.Sublist.cons_cons _ (List.Sublist.cons_cons _ (List.Sublist.cons_cons _ (List.Sublist.cons_cons _ (List.Sublist.cons_cons _ (List.nil_sublist _)))))))))) ?_
    all_goals refine DD 0 ?_
    all_goals refine DD 1 ?_
    all_goals refine DD 2 ?_
    all_goals refine DD 3 ?_
    all_goals refine DD 4 ?_
    all_goals refine DD 5 ?_
    all_goals refine DD 6 ?_
    all_goals refine DD 7 ?_
    all_goals ((refine D3 8 ?_; refine D5 ?_; (with_reducible apply F1 11); exact rfl; exact EN; (exact fun w μc hw hse => hfind w μc hw (fun y hy => hse.own y (by repeat (first | exact hy | apply List.mem_cons_of_mem)))); refine D9 ?_))
    all_goals refine DD 9 ?_
    all_goals refine DD 10 ?_
    all_goals refine DD 11 ?_
    all_goals refine DD 12 ?_
    all_goals refine DD 13 ?_
    all_goals refine DD 14 ?_
    all_goals ((refine D3 15 ?_; refine D5 ?_; refine Y0 ?_; refine D9 ?_))
    all_goals refine DD 16 ?_
    all_goals refine DD 17 ?_
    all_goals ((refine D3 18 ?_; refine D5 ?_; refine Y0 ?_; refine D9 ?_))
    all_goals refine DD 19 ?_
    all_goals ((refine D3 20 ?_; refine D5 ?_; refine Y0 ?_; refine D9 ?_))
    all_goals refine D8 ?_
    repeat' (first | ((with_reducible show GC _ _ (Code.seq (Code.seq (Code.region 3 _ _) _) _) _ _ _ _); (apply bF)) | refine KK ?_ | fail)
    obtain ⟨bu, hbu⟩ : ∃ y, y = b := ⟨_, rfl⟩
    rw [← hbu]
    clear hbu
    obtain ⟨ws, wf, wd⟩ := w0
    dsimp only at hx0 ⊢
    have hcell : ∀ (j : Nat) (y : Value), (cX (c', Value.slice (some ⟨g4, 0, none⟩) c'.names.length c4))[j]? = some y → (cs.flatMap cX)[a * 5 + j]? = some y := fun j y hy => Go.Vcg.fK (enc := cX) (s := 5) (fun _ => rfl) hcc j y hy
    have hkv : (c'.names.flatMap iU)[k0 * 4 + 1]? = some (.int .i64 d.kind) := Go.Vcg.fK (enc := iU) (s := 4) (fun _ => rfl) hd 1 _ rfl
    have hpl := fun (xb cb hb db : Nat) (vv : Value) (hvv : vv.oneCell' = true) (μ : Mem) => JD ⟨⟨t.at', ws, 2, 0, 0, d.kind, t.s, false⟩, a, k0, true, wf⟩ c' vv hvv s μ xb cb hb db
    dsimp only at hpl
    generalize uE s a k0 wf c'.fn = pb at hx0 hpl
    generalize hck : ((decide (d.kind = 1) || decide (d.kind = 2)) && !wd && !pb) = ck at hx0
    refine gcs (dY (ι := FW × Mem) (fun j => FR' j.1 s) (fun j => j.2) (fun _ => [(6, .pointer (some ⟨bu, 0, none⟩)), (0, .pointer (some ⟨xb, 0, none⟩))]) (fun j => .inl ⟨bu, 65, 12, idx 0 (mR x)⟩ :: FB xb cb hb db s j.1) ?_ ?_)
    · repeat' (first | refine KK ?_ | fail)
      refine aC 11 _ (by kernel_rfl) rfl (List.Sublist.cons_cons _ (List.Sublist.cons_cons _ (List.Sublist.cons_cons _ (List.Sublist.cons_cons _ (List.Sublist.cons_cons _ (List.Sublist.cons_cons _ (List.Sublist.cons_cons _ (List.Sublist.cons_cons _ (List.Sublist.cons_cons _ (List.nil_sublist _)))))))))) ?_
      all_goals (first | refine D1 0 ?_ | fail)
      all_goals (first | refine D1 1 ?_ | fail)
      all_goals (first | refine D1 2 ?_ | fail)
      all_goals (first | refine DD 3 ?_ | fail)
      all_goals (first | refine D1 4 ?_ | fail)
      all_goals (first | refine D1 5 ?_ | fail)
      all_goals (first | refine DD 6 ?_ | fail)
      all_goals (first | (refine DV (k := 7) (b := by exact U1 a) (c := ?_)) | fail)
      all_goals (first | (refine DV (k := 8) (b := by ((with_reducible apply mG (vs := cX (c', Value.slice (some ⟨g4, 0, none⟩) c'.names.length c4)) 4); (iterate 5 exact rfl); exact hcell)) (c := ?_)) | fail)
      all_goals ((refine D3 9 ?_; refine D5 ?_; refine NB fun b => ?_; refine D9 ?_))
      all_goals ((refine D3 10 ?_; refine D5 ?_; refine Y0 ?_; refine D9 ?_))
      all_goals refine D8 ?_
      repeat' (first | ((with_reducible show GC _ _ (Code.seq (Code.region 5 _ _) _) _ _ _ _); (apply bF)) | refine KK ?_ | fail)
      refine gcs (lI (fA (F := [_, _, _, _, _, _, _, _, _, _]) hfam) ?_)
      obtain ⟨Rf, hRf⟩ : ∃ R, (eG (fU cs)).eraseIdx a = R := ⟨_, rfl⟩
      rw [hRf]
      dsimp only [List.cons_append, List.nil_append, yO]
      repeat' (first | ((with_reducible show GC _ _ (Code.region 6 _ _) _ _ _ _); (apply bF)) | refine KO ?_ | (refine KV (b := by first | exact U1 k0 | ((with_reducible apply cJ 0); (iterate 3 exact rfl); exact hkv)) (c := ?_)) | refine KI ?_ | fail)
      all_goals try (exfalso; first | fail)
      rw [← hRf]
      refine gcs (lI (fA (F := [_, _, _, _, _, _, _, _, _, _]) hfam).symm ?_)
      dsimp only [List.cons_append, List.nil_append]
      refine eO (L' := _ :: _ :: _ :: _ :: FB xb cb hb db s ⟨.slice (some ⟨gs, 0, none⟩) cs.length cas, uv, cs, ce, he, de, qc, qh, qd⟩) rfl ?_
      cases pb <;> cases wd <;> by_cases k1 : d.kind = 1 <;> by_cases k2 : d.kind = 2
      all_goals try (exfalso; omega)
      all_goals simp [k1, k2] at hck
      all_goals subst hck
      all_goals repeat' (first | refine KO ?_ | (refine CF 143 ?_; (with_reducible apply kQ 4); (iterate 3 exact rfl); ((with_reducible apply aU); kernel_rfl; (iterate 3 exact rfl)); exact rfl; (exact hR); (exact hpl xb cb hb db _ rfl _); (rintro v1 μ1 i1 hle1 hR rfl); (dsimp only [List.cons_append, List.nil_append])) | refine KI ?_ | refine KG ?_ | fail)
      all_goals try (exfalso; first | fail)
      all_goals first | exact cD (i1, _) hR rfl PU (by rw [hx0]; exact (by repeat first | exact aO _ (aO _ (aO _ (cR _))) | (refine bH ?_ ?_; focus ((refine eL.cells ?_; repeat first | exact cI | refine bR rfl ?_))))) | exact cD ((⟨.slice (some ⟨gs, 0, none⟩) cs.length cas, uv, cs, ce, he, de, qc, qh, qd⟩ : FW), _) hR rfl PU (by rw [hx0]; exact (by repeat first | exact aO _ (aO _ (aO _ (cR _))) | (refine bH ?_ ?_; focus ((refine eL.cells ?_; repeat first | exact cI | refine bR rfl ?_)))))
    · rintro ⟨q9, μ9⟩ hR9
      obtain ⟨sv9, uv9, cs9, ce9, he9, de9, qc9, qh9, qd9⟩ := q9
      refine eO (congrArg _ (eX xb cb hb db s _)) ?_
      dsimp only at hR9 ⊢
      refine aC 11 _ (by kernel_rfl) rfl (List.Sublist.cons_cons _ (List.Sublist.cons _ (List.nil_sublist _))) ?_
      all_goals refine DD 0 ?_
      all_goals refine DD 1 ?_
      all_goals refine DD 2 ?_
      all_goals refine DD 3 ?_
      all_goals refine DD 5 ?_
      refine dW 4 6 (by kernel_rfl) ?dr19_4 ?dr19_6
      case' dr19_4 =>
        (((with_reducible apply dL); (iterate 4 exact rfl); (((with_reducible apply oX); exact rfl; (repeat first | with_reducible exact cU | with_reducible apply gJ); exact rfl))))
        all_goals ((refine D3 6 ?_; refine D5 ?_; refine NB fun b => ?_; refine D9 ?_))
        all_goals ((refine D3 7 ?_; refine D5 ?_; (((with_reducible apply oG); (iterate 3 exact rfl); (repeat first | with_reducible exact dT | with_reducible apply eI); (iterate 6 exact rfl); (((with_reducible apply gH); exact rfl; (repeat with_reducible exact cU); exact rfl)); (exact rfl); ((exact eJ (by (repeat first | with_reducible exact dU | ((with_reducible apply dC); (exact rfl)))))); omega; omega; intro v; (refine jW 4 rfl (by omega) fun g cap hv hcap => ?_); (subst hv))); refine D9 ?_))
        all_goals refine DD 8 ?_
        all_goals refine DD 9 ?_
        all_goals ((refine D3 10 ?_; refine D5 ?_; refine Y0 ?_; refine D9 ?_))
        all_goals refine D8 ?_
      case' dr19_6 =>
        ((refine D5 ?_; refine NB fun b => ?_; refine D9 ?_))
        all_goals ((refine D3 4 ?_; (with_reducible apply dL); (iterate 4 exact rfl); (((with_reducible apply oX); exact rfl; (repeat first | with_reducible exact cU | with_reducible apply gJ); exact rfl))))
        all_goals ((refine D3 7 ?_; refine D5 ?_; (((with_reducible apply oG); (iterate 3 exact rfl); (repeat first | with_reducible exact dT | with_reducible apply eI); (iterate 6 exact rfl); (((with_reducible apply gH); exact rfl; (repeat with_reducible exact cU); exact rfl)); (exact rfl); ((exact eJ (by (repeat first | with_reducible exact dU | ((with_reducible apply dC); (exact rfl)))))); omega; omega; intro v; (refine jW 4 rfl (by omega) fun g cap hv hcap => ?_); (subst hv))); refine D9 ?_))
        all_goals refine DD 8 ?_
        all_goals refine DD 9 ?_
        all_goals ((refine D3 10 ?_; refine D5 ?_; refine Y0 ?_; refine D9 ?_))
        all_goals refine D8 ?_
      all_goals repeat' (first | fail)
      all_goals refine fF (n' := (s.uses ++ [x]).length) (xs' := (s.uses ++ [x]).flatMap mR) 4 rfl (by simp) (by simp) ?_
      all_goals exact MI (s := { s with uses := s.uses ++ [x] }) ⟨sv9, .slice (some ⟨g, 0, none⟩) (s.uses.length + 1) cap, cs9, ce9, he9, de9, qc9, qh9, qd9⟩ (by exact .inr rfl) hcnt rfl (by rw [eX]; exact (by repeat first | exact aO _ (aO _ (cR _)) | (refine oN ?_ ?_; focus ((refine eL.cells ?_; repeat first | exact cI | refine bR rfl ?_))))) rfl ⟨hR9.sc, hR9.ca, hR9.hd, hR9.dn⟩
end Go.Proofs.YtocidaibmadekaaGreatDoor
namespace Go.Proofs.YtocidaibmadekaaGreatDoor
open Go.RowKit Go.Vcg Go.MapKept
def BS (s : FS) (n : Nat) : Prop := wtS s + 3 * n ≤ 8000 ∧ NmB s
theorem BS.gr {s s' : FS} {n m : Nat} (h : BS s (n + m)) (hg : GrS (3 * n) s s') : BS s' m := ⟨by have := h.1; have := hg.wt; omega, hg.nm h.2⟩
theorem BS.mono {s : FS} {n m : Nat} (h : BS s n) (hm : m ≤ n) : BS s m := ⟨by have := h.1; omega, h.2⟩
theorem BS.sc {s : FS} {n : Nat} (h : BS s n) : s.scopes.length ≤ 8000 ∧ s.uses.length ≤ 8000 ∧ s.funcs ≤ 8000 := by
  have := h.1
  unfold wtS at this
  omega
theorem BS.other {s s' : FS} {n : Nat} (h : BS s n) (e1 : s'.scopes = s.scopes) (e2 : s'.uses = s.uses) (e3 : s'.funcs = s.funcs) : BS s' n := by
  have h1 := h.1
  unfold wtS at h1
  refine ⟨by unfold wtS; rw [e1, e2, e3]; exact h1, fun c hc => h.2 c (by rw [← e1]; exact hc)⟩
def NK (N : T → Wh → FS → FS) (k : T) : Prop := ∀ (xb cb hb db : Nat) (u : Value) (w0 : Wh) (s : FS) (μ : Mem), KR μ k.kids u → BS s k.size →
  zX 67 [.pointer (some ⟨xb, 0, none⟩), .agg (aD k u).toArray, WV w0] xb cb hb db s (N k w0 s) μ (fun _ => True)
theorem RB (N : T → Wh → FS → FS) (l : List T) (w : Wh) (s : FS) {i : Nat} {k : T} (h : l[i]? = some k) : N k w (qF N (l.take i) w s) = qF N (l.take (i + 1)) w s := (gL (fun s k => N k w s) (l := s) h).symm
attribute [local irreducible] iB iC findF jQ fJ lX
attribute [local irreducible] fM cM cH bA bY cK anI fU eG G GC GQ GA bX Calls IntKind.wrap Int.decLt Int.decLe
theorem lL (N : T → Wh → FS → FS) (l : List T) (lv : Value) (w0 : Wh) (s : FS) (μ : Mem) (xb cb hb db : Nat) (hN : ∀ k ∈ l, NK N k ∧ NGs N k) (hk : KR μ l lv) (hB : BS s (szs l)) :
    zX 43 [.pointer (some ⟨xb, 0, none⟩), lv, WV w0] xb cb hb db s (qF N l w0 s) μ (fun _ => True) := by
  intro w q hμ hR hO
  have hcnt := bG hO.diff
  have hll := dV l
  have hb1 := hB.1
  obtain ⟨A, c, rfl, hcap, hget⟩ := hk.form
  refine aS (args := [.pointer (some ⟨xb, 0, none⟩), .slice A l.length c, WV w0]) Tryz.func43 rfl Tryz.ntmps43 (by simp) hμ hO ?_
  repeat' (first | refine KK ?_ | refine NB fun b => ?_ | fail)
  obtain ⟨bp, hbp⟩ : ∃ y, y = b := ⟨_, rfl⟩
  rw [← hbp]
  clear hbp
  refine aX (ι := Nat × Mem × FW) (fun j => j.1 ≤ l.length ∧ MLe μ j.2.1 ∧ FR' j.2.2 (qF N (l.take j.1) w0 s)) (fun j => l.length - j.1) (fun j => j.2.1) (fun j => [(10, .int .i64 (j.1 : Int)), (9, .int .i64 (l.length : Int)), (8, .slice A l.length c), (5, .pointer (some ⟨bp, 0, none⟩)), (0, .pointer (some ⟨xb, 0, none⟩))]) (fun j => .inl ⟨bp, 95, 3, idx 0 (qZ w0)⟩ :: FB xb cb hb db (qF N (l.take j.1) w0 s) j.2.2) (0, μ, q) ⟨Nat.zero_le _, MLe.refl _, hR⟩ (fun a w hs => hs.sel PU (cR _)) ?_
  rintro ⟨i, μ0, q0⟩ ⟨hi, hle, hR⟩
  dsimp only at hi hle hR ⊢
  by_cases hlt : i < l.length
  · obtain ⟨k, hkk⟩ : ∃ k, l[i]? = some k := ⟨_, List.getElem?_eq_getElem hlt⟩
    obtain ⟨ad, x, rfl, hm0, hox, hkx⟩ := hget i k hkk
    have hmm := hm0.mono hle
    have hmem := List.mem_of_getElem? hkk
    obtain ⟨hn1, -⟩ := hN k hmem
    have hsz := eP hkk
    have hgr := kI (N := N) (l.take i) (fun k hk => (hN k (List.mem_of_mem_take hk)).2) w0 s
    have hsb := BS.gr (hB.mono hsz) hgr
    have hnext := RB N l w0 s hkk
    repeat' (first | refine KO ?_ | (refine CF 67 ?_; (with_reducible apply kQ 2); (iterate 3 exact rfl); ((with_reducible apply aU); kernel_rfl; (iterate 3 exact rfl)); exact rfl; (exact hR); (exact hn1 xb cb hb db _ _ _ _ (hkx.mono hle) hsb); (rintro v1 μ1 i1 hle1 hR -); (dsimp only [List.cons_append, List.nil_append])) | (refine KV (b := by first | exact U1 i | exact U4 hmm) (c := ?_)) | refine KI ?_ | refine NB fun b => ?_ | fail)
    all_goals try (exfalso; first | fail)
    rw [hnext] at hR ⊢
    exact bD (i + 1, μ1, i1) ⟨by dsimp only; omega, hle.trans hle1, hR⟩ (by dsimp only; omega) rfl PU (bH (.refl _) (aO _ (cR _)))
  · have hil : i = l.length := by omega
    subst hil
    rw [List.take_of_length_le (Nat.le_refl _)] at hR ⊢
    repeat' (first | refine KK ?_ | fail)
    all_goals try (exfalso; first | fail)
    all_goals exact fR 1 q0 (by exact .inr rfl) hcnt rfl rfl rfl hR
end Go.Proofs.YtocidaibmadekaaGreatDoor
namespace Go.Proofs.YtocidaibmadekaaGreatDoor
open Go.RowKit Go.Vcg Go.MapKept
attribute [local irreducible] iB iC findF jQ fJ lX kW
attribute [local irreducible] fM cM cH bA bY cK anI fU eG G GC GQ GA bX Calls IntKind.wrap Int.decLt Int.decLe
theorem OG (N : T → Wh → FS → FS) (fu : Nat) (t : T) (hq : dF qS t) (h4 : t.op = 4) (hts : t.size ≤ 2000) (hfu : t.size ≤ fu) (hN : ∀ k, dF qS k → k.size < t.size → NK N k ∧ NGs N k) (u : Value) (w0 : Wh) (s : FS) (μ : Mem) (xb cb hb db : Nat) (hk : KR μ t.kids u) (hB : BS s t.size) :
    zX 95 [.pointer (some ⟨xb, 0, none⟩), .agg (aD t u).toArray, WV w0] xb cb hb db s (DL N fu t w0 s) μ (fun _ => True) := by
  intro w q hμ hR hO
  have hcnt := bG hO.diff
  obtain ⟨hb1, hb2⟩ := hB
  have hsz := aP t
  have hk2 := hq.here.1.kc.two (.inl h4)
  have hbit := fun (v : Value) (hv : v.oneCell' = true) (k : Int) (w : World) (μc : Mem) (hw : MOk μc w) => tX t v hv k w μc hw
  obtain ⟨hz2, -, -⟩ := CI hk2
  obtain ⟨A, c, rfl, hcap, hget⟩ := hk.form
  obtain ⟨d0, hd0⟩ : ∃ d, t.kids[0]? = some d := ⟨_, List.getElem?_eq_getElem (by omega)⟩
  obtain ⟨d1, hd1⟩ : ∃ d, t.kids[1]? = some d := ⟨_, List.getElem?_eq_getElem (by omega)⟩
  obtain ⟨ad, x0, rfl, hm0, ho0, hx0⟩ := hget 0 d0 hd0
  obtain ⟨ad1, x1, e1, hm1, ho1, hx1⟩ := hget 1 d1 hd1
  cases e1
  have hq0 := hq.kid (List.mem_of_getElem? hd0)
  have hq1 := hq.kid (List.mem_of_getElem? hd1)
  have hds1 := aP d1
  rw [eR hd0, eR hd1] at hz2
  have hN0 := hN d0 hq0 (by omega)
  have hN1 := hN d1 hq1 (by omega)
  have hNk : ∀ k ∈ d1.kids, NK N k ∧ NGs N k := fun k hk => hN k (hq1.kid hk) (by
    have : k.size ≤ szs d1.kids := T.bN (List.mem_map.2 ⟨k, hk, rfl⟩)
    omega)
  have hpl := vE fu t hts
  have hprm := fun (μc : Mem) (hle : MLe μ μc) => FP fu t _ μc (hk.mono hle) h4 hq hfu hts
  generalize hs' : DL N fu t w0 s = s'
  unfold DL at hs'
  dsimp only at hs'
  rw [eR hd0, eR hd1] at hs'
  have g1 : GrS 1 s { s with funcs := s.funcs + 1 } := ⟨by unfold wtS; dsimp only; omega, fun h => h⟩
  have e1 : ((s.funcs : Nat) : Int) + 1 = ((s.funcs + 1 : Nat) : Int) := by omega
  have hfc : s.funcs ≤ 8000 := by unfold wtS at hb1; omega
  generalize hs1 : ({ s with funcs := s.funcs + 1 } : FS) = s1 at g1 hs'
  have hR1 : FR' q s1 := by subst hs1; exact ⟨hR.sc, hR.ca, hR.hd, hR.dn⟩
  obtain ⟨ws, wf, wd⟩ := w0
  dsimp only at hs'
  refine aS (args := [.pointer (some ⟨xb, 0, none⟩), .agg (aD t (.slice (some ad) t.kids.length c)).toArray, WV ⟨ws, wf, wd⟩]) Tryz.func95 rfl Tryz.ntmps95 (by simp) hμ hO ?_
  refine eO (eX xb cb hb db s q) ?_
  repeat' (first | ((with_reducible show GC _ _ (Code.seq (Code.seq (Code.region 3 _ _) _) _) _ _ _ _); (apply bF)) | refine KK ?_ | refine NB fun b => ?_ | fail)
  all_goals try (exfalso; first | fail)
  rename_i bn
  obtain ⟨bw, hbw⟩ : ∃ y, y = b := ⟨_, rfl⟩
  rw [← hbw, e1]
  clear hbw
  refine gcs (pT (L' := .inl ⟨bw, 95, 3, idx 0 (qZ ⟨ws, ((s.funcs + 1 : Nat) : Int), wd⟩)⟩ :: .inl ⟨bn, 24, 6, idx 0 (aD t (.slice (some ad) t.kids.length c))⟩ :: FB xb cb hb db s1 q) (by rw [← hs1, eX]; exact (by repeat first | exact cR _ | (refine bW ?_ ?_; focus (first | exact eL.refl _ | (refine eL.cells ?_; repeat first | exact cI | refine bR rfl ?_))))) ?_)
  generalize hc : (!decide (t.s = ⟨#[]⟩) && !kW t 1) = cc at hs'
  have hop1 := fun (lv : Value) (μ : Mem) => qM 5 t.at' ⟨ws, ((s.funcs + 1 : Nat) : Int), wd⟩ [⟨t.s, 7, false, 0⟩] lv s1 μ xb cb hb db
  have gg2 : GrS 1 s1 (if cc = true then gI 5 t.at' ⟨ws, ((s.funcs + 1 : Nat) : Int), wd⟩ [⟨t.s, 7, false, 0⟩] s1 else s1) := by
    cases cc
    · exact (GrS.refl s1).mono (by omega)
    · exact mO s1 (by simp)
  have hw1 : wtS s1 ≤ 8000 - 3 := by have := g1.wt; omega
  have hsc1 : s1.scopes.length ≤ 8000 := by unfold wtS at hw1; omega
  obtain ⟨s2, hs2⟩ : ∃ y, (if cc = true then gI 5 t.at' ⟨ws, ((s.funcs + 1 : Nat) : Int), wd⟩ [⟨t.s, 7, false, 0⟩] s1 else s1) = y := ⟨_, rfl⟩
  obtain ⟨w2, hw2⟩ : ∃ y, (if cc = true then pF ⟨ws, ((s.funcs + 1 : Nat) : Int), wd⟩ s1 else ⟨ws, ((s.funcs + 1 : Nat) : Int), wd⟩) = y := ⟨_, rfl⟩
  rw [hs2, hw2] at hs'
  rw [hs2] at gg2
  refine dY (ι := FW × Mem) (fun j => FR' j.1 s2 ∧ MLe μ j.2) (fun j => j.2) (fun _ => [(5, .pointer (some ⟨bw, 0, none⟩)), (4, .pointer (some ⟨bn, 0, none⟩)), (0, .pointer (some ⟨xb, 0, none⟩))]) (fun j => .inl ⟨bw, 95, 3, idx 0 (qZ w2)⟩ :: .inl ⟨bn, 24, 6, idx 0 (aD t (.slice (some ad) t.kids.length c))⟩ :: FB xb cb hb db s2 j.1) ?_ ?_
  · have hbit := hbit (.slice (some ad) t.kids.length c) rfl 1
    have hR := hR1
    by_cases hn0 : t.s = ⟨#[]⟩
    · have ecc : cc = false := by rw [← hc]; simp [hn0]
      subst ecc
      rw [if_neg (by simp)] at hs2 hw2
      subst hs2 hw2
      repeat' (first | refine KK ?_ | ((refine KB ?_ ?_ <;> intro hp)) | refine KG ?_ | fail)
      all_goals try (exfalso; contradiction)
      all_goals exact cD (q, _) ⟨hR, MLe.refl _⟩ rfl PU (by repeat exact cR _)
    · cases hb1v : kW t 1 with
      | true =>
        rw [hb1v] at hbit
        have ecc : cc = false := by rw [← hc]; simp [hb1v]
        subst ecc
        rw [if_neg (by simp)] at hs2 hw2
        subst hs2 hw2
        repeat' (first | refine KO ?_ | ((with_reducible apply F1 65); exact rfl; exact EN; (exact fun w μc hw hse => hbit w μc hw)) | refine KI ?_ | refine KG ?_ | fail)
        all_goals try (exfalso; first | fail)
        all_goals exact cD (q, _) ⟨hR, MLe.refl _⟩ rfl PU (by repeat exact cR _)
      | false =>
        rw [hb1v] at hbit
        have ecc : cc = true := by rw [← hc]; simp [hb1v, hn0]
        subst ecc
        rw [if_pos rfl] at hs2 hw2
        subst hs2 hw2
        repeat' (first | refine KO ?_ | ((with_reducible apply F1 65); exact rfl; exact EN; (exact fun w μc hw hse => hbit w μc hw)) | (refine CF 41 ?_; (refine QD 1 4 rfl rfl (by decide) ?_); (refine lF (bH (.refl _) (bH (.refl _) (cR _))) ?_); (with_reducible apply oT (bl := [⟨t.s, 7, false, 0⟩]) 2); (iterate 3 exact rfl); ((with_reducible apply iH); kernel_rfl; (iterate 5 exact rfl)); exact rfl; (exact hR); (exact hop1 _ _ hsc1); (rintro v1 μ1 i1 hle1 hR rfl); (dsimp only [List.cons_append, List.nil_append])) | refine KI ?_ | refine NB fun b => ?_ | refine KG ?_ | fail)
        all_goals try (exfalso; first | fail)
        all_goals exact cD (i1, _) ⟨hR, hle1⟩ rfl PU (by repeat first | exact cR _ | (refine bW ?_ ?_; focus ((refine eL.cells ?_; repeat first | exact cI | refine bR rfl ?_))))
  rintro ⟨q2, μ2⟩ ⟨hR, hle2⟩
  dsimp only at hR hle2 ⊢
  have hop2 := fun (lv : Value) (μ : Mem) (h : s2.scopes.length ≤ 8000) => qM 1 t.at' w2 (cK fu t) lv s2 μ xb cb hb db h
  have g3 := mO (kind := 1) (at' := t.at') (w := w2) s2 hpl
  have hw2 : wtS s2 ≤ 8000 - 3 * szs t.kids - 1 := by have := gg2.wt; have := g1.wt; omega
  have hsc2 : s2.scopes.length ≤ 8000 := by unfold wtS at hw2; omega
  have hB3 : BS (gI 1 t.at' w2 (cK fu t) s2) (szs t.kids) := ⟨by have := g3.wt; have := gg2.wt; have := g1.wt; omega, g3.nm (gg2.nm (g1.nm hb2))⟩
  generalize gI 1 t.at' w2 (cK fu t) s2 = s3 at hs' hop2 hB3
  generalize pF w2 s2 = w3 at hs' hop2
  have hm0 := hm0.mono hle2
  have hm1 := hm1.mono hle2
  have hx0 := hx0.mono hle2
  have hx1 := hx1.mono hle2
  repeat' (first | ((with_reducible show GC _ _ (Code.seq (Code.region 5 _ _) _) _ _ _ _); (apply bF)) | fail)
  refine gcs (dY (ι := FW × Mem) (fun j => FR' j.1 s3 ∧ MLe μ2 j.2) (fun j => j.2) (fun _ => [(5, .pointer (some ⟨bw, 0, none⟩)), (4, .pointer (some ⟨bn, 0, none⟩)), (0, .pointer (some ⟨xb, 0, none⟩))]) (fun j => .inl ⟨bw, 95, 3, idx 0 (qZ w3)⟩ :: .inl ⟨bn, 24, 6, idx 0 (aD t (.slice (some ad) t.kids.length c))⟩ :: FB xb cb hb db s3 j.1) ?_ ?_)
  · refine aC 8 _ (by kernel_rfl) rfl (List.Sublist.cons _ (List.Sublist.cons_cons _ (List.nil_sublist _))) ?_
    all_goals refine DD 0 ?_
    all_goals refine DD 1 ?_
    all_goals refine DD 2 ?_
    all_goals refine DD 4 ?_
    refine dW 3 5 (by kernel_rfl) ?dr20_3 ?dr20_5
    case' dr20_3 =>
      (((with_reducible apply dL); (iterate 4 exact rfl); (((with_reducible apply oX); exact rfl; (repeat with_reducible exact cU); exact rfl))))
      all_goals ((refine D3 5 ?_; refine D5 ?_; ((refine CF 144 ?_; (with_reducible apply aAu); (iterate 3 exact rfl); ((with_reducible apply aQ); kernel_rfl; exact rfl); (exact hprm _ hle2); (intro v5 μ5 hle5))); refine D9 ?_))
      all_goals ((refine D3 6 ?_; refine D5 ?_; ((refine CF 41 ?_; (refine lF (bH (.refl _) (bH (.refl _) (cR _))) ?_); (with_reducible apply oT (bl := cK fu t) 2); (iterate 3 exact rfl); ((with_reducible apply iH); kernel_rfl; (iterate 5 exact rfl)); exact rfl; (exact hR); (exact hop2 _ _ hsc2); (rintro v1 μ1 i1 hle1 hR rfl); (dsimp only [List.cons_append, List.nil_append]))); refine D9 ?_))
      all_goals ((refine D3 7 ?_; refine D5 ?_; refine Y0 ?_; refine D9 ?_))
      all_goals refine D8 ?_
    case' dr20_5 =>
      ((refine D5 ?_; ((refine CF 144 ?_; (with_reducible apply aAu); (iterate 3 exact rfl); ((with_reducible apply aQ); kernel_rfl; exact rfl); (exact hprm _ hle2); (intro v5 μ5 hle5))); refine D9 ?_))
      all_goals ((refine D3 3 ?_; (with_reducible apply dL); (iterate 4 exact rfl); (((with_reducible apply oX); exact rfl; (repeat first | with_reducible exact cU | with_reducible apply gJ); exact rfl))))
      all_goals ((refine D3 6 ?_; refine D5 ?_; ((refine CF 41 ?_; (refine lF (bH (.refl _) (bH (.refl _) (cR _))) ?_); (with_reducible apply oT (bl := cK fu t) 2); (iterate 3 exact rfl); ((with_reducible apply iH); kernel_rfl; (iterate 5 exact rfl)); exact rfl; (exact hR); (exact hop2 _ _ hsc2); (rintro v1 μ1 i1 hle1 hR rfl); (dsimp only [List.cons_append, List.nil_append]))); refine D9 ?_))
      all_goals ((refine D3 7 ?_; refine D5 ?_; refine Y0 ?_; refine D9 ?_))
      all_goals refine D8 ?_
    all_goals repeat' (first | fail)
    all_goals exact cD (i1, _) ⟨hR, hle5.trans hle1⟩ rfl PU (by repeat first | exact cR _ | (refine bW ?_ ?_; focus ((refine eL.cells ?_; repeat first | exact cI | refine bR rfl ?_))))
  rintro ⟨q3, μ3⟩ ⟨hR, hle3⟩
  dsimp only at hR hle3 ⊢
  have hm0 := hm0.mono hle3
  have hm1 := hm1.mono hle3
  have hx0 := hx0.mono hle3
  have hx1 := hx1.mono hle3
  have hB4 := BS.gr (hB3.mono hz2) (hN0.2 w3 s3)
  repeat' (first | refine KK ?_ | fail)
  refine aC 7 _ (by kernel_rfl) rfl (List.Sublist.cons_cons _ (List.Sublist.cons_cons _ (List.nil_sublist _))) ?_
  all_goals refine DD 0 ?_
  all_goals (first | refine D1 1 ?_ | fail)
  all_goals (first | refine DD 2 ?_ | fail)
  all_goals (first | (refine DV (k := 3) (b := by exact U1 0) (c := ?_)) | fail)
  all_goals (first | (refine DV (k := 4) (b := by exact U4 hm0) (c := ?_)) | fail)
  all_goals (first | refine DD 5 ?_ | fail)
  all_goals ((refine D3 6 ?_; refine D5 ?_; refine CF 67 ?_; (with_reducible apply kQ 2); (iterate 3 exact rfl); ((with_reducible apply aU); kernel_rfl; (iterate 3 exact rfl)); exact rfl; (exact hR); (exact hN0.1 xb cb hb db _ w3 s3 _ hx0 (hB3.mono (by omega))); (rintro v6 μ6 i6 hle6 hR -); (dsimp only [List.cons_append, List.nil_append]); refine D9 ?_))
  all_goals refine D8 ?_
  generalize N d0 w3 s3 = s4 at hR hs' hB4
  have hm1 := hm1.mono hle6
  have hx1 := hx1.mono hle6
  have hbit := hbit (.slice (some ad) t.kids.length c) rfl 128
  by_cases h6 : d1.op = 6
  · cases hbv : kW t 128 with
    | false =>
      rw [hbv] at hbit hs'
      rw [if_pos ⟨h6, rfl⟩] at hs'
      repeat' (first | refine KO ?_ | ((with_reducible apply F1 65); exact rfl; exact EN; (exact fun w μc hw hse => hbit w μc hw)) | (refine KV (b := by first | exact U1 1 | exact U4 hm1) (c := ?_)) | refine KI ?_ | refine KG ?_ | fail)
      all_goals try (exfalso; first | fail)
      refine aC 8 _ (by kernel_rfl) rfl (List.Sublist.cons_cons _ (List.Sublist.cons_cons _ (List.nil_sublist _))) ?_
      all_goals refine DD 0 ?_
      all_goals (first | refine D1 1 ?_ | fail)
      all_goals (first | refine DD 2 ?_ | fail)
      all_goals (first | (refine DV (k := 3) (b := by exact U1 1) (c := ?_)) | fail)
      all_goals (first | refine DD 4 ?_ | fail)
      all_goals (first | (refine DV (k := 5) (b := by exact U4 hm1) (c := ?_)) | fail)
      all_goals (first | refine DD 6 ?_ | fail)
      all_goals ((refine D3 7 ?_; refine D5 ?_; refine CF 43 ?_; (with_reducible apply kQ 2); (iterate 3 exact rfl); ((with_reducible apply aU); kernel_rfl; (iterate 3 exact rfl)); exact rfl; (exact hR); (exact lL N d1.kids x1 w3 s4 _ xb cb hb db hNk hx1 (hB4.mono (by omega))); (rintro v7 μ7 i7 hle7 hR -); (dsimp only [List.cons_append, List.nil_append]); refine D9 ?_))
      all_goals refine D8 ?_
      all_goals repeat' (first | refine KK ?_ | fail)
      all_goals exact fR 2 i7 (by exact .inl rfl) hcnt rfl rfl hs' hR
    | true =>
      rw [hbv] at hbit hs'
      rw [if_neg (by simp)] at hs'
      repeat' (first | refine KO ?_ | ((with_reducible apply F1 65); exact rfl; exact EN; (exact fun w μc hw hse => hbit w μc hw)) | (refine KV (b := by first | exact U1 1 | exact U4 hm1) (c := ?_)) | refine KI ?_ | refine KG ?_ | fail)
      all_goals try (exfalso; first | fail)
      refine aC 7 _ (by kernel_rfl) rfl (List.Sublist.cons_cons _ (List.Sublist.cons_cons _ (List.nil_sublist _))) ?_
      all_goals refine DD 0 ?_
      all_goals (first | refine D1 1 ?_ | fail)
      all_goals (first | refine DD 2 ?_ | fail)
      all_goals (first | (refine DV (k := 3) (b := by exact U1 1) (c := ?_)) | fail)
      all_goals (first | (refine DV (k := 4) (b := by exact U4 hm1) (c := ?_)) | fail)
      all_goals (first | refine DD 5 ?_ | fail)
      all_goals ((refine D3 6 ?_; refine D5 ?_; refine CF 67 ?_; (with_reducible apply kQ 2); (iterate 3 exact rfl); ((with_reducible apply aU); kernel_rfl; (iterate 3 exact rfl)); exact rfl; (exact hR); (exact hN1.1 xb cb hb db _ w3 s4 _ hx1 hB4); (rintro v7 μ7 i7 hle7 hR -); (dsimp only [List.cons_append, List.nil_append]); refine D9 ?_))
      all_goals refine D8 ?_
      all_goals repeat' (first | fail)
      all_goals exact fR 2 i7 (by exact .inr rfl) hcnt rfl rfl hs' hR
  · rw [if_neg (fun h => h6 h.1)] at hs'
    repeat' (first | refine KO ?_ | (refine KV (b := by first | exact U1 1 | exact U4 hm1) (c := ?_)) | refine KI ?_ | refine KG ?_ | fail)
    all_goals try (exfalso; first | fail)
    refine aC 7 _ (by kernel_rfl) rfl (List.Sublist.cons_cons _ (List.Sublist.cons_cons _ (List.nil_sublist _))) ?_
    all_goals refine DD 0 ?_
    all_goals (first | refine D1 1 ?_ | fail)
    all_goals (first | refine DD 2 ?_ | fail)
    all_goals (first | (refine DV (k := 3) (b := by exact U1 1) (c := ?_)) | fail)
    all_goals (first | (refine DV (k := 4) (b := by exact U4 hm1) (c := ?_)) | fail)
    all_goals (first | refine DD 5 ?_ | fail)
    all_goals ((refine D3 6 ?_; refine D5 ?_; refine CF 67 ?_; (with_reducible apply kQ 2); (iterate 3 exact rfl); ((with_reducible apply aU); kernel_rfl; (iterate 3 exact rfl)); exact rfl; (exact hR); (exact hN1.1 xb cb hb db _ w3 s4 _ hx1 hB4); (rintro v7 μ7 i7 hle7 hR -); (dsimp only [List.cons_append, List.nil_append]); refine D9 ?_))
    all_goals refine D8 ?_
    all_goals repeat' (first | fail)
    all_goals exact fR 2 i7 (by exact .inr rfl) hcnt rfl rfl hs' hR
theorem EO (N : T → Wh → FS → FS) (t : T) (hq : dF qS t) (hN : ∀ k, dF qS k → k.size < t.size → NK N k ∧ NGs N k) (u : Value) (w0 : Wh) (s : FS) (μ : Mem) (xb cb hb db : Nat) (hk : KR μ t.kids u) (hB : BS s t.size) :
    zX 100 [.pointer (some ⟨xb, 0, none⟩), .agg (aD t u).toArray, WV w0] xb cb hb db s (oA N t w0 s) μ (fun _ => True) := by
  intro w q hμ hR hO
  have hcnt := bG hO.diff
  have hsz := aP t
  have hll := dV t.kids
  have hb1 := hB.1
  obtain ⟨A, c, rfl, hcap, hget⟩ := hk.form
  obtain ⟨ws, wf, wd⟩ := w0
  generalize hs' : oA N t ⟨ws, wf, wd⟩ s = s'
  unfold oA at hs'
  dsimp only at hs'
  have hg0 : ∀ i, GrS (3 * szs (t.kids.take i)) s (((t.kids.take i).zipIdx).foldl (fun s k => if t.op = 60 ∨ t.op = 61 ∨ t.op = 64 ∨ (t.op = 63 ∧ k.2 = 0) ∨ (t.op = 62 ∧ k.2 = 1) then N k.1 ⟨ws, wf, wd⟩ s else N k.1 ⟨ws, wf, false⟩ s) s) := fun i => by
    have g2 := kN (fun s (k : T × Nat) => if t.op = 60 ∨ t.op = 61 ∨ t.op = 64 ∨ (t.op = 63 ∧ k.2 = 0) ∨ (t.op = 62 ∧ k.2 = 1) then N k.1 ⟨ws, wf, wd⟩ s else N k.1 ⟨ws, wf, false⟩ s) (fun k => 3 * k.1.size) ((t.kids.take i).zipIdx) s fun k hk s => by
      have hm := List.mem_of_mem_take (oD hk)
      have hkn := (hN k.1 (hq.kid hm) (by
        have : k.1.size ≤ szs t.kids := T.bN (List.mem_map.2 ⟨k.1, hm, rfl⟩)
        omega)).2
      split
      · exact hkn _ _
      · exact hkn _ _
    rw [AB] at g2
    exact g2
  have hnx : ∀ (i : Nat) (k : T) (st : FS), t.kids[i]? = some k → ((t.kids.take (i + 1)).zipIdx).foldl (fun s k => if t.op = 60 ∨ t.op = 61 ∨ t.op = 64 ∨ (t.op = 63 ∧ k.2 = 0) ∨ (t.op = 62 ∧ k.2 = 1) then N k.1 ⟨ws, wf, wd⟩ s else N k.1 ⟨ws, wf, false⟩ s) st = (fun s => if t.op = 60 ∨ t.op = 61 ∨ t.op = 64 ∨ (t.op = 63 ∧ i = 0) ∨ (t.op = 62 ∧ i = 1) then N k ⟨ws, wf, wd⟩ s else N k ⟨ws, wf, false⟩ s) (((t.kids.take i).zipIdx).foldl (fun s k => if t.op = 60 ∨ t.op = 61 ∨ t.op = 64 ∨ (t.op = 63 ∧ k.2 = 0) ∨ (t.op = 62 ∧ k.2 = 1) then N k.1 ⟨ws, wf, wd⟩ s else N k.1 ⟨ws, wf, false⟩ s) st) := fun i k st hik => by
    rw [List.take_add_one, hik, List.zipIdx_append, List.foldl_append]
    have hlt := (List.getElem?_eq_some_iff.1 hik).1
    simp [List.length_take, Nat.min_eq_left (Nat.le_of_lt hlt)]
  generalize (fun (s : FS) (k : T × Nat) => if t.op = 60 ∨ t.op = 61 ∨ t.op = 64 ∨ (t.op = 63 ∧ k.2 = 0) ∨ (t.op = 62 ∧ k.2 = 1) then N k.1 ⟨ws, wf, wd⟩ s else N k.1 ⟨ws, wf, false⟩ s) = F at hg0 hnx hs'
  refine aS (args := [.pointer (some ⟨xb, 0, none⟩), .agg (aD t (.slice A t.kids.length c)).toArray, WV ⟨ws, wf, wd⟩]) Tryz.func100 rfl Tryz.ntmps100 (by simp) hμ hO ?_
  repeat' (first | refine KK ?_ | refine NB fun b => ?_ | fail)
  all_goals try (exfalso; first | fail)
  rename_i bn bw
  obtain ⟨bv, hbv⟩ : ∃ y, y = b := ⟨_, rfl⟩
  rw [← hbv]
  clear hbv
  refine aX (ι := Nat × Mem × FW) (fun j => j.1 ≤ t.kids.length ∧ MLe μ j.2.1 ∧ FR' j.2.2 (((t.kids.take j.1).zipIdx).foldl F s)) (fun j => t.kids.length - j.1) (fun j => j.2.1) (fun j => [(14, .int .i64 (j.1 : Int)), (13, .int .i64 (t.kids.length : Int)), (12, .slice A t.kids.length c), (6, .pointer (some ⟨bv, 0, none⟩)), (5, .pointer (some ⟨bw, 0, none⟩)), (4, .pointer (some ⟨bn, 0, none⟩)), (0, .pointer (some ⟨xb, 0, none⟩))]) (fun j => .inl ⟨bv, 95, 3, idx 0 (qZ ⟨ws, wf, false⟩)⟩ :: .inl ⟨bw, 95, 3, idx 0 (qZ ⟨ws, wf, wd⟩)⟩ :: .inl ⟨bn, 24, 6, idx 0 (aD t (.slice A t.kids.length c))⟩ :: FB xb cb hb db (((t.kids.take j.1).zipIdx).foldl F s) j.2.2) (0, μ, q) ⟨Nat.zero_le _, MLe.refl _, hR⟩ (fun a w hs => hs.sel PU (by repeat first | exact cR _ | (refine bW ?_ ?_; focus ((refine eL.cells ?_; repeat first | exact cI | refine bR rfl ?_))))) ?_
  rintro ⟨i, μ0, q0⟩ ⟨hi, hle, hR⟩
  dsimp only at hi hle hR ⊢
  by_cases hlt : i < t.kids.length
  · obtain ⟨k, hkk⟩ : ∃ k, t.kids[i]? = some k := ⟨_, List.getElem?_eq_getElem hlt⟩
    obtain ⟨ad, x, rfl, hm0, hox, hkx⟩ := hget i k hkk
    have hmm := hm0.mono hle
    have hmem := List.mem_of_getElem? hkk
    have hks : k.size ≤ szs t.kids := T.bN (List.mem_map.2 ⟨k, hmem, rfl⟩)
    obtain ⟨hn1, -⟩ := hN k (hq.kid hmem) (by omega)
    have hsp := eP hkk
    have hsb := BS.gr (hB.mono (m := szs (t.kids.take i) + k.size) (by omega)) (hg0 i)
    have hnext := hnx i k s hkk
    generalize ((t.kids.take i).zipIdx).foldl F s = st at hR hsb hnext ⊢
    by_cases hc : t.op = 60 ∨ t.op = 61 ∨ t.op = 64 ∨ (t.op = 63 ∧ i = 0) ∨ (t.op = 62 ∧ i = 1)
    · have hcall := hn1 xb cb hb db _ ⟨ws, wf, wd⟩ _ _ (hkx.mono hle) hsb
      dsimp only at hnext
      rw [if_pos hc] at hnext
      rw [← hnext] at hcall
      repeat' (first | refine KO ?_ | (refine CF 67 ?_; (with_reducible apply kQ 4); (iterate 3 exact rfl); ((with_reducible apply aU); kernel_rfl; (iterate 3 exact rfl)); exact rfl; (exact hR); (exact hcall); (rintro v1 μ1 i1 hle1 hR -); (dsimp only [List.cons_append, List.nil_append])) | (refine KV (b := by first | exact U1 i | exact U4 hmm) (c := ?_)) | refine KI ?_ | refine NB fun b => ?_ | ((refine KB ?_ ?_ <;> intro hp)) | refine KG ?_ | fail)
      all_goals try (exfalso; first | fail)
      all_goals exact bD (i + 1, μ1, i1) ⟨by dsimp only; omega, hle.trans hle1, hR⟩ (by dsimp only; omega) rfl PU (by repeat exact aO _ (cR _))
    · have hcall := hn1 xb cb hb db _ ⟨ws, wf, false⟩ _ _ (hkx.mono hle) hsb
      dsimp only at hnext
      rw [if_neg hc] at hnext
      rw [← hnext] at hcall
      repeat' (first | refine KO ?_ | (refine CF 67 ?_; (with_reducible apply kQ 4); (iterate 3 exact rfl); ((with_reducible apply aU); kernel_rfl; (iterate 3 exact rfl)); exact rfl; (exact hR); (exact hcall); (rintro v1 μ1 i1 hle1 hR -); (dsimp only [List.cons_append, List.nil_append])) | (refine KV (b := by first | exact U1 i | exact U4 hmm) (c := ?_)) | refine KI ?_ | refine NB fun b => ?_ | ((refine KB ?_ ?_ <;> intro hp)) | refine KG ?_ | fail)
      all_goals try (exfalso; first | fail)
      all_goals exact bD (i + 1, μ1, i1) ⟨by dsimp only; omega, hle.trans hle1, hR⟩ (by dsimp only; omega) rfl PU (by repeat exact aO _ (cR _))
  · have hil : i = t.kids.length := by omega
    subst hil
    rw [List.take_of_length_le (Nat.le_refl _)] at hR ⊢
    repeat' (first | refine KK ?_ | fail)
    all_goals try (exfalso; first | fail)
    all_goals exact fR 3 q0 (by exact .inr rfl) hcnt rfl rfl hs' hR
end Go.Proofs.YtocidaibmadekaaGreatDoor
namespace Go.Vcg
open Go.RowKit Go.MapKept
section
variable {P : Program} {X : Ctx} {ops : Array Oper} {Q : Exit → Act → World → Prop} {rest : List Oper} {μ : Mem} {l : aI} {L : List Bk} {w : World} {o : Oper} {d : Nat}
variable {ty : TypeId} {pos : String} {af : Array Edge} {gd : Option (Nat × Bool)} {ds : Option Nat}
theorem KE {t : TypeId} {m k x : Operand} {b ck ck' : Nat} {es es' : List MapEntry} {kv v : Value} {F : Mp → List Bk} (hw : cV ops l ⟨none, .mapUpdate t m k x, ty, pos, af, gd⟩ = some true) (hm : ev l m = some (.map (some b))) (hk : ev l k = some kv) (hx : ev l x = some v)
    (hu : UpM L b ⟨b, es, ck⟩ F) (hrun : ∀ (b : Nat) (w : World), w.heap[b]? = some (.map es.toArray ck) → (Instr.mapUpdate t (.map (some b)) kv v).run P w = .ok () { w with heap := w.heap.setIfInBounds b (.map es'.toArray ck') })
    (h : G P X ops Q rest μ l (F ⟨b, es', ck'⟩)) : G P X ops Q (⟨none, .mapUpdate t m k x, ty, pos, af, gd⟩ :: rest) μ l L :=
  qY hw fun a w hs => by
    obtain ⟨i, hi, _, hF⟩ := hu
    have hb : w.heap[b]? = some (.map es.toArray ck) := hs.own _ (bO hi)
    have e1 := hs.eval hm; have e2 := hs.eval hk; have e3 := hs.eval hx
    have e : (execOp a.eval ⟨none, .mapUpdate t m k x, ty, pos, af, gd⟩).run P w = .ok .skip { w with heap := w.heap.setIfInBounds b (.map es'.toArray ck') } := by
      generalize a.eval = ρ at e1 e2 e3
      simp [execOp, e1, e2, e3, hrun b w hb]
    unfold Oper.wp
    rw [e, Oper.upon_skip]
    have hlt := (Array.getElem?_eq_some_iff.1 hb).1
    have := hs.upd hi (y := .mp ⟨b, es', ck'⟩) (w' := { w with heap := w.heap.setIfInBounds b (.map es'.toArray ck') }) rfl rfl rfl (by simp)
      (fun c hc hne => by
        have : b ≠ c := fun e => hne (by rw [e]; rfl)
        simp [Array.getElem?_setIfInBounds_ne this])
      (by show (w.heap.setIfInBounds b _)[b]? = _; rw [Array.getElem?_setIfInBounds_self_of_lt hlt])
      (fun c hc => .inl hc)
    rw [hF] at h
    exact h _ _ this
theorem aCq {t kt : TypeId} {m k : Operand} {b ck : Nat} {es es' : List MapEntry} {kv : Value} {F : Mp → List Bk} (hw : cV ops l ⟨none, .call { callee := .builtin .delete, args := #[m, k], argTypes := #[t, kt] }, ty, pos, af, gd⟩ = some true) (hm : ev l m = some (.map (some b))) (hk : ev l k = some kv)
    (hu : UpM L b ⟨b, es, ck⟩ F) (hrun : ∀ (b : Nat) (w : World), w.heap[b]? = some (.map es.toArray ck) → (Builtin.delete_ #[t, kt] ty #[.map (some b), kv]).run P w = .ok (.tuple #[]) { w with heap := w.heap.setIfInBounds b (.map es'.toArray ck) })
    (h : G P X ops Q rest μ l (F ⟨b, es', ck⟩)) : G P X ops Q (⟨none, .call { callee := .builtin .delete, args := #[m, k], argTypes := #[t, kt] }, ty, pos, af, gd⟩ :: rest) μ l L :=
  qY hw fun a w hs => by
    obtain ⟨i, hi, _, hF⟩ := hu
    have hb : w.heap[b]? = some (.map es.toArray ck) := hs.own _ (bO hi)
    have e1 := hs.eval hm; have e2 := hs.eval hk
    have e : (execOp a.eval ⟨none, .call { callee := .builtin .delete, args := #[m, k], argTypes := #[t, kt] }, ty, pos, af, gd⟩).run P w = .ok (.value (.tuple #[])) { w with heap := w.heap.setIfInBounds b (.map es'.toArray ck) } := by
      generalize a.eval = ρ at e1 e2
      simp [execOp, resolve, invoke, builtin, e1, e2, hrun b w hb]
    unfold Oper.wp
    rw [e, Oper.upon_value]
    have hlt := (Array.getElem?_eq_some_iff.1 hb).1
    have := hs.upd hi (y := .mp ⟨b, es', ck⟩) (w' := { w with heap := w.heap.setIfInBounds b (.map es'.toArray ck) }) rfl rfl rfl (by simp)
      (fun c hc hne => by
        have : b ≠ c := fun e => hne (by rw [e]; rfl)
        simp [Array.getElem?_setIfInBounds_ne this])
      (by show (w.heap.setIfInBounds b _)[b]? = _; rw [Array.getElem?_setIfInBounds_self_of_lt hlt])
      (fun c hc => .inl hc)
    rw [hF] at h
    exact h _ _ this
end
section
variable {P : Program} {t kt et : TypeId}
theorem aDz (ht : P.underlying t = some (.map kt et)) (k : Int × Int) (hkey : gY P kt (kP k) = true) (y : Int) {es : List MapEntry} {M : List ((Int × Int) × Int)} (h : MpP es M) (ck : Nat) :
    ∃ es' ck', MpP es' (eY k y M) ∧ ∀ (b : Nat) (w : World), w.heap[b]? = some (.map es.toArray ck) → (Instr.mapUpdate t (.map (some b)) (.agg (kP k).toArray) (.int .i64 y)).run P w = .ok () { w with heap := w.heap.setIfInBounds b (.map es'.toArray ck') } := by
  have hf := KL k 0 h
  cases hi : jI k M 0 with
  | none =>
    rw [hi] at hf
    exact ⟨_, _, h.app hi, fun b w hb => rW ht hkey hb hf⟩
  | some p =>
    obtain ⟨p, x⟩ := p
    rw [hi] at hf
    have hg := (kM hi).2
    rw [Nat.sub_zero] at hg
    exact ⟨_, _, h.set hi, fun b w hb => rV ht hkey (by simp [Instr.sameBits]) hb hf (h.key hg)⟩
theorem aAo {α : Type} {enc : α → Value} (ht : P.underlying t = some (.map kt et)) (hkt : P.underlying kt = some (.int .i64)) (k : Int) (hk : IsKey (.int .i64) (.int .i64 k)) (y : α) {es : List MapEntry} {M : List (Int × α)} (h : MpI enc es M) (ck : Nat) :
    ∃ es' ck', MpI enc es' (eY k y M) ∧ ∀ (b : Nat) (w : World), w.heap[b]? = some (.map es.toArray ck) → (Instr.mapUpdate t (.map (some b)) (.int .i64 k) (enc y)).run P w = .ok () { w with heap := w.heap.setIfInBounds b (.map es'.toArray ck') } := by
  have hf := DP k 0 h
  cases hi : jI k M 0 with
  | none =>
    rw [hi] at hf
    exact ⟨_, _, h.app hi, fun b w hb => mK ht hkt hk hb hf⟩
  | some p =>
    obtain ⟨p, x⟩ := p
    rw [hi] at hf
    have hg := (kM hi).2
    rw [Nat.sub_zero] at hg
    exact ⟨_, _, h.set hi, fun b w hb => mJ ht hkt hk hb hf (h.key hg)⟩
theorem aE0 {α : Type} {enc : α → Value} (ht : P.underlying t = some (.map kt et)) (hkt : P.underlying kt = some (.int .i64)) (k : Int) (hk : IsKey (.int .i64) (.int .i64 k)) {es : List MapEntry} {M : List (Int × α)} (h : MpI enc es M) (ck : Nat) :
    ∃ es', MpI enc es' (sI k M) ∧ ∀ (ty : TypeId) (b : Nat) (w : World), w.heap[b]? = some (.map es.toArray ck) → (Builtin.delete_ #[t, kt] ty #[.map (some b), .int .i64 k]).run P w = .ok (.tuple #[]) { w with heap := w.heap.setIfInBounds b (.map es'.toArray ck) } := by
  have hf := DP k 0 h
  cases hi : jI k M 0 with
  | none =>
    rw [hi] at hf
    refine ⟨es, by rw [BR hi]; exact h, fun ty b w hb => ?_⟩
    simp [Builtin.delete_, run_underlying ht, MapKept.run_getObj_map hb, MapKept.run_checkKey hkt hk, MapKept.run_findKey hkt hf, MapKept.run_setObj_map _ hb]
  | some p =>
    obtain ⟨p, x⟩ := p
    rw [hi] at hf
    have hg := (kM hi).2
    rw [Nat.sub_zero] at hg
    have hlt : p < es.length := by rw [h.len]; exact (List.getElem?_eq_some_iff.1 hg).1
    have hea : es.toArray.eraseIdxIfInBounds p = (es.eraseIdx p).toArray := by
      rw [List.eraseIdxIfInBounds_toArray]
    refine ⟨es.eraseIdx p, h.del hi, fun ty b w hb => ?_⟩
    simp [Builtin.delete_, run_underlying ht, MapKept.run_getObj_map hb, MapKept.run_checkKey hkt hk, MapKept.run_findKey hkt hf, MapKept.run_setObj_map _ hb, hea]
end
end Go.Vcg
namespace Go.Proofs.YtocidaibmadekaaGreatDoor
open Go.RowKit Go.Vcg Go.MapKept
def nN (ws : Int) (s : FS) (x : ByteArray) : FS := match iC s.scopes ws x with
  | some (a, b) => { s with done := eY ((a : Int), (b : Int)) ((iB (a : Int) s.cases).getD 0) s.done }
  | none => s
theorem VP (N : T → Wh → FS → FS) (t : T) (w : Wh) (s : FS) : tQ N t w s = (aR (bU t 0)).foldl (nN w.scope) (qF N (t.kids.drop 1) w (N (bU t 0) { w with decl := true } s)) := rfl
theorem VQ (ws : Int) (s : FS) (x : ByteArray) : (nN ws s x).scopes = s.scopes ∧ (nN ws s x).uses = s.uses ∧ (nN ws s x).funcs = s.funcs := by
  unfold nN
  split <;> exact ⟨rfl, rfl, rfl⟩
theorem yT (ws : Int) : ∀ (xs : List ByteArray) (s : FS), (xs.foldl (nN ws) s).scopes = s.scopes
  | [], s => rfl
  | x :: r, s => by
    rw [List.foldl_cons]
    exact (yT ws r _).trans (VQ ws s x).1
attribute [local irreducible] iB eY iC findF jQ fJ lX kW nN
attribute [local irreducible] fM cM cH bA bY cK anI fU eG G GC GQ GA bX Calls IntKind.wrap Int.decLt Int.decLe
theorem IS (N : T → Wh → FS → FS) (t : T) (hq : dF qS t) (h3 : t.op = 3) (hts : t.size ≤ 2000) (hN : ∀ k, dF qS k → k.size < t.size → NK N k ∧ NGs N k) (u : Value) (w0 : Wh) (s : FS) (μ : Mem) (xb cb hb db : Nat) (hk : KR μ t.kids u) (hB : BS s t.size) :
    zX 99 [.pointer (some ⟨xb, 0, none⟩), .agg (aD t u).toArray, WV w0] xb cb hb db s (tQ N t w0 s) μ (fun _ => True) := by
  intro w q hμ hR hO
  have hcnt := bG hO.diff
  have hsz := aP t
  have hk1 := hq.here.1.dec h3
  have hz1 := wE hk1
  obtain ⟨A, c, rfl, hcap, hget⟩ := hk.form
  obtain ⟨d0, hd0⟩ : ∃ d, t.kids[0]? = some d := ⟨_, List.getElem?_eq_getElem (by omega)⟩
  obtain ⟨ad, x0, rfl, hm0, ho0, hx0⟩ := hget 0 d0 hd0
  have hq0 := hq.kid (List.mem_of_getElem? hd0)
  rw [eR hd0] at hz1
  have hN0 := hN d0 hq0 (by omega)
  have hNr : ∀ k ∈ t.kids.drop 1, NK N k ∧ NGs N k := fun k hk => hN k (hq.kid (List.mem_of_mem_drop hk)) (by
    have : k.size ≤ szs t.kids := T.bN (List.mem_map.2 ⟨k, List.mem_of_mem_drop hk, rfl⟩)
    omega)
  have hdr := hk.rL hk1
  have hdl : (t.kids.drop 1).length = t.kids.length - 1 := List.length_drop
  obtain ⟨ws, wf, wd⟩ := w0
  generalize hs' : tQ N t ⟨ws, wf, wd⟩ s = s'
  rw [VP] at hs'
  dsimp only at hs'
  rw [eR hd0] at hs'
  have hB0 : BS s (d0.size + szs (t.kids.drop 1)) := hB.mono (by omega)
  have hB1 := BS.gr hB0 (hN0.2 ⟨ws, wf, true⟩ s)
  have hB2 := BS.gr (m := 0) (hB1.mono (by omega)) (kI (N := N) (t.kids.drop 1) (fun k hk => (hNr k hk).2) ⟨ws, wf, wd⟩ (N d0 ⟨ws, wf, true⟩ s))
  have hnl := iQ d0
  have hnm := fun (w : World) (μc : Mem) (hw : MOk μc w) (hle : MLe μ μc) => oC d0 w μc x0 hw (hx0.mono hle) (by omega)
  refine aS (args := [.pointer (some ⟨xb, 0, none⟩), .agg (aD t (.slice (some ad) t.kids.length c)).toArray, WV ⟨ws, wf, wd⟩]) Tryz.func99 rfl Tryz.ntmps99 (by simp) hμ hO ?_
  repeat' (first | refine KK ?_ | refine NB fun b => ?_ | fail)
  all_goals try (exfalso; first | fail)
  rename_i bn bw
  obtain ⟨bv, hbv⟩ : ∃ y, y = b := ⟨_, rfl⟩
  rw [← hbv]
  clear hbv
  refine pT (L' := .inl ⟨bv, 95, 3, idx 0 (qZ ⟨ws, wf, true⟩)⟩ :: .inl ⟨bw, 95, 3, idx 0 (qZ ⟨ws, wf, wd⟩)⟩ :: .inl ⟨bn, 24, 6, idx 0 (aD t (.slice (some ad) t.kids.length c))⟩ :: FB xb cb hb db s q) (by repeat first | exact cR _ | (refine bW ?_ ?_; focus ((refine eL.cells ?_; repeat first | exact cI | refine bR rfl ?_)))) ?_
  refine aC 7 _ (by kernel_rfl) rfl (List.Sublist.cons_cons _ (List.Sublist.cons_cons _ (List.Sublist.cons_cons _ (List.nil_sublist _)))) ?_
  all_goals refine DD 0 ?_
  all_goals (first | refine D1 1 ?_ | fail)
  all_goals (first | refine DD 2 ?_ | fail)
  all_goals (first | (refine DV (k := 3) (b := by exact U1 0) (c := ?_)) | fail)
  all_goals (first | (refine DV (k := 4) (b := by exact U4 hm0) (c := ?_)) | fail)
  all_goals (first | refine DD 5 ?_ | fail)
  all_goals ((refine D3 6 ?_; refine D5 ?_; refine CF 67 ?_; (with_reducible apply kQ 3); (iterate 3 exact rfl); ((with_reducible apply aU); kernel_rfl; (iterate 3 exact rfl)); exact rfl; (exact hR); (exact hN0.1 xb cb hb db _ ⟨ws, wf, true⟩ s _ hx0 (hB0.mono (by omega))); (rintro v6 μ6 i6 hle6 hR -); (dsimp only [List.cons_append, List.nil_append]); refine D9 ?_))
  all_goals refine D8 ?_
  repeat' (first | refine KK ?_ | fail)
  generalize N d0 ⟨ws, wf, true⟩ s = s1 at hR hs' hB1 hB2
  refine aC 6 _ (by kernel_rfl) rfl (List.Sublist.cons_cons _ (List.Sublist.cons_cons _ (List.Sublist.cons_cons _ (List.nil_sublist _)))) ?_
  all_goals refine DD 0 ?_
  all_goals (first | refine D1 1 ?_ | fail)
  all_goals (first | refine DD 2 ?_ | fail)
  all_goals (first | (refine DV (k := 3) (b := by ((with_reducible apply eE 1); (iterate 4 exact rfl); omega; omega)) (c := ?_)) | fail)
  all_goals (first | refine DD 4 ?_ | fail)
  all_goals ((refine D3 5 ?_; refine D5 ?_; refine CF 43 ?_; (with_reducible apply kQ 3); (iterate 3 exact rfl); ((with_reducible apply aU); kernel_rfl; (iterate 3 exact rfl)); exact rfl; (exact hR); (exact lL N (t.kids.drop 1) _ ⟨ws, wf, wd⟩ s1 _ xb cb hb db hNr (hdr.mono hle6) hB1); (rintro v7 μ7 i7 hle7 hR -); (dsimp only [List.cons_append, List.nil_append]); refine D9 ?_))
  all_goals refine D8 ?_
  generalize qF N (t.kids.drop 1) ⟨ws, wf, wd⟩ s1 = s2 at hR hs' hB2
  have hle67 := hle6.trans hle7
  have hm0 := hm0.mono hle67
  repeat' (first | refine KO ?_ | ((with_reducible apply C3); exact rfl; exact EN; (exact fun w μc hw hse => hnm w μc hw (hle67.trans hse.le)); intro v2; (with_reducible apply cP 0); exact rfl; rintro A2 c2 rfl hok2) | (refine KV (b := by first | exact U1 0 | exact U4 hm0) (c := ?_)) | refine KI ?_ | fail)
  all_goals try (exfalso; first | fail)
  refine jV rfl ?_
  intro μ2 hle2 hsh2
  have hS0 := SsV.iY (xs := aR d0) hsh2 rfl rfl
  obtain ⟨A3, c3, e3, hS, hc3⟩ := hS0
  cases e3
  refine aX (ι := Nat × FW) (fun j => j.1 ≤ (aR d0).length ∧ FR' j.2 (((aR d0).take j.1).foldl (nN ws) s2)) (fun j => (aR d0).length - j.1) (fun _ => μ2) (fun j => [(33, .int .i64 (j.1 : Int)), (32, .int .i64 ((aR d0).length : Int)), (31, .slice A2 (aR d0).length c2), (5, .pointer (some ⟨bw, 0, none⟩)), (0, .pointer (some ⟨xb, 0, none⟩))]) (fun j => .inl ⟨bw, 95, 3, idx 0 (qZ ⟨ws, wf, wd⟩)⟩ :: FB xb cb hb db (((aR d0).take j.1).foldl (nN ws) s2) j.2) (0, i7) ⟨Nat.zero_le _, hR⟩ (fun a w hs => hs.sel PU (by repeat first | exact aO _ (aO _ (cR _)) | (refine bH ?_ ?_; focus (exact eL.refl _)))) ?_
  rintro ⟨j, q0⟩ ⟨hj, hR⟩
  dsimp only at hj hR ⊢
  by_cases hjl : j < (aR d0).length
  · obtain ⟨ad3, y, rfl, hy, hm3⟩ := hS.get hjl
    have hnext := gL (nN ws) (l := s2) hy
    have hsc := yT ws ((aR d0).take j) s2
    generalize ((aR d0).take j).foldl (nN ws) s2 = st at hR hnext hsc ⊢
    have hfind := fun (w : World) (μc : Mem) (hw : MOk μc w) (h : ∀ y ∈ FB xb cb hb db st q0, Bk.sh y μc) => NE q0 st xb cb hb db hR (by rw [hsc]; have := hB2.sc.1; omega) (fun c hc => hB2.2 c (by rw [← hsc]; exact hc)) ws y w μc hw h
    have hg : nN ws st y = (match iC st.scopes ws y with | some (a, b) => { st with done := eY ((a : Int), (b : Int)) ((iB (a : Int) st.cases).getD 0) st.done } | none => st) := by unfold nN; rfl
    rw [hg] at hnext
    refine eO (congrArg _ (eX xb cb hb db st q0)) ?_
    repeat' (first | refine KO ?_ | (refine KV (b := by first | exact U1 j | exact U3 (hm3.at 0 rfl)) (c := ?_)) | fail)
    all_goals try (exfalso; first | fail)
    generalize iC st.scopes ws y = r at hfind hnext
    cases r with
    | none =>
      dsimp only [BK] at hfind hnext
      refine aC 15 _ (by kernel_rfl) rfl (List.Sublist.cons_cons _ (List.Sublist.cons_cons _ (List.Sublist.cons_cons _ (List.Sublist.cons_cons _ (List.Sublist.cons_cons _ (List.Sublist.cons_cons _ (List.Sublist.cons_cons _ (List.nil_sublist _)))))))) ?_
      all_goals refine DD 0 ?_
      all_goals refine DD 1 ?_
      all_goals refine DD 2 ?_
      all_goals refine DD 3 ?_
      all_goals refine DD 4 ?_
      all_goals refine DD 5 ?_
      all_goals refine DD 6 ?_
      all_goals ((refine D3 7 ?_; refine D5 ?_; (with_reducible apply F1 11); exact rfl; exact EN; (exact fun w μc hw hse => hfind w μc hw (fun y hy => hse.own y (by repeat (first | exact hy | apply List.mem_cons_of_mem)))); refine D9 ?_))
      all_goals refine DD 8 ?_
      all_goals refine DD 9 ?_
      all_goals refine DD 10 ?_
      all_goals refine DD 11 ?_
      all_goals refine DD 12 ?_
      all_goals refine DD 13 ?_
      all_goals refine DD 14 ?_
      all_goals refine D8 ?_
      all_goals repeat' (first | refine KK ?_ | fail)
      all_goals exact bD (j + 1, q0) ⟨by dsimp only; omega, by dsimp only; rw [hnext]; exact hR⟩ (by dsimp only; omega) rfl PU (by dsimp only; rw [hnext, eX]; exact (by repeat exact cR _))
    | some ab =>
      obtain ⟨a, k0⟩ := ab
      dsimp only [BK] at hfind hnext
      obtain ⟨okc, hlc⟩ := aAs (P := Tryz.prog) (et := 3) (by kernel_rfl) (a : Int) hR.ca
      obtain ⟨es', ck', hmp, hrun⟩ := aDz (P := Tryz.prog) (t := 59) (kt := 63) (et := 3) (by kernel_rfl) ((a : Int), (k0 : Int)) (by kernel_rfl) ((iB (a : Int) st.cases).getD 0) hR.dn q0.dc
      refine aC 15 _ (by kernel_rfl) rfl (List.Sublist.cons_cons _ (List.Sublist.cons_cons _ (List.Sublist.cons_cons _ (List.Sublist.cons_cons _ (List.Sublist.cons_cons _ (List.Sublist.cons_cons _ (List.Sublist.cons_cons _ (List.nil_sublist _)))))))) ?_
      all_goals refine DD 0 ?_
      all_goals refine DD 1 ?_
      all_goals refine DD 2 ?_
      all_goals refine DD 3 ?_
      all_goals refine DD 4 ?_
      all_goals refine DD 5 ?_
      all_goals refine DD 6 ?_
      all_goals ((refine D3 7 ?_; refine D5 ?_; (with_reducible apply F1 11); exact rfl; exact EN; (exact fun w μc hw hse => hfind w μc hw (fun y hy => hse.own y (by repeat (first | exact hy | apply List.mem_cons_of_mem)))); refine D9 ?_))
      all_goals refine DD 8 ?_
      all_goals refine DD 9 ?_
      all_goals refine DD 10 ?_
      all_goals refine DD 11 ?_
      all_goals refine DD 12 ?_
      all_goals refine DD 13 ?_
      all_goals refine DD 14 ?_
      all_goals refine D8 ?_
      all_goals repeat' (first | refine KK ?_ | fail)
      all_goals
        refine aC 14 _ (by kernel_rfl) rfl (List.Sublist.cons_cons _ (List.Sublist.cons_cons _ (List.Sublist.cons_cons _ (List.Sublist.cons_cons _ (List.Sublist.cons_cons _ (List.Sublist.cons_cons _ (List.Sublist.cons _ (List.nil_sublist _)))))))) ?_
        all_goals refine DD 0 ?_
        all_goals refine DD 1 ?_
        all_goals (first | refine D1 2 ?_ | fail)
        all_goals (first | refine DD 3 ?_ | fail)
        all_goals refine DD 4 ?_
        all_goals refine DD 5 ?_
        all_goals refine DD 6 ?_
        all_goals refine DD 7 ?_
        all_goals refine DD 8 ?_
        all_goals (first | refine D1 9 ?_ | fail)
        all_goals (first | refine DD 10 ?_ | fail)
        all_goals refine DD 11 ?_
        all_goals (first | (refine DV (k := 12) (b := by ((with_reducible apply gG); (iterate 4 exact rfl); (exact rfl); (repeat first | with_reducible exact jU | with_reducible apply jT); exact hlc)) (c := ?_)) | fail)
        all_goals ((refine D3 13 ?_; refine D5 ?_; (with_reducible apply KE (kv := .agg (kP ((a : Int), (k0 : Int))).toArray)); (iterate 4 exact rfl); (repeat first | with_reducible exact lS | with_reducible apply mW); exact hrun; refine D9 ?_))
        all_goals refine D8 ?_
      all_goals repeat' (first | refine KK ?_ | fail)
      all_goals exact bD (j + 1, { q0 with de := es', dc := ck' }) ⟨by dsimp only; omega, by dsimp only; rw [hnext]; exact ⟨hR.sc, hR.ca, hR.hd, hmp⟩⟩ (by dsimp only; omega) rfl PU (by dsimp only; rw [hnext, eX]; exact (by repeat exact cR _))
  · have hj2 : j = (aR d0).length := by omega
    subst hj2
    rw [List.take_of_length_le (Nat.le_refl _)] at hR ⊢
    repeat' (first | refine KK ?_ | fail)
    all_goals try (exfalso; first | fail)
    all_goals exact fR 1 q0 (by exact .inr rfl) hcnt rfl rfl hs' hR
end Go.Proofs.YtocidaibmadekaaGreatDoor
namespace Go.Proofs.YtocidaibmadekaaGreatDoor
open Go.RowKit Go.Vcg Go.MapKept
def rH (N : T → Wh → FS → FS) (t : T) (ws : Int) (w1 : Wh) (s : FS) (k : T × Nat) : FS :=
  if k.2 = 1 ∧ t.op ≠ 10 ∧ w1.scope ≠ ws then { N k.1 w1 { s with heads := eY w1.scope true s.heads } with heads := sI w1.scope (N k.1 w1 { s with heads := eY w1.scope true s.heads }).heads } else N k.1 w1 s
theorem TG (N : T → Wh → FS → FS) (t : T) (w : Wh) (s : FS) : sZ N t w s = (t.kids.zipIdx).foldl (rH N t w.scope (if (decide ((bU t 0).op = 2) && !decide ((bU t 0).n = 0)) = true then gV w (cH (bU t 0) []) s else w)) (if (decide ((bU t 0).op = 2) && !decide ((bU t 0).n = 0)) = true then eU 3 t.at' w (cH (bU t 0) []) s else s) := rfl
theorem EH {β : Type} (G : β → T × Nat → β) (s : β) {l : List T} {i : Nat} {k : T} (hik : l[i]? = some k) : ((l.take (i + 1)).zipIdx).foldl G s = G (((l.take i).zipIdx).foldl G s) (k, i) := by
  rw [List.take_add_one, hik, List.zipIdx_append, List.foldl_append]
  have hlt := (List.getElem?_eq_some_iff.1 hik).1
  simp [List.length_take, Nat.min_eq_left (Nat.le_of_lt hlt)]
theorem TY {G : FS → T × Nat → FS} (l : List T) (s : FS) (h : ∀ k ∈ l, ∀ i s, GrS (3 * k.size) s (G s (k, i))) : GrS (3 * szs l) s (l.zipIdx.foldl G s) := by
  have g2 := kN G (fun k => 3 * k.1.size) l.zipIdx s fun k hk s => h k.1 (oD hk) k.2 s
  rw [AB] at g2
  exact g2
attribute [local irreducible] iB eY sI iC findF jQ fJ lX kW rH eU gV
attribute [local irreducible] fM cM cH bA bY cK anI fU eG G GC GQ GA bX Calls IntKind.wrap Int.decLt Int.decLe
theorem IM (N : T → Wh → FS → FS) (t : T) (hq : dF qS t) (hop : t.op = 10 ∨ t.op = 11 ∨ t.op = 12) (hts : t.size ≤ 2000) (hN : ∀ k, dF qS k → k.size < t.size → NK N k ∧ NGs N k) (u : Value) (w0 : Wh) (s : FS) (μ : Mem) (xb cb hb db : Nat) (hk : KR μ t.kids u) (hB : BS s t.size) :
    zX 98 [.pointer (some ⟨xb, 0, none⟩), .agg (aD t u).toArray, WV w0] xb cb hb db s (sZ N t w0 s) μ (fun _ => True) := by
  intro w q hμ hR hO
  have hcnt := bG hO.diff
  have hsz := aP t
  have hll := dV t.kids
  have hk1 : 1 ≤ t.kids.length := hq.here.1.kc.one (by omega)
  obtain ⟨hb1, hb2⟩ := hB
  obtain ⟨A, c, rfl, hcap, hget⟩ := hk.form
  obtain ⟨d0, hd0⟩ : ∃ d, t.kids[0]? = some d := ⟨_, List.getElem?_eq_getElem (by omega)⟩
  obtain ⟨ad, x0, e0, hm0, ho0, hx0⟩ := hget 0 d0 hd0
  cases e0
  have hq0 := hq.kid (List.mem_of_getElem? hd0)
  have hd0s : d0.size ≤ szs t.kids := T.bN (List.mem_map.2 ⟨d0, List.mem_of_getElem? hd0, rfl⟩)
  have hds := aP d0
  have hlek : ∀ k ∈ t.kids, k.size < t.size := fun k hk => by
    have : k.size ≤ szs t.kids := T.bN (List.mem_map.2 ⟨k, hk, rfl⟩)
    omega
  obtain ⟨ws, wf, wd⟩ := w0
  generalize hs' : sZ N t ⟨ws, wf, wd⟩ s = s'
  rw [TG, eR hd0] at hs'
  have hvl := lK d0 []
  rw [List.length_nil] at hvl
  have hsm := fun (lv : Value) (μ : Mem) (h : s.scopes.length ≤ 8000) => qI 3 t.at' ⟨ws, wf, wd⟩ (cH d0 []) lv s μ xb cb hb db h
  have gg := mN (kind := 3) (at' := t.at') (w := ⟨ws, wf, wd⟩) (l := cH d0 []) s (by omega)
  have hsc0 : s.scopes.length ≤ 8000 := by unfold wtS at hb1; omega
  generalize hc : (decide (d0.op = 2) && !decide (d0.n = 0)) = cc at hs'
  obtain ⟨s1, hs1⟩ : ∃ y, (if cc = true then eU 3 t.at' ⟨ws, wf, wd⟩ (cH d0 []) s else s) = y := ⟨_, rfl⟩
  obtain ⟨w1, hw1⟩ : ∃ y, (if cc = true then gV ⟨ws, wf, wd⟩ (cH d0 []) s else ⟨ws, wf, wd⟩) = y := ⟨_, rfl⟩
  rw [hs1, hw1] at hs'
  have g1 : GrS 1 s s1 := by
    subst hs1
    cases cc
    · exact (GrS.refl s).mono (by omega)
    · exact gg
  have hB1 : BS s1 (szs t.kids) := ⟨by have := g1.wt; omega, g1.nm hb2⟩
  have hgG : ∀ i, GrS (3 * szs (t.kids.take i)) s1 (((t.kids.take i).zipIdx).foldl (rH N t ws w1) s1) := fun i => TY _ _ fun k hk i s => by
    have hkn := (hN k (hq.kid (List.mem_of_mem_take hk)) (hlek k (List.mem_of_mem_take hk))).2
    unfold rH
    dsimp only
    split
    · refine GrS.other (s1 := N k w1 { s with heads := eY w1.scope true s.heads }) ?_ rfl rfl rfl
      have ga : GrS 0 s { s with heads := eY w1.scope true s.heads } := (GrS.refl s).other rfl rfl rfl
      exact (ga.trans (hkn _ _)).mono (by omega)
    · exact hkn _ _
  refine aS (args := [.pointer (some ⟨xb, 0, none⟩), .agg (aD t (.slice (some ad) t.kids.length c)).toArray, WV ⟨ws, wf, wd⟩]) Tryz.func98 rfl Tryz.ntmps98 (by simp) hμ hO ?_
  repeat' (first | ((with_reducible show GC _ _ (Code.seq (Code.seq (Code.region 2 _ _) _) _) _ _ _ _); (apply bF)) | refine KK ?_ | refine NB fun b => ?_ | fail)
  all_goals try (exfalso; first | fail)
  rename_i bn
  obtain ⟨bw, hbw⟩ : ∃ y, y = b := ⟨_, rfl⟩
  rw [← hbw]
  clear hbw
  refine gcs (dY (ι := FW × Mem) (fun j => FR' j.1 s1 ∧ MLe μ j.2) (fun j => j.2) (fun _ => [(6, .int .i64 ws), (5, .pointer (some ⟨bw, 0, none⟩)), (4, .pointer (some ⟨bn, 0, none⟩)), (0, .pointer (some ⟨xb, 0, none⟩))]) (fun j => .inl ⟨bw, 95, 3, idx 0 (qZ w1)⟩ :: .inl ⟨bn, 24, 6, idx 0 (aD t (.slice (some ad) t.kids.length c))⟩ :: FB xb cb hb db s1 j.1) ?_ ?_)
  · by_cases hc1 : d0.op = 2 ∧ d0.n ≠ 0
    · have ecc : cc = true := by rw [← hc]; simp [hc1.1, hc1.2]
      subst ecc
      rw [if_pos rfl] at hs1 hw1
      subst hs1 hw1
      have hvs := fun (μc : Mem) (hle : MLe μ μc) => tT d0 x0 (.slice none 0 0) [] μc (hx0.mono hle) (hq0.here.1.vn hc1.1) (hq0.here.1.kc.sub hc1.1) (by omega) (by rw [List.length_nil]; omega)
      repeat' (first | refine KO ?_ | (refine KV (b := by first | exact U1 0 | exact U4 hm0) (c := ?_)) | refine KI ?_ | refine NB fun b => ?_ | refine KG ?_ | fail)
      all_goals try (exfalso; first | fail)
      all_goals
        refine aC 8 _ (by kernel_rfl) rfl (List.Sublist.cons_cons _ (List.Sublist.cons _ (List.Sublist.cons_cons _ (List.nil_sublist _)))) ?_
        all_goals refine DD 0 ?_
        all_goals refine DD 1 ?_
        all_goals refine DD 2 ?_
        all_goals refine DD 4 ?_
        refine dW 3 5 (by kernel_rfl) ?dr21_3 ?dr21_5
        case' dr21_3 =>
          (((with_reducible apply dL); (iterate 4 exact rfl); (((with_reducible apply oX); exact rfl; (repeat first | with_reducible exact cU | with_reducible apply gJ); exact rfl))))
          all_goals ((refine D3 5 ?_; refine D5 ?_; ((refine CF 64 ?_; (refine tF 40 4 ?_); (with_reducible apply oW (bl := ([] : List Bd)) 0); (iterate 3 exact rfl); ((with_reducible apply fW); kernel_rfl; exact rfl; exact rfl); exact rfl; (exact hvs _ (MLe.refl _)); (intro v5 μ5 hle5); (dsimp only [dG]))); refine D9 ?_))
          all_goals ((refine D3 6 ?_; refine D5 ?_; ((refine CF 96 ?_; (refine lF (bH (.refl _) (bH (.refl _) (bH (.refl _) (cR _)))) ?_); (with_reducible apply oT (bl := cH d0 []) 3); (iterate 3 exact rfl); ((with_reducible apply iH); kernel_rfl; (iterate 5 exact rfl)); exact rfl; (exact hR); (exact hsm _ _ hsc0); (rintro v1 μ1 i1 hle1 hR rfl); (dsimp only [List.cons_append, List.nil_append]))); refine D9 ?_))
          all_goals ((refine D3 7 ?_; refine D5 ?_; refine Y0 ?_; refine D9 ?_))
          all_goals refine D8 ?_
        case' dr21_5 =>
          ((refine D5 ?_; ((refine CF 64 ?_; (refine tF 40 4 ?_); (with_reducible apply oW (bl := ([] : List Bd)) 0); (iterate 3 exact rfl); ((with_reducible apply fW); kernel_rfl; exact rfl; exact rfl); exact rfl; (exact hvs _ (MLe.refl _)); (intro v5 μ5 hle5); (dsimp only [dG]))); refine D9 ?_))
          all_goals ((refine D3 3 ?_; (with_reducible apply dL); (iterate 4 exact rfl); (((with_reducible apply oX); exact rfl; (repeat first | with_reducible exact cU | with_reducible apply gJ); exact rfl))))
          all_goals ((refine D3 6 ?_; refine D5 ?_; ((refine CF 96 ?_; (refine lF (bH (.refl _) (bH (.refl _) (bH (.refl _) (cR _)))) ?_); (with_reducible apply oT (bl := cH d0 []) 3); (iterate 3 exact rfl); ((with_reducible apply iH); kernel_rfl; (iterate 5 exact rfl)); exact rfl; (exact hR); (exact hsm _ _ hsc0); (rintro v1 μ1 i1 hle1 hR rfl); (dsimp only [List.cons_append, List.nil_append]))); refine D9 ?_))
          all_goals ((refine D3 7 ?_; refine D5 ?_; refine Y0 ?_; refine D9 ?_))
          all_goals refine D8 ?_
      all_goals repeat' (first | fail)
      all_goals exact cD (i1, _) ⟨hR, hle5.trans hle1⟩ rfl PU (by repeat first | exact aO _ (cR _) | (refine bH ?_ ?_; focus ((refine eL.cells ?_; repeat first | exact cI | refine bR rfl ?_))))
    · have ecc : cc = false := by
        rw [← hc]
        by_cases h2 : d0.op = 2
        · have : d0.n = 0 := by
            by_cases h : d0.n = 0
            · exact h
            · exact absurd ⟨h2, h⟩ hc1
          simp [this]
        · simp [h2]
      subst ecc
      rw [if_neg (by simp)] at hs1 hw1
      subst hs1 hw1
      repeat' (first | refine KO ?_ | (refine KV (b := by first | exact U1 0 | exact U4 hm0) (c := ?_)) | refine KI ?_ | refine NB fun b => ?_ | ((refine KB ?_ ?_ <;> intro hp)) | refine KG ?_ | fail)
      all_goals try (exfalso; first | fail)
      all_goals exact cD (q, _) ⟨hR, MLe.refl _⟩ rfl PU (by repeat exact aO _ (cR _))
  rintro ⟨q1, μ1⟩ ⟨hR, hle1⟩
  dsimp only at hR hle1 ⊢
  repeat' (first | refine KK ?_ | fail)
  refine aX (ι := Nat × Mem × FW) (fun j => j.1 ≤ t.kids.length ∧ MLe μ j.2.1 ∧ FR' j.2.2 (((t.kids.take j.1).zipIdx).foldl (rH N t ws w1) s1)) (fun j => t.kids.length - j.1) (fun j => j.2.1) (fun j => [(35, .int .i64 (j.1 : Int)), (34, .int .i64 (t.kids.length : Int)), (33, .slice (some ad) t.kids.length c), (6, .int .i64 ws), (5, .pointer (some ⟨bw, 0, none⟩)), (4, .pointer (some ⟨bn, 0, none⟩)), (0, .pointer (some ⟨xb, 0, none⟩))]) (fun j => .inl ⟨bw, 95, 3, idx 0 (qZ w1)⟩ :: .inl ⟨bn, 24, 6, idx 0 (aD t (.slice (some ad) t.kids.length c))⟩ :: FB xb cb hb db (((t.kids.take j.1).zipIdx).foldl (rH N t ws w1) s1) j.2.2) (0, μ1, q1) ⟨Nat.zero_le _, hle1, hR⟩ (fun a w hs => hs.sel PU (by repeat exact cR _)) ?_
  rintro ⟨i, μ0, q0⟩ ⟨hi, hle, hR⟩
  dsimp only at hi hle hR ⊢
  by_cases hlt : i < t.kids.length
  · obtain ⟨k, hkk⟩ : ∃ k, t.kids[i]? = some k := ⟨_, List.getElem?_eq_getElem hlt⟩
    obtain ⟨ad5, x, e5, hm5, hox, hkx⟩ := hget i k hkk
    cases e5
    have hmm := hm5.mono hle
    have hmem := List.mem_of_getElem? hkk
    obtain ⟨hn1, -⟩ := hN k (hq.kid hmem) (hlek k hmem)
    have hsp := eP hkk
    have hsb := BS.gr (hB1.mono (m := szs (t.kids.take i) + k.size) (by omega)) (hgG i)
    have hnext := EH (rH N t ws w1) s1 hkk
    generalize ((t.kids.take i).zipIdx).foldl (rH N t ws w1) s1 = st at hR hsb hnext ⊢
    have hge : rH N t ws w1 st (k, i) = (if i = 1 ∧ t.op ≠ 10 ∧ w1.scope ≠ ws then { N k w1 { st with heads := eY w1.scope true st.heads } with heads := sI w1.scope (N k w1 { st with heads := eY w1.scope true st.heads }).heads } else N k w1 st) := by unfold rH; rfl
    rw [hge] at hnext
    by_cases hh : i = 1 ∧ t.op ≠ 10 ∧ w1.scope ≠ ws
    · rw [if_pos hh] at hnext
      obtain ⟨hi1, hop2, hws⟩ := hh
      obtain ⟨es', ck', hmp, hrun⟩ := aAo (P := Tryz.prog) (enc := HM) (t := 58) (kt := 3) (et := 4) (by kernel_rfl) (by kernel_rfl) w1.scope (by exact rfl) true hR.hd q0.hc
      have hcall := hn1 xb cb hb db x w1 { st with heads := eY w1.scope true st.heads } _ (hkx.mono hle) (hsb.other rfl rfl rfl)
      refine eO (congrArg (List.cons _) (congrArg (List.cons _) (eX xb cb hb db st q0))) ?_
      repeat' (first | refine KO ?_ | (refine KV (b := by first | exact U1 i | exact U4 hmm) (c := ?_)) | refine KI ?_ | refine NB fun b => ?_ | refine KG ?_ | fail)
      all_goals try (exfalso; first | fail)
      refine aC 7 _ (by kernel_rfl) rfl (List.Sublist.cons_cons _ (List.Sublist.cons_cons _ (List.Sublist.cons_cons _ (List.Sublist.cons_cons _ (List.Sublist.cons_cons _ (List.Sublist.cons_cons _ (List.Sublist.cons_cons _ (List.Sublist.cons _ (List.nil_sublist _))))))))) ?_
      all_goals refine DD 0 ?_
      all_goals refine DD 1 ?_
      all_goals refine DD 2 ?_
      all_goals refine DD 3 ?_
      all_goals refine DD 4 ?_
      all_goals refine DD 5 ?_
      all_goals ((refine D3 6 ?_; refine D5 ?_; (with_reducible apply KE (kv := .int .i64 w1.scope)); (iterate 4 exact rfl); (repeat first | with_reducible exact lS | with_reducible apply mW); exact hrun; refine D9 ?_))
      all_goals refine D8 ?_
      repeat' (first | ((with_reducible show GC _ _ (Code.seq (Code.region 11 _ _) _) _ _ _ _); (apply bF)) | refine KK ?_ | fail)
      refine gcs (eO (L' := _ :: _ :: _ :: FB xb cb hb db { st with heads := eY w1.scope true st.heads } { q0 with he := es', hc := ck' }) rfl ?_)
      have hR : FR' { q0 with he := es', hc := ck' } { st with heads := eY w1.scope true st.heads } := ⟨hR.sc, hR.ca, hmp, hR.dn⟩
      repeat' (first | refine KO ?_ | (refine CF 67 ?_; (with_reducible apply kQ 3); (iterate 3 exact rfl); ((with_reducible apply aU); kernel_rfl; (iterate 3 exact rfl)); exact rfl; (exact hR); (exact hcall); (rintro v1 μ1 i1 hle1 hR -); (dsimp only [List.cons_append, List.nil_append])) | refine KI ?_ | fail)
      all_goals try (exfalso; first | fail)
      generalize N k w1 { st with heads := eY w1.scope true st.heads } = s5 at hR hnext ⊢
      obtain ⟨es2, hmd, hdel⟩ := aE0 (P := Tryz.prog) (enc := HM) (t := 58) (kt := 3) (et := 4) (by kernel_rfl) (by kernel_rfl) w1.scope (by exact rfl) hR.hd i1.hc
      refine eO (congrArg (List.cons _) (congrArg (List.cons _) (congrArg (List.cons _) (eX xb cb hb db s5 i1)))) ?_
      refine aC 7 _ (by kernel_rfl) rfl (List.Sublist.cons_cons _ (List.Sublist.cons_cons _ (List.Sublist.cons_cons _ (List.Sublist.cons_cons _ (List.Sublist.cons_cons _ (List.Sublist.cons_cons _ (List.Sublist.cons_cons _ (List.Sublist.cons _ (List.nil_sublist _))))))))) ?_
      all_goals refine DD 0 ?_
      all_goals refine DD 1 ?_
      all_goals refine DD 2 ?_
      all_goals refine DD 3 ?_
      all_goals refine DD 4 ?_
      all_goals refine DD 5 ?_
      all_goals ((refine D3 6 ?_; refine D5 ?_; (with_reducible apply aCq); (iterate 3 exact rfl); (repeat first | with_reducible exact lS | with_reducible apply mW); exact hdel _; refine D9 ?_))
      all_goals refine D8 ?_
      all_goals repeat' (first | refine KK ?_ | fail)
      all_goals exact bD (i + 1, μ1, { i1 with he := es2 }) ⟨by dsimp only; omega, hle.trans hle1, by dsimp only; rw [hnext]; exact ⟨hR.sc, hR.ca, hmd, hR.dn⟩⟩ (by dsimp only; omega) rfl PU (by dsimp only; rw [hnext, eX]; exact (by repeat exact aO _ (cR _)))
    · rw [if_neg hh] at hnext
      have hcall := hn1 xb cb hb db x w1 st _ (hkx.mono hle) hsb
      rw [← hnext] at hcall
      repeat' (first | refine KO ?_ | (refine CF 67 ?_; (with_reducible apply kQ 3); (iterate 3 exact rfl); ((with_reducible apply aU); kernel_rfl; (iterate 3 exact rfl)); exact rfl; (exact hR); (exact hcall); (rintro v1 μ1 i1 hle1 hR -); (dsimp only [List.cons_append, List.nil_append])) | (refine KV (b := by first | exact U1 i | exact U4 hmm) (c := ?_)) | refine KI ?_ | refine NB fun b => ?_ | ((refine KB ?_ ?_ <;> intro hp)) | refine KG ?_ | fail)
      all_goals try (exfalso; first | fail)
      all_goals exact bD (i + 1, μ1, i1) ⟨by dsimp only; omega, hle.trans hle1, hR⟩ (by dsimp only; omega) rfl PU (by repeat exact aO _ (cR _))
  · have hil : i = t.kids.length := by omega
    subst hil
    rw [List.take_of_length_le (Nat.le_refl _)] at hR ⊢
    repeat' (first | refine KK ?_ | fail)
    all_goals try (exfalso; first | fail)
    all_goals exact fR 2 q0 (by exact .inr rfl) hcnt rfl rfl hs' hR
end Go.Proofs.YtocidaibmadekaaGreatDoor
