/- Package scope: number, walked. No statement of the seat is proved here. -/
import Derived.Test.YtocidaibmadekaaGreatDoorQah
set_option maxRecDepth 20000
set_option maxHeartbeats 2000000
namespace Go.Vcg
open Go.RowKit
section
variable {P : Program} {X : Ctx} {ops : Array Oper} {Q : Exit → Act → World → Prop} {rest : List Oper} {μ : Mem} {l : aI} {L : List Bk}
variable {ty : TypeId} {pos : String} {af : Array Edge} {gd : Option (Nat × Bool)} {ds : Option Nat}
theorem jC {x q : Operand} {t : TypeId} {o1 o2 n g cap m e s : Nat} {xs : List Value} {v : Value} (i : Nat) (hw : cV ops l ⟨none, .store t q x, ty, pos, af, gd⟩ = some true) (hsz : dR P t = some n)
    (hi : dE L i = some (.inr ⟨.slice (some ⟨g, 0, none⟩) m cap, e, s, m, xs⟩)) (hq : ev l q = some (.pointer (some ((Addr.add ⟨g, 0, none⟩ o1).add o2)))) (hx : ev l x = some v) (hlen : v.cells.toList.length = n) (hone : v.cells.toList.all (·.oneCell') = true)
    (hfit : o1 + o2 + n ≤ xs.length)
    (h : G P X ops Q rest μ l (dG L i (.inr ⟨.slice (some ⟨g, 0, none⟩) m cap, e, s, m, xs.take (o1 + o2) ++ v.cells.toList ++ xs.drop (o1 + o2 + n)⟩))) : G P X ops Q (⟨none, .store t q x, ty, pos, af, gd⟩ :: rest) μ l L :=
  HB i hw hsz hi (hq.trans (by rw [iE])) hx hlen hone hfit h
theorem cJ {x : Operand} {v : Value} {t : TypeId} {g n cap o1 o2 : Nat} {e s : TypeId} {xs : List Value} (i : Nat) (hag : jH P t = some false)
    (hi : dE L i = some (.inr ⟨.slice (some ⟨g, 0, none⟩) n cap, e, s, n, xs⟩)) (hx : ev l x = some (.pointer (some ((Addr.add ⟨g, 0, none⟩ o1).add o2)))) (hv : xs[o1 + o2]? = some v) : Val P μ l L ⟨ds, .load t x, ty, pos, af, gd⟩ v :=
  IC i hag hi (hx.trans (by rw [iE])) hv
end
theorem cR : ∀ L : List Bk, Sel L L
  | [] => .nil _
  | x :: r => bW (eL.refl x) (cR r)
theorem rT : ∀ a b : List Bk, splitB a.length (a ++ b) = some (a, b)
  | [], b => rfl
  | x :: a, b => by
    show (match splitB a.length (a ++ b) with | some (p, q) => some (x :: p, q) | none => none) = _
    rw [rT a b]
end Go.Vcg
namespace Go.Proofs.YtocidaibmadekaaGreatDoor
open Go.RowKit Go.Vcg Go.MapKept
theorem fK {α : Type} {enc : α → List Value} {s : Nat} (he : ∀ x, (enc x).length = s) : ∀ (xs : List α) (i k : Nat) (x : α), xs[i]? = some x → k < s → (xs.flatMap enc)[i * s + k]? = (enc x)[k]?
  | [], i, k, x, h, _ => by simp at h
  | y :: r, 0, k, x, h, hk => by
    cases h
    rw [List.flatMap_cons, List.getElem?_append_left (by rw [he]; omega)]
    congr 1
    omega
  | y :: r, i + 1, k, x, h, hk => by
    rw [List.flatMap_cons, List.getElem?_append_right (by rw [he, Nat.add_mul]; omega), he, ← fK he r i k x h hk]
    congr 1
    rw [Nat.add_mul]
    omega
theorem lY {α : Type} {enc : α → List Value} {s : Nat} (he : ∀ x, (enc x).length = s) {vs : List Value} {k n : Nat} (hk : k + n ≤ s) {y : α} : ∀ (xs : List α) (i : Nat) (x : α), xs[i]? = some x → enc y = (enc x).take k ++ vs ++ (enc x).drop (k + n) →
    (xs.flatMap enc).take (i * s + k) ++ vs ++ (xs.flatMap enc).drop (i * s + k + n) = (xs.set i y).flatMap enc
  | [], i, x, h, _ => by simp at h
  | z :: r, 0, x, h, hy => by
    cases h
    rw [List.set_cons_zero, List.flatMap_cons, List.flatMap_cons, Nat.zero_mul, Nat.zero_add, List.take_append_of_le_length (by rw [he]; omega), List.drop_append_of_le_length (by rw [he]; omega), hy]
    simp
  | z :: r, i + 1, x, h, hy => by
    have ih := lY he (vs := vs) hk r i x h hy
    rw [List.set_cons_succ, List.flatMap_cons, List.flatMap_cons, ← ih, Nat.add_mul, Nat.one_mul, show i * s + s + k = (enc z).length + (i * s + k) by rw [he]; omega, List.take_length_add_append, show (enc z).length + (i * s + k) + n = (enc z).length + (i * s + k + n) by omega, List.drop_length_add_append]
    simp
theorem ND : ∀ l : List Bd, (l.flatMap iU).length = l.length * 4
  | [] => rfl
  | b :: r => by
    have := ND r
    simp only [List.flatMap_cons, List.length_append, List.length_cons, List.length_nil, this]
    omega
abbrev Fm := Value × List Bd
abbrev yO (f : Fm) : Bk := .inr ⟨f.1, 40, 4, f.2.length, f.2.flatMap iU⟩
def eG (fs : List Fm) : List Bk := fs.map yO
theorem FJ {f : Int} {n : Nat} : ∀ {M : List (Int × Nat)} {i : Nat} {p : Nat × Nat}, lD f M i = some p → (nY f n M).length = M.length
  | [], _, _, h => by cases h
  | (g, k) :: r, i, p, h => by
    unfold lD at h
    unfold nY
    by_cases hg : f = g
    · rw [if_pos hg]; rfl
    · rw [if_neg hg] at h ⊢
      simp only [List.length_cons, FJ h]
theorem tM {fs : List Fm} {i : Nat} {f : Fm} (h : fs[i]? = some f) : (eG fs)[i]? = some (yO f) := by unfold eG; rw [List.getElem?_map, h]; rfl
theorem HJ (fs : List Fm) (i : Nat) (f : Fm) : eG (fs.set i f) = (eG fs).set i (yO f) := by unfold eG; rw [List.map_set]
theorem HK (fs : List Fm) : (eG fs).length = fs.length := List.length_map ..
def LS (ps : List Sc) (fs0 : List Fm) (i : Nat) (fs : List Fm) : Prop := fs.length = fs0.length ∧ ∀ (j : Nat) (f0 : Fm) (s : Sc), fs0[j]? = some f0 → ps[j]? = some s → fs[j]? = some (f0.1, if j < i then (uF (ps.take j) s).names else f0.2)
theorem QP {ps : List Sc} {fs0 fs : List Fm} {i : Nat} {f0 : Fm} {s : Sc} (h : LS ps fs0 i fs) (h0 : fs0[i]? = some f0) (hs : ps[i]? = some s) : LS ps fs0 (i + 1) (fs.set i (f0.1, (uF (ps.take i) s).names)) := by
  refine ⟨by rw [List.length_set]; exact h.1, fun j f t hf ht => ?_⟩
  have hlt : i < fs.length := by rw [h.1]; exact (List.getElem?_eq_some_iff.1 h0).1
  by_cases hj : i = j
  · subst hj
    rw [h0] at hf
    rw [hs] at ht
    cases hf
    cases ht
    rw [List.getElem?_set_self hlt, if_pos (by omega)]
  · rw [List.getElem?_set_ne hj, h.2 j f t hf ht]
    congr 2
    by_cases h2 : j < i
    · rw [if_pos h2, if_pos (by omega)]
    · rw [if_neg h2, if_neg (by omega)]
theorem XQ {l : List Bd} {k : Nat} {b : Bd} (h : l[k]? = some b) (c : Nat) : (eV 0 c (l.take k) ++ l.drop k).set k { b with slot := if b.held = true then (dP (l.take k) : Int) else ((c + (k - dP (l.take k)) : Nat) : Int) } = eV 0 c (l.take (k + 1)) ++ l.drop (k + 1) := by
  obtain ⟨h1, h2⟩ := List.getElem?_eq_some_iff.1 h
  have hlen : (eV 0 c (l.take k)).length = k := by rw [lC, List.length_take]; omega
  rw [JH h, List.set_append_right _ _ (by omega), hlen, Nat.sub_self, List.drop_eq_getElem_cons h1, List.set_cons_zero, List.append_assoc]
  rfl
theorem XT {l : List Bd} {k : Nat} {b : Bd} (h : l[k]? = some b) (c : Nat) : (eV 0 c (l.take k) ++ l.drop k)[k]? = some b := by
  have hlt := (List.getElem?_eq_some_iff.1 h).1
  have hlen : (eV 0 c (l.take k)).length = k := by rw [lC, List.length_take]; omega
  rw [List.getElem?_append_right (by omega), hlen, Nat.sub_self, List.getElem?_drop, Nat.add_zero]
  exact h
theorem XR (l : List Bd) (k c : Nat) : (eV 0 c (l.take k) ++ l.drop k).length = l.length := by
  rw [List.length_append, lC, ← List.length_append, List.take_append_drop]
theorem TH {P : Program} {et : TypeId} (hz : gB P et = some (.int .i64 0)) (f : Int) (M : List (Int × Nat)) : ∃ ok, iS P et (Instr.findNow (.int .i64) (.int .i64 f) (mkM M 0) 0) = some (.int .i64 ((getM f M : Nat) : Int), ok) := by
  rw [tL]
  unfold getM
  cases lD f M 0 with
  | none => exact ⟨false, by simp [iS, hz]⟩
  | some p => exact ⟨true, rfl⟩
def base (ps : List Sc) (i : Nat) (f : Int) : Nat := (if f = 0 then 1 else 0) + iZ f (ps.take i)
attribute [local irreducible] eG base dP iZ eQ findF eV uH uF G GC GQ GA bX Calls IntKind.wrap Int.decLt Int.decLe
theorem FQ (ps : List Sc) (cs : List (Sc × Value)) (fs : List Fm) (g cap : Nat) (w : World) (μ : Mem) (hμ : MOk μ w) (hcs : scs cs = ps) (hlen : fs.length = cs.length) (hl : ps.length ≤ 9000) (hnl : ∀ s ∈ ps, s.names.length ≤ 10000000)
    (hrel : ∀ (j : Nat) (c : Sc × Value) (f : Fm), cs[j]? = some c → fs[j]? = some f → c.2 = f.1 ∧ f.2 = c.1.names)
    (hO : Go.Vcg.Own μ (.inr ⟨.slice (some ⟨g, 0, none⟩) cs.length cap, 43, 5, cs.length, cs.flatMap cX⟩ :: eG fs) w) :
    Calls Tryz.prog 32 #[.slice (some ⟨g, 0, none⟩) cs.length cap] w fun e w' => ∃ (v : Value) (μ' : Mem) (i : List Fm), e = .returned v ∧ fY (eS (.inr ⟨.slice (some ⟨g, 0, none⟩) cs.length cap, 43, 5, cs.length, cs.flatMap cX⟩ :: eG fs)) w w' μ (.inr ⟨.slice (some ⟨g, 0, none⟩) cs.length cap, 43, 5, cs.length, cs.flatMap cX⟩ :: eG i) μ' ∧ (v = .slice (some ⟨g, 0, none⟩) cs.length cap ∧ LS ps fs ps.length i) := by
  have hcnt := bG hO.diff
  have hcl : ps.length = cs.length := by rw [← hcs]; exact List.length_map ..
  have he5 : ∀ x : Sc × Value, (cX x).length = 5 := fun _ => rfl
  have he4 : ∀ x : Bd, (iU x).length = 4 := fun _ => rfl
  refine aS (args := [.slice (some ⟨g, 0, none⟩) cs.length cap]) Tryz.func32 rfl Tryz.ntmps32 (by simp) hμ hO ?_
  repeat' (first | (((with_reducible apply tI); (exact .inl rfl); (iterate 6 exact rfl); (exact rfl); (repeat with_reducible exact lS); exact rfl)) | refine KK ?_ | ((with_reducible apply DK); exact rfl; exact rfl; intro b) | fail)
  obtain ⟨bm, hbm⟩ : ∃ y, y = b := ⟨_, rfl⟩
  rw [← hbm]
  clear hbm
  refine aX (ι := Nat × List (Int × Nat) × List Fm) (fun q => q.1 ≤ cs.length ∧ (∀ f, getM f q.2.1 = base ps q.1 f) ∧ LS ps fs q.1 q.2.2) (fun q => cs.length - q.1) (fun _ => μ) (fun q => [(12, .int .i64 (q.1 : Int)), (11, .int .i64 (cs.length : Int)), (3, .map (some bm)), (0, .slice (some ⟨g, 0, none⟩) cs.length cap)]) (fun q => .mp ⟨bm, mkM q.2.1 0, (q.2.1 : List (Int × Nat)).length⟩ :: .inr ⟨.slice (some ⟨g, 0, none⟩) cs.length cap, 43, 5, cs.length, cs.flatMap cX⟩ :: eG q.2.2) (0, [(0, 1)], fs) ⟨Nat.zero_le _, fun f => by
      rw [base, List.take_zero, iZ, DH, lD]
      by_cases h : f = 0
      · rw [if_pos h, if_pos h]; rfl
      · rw [if_neg h, if_neg h]; rfl, rfl, fun j f0 s h1 h2 => by rw [if_neg (by omega)]; exact h1⟩ (fun a w hs => hs.sel PU (bW (eL.refl _) (bW (eL.refl _) (cR _)))) ?_
  rintro ⟨i, M, fs2⟩ ⟨hi, hM, hF⟩
  dsimp only at hi hM hF ⊢
  by_cases hlt : i < cs.length
  · obtain ⟨cc, hc⟩ : ∃ cc, cs[i]? = some cc := ⟨_, List.getElem?_eq_getElem hlt⟩
    obtain ⟨f0, hf0⟩ : ∃ f0, fs[i]? = some f0 := ⟨_, List.getElem?_eq_getElem (by omega)⟩
    have hsi : ps[i]? = some cc.1 := by rw [← hcs]; exact gR hc
    obtain ⟨hr1, hr2⟩ := hrel i cc f0 hc hf0
    have hf2 := hF.2 i f0 cc.1 hf0 hsi
    rw [if_neg (by omega), hr2] at hf2
    obtain ⟨s, v⟩ := cc
    dsimp only at hr1 hr2 hsi hf2
    rw [← hr1] at hf2
    have hnm := hnl s (List.mem_of_getElem? hsi)
    refine lI (fA (F := [_, _]) (tM hf2)) ?_
    obtain ⟨R, hR⟩ : ∃ R, (eG fs2).eraseIdx i = R := ⟨_, rfl⟩
    rw [hR]
    dsimp only [List.cons_append, List.nil_append, yO]
    refine fG 0 rfl ?_
    rintro A4 c4 rfl hok4
    have hcv : (cs.flatMap cX)[i * 5 + 4]? = some (.slice A4 s.names.length c4) := by rw [fK he5 cs i 4 _ hc (by omega)]; rfl
    have hcf : (cs.flatMap cX)[i * 5 + 1]? = some (.int .i64 s.fn) := by rw [fK he5 cs i 1 _ hc (by omega)]; rfl
    repeat' (first | refine KO ?_ | (refine KV (b := by first | exact U1 i | ((with_reducible apply cJ 2); (iterate 3 exact rfl); exact hcv)) (c := ?_)) | refine KI ?_ | fail)
    all_goals try (exfalso; first | fail)
    have hb0 : base ps i s.fn ≤ 90000000001 := by
      have := tB s.fn ps hnl i hl
      unfold base
      split <;> omega
    refine aX (ι := Nat × Nat × List (Int × Nat) × List Bd) (fun q => q.1 ≤ s.names.length ∧ q.2.1 = dP (s.names.take q.1) ∧ (∀ f, getM f q.2.2.1 = base ps i f + if f = s.fn then q.1 - q.2.1 else 0) ∧ q.2.2.2 = eV 0 (base ps i s.fn) (s.names.take q.1) ++ s.names.drop q.1) (fun q => s.names.length - q.1) (fun _ => μ) (fun q => [(21, .int .i64 (q.1 : Int)), (20, .int .i64 (s.names.length : Int)), (5, .int .i64 (q.2.1 : Int)), (4, .int .i64 (i : Int)), (12, .int .i64 (i : Int)), (11, .int .i64 (cs.length : Int)), (3, .map (some bm)), (0, .slice (some ⟨g, 0, none⟩) cs.length cap)]) (fun q => .inr ⟨.slice A4 s.names.length c4, 40, 4, s.names.length, q.2.2.2.flatMap iU⟩ :: .mp ⟨bm, mkM q.2.2.1 0, (q.2.2.1 : List (Int × Nat)).length⟩ :: .inr ⟨.slice (some ⟨g, 0, none⟩) cs.length cap, 43, 5, cs.length, cs.flatMap cX⟩ :: R) (0, 0, M, s.names) ⟨Nat.zero_le _, (xZ _).symm, fun f => by rw [hM f]; split <;> simp, by rw [JG, List.drop_zero, List.nil_append]⟩ (fun a w hs => hs.sel PU (cR _)) ?_
    rintro ⟨k, h, M2, bl⟩ ⟨hk, hh, hM2, hbl⟩
    dsimp only at hk hh hM2 hbl ⊢
    have hhk := yA s.names k
    rw [← hh] at hhk
    have hbn : bl.length = s.names.length := by rw [hbl]; exact XR _ _ _
    by_cases hkl : k < s.names.length
    · rcases hok4.form with ⟨-, h0, -⟩ | ⟨g4, rfl⟩
      · exfalso; omega
      obtain ⟨x, hx⟩ : ∃ x, s.names[k]? = some x := ⟨_, List.getElem?_eq_getElem hkl⟩
      have hset := XQ hx (base ps i s.fn)
      have hxk := XT hx (base ps i s.fn)
      have hh2 := yB hx
      rw [← hbl, ← hh] at hset
      rw [← hbl] at hxk
      rw [← hh] at hh2
      obtain ⟨nm, kd, hd, sl⟩ := x
      dsimp only at hset hh2
      have hheld : (bl.flatMap iU)[k * 4 + 2]? = some (.bool hd) := by rw [fK he4 bl k 2 _ hxk (by omega)]; rfl
      have hfl := ND bl
      cases hd
      · rw [if_neg (by simp)] at hset hh2
        obtain ⟨ok, hlook⟩ := TH (P := Tryz.prog) (et := 3) (by kernel_rfl) s.fn M2
        have hgm := hM2 s.fn
        rw [if_pos rfl] at hgm
        rw [hgm] at hlook
        have hJ : ∀ f, getM f (nY s.fn (base ps i s.fn + (k - h) + 1) M2) = base ps i f + if f = s.fn then (k + 1) - h else 0 := fun f => by
          rw [UE]
          by_cases hf : f = s.fn
          · rw [if_pos hf, if_pos hf, hf]; omega
          · rw [if_neg hf, if_neg hf, hM2 f, if_neg hf]
        cases hix : lD s.fn M2 0 with
        | some pm =>
          obtain ⟨p, m⟩ := pm
          have hm : m = base ps i s.fn + (k - h) := by rw [← hgm]; unfold getM; rw [hix]
          have hfd := tL s.fn M2 0 0
          rw [hix] at hfd
          obtain ⟨e1, e2⟩ := MO (n := base ps i s.fn + (k - h) + 1) (j := 0) hix
          rw [Nat.sub_zero] at e1 e2
          repeat' (first | (((with_reducible apply yH); (exact .inr rfl); (iterate 6 exact rfl); (exact rfl); (repeat first | with_reducible exact lS | with_reducible apply mW); exact hfd; exact e2)) | refine KO ?_ | ((with_reducible apply jC 0); (iterate 7 exact rfl); (rw [hfl, hbn]; omega); (dsimp only [dG])) | (refine KV (b := by first | exact U1 k | ((with_reducible apply cJ 2); (iterate 3 exact rfl); exact hcv) | ((with_reducible apply cJ 0); (iterate 3 exact rfl); exact hheld) | ((with_reducible apply cJ 2); (iterate 3 exact rfl); exact hcf) | ((with_reducible apply gG); (iterate 4 exact rfl); (exact rfl); (repeat first | with_reducible exact jU | with_reducible apply jT); exact hlook)) (c := ?_)) | refine KI ?_ | fail)
          all_goals try (exfalso; first | fail)
          all_goals refine fF (n' := s.names.length) (xs' := (bl.set k ⟨nm, kd, false, ((base ps i s.fn + (k - h) : Nat) : Int)⟩).flatMap iU) 0 rfl rfl (lY he4 (vs := [.int .i64 ((base ps i s.fn + (k - h) : Nat) : Int)]) (k := 3) (n := 1) (by omega) bl k _ hxk rfl) ?_
          all_goals refine wK (es' := mkM (nY s.fn (base ps i s.fn + (k - h) + 1) M2) 0) (ck' := (nY s.fn (base ps i s.fn + (k - h) + 1) M2).length) 1 rfl e1 (FJ hix).symm ?_
          all_goals exact bD (k + 1, h, nY s.fn (base ps i s.fn + (k - h) + 1) M2, bl.set k ⟨nm, kd, false, ((base ps i s.fn + (k - h) : Nat) : Int)⟩) ⟨by dsimp only; omega, hh2.symm, hJ, hset⟩ (by dsimp only; omega) rfl PU (cR _)
        | none =>
          have hfd := tL s.fn M2 0 0
          rw [hix] at hfd
          have hpn := AK (n := base ps i s.fn + (k - h) + 1) hix
          repeat' (first | (((with_reducible apply tI); (exact .inr rfl); (iterate 6 exact rfl); (exact rfl); (repeat first | with_reducible exact lS | with_reducible apply mW); exact hfd)) | refine KO ?_ | ((with_reducible apply jC 0); (iterate 7 exact rfl); (rw [hfl, hbn]; omega); (dsimp only [dG])) | (refine KV (b := by first | exact U1 k | ((with_reducible apply cJ 2); (iterate 3 exact rfl); exact hcv) | ((with_reducible apply cJ 0); (iterate 3 exact rfl); exact hheld) | ((with_reducible apply cJ 2); (iterate 3 exact rfl); exact hcf) | ((with_reducible apply gG); (iterate 4 exact rfl); (exact rfl); (repeat first | with_reducible exact jU | with_reducible apply jT); exact hlook)) (c := ?_)) | refine KI ?_ | fail)
          all_goals try (exfalso; first | fail)
          all_goals refine fF (n' := s.names.length) (xs' := (bl.set k ⟨nm, kd, false, ((base ps i s.fn + (k - h) : Nat) : Int)⟩).flatMap iU) 0 rfl rfl (lY he4 (vs := [.int .i64 ((base ps i s.fn + (k - h) : Nat) : Int)]) (k := 3) (n := 1) (by omega) bl k _ hxk rfl) ?_
          all_goals refine wK (es' := mkM (nY s.fn (base ps i s.fn + (k - h) + 1) M2) 0) (ck' := (nY s.fn (base ps i s.fn + (k - h) + 1) M2).length) 1 rfl (by rw [hpn, MP, Nat.zero_add]; rfl) (by rw [hpn]; simp) ?_
          all_goals exact bD (k + 1, h, nY s.fn (base ps i s.fn + (k - h) + 1) M2, bl.set k ⟨nm, kd, false, ((base ps i s.fn + (k - h) : Nat) : Int)⟩) ⟨by dsimp only; omega, hh2.symm, hJ, hset⟩ (by dsimp only; omega) rfl PU (cR _)
      · rw [if_pos rfl] at hset hh2
        repeat' (first | refine KO ?_ | ((with_reducible apply jC 0); (iterate 7 exact rfl); (rw [hfl, hbn]; omega); (dsimp only [dG])) | (refine KV (b := by first | exact U1 k | ((with_reducible apply cJ 2); (iterate 3 exact rfl); exact hcv) | ((with_reducible apply cJ 0); (iterate 3 exact rfl); exact hheld)) (c := ?_)) | refine KI ?_ | fail)
        all_goals try (exfalso; first | fail)
        all_goals refine fF (n' := s.names.length) (xs' := (bl.set k ⟨nm, kd, true, (h : Int)⟩).flatMap iU) 0 rfl rfl (lY he4 (vs := [.int .i64 (h : Int)]) (k := 3) (n := 1) (by omega) bl k _ hxk rfl) ?_
        all_goals exact bD (k + 1, h + 1, M2, bl.set k ⟨nm, kd, true, (h : Int)⟩) ⟨by dsimp only; omega, hh2.symm, fun f => by rw [hM2 f, show k + 1 - (h + 1) = k - h by omega], hset⟩ (by dsimp only; omega) rfl PU (cR _)
    · repeat' (first | refine KK ?_ | fail)
      all_goals try (exfalso; first | fail)
      have hk2 : k = s.names.length := by omega
      subst hk2
      rw [List.take_of_length_le (Nat.le_refl _)] at hh hbl
      rw [List.drop_of_length_le (Nat.le_refl _), List.append_nil] at hbl
      have hone : (uF (ps.take i) s).names = bl := by rw [XN, hbl, base]
      have hFn := QP hF hf0 hsi
      rw [hone, ← hr1] at hFn
      have hM3 : ∀ f, getM f M2 = base ps (i + 1) f := fun f => by
        rw [hM2 f, base, base, AU hsi, hh]
        by_cases hf : f = s.fn
        · rw [if_pos hf, if_pos hf.symm]; omega
        · simp only [if_neg hf, if_neg (fun e : s.fn = f => hf e.symm), Nat.add_zero]
      refine fF (n' := bl.length) (xs' := bl.flatMap iU) 0 rfl hbn.symm rfl ?_
      refine lH (L' := .mp ⟨bm, mkM M2 0, (M2 : List (Int × Nat)).length⟩ :: .inr ⟨.slice (some ⟨g, 0, none⟩) cs.length cap, 43, 5, cs.length, cs.flatMap cX⟩ :: eG (fs2.set i (.slice A4 s.names.length c4, bl))) (by rw [HJ, ← hR]; exact sY (F := [_, _]) _ (by rw [HK, hF.1]; omega)) ?_
      exact bD (i + 1, M2, fs2.set i (.slice A4 s.names.length c4, bl)) ⟨by dsimp only; omega, hM3, hFn⟩ (by dsimp only; omega) rfl PU (cR _)
  · have hi2 : i = ps.length := by omega
    rw [hi2] at hF
    repeat' (first | refine KK ?_ | fail)
    all_goals try (exfalso; first | fail)
    refine lH (L' := (.inr ⟨.slice (some ⟨g, 0, none⟩) cs.length cap, 43, 5, cs.length, cs.flatMap cX⟩ :: eG fs2) ++ [.mp ⟨bm, mkM M 0, (M : List (Int × Nat)).length⟩]) (List.perm_append_singleton _ _) ?_
    exact CS (Ls := fun i : List Fm => .inr ⟨.slice (some ⟨g, 0, none⟩) cs.length cap, 43, 5, cs.length, cs.flatMap cX⟩ :: eG i) (Post := fun _ v i => v = .slice (some ⟨g, 0, none⟩) cs.length cap ∧ LS ps fs ps.length i) (.inr ⟨.slice (some ⟨g, 0, none⟩) cs.length cap, 43, 5, cs.length, cs.flatMap cX⟩ :: eG fs2).length fs2 hcnt rfl (bJ rfl) (rT _ _) rfl (fun _ _ => ⟨rfl, hF⟩)
end Go.Proofs.YtocidaibmadekaaGreatDoor
namespace Go.Vcg
open Go.RowKit
theorem Bk.XH : ∀ {x : Bk} {μ μ' : Mem}, Bk.sh x μ → MLe μ μ' → Bk.sh x μ'
  | .inl _, _, _, ⟨arr, e, h⟩, hl => ⟨arr, hl _ _ e, h⟩
  | .inr _, _, _, ⟨h, k⟩, hl => ⟨h, k.imp (fun h => h) fun ⟨g, cap, cur, e, e2, h3⟩ => ⟨g, cap, cur, e, hl _ _ e2, h3⟩⟩
  | .mp _, _, _, h, hl => hl _ _ h
  | .it .., _, _, h, hl => hl _ _ h
theorem vM {P : Program} {X : Ctx} {Q : Exit → Act → World → Prop} {l : aI} {c : Code} : ∀ {L : List Bk} {μ : Mem}, (∀ μ', MLe μ μ' → (∀ x ∈ L, Bk.sh x μ') → GC P X c Q μ' l []) → GC P X c Q μ l L
  | [], μ, h => h μ (MLe.refl _) (fun x hx => by cases hx)
  | y :: L, μ, h => jV rfl fun μ1 h1 hy => vM fun μ2 h2 hL => h μ2 (h1.trans h2) fun x hx => by
      rcases List.mem_cons.1 hx with rfl | hx
      · exact Bk.XH hy h2
      · exact hL x hx
theorem splitB_all (L : List Bk) : splitB L.length L = some (L, []) := by
  have := rT L []
  rwa [List.append_nil] at this
end Go.Vcg
namespace Go.Proofs.YtocidaibmadekaaGreatDoor
open Go.RowKit Go.Vcg
theorem VH (fs : List Fm) (f : Fm) : eG (fs ++ [f]) = eG fs ++ [yO f] := by unfold eG; rw [List.map_append]; rfl
theorem VG {fs : List Fm} {f : Fm} (h : f ∈ fs) : yO f ∈ eG fs := by unfold eG; exact List.mem_map_of_mem h
theorem ZO {f : Fm} {μ : Mem} (h : Bk.sh (yO f) μ) (hl : f.2.length ≤ 10000000) : BdV μ f.2 f.1 := by
  obtain ⟨v, bl⟩ := f
  obtain ⟨A, c, e, hS⟩ := rX (enc := iU) (xs := bl) h rfl (by simp) rfl
  dsimp only at e
  subst e
  exact ⟨A, c, rfl, hS, hl, Bk.cap h⟩
end Go.Proofs.YtocidaibmadekaaGreatDoor
namespace Go.Vcg
open Go.RowKit
section
variable {P : Program} {X : Ctx} {ops : Array Oper} {Q : Exit → Act → World → Prop} {rest : List Oper} {μ : Mem} {l : aI} {L : List Bk} {o : Oper} {d : Nat}
theorem FY : ∀ (L : List Bk) (i : Nat), dE L i = L[i]?
  | [], _ => rfl
  | _ :: _, 0 => rfl
  | _ :: L, i + 1 => FY L i
theorem EK : ∀ (L : List Bk) (i : Nat) (y : Bk), dG L i y = L.set i y
  | [], _, _ => rfl
  | _ :: _, 0, _ => rfl
  | x :: L, i + 1, y => by
    show x :: dG L i y = _
    rw [EK L i y]
    rfl
theorem aCi {l' : aI} {L' : List Bk} (hl : nC l' l) (hL : Sel L' L) (h : G P X ops Q rest μ l' L') : G P X ops Q rest μ l L := fun a w hs => h a w (hs.sel hl hL)
theorem lF {L' : List Bk} (hL : Sel L' L) (h : G P X ops Q rest μ l L') : G P X ops Q rest μ l L := aCi (fun _ _ h => h) hL h
theorem pT {c : Code} {L' : List Bk} (hL : Sel L' L) (h : GC P X c Q μ l L') : GC P X c Q μ l L := KC (fun _ _ h => h) hL h
theorem tF (e s : Nat) (h : G P X ops Q rest μ l (.inr ⟨.slice none 0 0, e, s, 0, []⟩ :: L)) : G P X ops Q rest μ l L := fun a w hs => h a w (hs.uJ e s)
theorem QD {b t sz : Nat} {cs : aI} {xs : List Value} (n s : Nat) (hz : sz = n * s) (hc : lks cs 0 sz = some xs) (hn : n ≤ 1000000) (h : G P X ops Q rest μ l (.inr ⟨.slice (some ⟨b, 0, none⟩) n n, t, s, n, xs⟩ :: L)) : G P X ops Q rest μ l (.inl ⟨b, t, sz, cs⟩ :: L) := fun a w hs => by
  subst hz
  exact h a w (hs.LM (xX hc) (Nat.le_trans hn (by decide)))
theorem HC {f : FuncId} {vs : Array Value} {ι : Type} {Ls : ι → Bk} {Post : Mem → Value → ι → Prop} {y : Bk} (i : Nat) (hd : o.dst = some d) (hn : Nat.blt d X.n = true) (hw : cV ops l o = some true) (hr : Ent P μ l L o f vs)
    (hi : dE L i = some y)
    (hc : ∀ w, MOk μ w → Own μ [y] w → Calls P f vs w fun e w' => ∃ v μ' i, e = .returned v ∧ fY (eS [y]) w w' μ [Ls i] μ' ∧ Post μ' v i)
    (h : ∀ v μ' j, MLe μ μ' → Post μ' v j → G P X ops Q rest μ' ((d, v) :: l) (dG L i (Ls j))) : G P X ops Q (o :: rest) μ l L := by
  have hg : L[i]? = some y := by rw [← FY]; exact hi
  have hlt : i < L.length := (List.getElem?_eq_some_iff.1 hg).1
  have hp : (y :: L.eraseIdx i).Perm L := fA (F := []) hg
  refine DJ hp (mP (LB := [y]) (Lr := L.eraseIdx i) (Ls := fun j => [Ls j]) 1 hd hn hw (hr.perm hp) rfl hc fun v μ' j hle hpo => ?_)
  have h2 := h v μ' j hle hpo
  rw [EK] at h2
  exact DJ (sY (F := []) (Ls j) hlt) h2
end
end Go.Vcg
namespace Go.Proofs.YtocidaibmadekaaGreatDoor
open Go.RowKit Go.Vcg Go.MapKept
abbrev HN (u : Us) : List Value := [.int .i64 u.at', .int .i64 u.scope, .int .i64 u.wh, .int .i64 u.hops, .int .i64 u.slot, .int .i64 u.kind, .string u.name, .bool u.check]
abbrev mR (x : Ux) : List Value := [.int .i64 x.u.at', .int .i64 x.u.scope, .int .i64 x.u.wh, .int .i64 x.u.hops, .int .i64 x.u.slot, .int .i64 x.u.kind, .string x.u.name, .bool x.u.check, .int .i64 (x.ts : Int), .int .i64 (x.tb : Int), .bool x.found, .int .i64 x.fn]
abbrev qZ (w : Wh) : List Value := [.int .i64 w.scope, .int .i64 w.fn, .bool w.decl]
abbrev WV (w : Wh) : Value := .agg (qZ w).toArray
abbrev kK (v : Value) (l : List Bd) : Bk := .inr ⟨v, 40, 4, l.length, l.flatMap iU⟩
structure FW where
  (sv uv : Value) (cs : List (Sc × Value)) (ce he de : List MapEntry) (cc hc dc : Nat)
def fU (cs : List (Sc × Value)) : List Fm := cs.map fun c => (c.2, c.1.names)
def FB (xb cb hb db : Nat) (s : FS) (q : FW) : List Bk := .inl ⟨xb, 61, 6, [(0, q.sv), (1, q.uv), (2, .int .i64 (s.funcs : Int)), (3, .map (some cb)), (4, .map (some hb)), (5, .map (some db))]⟩ ::
  .inr ⟨q.sv, 43, 5, q.cs.length, q.cs.flatMap cX⟩ :: .inr ⟨q.uv, 65, 12, s.uses.length, s.uses.flatMap mR⟩ :: .mp ⟨cb, q.ce, q.cc⟩ :: .mp ⟨hb, q.he, q.hc⟩ :: .mp ⟨db, q.de, q.dc⟩ :: eG (fU q.cs)
theorem eX (xb cb hb db : Nat) (s : FS) (q : FW) : FB xb cb hb db s q = .inl ⟨xb, 61, 6, [(0, q.sv), (1, q.uv), (2, .int .i64 (s.funcs : Int)), (3, .map (some cb)), (4, .map (some hb)), (5, .map (some db))]⟩ ::
  .inr ⟨q.sv, 43, 5, q.cs.length, q.cs.flatMap cX⟩ :: .inr ⟨q.uv, 65, 12, s.uses.length, s.uses.flatMap mR⟩ :: .mp ⟨cb, q.ce, q.cc⟩ :: .mp ⟨hb, q.he, q.hc⟩ :: .mp ⟨db, q.de, q.dc⟩ :: eG (fU q.cs) := rfl
abbrev NJ (x : Int) : Value := .int .i64 x
abbrev HM (x : Bool) : Value := .bool x
structure FR' (q : FW) (s : FS) : Prop where
  sc : scs q.cs = s.scopes
  ca : MpI NJ q.ce s.cases
  hd : MpI HM q.he s.heads
  dn : MpP q.de s.done
def zX (f : FuncId) (args : List Value) (xb cb hb db : Nat) (s s' : FS) (μ : Mem) (R : Value → Prop) : Prop := ∀ (w : World) (q : FW), MOk μ w → FR' q s → Go.Vcg.Own μ (FB xb cb hb db s q) w →
  Calls Tryz.prog f args.toArray w fun e w' => ∃ (v : Value) (μ' : Mem) (i : FW), e = .returned v ∧ fY (eS (FB xb cb hb db s q)) w w' μ (FB xb cb hb db s' i) μ' ∧ (FR' i s' ∧ R v)
def aDa (f : FuncId) (args : List Value) (xb cb hb db : Nat) (lv : Value) (l : List Bd) (s s' : FS) (μ : Mem) (R : Value → Prop) : Prop := ∀ (w : World) (q : FW), MOk μ w → FR' q s → Go.Vcg.Own μ (kK lv l :: FB xb cb hb db s q) w →
  Calls Tryz.prog f args.toArray w fun e w' => ∃ (v : Value) (μ' : Mem) (i : FW), e = .returned v ∧ fY (eS (kK lv l :: FB xb cb hb db s q)) w w' μ (FB xb cb hb db s' i) μ' ∧ (FR' i s' ∧ R v)
def RC (f : FuncId) (args : List Value) (lv : Value) (l l' : List Bd) (μ : Mem) : Prop := ∀ (w : World), MOk μ w → Go.Vcg.Own μ [kK lv l] w →
  Calls Tryz.prog f args.toArray w fun e w' => ∃ (v : Value) (μ' : Mem) (i : Value), e = .returned v ∧ fY (eS [kK lv l]) w w' μ [kK i l'] μ' ∧ v = i
section
variable {X : Ctx} {ops : Array Oper} {Q : Exit → Act → World → Prop} {rest : List Oper} {μ : Mem} {l : aI} {L Lr : List Bk} {o : Oper} {d : Nat} {f : FuncId} {xb cb hb db : Nat} {s s' : FS} {q : FW} {R : Value → Prop}
theorem kQ {args : List Value} (k : Nat) (hd : o.dst = some d) (hn : Nat.blt d X.n = true) (hw : cV ops l o = some true) (hr : Ent Tryz.prog μ l L o f args.toArray) (hL : splitB k L = some (Lr, FB xb cb hb db s q)) (hR : FR' q s) (hc : zX f args xb cb hb db s s' μ R)
    (h : ∀ (v : Value) (μ' : Mem) (i : FW), MLe μ μ' → FR' i s' → R v → G Tryz.prog X ops Q rest μ' ((d, v) :: l) (Lr ++ FB xb cb hb db s' i)) : G Tryz.prog X ops Q (o :: rest) μ l L :=
  kO (Ls := fun i => FB xb cb hb db s' i) (Post := fun _ v i => FR' i s' ∧ R v) k hd hn hw hr hL (fun w hμ hO => hc w q hμ hR hO) fun v μ' i hle hp => h v μ' i hle hp.1 hp.2
theorem oT {args : List Value} {bl : List Bd} {lv : Value} (k : Nat) (hd : o.dst = some d) (hn : Nat.blt d X.n = true) (hw : cV ops l o = some true) (hr : Ent Tryz.prog μ l L o f args.toArray) (hL : splitB k L = some (Lr, kK lv bl :: FB xb cb hb db s q)) (hR : FR' q s) (hc : aDa f args xb cb hb db lv bl s s' μ R)
    (h : ∀ (v : Value) (μ' : Mem) (i : FW), MLe μ μ' → FR' i s' → R v → G Tryz.prog X ops Q rest μ' ((d, v) :: l) (Lr ++ FB xb cb hb db s' i)) : G Tryz.prog X ops Q (o :: rest) μ l L :=
  kO (Ls := fun i => FB xb cb hb db s' i) (Post := fun _ v i => FR' i s' ∧ R v) k hd hn hw hr hL (fun w hμ hO => hc w q hμ hR hO) fun v μ' i hle hp => h v μ' i hle hp.1 hp.2
theorem oW {args : List Value} {bl bl' : List Bd} {lv : Value} (i : Nat) (hd : o.dst = some d) (hn : Nat.blt d X.n = true) (hw : cV ops l o = some true) (hr : Ent Tryz.prog μ l L o f args.toArray) (hi : dE L i = some (kK lv bl)) (hc : RC f args lv bl bl' μ)
    (h : ∀ (v : Value) (μ' : Mem), MLe μ μ' → G Tryz.prog X ops Q rest μ' ((d, v) :: l) (dG L i (kK v bl'))) : G Tryz.prog X ops Q (o :: rest) μ l L :=
  HC (Ls := fun j => kK j bl') (Post := fun _ v j => v = j) i hd hn hw hr hi (fun w hμ hO => hc w hμ hO) fun v μ' j hle hp => by subst hp; exact h v μ' hle
theorem mY {P : Program} {fn : Func} {n : Nat} {r : ResultVar} {lv : Value} {μ0 : Mem} {M : List Nat} {bl bl' : List Bd} {w : World} (hM : ∀ D, M.count D ≤ 1) (hr : fn.results = #[r]) (h : RV P μ l L r lv) (hL : dE L 0 = some (kK lv bl)) (hb : bl = bl') :
    GQ ⟨w, μ0, M, n⟩ (bodyPost P fn (fun e w' => ∃ (v : Value) (μ' : Mem) (i : Value), e = .returned v ∧ fY M w w' μ0 [kK i bl'] μ' ∧ v = i)) .ret μ l L := by
  subst hb
  cases L with
  | nil => cases hL
  | cons y L =>
    cases hL
    exact CS (Ls := fun i => [kK i bl]) (Post := fun _ v i => v = i) 1 lv hM hr h rfl rfl (fun _ _ => rfl)
theorem fR {P : Program} {fn : Func} {n : Nat} {μ0 : Mem} {M : List Nat} {w : World} {ex : Exit} (k : Nat) (i : FW) (he : ex = .ret ∨ ex = .normal) (hM : ∀ D, M.count D ≤ 1) (hr : fn.results = #[]) (hL : splitB k L = some (Lr, FB xb cb hb db s i)) (hs : s = s') (hR : FR' i s) :
    GQ ⟨w, μ0, M, n⟩ (bodyPost P fn (fun e w' => ∃ (v : Value) (μ' : Mem) (i : FW), e = .returned v ∧ fY M w w' μ0 (FB xb cb hb db s' i) μ' ∧ (FR' i s' ∧ True))) ex μ l L := by
  subst hs
  exact pD (Ls := fun i => FB xb cb hb db s i) (Post := fun _ _ i => FR' i s ∧ True) k i he hM hr hL rfl (fun _ _ _ => ⟨hR, trivial⟩)
theorem nV {P : Program} {fn : Func} {n : Nat} {r : ResultVar} {v : Value} {μ0 : Mem} {M : List Nat} {w : World} (k : Nat) (i : FW) (hM : ∀ D, M.count D ≤ 1) (hr : fn.results = #[r]) (h : RV P μ l L r v) (hL : splitB k L = some (Lr, FB xb cb hb db s i)) (hs : s = s') (hR : FR' i s) (hv : R v) :
    GQ ⟨w, μ0, M, n⟩ (bodyPost P fn (fun e w' => ∃ (v : Value) (μ' : Mem) (i : FW), e = .returned v ∧ fY M w w' μ0 (FB xb cb hb db s' i) μ' ∧ (FR' i s' ∧ R v))) .ret μ l L := by
  subst hs
  exact MH (Ls := fun i => FB xb cb hb db s i) (Post := fun _ v i => FR' i s ∧ R v) k i hM hr h hL rfl (fun _ _ => ⟨hR, hv⟩)
theorem MI {P : Program} {fn : Func} {n : Nat} {μ0 : Mem} {M : List Nat} {w : World} {ex : Exit} (i : FW) (he : ex = .ret ∨ ex = .normal) (hM : ∀ D, M.count D ≤ 1) (hr : fn.results = #[]) (hL : Sel (FB xb cb hb db s i) L) (hs : s = s') (hR : FR' i s) :
    GQ ⟨w, μ0, M, n⟩ (bodyPost P fn (fun e w' => ∃ (v : Value) (μ' : Mem) (i : FW), e = .returned v ∧ fY M w w' μ0 (FB xb cb hb db s' i) μ' ∧ (FR' i s' ∧ True))) ex μ l L :=
  fT hL (fR (Lr := []) 0 i he hM hr rfl hs hR)
theorem SQ {P : Program} {fn : Func} {n : Nat} {r : ResultVar} {v : Value} {μ0 : Mem} {M : List Nat} {w : World} {y : Bk} (i : FW) (hM : ∀ D, M.count D ≤ 1) (hr : fn.results = #[r]) (hL : Sel (y :: FB xb cb hb db s i) L) (h : RV P μ l (y :: FB xb cb hb db s i) r v) (hs : s = s') (hR : FR' i s) (hv : R v) :
    GQ ⟨w, μ0, M, n⟩ (bodyPost P fn (fun e w' => ∃ (v : Value) (μ' : Mem) (i : FW), e = .returned v ∧ fY M w w' μ0 (FB xb cb hb db s' i) μ' ∧ (FR' i s' ∧ R v))) .ret μ l L :=
  fT hL (nV (Lr := [y]) 1 i hM hr h rfl hs hR hv)
end
theorem tJ (cs : List (Sc × Value)) : (fU cs).length = cs.length := List.length_map ..
theorem nL {cs : List (Sc × Value)} {i : Nat} {c : Sc × Value} (h : cs[i]? = some c) : (fU cs)[i]? = some (c.2, c.1.names) := by unfold fU; rw [List.getElem?_map, h]; rfl
theorem UR (cs : List (Sc × Value)) (c : Sc × Value) : fU (cs ++ [c]) = fU cs ++ [(c.2, c.1.names)] := by unfold fU; rw [List.map_append]; rfl
theorem gQ (cs : List (Sc × Value)) : (scs cs).length = cs.length := List.length_map ..
theorem IT {μ : Mem} {q : FW} {s : FS} {xb cb hb db : Nat} (hR : FR' q s) (h : ∀ y ∈ FB xb cb hb db s q, Bk.sh y μ) (hl : s.scopes.length ≤ 9000) (hn : ∀ c ∈ s.scopes, c.names.length ≤ 10000000) : ∃ A c, q.sv = .slice A q.cs.length c ∧ ScR μ A q.cs := by
  have h1 := h _ (List.mem_cons_of_mem _ (List.mem_cons_self ..))
  obtain ⟨A, c, e, hS⟩ := rX (enc := cX) (xs := q.cs) h1 rfl (by simp) rfl
  refine ⟨A, c, e, hS, by rw [← gQ, hR.sc]; exact hl, fun p hp => ?_⟩
  have hm : p.1 ∈ s.scopes := by rw [← hR.sc]; exact List.mem_map_of_mem hp
  have hf : (p.2, p.1.names) ∈ fU q.cs := List.mem_map_of_mem (f := fun c : Sc × Value => (c.2, c.1.names)) hp
  exact ZO (f := (p.2, p.1.names)) (h _ (by
    rw [eX]
    iterate 6 apply List.mem_cons_of_mem
    exact VG hf)) (hn _ hm)
theorem aFa : FR' ⟨.slice none 0 0, .slice none 0 0, [], [], [], [], 0, 0, 0⟩ ⟨[], [], 0, [], [], []⟩ := ⟨rfl, rfl, rfl, rfl⟩
end Go.Proofs.YtocidaibmadekaaGreatDoor
namespace Go.Proofs.YtocidaibmadekaaGreatDoor
open Go.RowKit Go.Vcg
theorem jZ {l : List Sc} {x : ByteArray} {f : Nat} {at' : Int} (h : 0 ≤ at' ∧ at' < l.length) {c : Sc} (hc : l[at'.toNat]? = some c) : findF l x (f + 1) at' = match eQ x c.names 0 with
    | some k => some (at'.toNat, k)
    | none => if c.up ≥ at' then none else findF l x f c.up := by
  rw [findF, if_pos h, hc]
  rfl
theorem BL (l m : List Sc) (x : ByteArray) : ∀ (f : Nat) (at' : Int), at' < l.length → findF (l ++ m) x f at' = findF l x f at'
  | 0, _, _ => rfl
  | f + 1, at', h => by
    by_cases h0 : 0 ≤ at'
    · obtain ⟨c, hc⟩ : ∃ c, l[at'.toNat]? = some c := ⟨_, List.getElem?_eq_getElem (by omega)⟩
      rw [jZ ⟨h0, h⟩ hc, jZ (l := l ++ m) ⟨h0, by rw [List.length_append]; omega⟩ (by rw [List.getElem?_append_left (by omega)]; exact hc)]
      cases eQ x c.names 0 with
      | some k => rfl
      | none =>
        dsimp only
        by_cases hu : c.up ≥ at'
        · rw [if_pos hu, if_pos hu]
        · rw [if_neg hu, if_neg hu, BL l m x f c.up (by omega)]
    · rw [kA (fun h => h0 h.1), kA (fun h => h0 h.1)]
theorem HG (l m : List Sc) (x : ByteArray) {at' : Int} (h : at' < l.length) : iC (l ++ m) at' x = iC l at' x := BL l m x _ at' h
theorem xO {x : ByteArray} : ∀ {l : List Bd} {k j : Nat}, eQ x l k = some j → ∃ b, l[j - k]? = some b ∧ b.name = x ∧ k ≤ j
  | [], _, _, h => by cases h
  | b :: r, k, j, h => by
    unfold eQ at h
    split at h
    · rename_i hb
      cases h
      exact ⟨b, by simp, hb, Nat.le_refl _⟩
    · obtain ⟨c, h1, h2, h3⟩ := xO h
      refine ⟨c, ?_, h2, by omega⟩
      rw [show j - k = (j - (k + 1)) + 1 by omega, List.getElem?_cons_succ]
      exact h1
theorem iL {l : List Sc} {x : ByteArray} : ∀ {f : Nat} {at' : Int} {a b : Nat}, findF l x f at' = some (a, b) → ∃ c d, l[a]? = some c ∧ c.names[b]? = some d ∧ d.name = x ∧ (a : Int) ≤ at'
  | 0, _, _, _, h => by cases h
  | f + 1, at', a, b, h => by
    by_cases h0 : 0 ≤ at' ∧ at' < l.length
    · obtain ⟨c, hc⟩ : ∃ c, l[at'.toNat]? = some c := ⟨_, List.getElem?_eq_getElem (by omega)⟩
      rw [jZ h0 hc] at h
      cases hp : eQ x c.names 0 with
      | some k =>
        rw [hp] at h
        cases h
        obtain ⟨d, h1, h2, -⟩ := xO hp
        exact ⟨c, d, hc, h1, h2, by omega⟩
      | none =>
        rw [hp] at h
        dsimp only at h
        split at h
        · cases h
        · obtain ⟨c', d, h1, h2, h3, h4⟩ := iL h
          exact ⟨c', d, h1, h2, h3, by omega⟩
    · rw [kA h0] at h
      cases h
theorem JW {l m : List Sc} {a b : Nat} (h : a < l.length) : fJ (l ++ m) a b = fJ l a b := by
  unfold fJ
  rw [List.getElem?_append_left h]
structure CA (l : List Sc) (x : Ux) : Prop where
  lo : 0 ≤ x.u.scope
  hi : x.u.scope < l.length
  wh : x.u.wh = 2
  hs : x.u.hops = 0 ∧ x.u.slot = 0
  yes : x.found = true → iC l x.u.scope x.u.name = some (x.ts, x.tb) ∧ x.u.kind = fJ l x.ts x.tb
  no : x.found = false → iC l x.u.scope x.u.name = none ∧ x.u.kind = 0 ∧ x.ts = 0 ∧ x.tb = 0
  ck : x.u.check = true → x.found = true ∧ (x.u.kind = 1 ∨ x.u.kind = 2)
theorem CA.app {l : List Sc} {x : Ux} (h : CA l x) (m : List Sc) : CA (l ++ m) x := by
  refine ⟨h.lo, by have := h.hi; rw [List.length_append]; omega, h.wh, h.hs, fun hf => ?_, fun hf => ?_, h.ck⟩
  · obtain ⟨h1, h2⟩ := h.yes hf
    refine ⟨by rw [HG l m _ h.hi]; exact h1, ?_⟩
    obtain ⟨c, d, h3, -⟩ := iL h1
    rw [JW (List.getElem?_eq_some_iff.1 h3).1]
    exact h2
  · obtain ⟨h1, h2⟩ := h.no hf
    exact ⟨by rw [HG l m _ h.hi]; exact h1, h2⟩
def aF4 (l : List Sc) : Prop := ∀ (i : Nat) (c : Sc), l[i]? = some c → -1 ≤ c.up ∧ c.up < i
structure SI (s : FS) : Prop where
  up : aF4 s.scopes
  uses : ∀ x ∈ s.uses, CA s.scopes x
def WI (w : Wh) (s : FS) : Prop := 0 ≤ w.scope ∧ w.scope < s.scopes.length
structure Go' (s s' : FS) : Prop where
  si : SI s'
  pre : s.scopes <+: s'.scopes
theorem Go'.refl {s : FS} (h : SI s) : Go' s s := ⟨h, List.prefix_refl _⟩
theorem Go'.trans {s s' s'' : FS} (h : Go' s s') (h' : Go' s' s'') : Go' s s'' := ⟨h'.si, h.pre.trans h'.pre⟩
theorem WI.go {w : Wh} {s s' : FS} (h : WI w s) (hg : Go' s s') : WI w s' := ⟨h.1, by have := hg.pre.length_le; have := h.2; omega⟩
theorem tG {kind at' : Int} {w : Wh} {l : List Bd} {s : FS} (h : SI s) (hw : -1 ≤ w.scope ∧ w.scope < s.scopes.length) : Go' s (gI kind at' w l s) ∧ WI (pF w s) (gI kind at' w l s) := by
  refine ⟨⟨⟨fun i c hi => ?_, fun x hx => (h.uses x hx).app _⟩, List.prefix_append _ _⟩, ?_, ?_⟩
  · have hi : (s.scopes ++ [(⟨w.scope, w.fn, kind, at', l⟩ : Sc)])[i]? = some c := hi
    by_cases hlt : i < s.scopes.length
    · rw [List.getElem?_append_left hlt] at hi
      exact h.up i c hi
    · rw [List.getElem?_append_right (by omega)] at hi
      cases hj : i - s.scopes.length with
      | zero =>
        rw [hj] at hi
        cases hi
        exact ⟨hw.1, by have := hw.2; show w.scope < _; omega⟩
      | succ j => rw [hj] at hi; simp at hi
  · show (0 : Int) ≤ (s.scopes.length : Int)
    omega
  · show (s.scopes.length : Int) < ((s.scopes ++ [_]).length : Int)
    rw [List.length_append, List.length_singleton]
    omega
theorem wM {kind at' : Int} {w : Wh} {l : List Bd} {s : FS} (h : SI s) (hw : WI w s) : Go' s (eU kind at' w l s) ∧ WI (gV w l s) (eU kind at' w l s) := by
  unfold eU gV
  split
  · exact ⟨Go'.refl h, hw⟩
  · exact tG h ⟨by have := hw.1; omega, hw.2⟩
theorem MW {t : T} {w : Wh} {s : FS} (h : SI s) (hw : WI w s) : Go' s (lX t w s) := by
  refine ⟨⟨h.up, fun x hx => ?_⟩, List.prefix_refl _⟩
  have hx : x ∈ s.uses ++ [_] := hx
  rcases List.mem_append.1 hx with hx | hx
  · exact h.uses x hx
  · rw [List.mem_singleton.1 hx]
    show CA s.scopes _
    cases hf : iC s.scopes w.scope t.s with
    | none =>
      dsimp only
      exact ⟨hw.1, hw.2, rfl, ⟨rfl, rfl⟩, fun h => (by cases h), fun _ => ⟨hf, rfl, rfl, rfl⟩, fun h => (by cases h)⟩
    | some p =>
      obtain ⟨a, b⟩ := p
      dsimp only
      refine ⟨hw.1, hw.2, rfl, ⟨rfl, rfl⟩, fun _ => ⟨hf, rfl⟩, fun h => (by cases h), fun h => ⟨rfl, ?_⟩⟩
      have h : ((decide (fJ s.scopes a b = 1) || decide (fJ s.scopes a b = 2)) && !w.decl && !jQ s a b w.fn) = true := h
      simp only [Bool.and_eq_true, Bool.or_eq_true, decide_eq_true_eq] at h
      exact h.1.1
section
variable {N : T → Wh → FS → FS} {fu : Nat}
def NS (N : T → Wh → FS → FS) : Prop := ∀ (k : T) (w : Wh) (s : FS), WI w s → SI s → Go' s (N k w s)
theorem qR {α : Type} {g : FS → α → FS} : ∀ (l : List α) (s : FS) (w : Wh), WI w s → SI s → (∀ k ∈ l, ∀ s, WI w s → SI s → Go' s (g s k)) → Go' s (l.foldl g s)
  | [], s, _, _, h, _ => Go'.refl h
  | k :: r, s, w, hw, h, hg => by
    rw [List.foldl_cons]
    have h1 := hg k (by simp) s hw h
    exact h1.trans (qR r _ w (hw.go h1) h1.si fun k hk => hg k (List.mem_cons_of_mem _ hk))
theorem sD (hN : NS N) (l : List T) {w : Wh} {s : FS} (hw : WI w s) (h : SI s) : Go' s (qF N l w s) := qR l s w hw h fun k _ s hw h => hN k w s hw h
theorem SI.other {s s' : FS} (h : SI s) (e1 : s'.scopes = s.scopes) (e2 : s'.uses = s.uses) : SI s' := ⟨by rw [e1]; exact h.up, by rw [e1, e2]; exact h.uses⟩
theorem pS {s s' : FS} (h : SI s) (e1 : s'.scopes = s.scopes) (e2 : s'.uses = s.uses) : Go' s s' := ⟨h.other e1 e2, by rw [e1]; exact List.prefix_refl _⟩
theorem aCl (hN : NS N) (t : T) {w : Wh} {s : FS} (hw : WI w s) (h : SI s) : Go' s (DL N fu t w s) := by
  unfold DL
  dsimp only
  have g1 : Go' s { s with funcs := s.funcs + 1 } := pS h rfl rfl
  generalize ({ s with funcs := s.funcs + 1 } : FS) = s1 at g1 ⊢
  have hw1 : WI { w with fn := ((s.funcs + 1 : Nat) : Int) } s1 := hw.go g1
  generalize ({ w with fn := ((s.funcs + 1 : Nat) : Int) } : Wh) = w1 at hw1 ⊢
  generalize (!decide (t.s = ⟨#[]⟩) && !kW t 1) = c
  have h2 : Go' s1 (if c = true then gI 5 t.at' w1 [⟨t.s, 7, false, 0⟩] s1 else s1) ∧ WI (if c = true then pF w1 s1 else w1) (if c = true then gI 5 t.at' w1 [⟨t.s, 7, false, 0⟩] s1 else s1) := by
    cases c
    · exact ⟨Go'.refl g1.si, hw1⟩
    · exact tG g1.si ⟨by have := hw1.1; omega, hw1.2⟩
  generalize (if c = true then gI 5 t.at' w1 [⟨t.s, 7, false, 0⟩] s1 else s1) = s2 at h2 ⊢
  generalize (if c = true then pF w1 s1 else w1) = w2 at h2 ⊢
  obtain ⟨g2, hw2⟩ := h2
  obtain ⟨g3, hw3⟩ := tG (kind := 1) (at' := t.at') (l := cK fu t) g2.si ⟨by have := hw2.1; omega, hw2.2⟩
  have g4 := hN (bU t 0) _ _ hw3 g3.si
  have g := ((g1.trans g2).trans g3).trans g4
  split
  · exact g.trans (sD hN _ (hw3.go g4) g4.si)
  · exact g.trans (hN _ _ _ (hw3.go g4) g4.si)
theorem YZ (hN : NS N) (t : T) {w : Wh} {s : FS} (hw : WI w s) (h : SI s) : Go' s (sZ N t w s) := by
  unfold sZ
  dsimp only
  generalize (decide ((bU t 0).op = 2) && !decide ((bU t 0).n = 0)) = c
  have h2 : Go' s (if c = true then eU 3 t.at' w (cH (bU t 0) []) s else s) ∧ WI (if c = true then gV w (cH (bU t 0) []) s else w) (if c = true then eU 3 t.at' w (cH (bU t 0) []) s else s) := by
    cases c
    · exact ⟨Go'.refl h, hw⟩
    · exact wM h hw
  generalize (if c = true then eU 3 t.at' w (cH (bU t 0) []) s else s) = s1 at h2 ⊢
  generalize (if c = true then gV w (cH (bU t 0) []) s else w) = w1 at h2 ⊢
  obtain ⟨g1, hw1⟩ := h2
  refine g1.trans (qR _ _ w1 hw1 g1.si fun k _ s hw h => ?_)
  split
  · have ga : Go' s { s with heads := eY w1.scope true s.heads } := pS h rfl rfl
    have gb := hN k.1 w1 _ (hw.go ga) ga.si
    exact (ga.trans gb).trans (pS gb.si rfl rfl)
  · exact hN _ _ _ hw h
theorem QG (hN : NS N) (t : T) {w : Wh} {s : FS} (hw : WI w s) (h : SI s) : Go' s (lJ N t w s) := by
  unfold lJ
  dsimp only
  obtain ⟨g1, hw1⟩ := wM (kind := 2) (at' := t.at') (l := (t.kids.drop 1).foldl (fun l k => bA k.kids true l) []) h hw
  generalize (t.kids.drop 1).foldl (fun l k => bA k.kids true l) [] = l at g1 hw1 ⊢
  generalize eU 2 t.at' w l s = s1 at g1 hw1 ⊢
  generalize gV w l s = w1 at hw1 ⊢
  have g2 := hN (bU t 0) w _ (hw.go g1) g1.si
  refine (g1.trans g2).trans (qR _ _ w1 (hw1.go g2) g2.si fun k _ s hw h => ?_)
  split
  · have ga : Go' s { s with cases := eY w1.scope (k.2 : Int) s.cases } := pS h rfl rfl
    exact ga.trans (hN _ _ _ (hw.go ga) ga.si)
  · exact hN _ _ _ hw h
theorem ZA (hN : NS N) (t : T) {w : Wh} {s : FS} (hw : WI w s) (h : SI s) : Go' s (tQ N t w s) := by
  unfold tQ
  dsimp only
  have g1 := hN (bU t 0) { w with decl := true } s hw h
  have g2 := sD hN (t.kids.drop 1) (hw.go g1) g1.si
  refine (g1.trans g2).trans (qR _ _ w ((hw.go g1).go g2) g2.si fun x _ s hw h => ?_)
  split
  · exact pS h rfl rfl
  · exact Go'.refl h
theorem UC (hN : NS N) (t : T) {w : Wh} {s : FS} (hw : WI w s) (h : SI s) : Go' s (oA N t w s) := by
  unfold oA
  refine qR _ _ w hw h fun k _ s hw h => ?_
  split
  · exact hN _ _ _ hw h
  · exact hN _ _ _ hw h
theorem YY (hN : NS N) (t : T) {w : Wh} {s : FS} (hw : WI w s) (h : SI s) : Go' s (vG N fu t w s) := by
  unfold vG
  split
  · exact MW h hw
  split
  · exact aCl hN t (w := { w with decl := false }) hw h
  split
  · obtain ⟨g1, hw1⟩ := wM (kind := 2) (at' := t.at') (l := bA t.kids true []) h hw
    exact g1.trans (sD hN _ hw1 g1.si)
  split
  · exact QG hN t hw h
  split
  · exact YZ hN t hw h
  split
  · obtain ⟨g1, hw1⟩ := wM (kind := 4) (at' := t.at') (l := cM 5 (aR (bU t 0)) []) h hw
    exact g1.trans (sD hN _ hw1 g1.si)
  split
  · exact ZA hN t hw h
  split
  · split
    · exact MW h hw
    · exact sD hN _ hw h
  · exact UC hN t hw h
end
theorem UD (fu : Nat) : ∀ f, NS (nbS fu f)
  | 0 => fun _ _ _ _ h => Go'.refl h
  | f + 1 => fun t _ _ hw h => YY (UD fu f) t hw h
theorem IV (f : Nat) (t : T) : SI (dA f t) := by
  have h0 : SI ⟨[], [], 0, [], [], []⟩ := ⟨fun i c h => by simp at h, fun x hx => by simp at hx⟩
  obtain ⟨g, hw⟩ := tG (kind := 0) (at' := t.at') (w := ⟨-1, 0, false⟩) (l := bA t.kids false []) h0 ⟨Int.le_refl _, by simp⟩
  exact (sD (UD f f) t.kids (w := ⟨0, 0, false⟩) (s := gX t) hw g.si).si
end Go.Proofs.YtocidaibmadekaaGreatDoor
namespace Go.Proofs.YtocidaibmadekaaGreatDoor
open Go.RowKit Go.Vcg
structure Ks (t : T) : Prop where
  kc : Kc t
  dec : t.op = 3 → 1 ≤ t.kids.length
  vn : t.op = 2 → t.n = 0 ∨ t.n = 1 ∨ t.n = 2
def qS (t : T) : Prop := Ks t ∧ t.s.size ≤ 100000
theorem T.NZ : T.zero.size = 1 := by rw [T.size_eq]; rfl
theorem lO (t : T) (i : Nat) : (bU t i).size ≤ t.size := by
  unfold bU
  cases h : t.kids[i]? with
  | none =>
    have := T.size_eq t
    simp only [Option.getD_none, T.NZ]
    omega
  | some k =>
    have h1 := T.dH h
    simp only [Option.getD_some]
    omega
theorem eR {t : T} {i : Nat} {k : T} (h : t.kids[i]? = some k) : bU t i = k := by unfold bU; rw [h]; rfl
theorem zL (x : ByteArray) (k : Int) : ∀ l : List Bd, (fM x k l).length ≤ l.length + 1
  | [] => by simp [fM]
  | b :: r => by
    have := zL x k r
    unfold fM
    split
    · split <;> simp
    · simp only [List.length_cons]
      omega
theorem gM {α β : Type} (g : List β → α → List β) (c : α → Nat) : ∀ (l : List α) (a : List β), (∀ k ∈ l, ∀ a, (g a k).length ≤ a.length + c k) → (l.foldl g a).length ≤ a.length + (l.map c).sum
  | [], a, _ => by simp
  | k :: r, a, h => by
    have h1 := h k (List.mem_cons_self ..) a
    have h2 := gM g c r (g a k) fun k hk => h k (List.mem_cons_of_mem _ hk)
    simp only [List.foldl_cons, List.map_cons, List.sum_cons]
    omega
theorem WT {α : Type} (l : List α) : (l.map fun _ => 1).sum = l.length := by induction l with
  | nil => rfl
  | cons x r ih => simp only [List.map_cons, List.sum_cons, List.length_cons, ih]; omega
theorem iV (k : Int) (xs : List ByteArray) (l : List Bd) : (cM k xs l).length ≤ l.length + xs.length := by
  have := gM (fun l x => fM x k l) (fun _ => 1) xs l fun x _ a => zL x k a
  rw [WT] at this
  exact this
theorem lK (t : T) (l : List Bd) : (cH t l).length ≤ l.length + szs t.kids :=
  gM (fun l d => cM t.n (aR (bU d 0)) l) T.size t.kids l fun d _ a => by
    have h1 := iV t.n (aR (bU d 0)) a
    have h2 := iQ (bU d 0)
    have h3 := lO d 0
    omega
theorem eF (kids : List T) (fs : Bool) (l : List Bd) : (bA kids fs l).length ≤ l.length + szs kids :=
  gM _ T.size kids l fun t _ a => by
    have h0 := aP t
    split
    · have := lK t a
      omega
    · split
      · have := zL t.s 3 a
        omega
      · omega
theorem iK : ∀ (f : Nat) (t : T) (l : List Bd), t.size ≤ 2000 → (bY f t l).length ≤ l.length + 2000 * t.size
  | 0, t, l, _ => by unfold bY; omega
  | f + 1, t, l, h => by
    unfold bY
    have h0 := aP t
    split
    · omega
    · have h2 := gM (fun l k => bY f k l) (fun k => 2000 * k.size) t.kids (if t.op = 2 ∧ t.n = 0 then cH t l else l) fun k hk a => iK f k a (by
        have : k.size ≤ szs t.kids := T.bN (List.mem_map.2 ⟨k, hk, rfl⟩)
        omega)
      have h3 : ∀ l : List T, (l.map fun k => 2000 * k.size).sum = 2000 * szs l := fun l => by
        induction l with
        | nil => rfl
        | cons x r ih => simp only [List.map_cons, List.sum_cons, aZ, ih]; omega
      rw [h3] at h2
      have h4 := lK t l
      have h5 : (if t.op = 2 ∧ t.n = 0 then cH t l else l).length ≤ l.length + szs t.kids := by split <;> omega
      omega
theorem vE (f : Nat) (t : T) (h : t.size ≤ 2000) : (cK f t).length ≤ 10000000 := by
  unfold cK
  dsimp only
  have h1 := lO t 0
  have h2 := lO t 1
  have h3 := iV 4 (aR (bU t 0)) []
  have h4 := iQ (bU t 0)
  have h5 := iK f (bU t 0) (cM 4 (aR (bU t 0)) []) (by omega)
  rw [List.length_nil] at h3
  split
  · have := iK f (bU t 1) (bY f (bU t 0) (cM 4 (aR (bU t 0)) [])) (by omega)
    omega
  · have h6 := aP (bU t 1)
    have h7 := gM (fun l k => bY f k (bA [k] true l)) (fun k => 2001 * k.size) (bU t 1).kids (bY f (bU t 0) (cM 4 (aR (bU t 0)) [])) fun k hk a => by
      have hk2 : k.size ≤ szs (bU t 1).kids := T.bN (List.mem_map.2 ⟨k, hk, rfl⟩)
      have h8 := iK f k (bA [k] true a) (by omega)
      have h9 := eF [k] true a
      have h10 : szs [k] = k.size := by simp [szs]
      omega
    have h3 : ∀ l : List T, (l.map fun k => 2001 * k.size).sum = 2001 * szs l := fun l => by
      induction l with
      | nil => rfl
      | cons x r ih => simp only [List.map_cons, List.sum_cons, aZ, ih]; omega
    rw [h3] at h7
    omega
def wtS (s : FS) : Nat := s.scopes.length + s.uses.length + s.funcs
def NmB (s : FS) : Prop := ∀ c ∈ s.scopes, c.names.length ≤ 10000000
structure GrS (m : Nat) (s s' : FS) : Prop where
  wt : wtS s' ≤ wtS s + m
  nm : NmB s → NmB s'
theorem GrS.refl (s : FS) : GrS 0 s s := ⟨Nat.le_refl _, fun h => h⟩
theorem GrS.trans {a b : Nat} {s s' s'' : FS} (h : GrS a s s') (h' : GrS b s' s'') : GrS (a + b) s s'' := ⟨by have := h.wt; have := h'.wt; omega, fun x => h'.nm (h.nm x)⟩
theorem GrS.mono {a b : Nat} {s s' : FS} (h : GrS a s s') (hab : a ≤ b) : GrS b s s' := ⟨by have := h.wt; omega, h.nm⟩
theorem mO {kind at' : Int} {w : Wh} {l : List Bd} (s : FS) (hl : l.length ≤ 10000000) : GrS 1 s (gI kind at' w l s) := by
  refine ⟨?_, fun h c hc => ?_⟩
  · unfold wtS gI
    dsimp only
    rw [List.length_append, List.length_singleton]
    omega
  · have hc : c ∈ s.scopes ++ [_] := hc
    rcases List.mem_append.1 hc with hc | hc
    · exact h c hc
    · rw [List.mem_singleton.1 hc]
      exact hl
theorem mN {kind at' : Int} {w : Wh} {l : List Bd} (s : FS) (hl : l.length ≤ 10000000) : GrS 1 s (eU kind at' w l s) := by
  unfold eU
  split
  · exact (GrS.refl s).mono (by omega)
  · exact mO s hl
theorem MU (t : T) (w : Wh) (s : FS) : GrS 1 s (lX t w s) := by
  refine ⟨?_, fun h => h⟩
  unfold wtS lX
  dsimp only
  rw [List.length_append, List.length_singleton]
  omega
def NGs (N : T → Wh → FS → FS) (k : T) : Prop := ∀ (w : Wh) (s : FS), GrS (3 * k.size) s (N k w s)
section
variable {N : T → Wh → FS → FS} {fu : Nat}
theorem kN {α : Type} (g : FS → α → FS) (c : α → Nat) : ∀ (l : List α) (s : FS), (∀ k ∈ l, ∀ s, GrS (c k) s (g s k)) → GrS ((l.map c).sum) s (l.foldl g s)
  | [], s, _ => GrS.refl s
  | k :: r, s, h => (h k (List.mem_cons_self ..) s).trans (kN g c r _ fun k hk => h k (List.mem_cons_of_mem _ hk))
theorem aE5 (l : List T) : (l.map fun k => 3 * k.size).sum = 3 * szs l := by induction l with
  | nil => rfl
  | cons x r ih => simp only [List.map_cons, List.sum_cons, aZ, ih]; omega
theorem AB : ∀ (l : List T) (n : Nat), ((l.zipIdx n).map fun k => 3 * k.1.size).sum = 3 * szs l
  | [], _ => rfl
  | x :: r, n => by
    have := AB r (n + 1)
    simp only [List.zipIdx_cons, List.map_cons, List.sum_cons, aZ, this]
    omega
theorem oD {l : List T} {n : Nat} {p : T × Nat} (h : p ∈ l.zipIdx n) : p.1 ∈ l := by
  obtain ⟨a, b⟩ := p
  exact (List.mem_zipIdx h).2.2 ▸ List.getElem_mem _
theorem kI (l : List T) (hN : ∀ k ∈ l, NGs N k) (w : Wh) (s : FS) : GrS (3 * szs l) s (qF N l w s) := by
  have := kN (fun s k => N k w s) (fun k => 3 * k.size) l s fun k hk s => hN k hk w s
  rw [aE5] at this
  exact this
theorem GrS.other {m : Nat} {s s1 s2 : FS} (h : GrS m s s1) (e1 : s2.scopes = s1.scopes) (e2 : s2.uses = s1.uses) (e3 : s2.funcs = s1.funcs) : GrS m s s2 := ⟨by have := h.wt; unfold wtS at *; rw [e1, e2, e3]; exact this, fun hn c hc => h.nm hn c (by rw [← e1]; exact hc)⟩
theorem CI {t : T} (h : 2 ≤ t.kids.length) : (bU t 0).size + (bU t 1).size ≤ szs t.kids ∧ bU t 0 ∈ t.kids ∧ bU t 1 ∈ t.kids := by
  unfold bU
  cases hk : t.kids with
  | nil => rw [hk] at h; simp at h
  | cons a r =>
    cases r with
    | nil => rw [hk] at h; simp at h
    | cons b r => simp [aZ] <;> omega
theorem wE {t : T} (h : 1 ≤ t.kids.length) : (bU t 0).size + szs (t.kids.drop 1) = szs t.kids ∧ bU t 0 ∈ t.kids := by
  unfold bU
  cases hk : t.kids with
  | nil => rw [hk] at h; simp at h
  | cons a r => simp [aZ]
theorem YT (t : T) (hq : Ks t) (h4 : t.op = 4) (hts : t.size ≤ 2000) (hN : ∀ k, (k ∈ t.kids ∨ k ∈ (bU t 1).kids) → NGs N k) (w : Wh) (s : FS) : GrS (3 * t.size) s (DL N fu t w s) := by
  obtain ⟨hz, m0, m1⟩ := CI (hq.kc.two (.inl h4))
  have h0 := aP t
  have h1 := aP (bU t 1)
  unfold DL
  dsimp only
  have g1 : GrS 1 s { s with funcs := s.funcs + 1 } := ⟨by unfold wtS; dsimp only; omega, fun h => h⟩
  generalize ({ s with funcs := s.funcs + 1 } : FS) = s1 at g1 ⊢
  generalize (!decide (t.s = ⟨#[]⟩) && !kW t 1) = c
  generalize ({ w with fn := ((s.funcs + 1 : Nat) : Int) } : Wh) = w1
  have g2 : GrS 1 s1 (if c = true then gI 5 t.at' w1 [⟨t.s, 7, false, 0⟩] s1 else s1) := by
    cases c
    · exact (GrS.refl s1).mono (by omega)
    · exact mO s1 (by simp)
  generalize (if c = true then gI 5 t.at' w1 [⟨t.s, 7, false, 0⟩] s1 else s1) = s2 at g2 ⊢
  generalize (if c = true then pF w1 s1 else w1) = w2
  have g3 := mO (kind := 1) (at' := t.at') (w := w2) s2 (vE fu t hts)
  have g4 := hN (bU t 0) (.inl m0) (pF w2 s2) (gI 1 t.at' w2 (cK fu t) s2)
  have g := ((g1.trans g2).trans g3).trans g4
  split
  · exact (g.trans (kI _ (fun k hk => hN k (.inr hk)) _ _)).mono (by omega)
  · exact (g.trans (hN (bU t 1) (.inl m1) _ _)).mono (by omega)
theorem UA (t : T) (hts : t.size ≤ 2000) (hN : ∀ k ∈ t.kids, NGs N k) (w : Wh) (s : FS) : GrS (3 * t.size) s (sZ N t w s) := by
  have h0 := aP t
  unfold sZ
  dsimp only
  have hl : (cH (bU t 0) []).length ≤ 10000000 := by
    have h1 := lK (bU t 0) []
    have h2 := lO t 0
    have h3 := aP (bU t 0)
    rw [List.length_nil] at h1
    omega
  generalize (decide ((bU t 0).op = 2) && !decide ((bU t 0).n = 0)) = c
  have g1 : GrS 1 s (if c = true then eU 3 t.at' w (cH (bU t 0) []) s else s) := by
    cases c
    · exact (GrS.refl s).mono (by omega)
    · exact mN s hl
  generalize (if c = true then eU 3 t.at' w (cH (bU t 0) []) s else s) = s1 at g1 ⊢
  generalize (if c = true then gV w (cH (bU t 0) []) s else w) = w1
  have g2 := kN (fun s (k : T × Nat) =>
    if k.2 = 1 ∧ t.op ≠ 10 ∧ w1.scope ≠ w.scope then
      let s2 := N k.1 w1 { s with heads := eY w1.scope true s.heads }
      { s2 with heads := sI w1.scope s2.heads }
    else N k.1 w1 s) (fun k => 3 * k.1.size) (t.kids.zipIdx) s1 fun k hk s => by
      dsimp only
      split
      · refine GrS.other (s1 := N k.1 w1 { s with heads := eY w1.scope true s.heads }) ?_ rfl rfl rfl
        have ga : GrS 0 s { s with heads := eY w1.scope true s.heads } := (GrS.refl s).other rfl rfl rfl
        exact (ga.trans (hN k.1 (oD hk) _ _)).mono (by omega)
      · exact hN k.1 (oD hk) _ _
  rw [AB] at g2
  exact (g1.trans g2).mono (by omega)
theorem KA (t : T) (h1 : 1 ≤ t.kids.length) (hts : t.size ≤ 2000) (hN : ∀ k ∈ t.kids, NGs N k) (w : Wh) (s : FS) : GrS (3 * t.size) s (lJ N t w s) := by
  have h0 := aP t
  obtain ⟨hz, m0⟩ := wE h1
  unfold lJ
  dsimp only
  have hl : ((t.kids.drop 1).foldl (fun l k => bA k.kids true l) []).length ≤ 10000000 := by
    have h2 := gM (fun l (k : T) => bA k.kids true l) T.size (t.kids.drop 1) [] fun k _ a => by
      have h3 := eF k.kids true a
      have h4 := aP k
      omega
    have h5 : ((t.kids.drop 1).map T.size).sum = szs (t.kids.drop 1) := rfl
    rw [h5, List.length_nil] at h2
    omega
  generalize (t.kids.drop 1).foldl (fun l k => bA k.kids true l) [] = l at hl ⊢
  have g1 := mN (kind := 2) (at' := t.at') (w := w) s hl
  generalize eU 2 t.at' w l s = s1 at g1 ⊢
  generalize gV w l s = w1
  have g2 := hN (bU t 0) m0 w s1
  have g3 := kN (fun s (k : T × Nat) => N k.1 w1 (if w1.scope ≠ w.scope then { s with cases := eY w1.scope (k.2 : Int) s.cases } else s)) (fun k => 3 * k.1.size) ((t.kids.drop 1).zipIdx) (N (bU t 0) w s1) fun k hk s => by
    have ga : GrS 0 s (if w1.scope ≠ w.scope then { s with cases := eY w1.scope (k.2 : Int) s.cases } else s) := by
      split
      · exact (GrS.refl s).other rfl rfl rfl
      · exact GrS.refl s
    exact (ga.trans (hN k.1 (List.mem_of_mem_drop (oD hk)) _ _)).mono (by omega)
  rw [AB] at g3
  exact ((g1.trans g2).trans g3).mono (by omega)
theorem UB (t : T) (h1 : 1 ≤ t.kids.length) (hN : ∀ k ∈ t.kids, NGs N k) (w : Wh) (s : FS) : GrS (3 * t.size) s (tQ N t w s) := by
  have h0 := aP t
  obtain ⟨hz, m0⟩ := wE h1
  unfold tQ
  dsimp only
  have g1 := hN (bU t 0) m0 { w with decl := true } s
  have g2 := kI (t.kids.drop 1) (fun k hk => hN k (List.mem_of_mem_drop hk)) w (N (bU t 0) { w with decl := true } s)
  have g3 := kN (fun s x => match iC s.scopes w.scope x with
    | some (a, b) => { s with done := eY ((a : Int), (b : Int)) ((iB (a : Int) s.cases).getD 0) s.done }
    | none => s) (fun _ => 0) (aR (bU t 0)) (qF N (t.kids.drop 1) w (N (bU t 0) { w with decl := true } s)) fun x _ s => by
    split
    · exact (GrS.refl s).other rfl rfl rfl
    · exact GrS.refl s
  have h5 : ∀ l : List ByteArray, (l.map fun _ => 0).sum = 0 := fun l => by induction l with
    | nil => rfl
    | cons x r ih => simp only [List.map_cons, List.sum_cons, ih]
  rw [h5] at g3
  exact ((g1.trans g2).trans g3).mono (by omega)
theorem QE (t : T) (hN : ∀ k ∈ t.kids, NGs N k) (w : Wh) (s : FS) : GrS (3 * szs t.kids) s (oA N t w s) := by
  unfold oA
  have g2 := kN (fun s (k : T × Nat) =>
    if t.op = 60 ∨ t.op = 61 ∨ t.op = 64 ∨ (t.op = 63 ∧ k.2 = 0) ∨ (t.op = 62 ∧ k.2 = 1) then N k.1 w s else N k.1 { w with decl := false } s) (fun k => 3 * k.1.size) (t.kids.zipIdx) s fun k hk s => by
    split
    · exact hN k.1 (oD hk) _ _
    · exact hN k.1 (oD hk) _ _
  rw [AB] at g2
  exact g2
theorem TZ (t : T) (hq : Ks t) (hts : t.size ≤ 2000) (hN : ∀ k, k.size < t.size → (k ∈ t.kids ∨ k ∈ (bU t 1).kids) → NGs N k) : NGs (vG N fu) t := by
  intro w s
  have h0 := aP t
  have hlek : ∀ k ∈ t.kids, k.size < t.size := fun k hk => by
    have : k.size ≤ szs t.kids := T.bN (List.mem_map.2 ⟨k, hk, rfl⟩)
    omega
  have hN1 : ∀ k ∈ t.kids, NGs N k := fun k hk => hN k (hlek k hk) (.inl hk)
  unfold vG
  split
  · exact (MU t w s).mono (by omega)
  split
  · rename_i h4
    exact YT t hq h4 hts (fun k hk => hN k (by
      rcases hk with hk | hk
      · exact hlek k hk
      · have h1 : k.size ≤ szs (bU t 1).kids := T.bN (List.mem_map.2 ⟨k, hk, rfl⟩)
        have h2 := aP (bU t 1)
        have h3 := lO t 1
        omega) hk) _ _
  split
  · have h1 := eF t.kids true []
    rw [List.length_nil] at h1
    exact ((mN s (by omega)).trans (kI _ hN1 _ _)).mono (by omega)
  split
  · rename_i h21
    exact KA t (hq.kc.one (by omega)) hts hN1 _ _
  split
  · exact UA t hts hN1 _ _
  split
  · have h1 := iV 5 (aR (bU t 0)) []
    have h2 := iQ (bU t 0)
    have h3 := lO t 0
    rw [List.length_nil] at h1
    exact ((mN s (by omega)).trans (kI _ hN1 _ _)).mono (by omega)
  split
  · rename_i h3
    exact UB t (hq.dec h3) hN1 _ _
  split
  · split
    · exact (MU _ w s).mono (by omega)
    · exact (kI _ hN1 _ _).mono (by omega)
  · exact (QE t hN1 _ _).mono (by omega)
end
theorem yC (fu : Nat) : ∀ (f : Nat) (t : T), dF qS t → t.size ≤ 2000 → NGs (nbS fu f) t
  | 0, t, _, _ => fun _ s => (GrS.refl s).mono (by omega)
  | f + 1, t, hq, hts => TZ t hq.here.1 hts fun k hk hm => yC fu f k (by
      rcases hm with hm | hm
      · exact hq.kid hm
      · by_cases h : ∃ k1, t.kids[1]? = some k1
        · obtain ⟨k1, h1⟩ := h
          rw [eR h1] at hm
          exact (hq.kid (List.mem_of_getElem? h1)).kid hm
        · have h1 : t.kids[1]? = none := by
            cases h2 : t.kids[1]? with
            | none => rfl
            | some k1 => exact absurd ⟨k1, h2⟩ h
          unfold bU at hm
          rw [h1] at hm
          exact absurd (show k ∈ ([] : List T) from hm) (by simp)) (by omega)
end Go.Proofs.YtocidaibmadekaaGreatDoor
namespace Go.Proofs.YtocidaibmadekaaGreatDoor
open Go.RowKit Go.Vcg Go.MapKept
attribute [local irreducible] anI FB eG G GC GQ GA bX Calls IntKind.wrap Int.decLt Int.decLe
theorem tX (t : T) (u : Value) (hu : u.oneCell' = true) (k : Int) (w : World) (μ : Mem) (hμ : MOk μ w) : Calls Tryz.prog 65 #[.agg (aD t u).toArray, .int .i64 k] w fun e w' => e = .returned (.bool (kW t k)) ∧ Below w.heap.size w w' := by
  have hb : kW t k = (decide (t.op = 4) && decide (anI t.n k ≠ 0)) := rfl
  refine aA (args := [.agg (aD t u).toArray, .int .i64 k]) Tryz.func65 rfl Tryz.ntmps65 (by simp) hμ ?_
  repeat' (first | refine KO ?_ | (refine KV (b := by ((with_reducible apply RO); exact rfl; exact rfl)) (c := ?_)) | refine KI ?_ | refine NB fun b => ?_ | ((refine KB ?_ ?_ <;> intro hp)) | refine KG ?_ | fail)
  all_goals refine aB rfl rfl (congrArg _ ?_)
  all_goals rw [hb]
  all_goals (simp_all; done)
theorem RD {x : ByteArray} {k : Int} {l : List Bd} {j : Nat} {y : Bd} (h : l[j]? = some y) (hb : ∀ i z, i < j → l[i]? = some z → z.name ≠ x) : fM x k l = if y.name = x then (if k = 3 then l.set j { y with kind := k } else l) else l.take (j + 1) ++ fM x k (l.drop (j + 1)) := by
  induction l generalizing j with
  | nil => simp at h
  | cons z r ih =>
    cases j with
    | zero =>
      cases h
      conv => lhs; unfold fM
      split
      · split <;> rfl
      · rfl
    | succ j =>
      have hz := hb 0 z (by omega) rfl
      conv => lhs; unfold fM
      rw [if_neg hz, ih (by simpa using h) (fun i z' hi hz' => hb (i + 1) z' (by omega) (by simpa using hz'))]
      split
      · split <;> rfl
      · rfl
theorem BZ {x : ByteArray} {k : Int} : ∀ {l : List Bd}, (∀ (i : Nat) (z : Bd), l[i]? = some z → z.name ≠ x) → fM x k l = l ++ [⟨x, k, false, 0⟩]
  | [], _ => rfl
  | z :: r, h => by
    unfold fM
    rw [if_neg (h 0 z rfl), BZ (fun i z hz => h (i + 1) z (by simpa using hz))]
    rfl
theorem tS (l : List Bd) (lv : Value) (x : ByteArray) (k : Int) (μ : Mem) (hl : l.length ≤ 10000000) :
    RC 66 [lv, .string x, .int .i64 k] lv l (fM x k l) μ := by
  intro w hμ hO
  have hcnt := bG hO.diff
  have he4 : ∀ x : Bd, (iU x).length = 4 := fun _ => rfl
  generalize hl' : fM x k l = l'
  have hfl := ND l
  refine aS (args := [lv, .string x, .int .i64 k]) Tryz.func66 rfl Tryz.ntmps66 (by simp) hμ hO ?_
  refine fG 0 rfl ?_
  rintro A c rfl hok
  repeat' (first | refine KK ?_ | fail)
  refine aX (ι := Nat) (fun j => j ≤ l.length ∧ ∀ i z, i < j → l[i]? = some z → z.name ≠ x) (fun j => l.length - j) (fun _ => μ) (fun j => [(10, .int .i64 (j : Int)), (9, .int .i64 (l.length : Int)), (0, .slice A l.length c), (1, .string x), (2, .int .i64 k)]) (fun _ => [kK (.slice A l.length c) l]) 0 ⟨Nat.zero_le _, fun i z h => absurd h (by omega)⟩ (fun a w hs => hs.sel PU (cR _)) ?_
  rintro j ⟨hj, hb⟩
  by_cases hlt : j < l.length
  · obtain ⟨y, hy⟩ : ∃ y, l[j]? = some y := ⟨_, List.getElem?_eq_getElem hlt⟩
    rcases hok.form with ⟨-, h0, -⟩ | ⟨g4, rfl⟩
    · exfalso; omega
    have hst := RD (k := k) hy hb
    have hnm : (l.flatMap iU)[j * 4 + 0]? = some (.string y.name) := by rw [fK he4 l j 0 _ hy (by omega)]; rfl
    by_cases hyx : y.name = x
    · rw [if_pos hyx] at hst
      by_cases hk : k = 3
      · rw [if_pos hk] at hst
        repeat' (first | refine KO ?_ | ((with_reducible apply jC 0); (iterate 7 exact rfl); (rw [hfl]; omega); (dsimp only [dG])) | (refine KV (b := by first | exact U1 j | ((with_reducible apply cJ 0); (iterate 3 exact rfl); exact hnm)) (c := ?_)) | refine KI ?_ | fail)
        all_goals try (exfalso; first | fail)
        all_goals refine fF (n' := l'.length) (xs' := l'.flatMap iU) 0 rfl (by rw [← hl', hst, List.length_set]) (by rw [← hl', hst]; exact lY he4 (vs := [.int .i64 k]) (k := 1) (n := 1) (by omega) l j _ hy rfl) ?_
        all_goals exact mY hcnt rfl (bJ rfl) rfl rfl
      · rw [if_neg hk] at hst
        repeat' (first | refine KO ?_ | (refine KV (b := by first | exact U1 j | ((with_reducible apply cJ 0); (iterate 3 exact rfl); exact hnm)) (c := ?_)) | refine KI ?_ | fail)
        all_goals try (exfalso; first | fail)
        all_goals exact mY hcnt rfl (bJ rfl) rfl (hst.symm.trans hl')
    · rw [if_neg hyx] at hst
      repeat' (first | refine KO ?_ | (refine KV (b := by first | exact U1 j | ((with_reducible apply cJ 0); (iterate 3 exact rfl); exact hnm)) (c := ?_)) | refine KI ?_ | fail)
      all_goals try (exfalso; first | fail)
      all_goals exact bD (j + 1) ⟨by omega, fun i z hi hz => by
        rcases Nat.lt_or_ge i j with h1 | h1
        · exact hb i z h1 hz
        · obtain rfl : i = j := by omega
          rw [hy] at hz
          cases hz
          exact hyx⟩ (by omega) rfl PU (cR _)
  · have hst := BZ (x := x) (k := k) (l := l) (fun i z hz => hb i z (by have := (List.getElem?_eq_some_iff.1 hz).1; omega) hz)
    repeat' (first | refine KO ?_ | (((with_reducible apply oG); (iterate 3 exact rfl); (repeat first | with_reducible exact dT | with_reducible apply eI); (iterate 6 exact rfl); (((with_reducible apply gH); exact rfl; (repeat with_reducible exact cU); exact rfl)); (exact rfl); ((exact eJ (by (repeat first | with_reducible exact dU | ((with_reducible apply dC); (exact rfl)))))); omega; omega; intro v)) | refine NB fun b => ?_ | fail)
    all_goals try (exfalso; first | fail)
    all_goals refine fT (L' := [_]) (bH (.refl _) (.nil _)) ?_
    all_goals refine fF (n' := l'.length) (xs' := l'.flatMap iU) 0 rfl (by rw [← hl', hst]; simp) (by rw [← hl', hst]; simp) ?_
    all_goals exact mY hcnt rfl (bJ rfl) rfl rfl
end Go.Proofs.YtocidaibmadekaaGreatDoor
namespace Go.Proofs.YtocidaibmadekaaGreatDoor
open Go.RowKit Go.Vcg Ou
theorem XG {μ : Mem} {A : Option Addr} {n : Nat} {l : List ByteArray} (h : Sl gA 1 μ A n l) : Sl KU 1 μ A n (l.map bl) := by
  refine ⟨by rw [List.length_map]; exact h.1, fun hp => ?_⟩
  obtain ⟨a, e, f⟩ := h.2 hp
  refine ⟨a, e, fun i x hx => ?_⟩
  rw [List.getElem?_map] at hx
  cases hy : l[i]? with
  | none => rw [hy] at hx; cases hx
  | some y =>
    rw [hy] at hx
    cases hx
    have h2 := f i y hy
    have e2 : KU (bl y) = gA y := by
      show [Value.string (ofB (bl y))] = _
      rw [JF]
    rw [e2]
    exact h2
theorem CX (s : ByteArray) (l : List ByteArray) : hZ s (l.map bl) = l.contains s := by
  induction l with
  | nil => rfl
  | cons y r ih =>
    unfold hZ mD at ih ⊢
    simp only [List.map_cons, List.any_cons, id_eq, List.contains_cons] at ih ⊢
    rw [ih]
    have : (⟨(bl y).toArray⟩ : ByteArray) = y := JF y
    rw [LP, this]
structure PB (p : EP) (n : Nat) : Prop where
  ne : 0 < p.regs.length
  regs : p.regs.length + n ≤ 90000
  labels : p.labels.length + n ≤ 90000
  loops : p.loops.length + p.mine.length ≤ p.labels.length
def SB (s : ES) (n : Nat) : Prop := s.regs + rR s.names + 2 * n ≤ 900000
theorem SB.bad {s : ES} {n : Nat} (h : SB s n) (c : Bool) (a e : Int) : SB (dN c a e s) n := by
  unfold SB at h ⊢
  rw [oL, QY]
  exact h
theorem SB.gr {F : ByteArray → Prop} {s s' : ES} {n m : Nat} (h : SB s (n + m)) (hg : Gr F (2 * n) s s') : SB s' m := by
  unfold SB at h ⊢
  have := hg.wt
  omega
theorem SB.mono {s : ES} {n m : Nat} (h : SB s n) (hm : m ≤ n) : SB s m := by unfold SB at h ⊢; omega
theorem PB.mono {p : EP} {n m : Nat} (h : PB p n) (hm : m ≤ n) : PB p m := ⟨h.ne, by have := h.regs; omega, by have := h.labels; omega, h.loops⟩
def NCk (N : T → EP → ES → ES) (k : T) : Prop := ∀ (xb mb : Nat) (u pv : Value) (p : EP) (s : ES) (μ : Mem), KR μ k.kids u → PV μ p pv → PB p k.size → SB s k.size → mF μ →
  CEs 62 [.pointer (some ⟨xb, 0, none⟩), .agg (aD k u).toArray, pv] xb mb s (N k p s) μ
def BCk (B : T → EP → ED → ES → ES) (k : T) : Prop := ∀ (xb mb : Nat) (u pv dv : Value) (p : EP) (d : ED) (s : ES) (μ : Mem), KR μ k.kids u → PV μ p pv → IsV μ dv d.ins → d.ins.length ≤ 100000 → PB p k.size → SB s k.size → mF μ →
  CEs 84 [.pointer (some ⟨xb, 0, none⟩), .agg (aD k u).toArray, pv, .agg (jJ (d, dv)).toArray] xb mb s (B k p d s) μ
abbrev FF : ByteArray → Prop := fun _ => False
def NG (N : T → EP → ES → ES) (k : T) : Prop := ∀ (p : EP) (s : ES), Gr FF (2 * k.size) s (N k p s)
def BG (B : T → EP → ED → ES → ES) (k : T) : Prop := ∀ (p : EP) (d : ED) (s : ES), Gr FF (2 * k.size) s (B k p d s)
theorem lP {α : Type} (g : ES → α → ES) (l : List α) (s : ES) {i : Nat} {k : α} (h : l[i]? = some k) : (l.take (i + 1)).foldl g s = g ((l.take i).foldl g s) k := by
  rw [List.take_add_one, List.foldl_append, h]
  rfl
theorem eP {l : List T} {i : Nat} {k : T} (h : l[i]? = some k) : szs (l.take i) + k.size ≤ szs l := by
  obtain ⟨h1, h2⟩ := List.getElem?_eq_some_iff.1 h
  have e : szs l = szs (l.take i) + szs (l.drop i) := by rw [← CJ, List.take_append_drop]
  rw [List.drop_eq_getElem_cons h1, aZ, h2] at e
  omega
attribute [local irreducible] wdL anI fV mkD G GC GQ GA bX Calls IntKind.wrap Int.decLt Int.decLe
theorem yQ (s : ByteArray) (l : List ByteArray) (v : Value) (w : World) (μ : Mem) (hμ : MOk μ w) (hv : SsV μ v l) (hn : l.length ≤ 100000) :
    Calls Tryz.prog 90 #[v, .string s] w fun e w' => e = .returned (.bool (l.contains s)) ∧ Below w.heap.size w w' := by
  obtain ⟨A, c, rfl, hS, -⟩ := hv
  rw [← CX]
  exact qB s (l.map bl) A l.length c w μ hμ (XG hS) hn
theorem eD (N : T → EP → ES → ES) (l : List T) (lv pv : Value) (p : EP) (s : ES) (μ : Mem) (xb mb : Nat) (hN : ∀ k ∈ l, NCk N k ∧ NG N k) (hk : KR μ l lv) (hp : PV μ p pv) (hB : ∀ k ∈ l, PB p k.size) (hS : SB s (szs l)) (hl : l.length ≤ 100000) (hm : mF μ) :
    CEs 39 [.pointer (some ⟨xb, 0, none⟩), lv, pv] xb mb s (iD N l p s) μ := by
  intro w fs hμ hR hO
  have hcnt := bG hO.diff
  have hp0 := hp
  obtain ⟨r, lb, lo, mi, rfl, hpr, hplb, hplo, hpmi⟩ := hp
  have o1 := hpr.one
  have o2 := hplb.one
  have o3 := hplo.one
  have o4 := hpmi.one
  obtain ⟨A, c, rfl, hcap, hget⟩ := hk.form
  refine aS (args := [.pointer (some ⟨xb, 0, none⟩), .slice A l.length c, .agg (cY p r lb lo mi).toArray]) Tryz.func39 rfl Tryz.ntmps39 (by simp) hμ hO ?_
  repeat' (first | refine KK ?_ | refine NB fun b => ?_ | fail)
  obtain ⟨bp, hbp⟩ : ∃ y, y = b := ⟨_, rfl⟩
  rw [← hbp]
  clear hbp
  refine aX (ι := Nat × Mem × List FR) (fun q => q.1 ≤ l.length ∧ MLe μ q.2.1 ∧ ER q.2.1 q.2.2 (iD N (l.take q.1) p s)) (fun q => l.length - q.1) (fun q => q.2.1) (fun q => [(10, .int .i64 (q.1 : Int)), (9, .int .i64 (l.length : Int)), (8, .slice A l.length c), (5, .pointer (some ⟨bp, 0, none⟩)), (0, .pointer (some ⟨xb, 0, none⟩))]) (fun q => .inl ⟨bp, 93, 12, idx 0 (cY p r lb lo mi)⟩ :: EB xb mb (iD N (l.take q.1) p s) q.2.2) (0, μ, fs) ⟨Nat.zero_le _, MLe.refl _, hR⟩ (fun a w hs => hs.sel PU (bV _)) ?_
  rintro ⟨i, μ0, fs0⟩ ⟨hi, hle, hR⟩
  dsimp only at hi hle hR ⊢
  by_cases hlt : i < l.length
  · obtain ⟨k, hkk⟩ : ∃ k, l[i]? = some k := ⟨_, List.getElem?_eq_getElem hlt⟩
    obtain ⟨ad, x, rfl, hm0, hox, hkx⟩ := hget i k hkk
    have hmm := hm0.mono hle
    have hmem := List.mem_of_getElem? hkk
    obtain ⟨hn1, -⟩ := hN k hmem
    have hsz := eP hkk
    have hgr := pR (F := FF) (l.take i) (fun k hk => (hN k (List.mem_of_mem_take hk)).2) p s
    have hsb := SB.gr (hS.mono hsz) hgr
    have hnext : N k p (iD N (l.take i) p s) = iD N (l.take (i + 1)) p s := (lP (fun s k => N k p s) l s hkk).symm
    repeat' (first | refine KO ?_ | (refine CF 62 ?_; (with_reducible apply dJ 2); (iterate 3 exact rfl); ((with_reducible apply aU); kernel_rfl; (iterate 3 exact rfl)); exact rfl; (exact hR); (exact hn1 xb mb _ _ p _ _ (hkx.mono hle) (hp0.mono hle) (hB k hmem) hsb (hm.mono hle)); (intro v1 μ1 i1 hle1 hR); (dsimp only [List.cons_append, List.nil_append])) | (refine KV (b := by first | exact U1 i | exact U4 hmm) (c := ?_)) | refine KI ?_ | refine NB fun b => ?_ | fail)
    all_goals try (exfalso; first | fail)
    rw [hnext] at hR ⊢
    exact bD (i + 1, μ1, i1) ⟨by dsimp only; omega, hle.trans hle1, hR⟩ (by dsimp only; omega) rfl PU (bH (.refl _) (aO _ (bV _)))
  · have hil : i = l.length := by omega
    subst hil
    rw [List.take_of_length_le (Nat.le_refl _)] at hR ⊢
    repeat' (first | refine KK ?_ | fail)
    all_goals try (exfalso; first | fail)
    all_goals exact cN 1 fs0 (by exact .inr rfl) hcnt rfl rfl rfl hR
theorem pX (N : T → EP → ES → ES) (t : T) (hN : NCk N t) (u pv : Value) (p : EP) (s : ES) (μ : Mem) (xb mb : Nat) (hk : KR μ t.kids u) (hp : PV μ p pv) (hB : PB p t.size) (hS : SB s t.size) (hm : mF μ) :
    CEs 87 [.pointer (some ⟨xb, 0, none⟩), .agg (aD t u).toArray, pv] xb mb s (gP N t p s) μ := by
  intro w fs hμ hR hO
  have hcnt := bG hO.diff
  have hp0 := hp
  obtain ⟨r, lb, lo, mi, rfl, hpr, hplb, hplo, hpmi⟩ := hp
  have o1 := hpr.one
  have o2 := hplb.one
  have o3 := hplo.one
  have o4 := hpmi.one
  have ou := hk.one
  generalize hs' : gP N t p s = s'
  unfold gP at hs'
  have hbit := fun (w : World) (μc : Mem) (hw : MOk μc w) => HV t.n 1 w μc hw
  generalize jK t.n 1 = b1 at hbit hs'
  refine aS (args := [.pointer (some ⟨xb, 0, none⟩), .agg (aD t u).toArray, .agg (cY p r lb lo mi).toArray]) Tryz.func87 rfl Tryz.ntmps87 (by simp) hμ hO ?_
  repeat' (first | refine KK ?_ | refine NB fun b => ?_ | fail)
  refine aC 26 _ (by kernel_rfl) rfl (List.Sublist.cons _ (List.Sublist.cons_cons _ (List.nil_sublist _))) ?_
  all_goals refine DD 0 ?_
  all_goals refine DD 1 ?_
  all_goals refine DD 2 ?_
  all_goals refine DD 3 ?_
  all_goals refine DD 4 ?_
  all_goals refine DD 5 ?_
  all_goals (try (refine D7 6 ?_; (repeat' (((refine KB ?_ ?_ <;> intro hp))))))
  all_goals refine DD 6 ?_
  all_goals refine DD 7 ?_
  all_goals (first | (refine D3 8 ?_; refine D5 ?_; (((with_reducible apply F1 134); exact rfl; exact EN; (exact fun w μc hw hse => hbit w μc hw))); refine D9 ?_) | refine D3 8 (D6 ?_))
  all_goals refine DD 9 ?_
  all_goals refine DD 10 ?_
  all_goals (try (refine D7 11 ?_; (repeat' (((refine KB ?_ ?_ <;> intro hp))))))
  all_goals refine DD 11 ?_
  all_goals refine DD 12 ?_
  all_goals refine DD 13 ?_
  all_goals refine DD 14 ?_
  all_goals (try (refine D7 15 ?_; (repeat' (first | refine KO ?_ | (refine KB ?_ ?_ <;> intro hp)))))
  all_goals refine DD 15 ?_
  all_goals refine DD 16 ?_
  all_goals refine DD 17 ?_
  all_goals refine DD 18 ?_
  all_goals (try (refine D7 19 ?_; (repeat' (((refine KB ?_ ?_ <;> intro hp))))))
  all_goals refine DD 19 ?_
  all_goals refine DD 20 ?_
  all_goals refine DD 21 ?_
  all_goals refine DD 22 ?_
  all_goals refine DD 23 ?_
  all_goals refine DD 24 ?_
  all_goals ((refine D3 25 ?_; refine D5 ?_; ((refine CF 89 ?_; (with_reducible apply dJ 2); (iterate 3 exact rfl); ((with_reducible apply bZ); kernel_rfl; (iterate 4 exact rfl)); exact rfl; (exact hR); (exact jG xb mb t _ ou _ _ _ _); (intro v1 μ1 i1 hle1 hR); (dsimp only [List.cons_append, List.nil_append]); (have hk := hk.mono hle1); (have hp0 := hp0.mono hle1); (have hm := hm.mono hle1))); refine D9 ?_))
  all_goals refine D8 ?_
  all_goals try (exfalso; first | fail)
  all_goals repeat' (first | refine KO ?_ | (refine CF 62 ?_; (with_reducible apply dJ 2); (iterate 3 exact rfl); ((with_reducible apply aU); kernel_rfl; (iterate 3 exact rfl)); exact rfl; (exact hR); (exact hN xb mb _ _ p _ _ hk hp0 hB (hS.bad _ _ _) hm); (intro v1 μ1 i1 hle1 hR); (dsimp only [List.cons_append, List.nil_append])) | refine KI ?_ | fail)
  all_goals exact cN 2 i1 (by exact .inr rfl) hcnt rfl rfl (by rw [← hs']; simp_all) hR
theorem pV (N : T → EP → ES → ES) (t : T) (hN : NCk N t) (u pv mv : Value) (p : EP) (mine : List ByteArray) (s : ES) (μ : Mem) (xb mb : Nat) (hk : KR μ t.kids u) (hp : PV μ p pv) (hmv : SsV μ mv mine) (hB : PB { p with loops := p.loops ++ mine } t.size) (hS : SB s t.size) (hm : mF μ) :
    CEs 138 [.pointer (some ⟨xb, 0, none⟩), .agg (aD t u).toArray, pv, mv] xb mb s (uB N t p mine s) μ := by
  intro w fs hμ hR hO
  have hcnt := bG hO.diff
  have hp0 := hp
  obtain ⟨r, lb, lo, mi, rfl, hpr, hplb, hplo, hpmi⟩ := hp
  have o1 := hpr.one
  have o2 := hplb.one
  have o3 := hplo.one
  have o4 := hpmi.one
  have ou := hk.one
  obtain ⟨A, c, rfl, hSm, hcm⟩ := hmv
  have hll := hB.loops
  have hla := hB.labels
  dsimp only at hll hla
  rw [List.length_append] at hll
  have e1 : (p.loops.flatMap gA).length = p.loops.length := BJ p.loops
  have e2 := xR p.loops
  have e3 : (mine.flatMap gA).length = mine.length := BJ mine
  have e4 := xR mine
  refine aS (args := [.pointer (some ⟨xb, 0, none⟩), .agg (aD t u).toArray, .agg (cY p r lb lo mi).toArray, .slice A mine.length c]) Tryz.func138 rfl Tryz.ntmps138 (by simp) hμ hO ?_
  repeat' (first | ((with_reducible show GC _ _ (Code.region 3 _ _) _ _ _ _); (apply bF)) | refine KO ?_ | ((with_reducible apply F3 91); exact rfl; exact EN; (exact fun w μc hw hse => qV w μc hw p.loops lo (hplo.mono hse.le) (by omega)); intro vr) | (refine AX (S := by (with_reducible apply IK); exact rfl; exact hSm; simp) (A := by rw [e3, Nat.mul_one]) (O := e4) (k := fun v => ?_); (with_reducible apply cP 0); exact rfl; (rintro A1 c1 rfl hok1)) | refine KI ?_ | refine NB fun b => ?_ | fail)
  refine gcs (jV rfl ?_)
  intro μ4 hle4 hsh4
  have hv := SsV.iY (xs := p.loops ++ mine) hsh4 (by simp) (by rw [List.flatMap_append])
  have hp4 : PV μ4 { p with loop := true, loops := p.loops ++ mine } (.agg (cY { p with loop := true, loops := p.loops ++ mine } r lb (.slice A1 (p.loops.length + mine.length) c1) mi).toArray) := ⟨_, _, _, _, rfl, hpr.mono hle4, hplb.mono hle4, hv, hpmi.mono hle4⟩
  have hR := hR.mono hle4
  repeat' (first | refine KO ?_ | (refine CF 87 ?_; (with_reducible apply dJ 2); (iterate 3 exact rfl); ((with_reducible apply aU); kernel_rfl; (iterate 3 exact rfl)); exact rfl; (exact hR); (exact pX N t hN _ _ { p with loop := true, loops := p.loops ++ mine } _ _ xb mb (hk.mono hle4) hp4 ⟨hB.ne, hB.regs, hB.labels, hB.loops⟩ hS (hm.mono hle4)); (intro v1 μ1 i1 hle1 hR); (dsimp only [List.cons_append, List.nil_append])) | refine KI ?_ | fail)
  exact cN 2 i1 (by exact .inr rfl) hcnt rfl rfl rfl hR
end Go.Proofs.YtocidaibmadekaaGreatDoor
