/- Package ir: the state of the check of a unit; a node in its place, both sides. -/
import Derived.Test.YtoclmkdfcafhfaaGreatDoorZaq
set_option maxRecDepth 20000
set_option maxHeartbeats 2000000
namespace Go.Vcg
open Go.RowKit
section
variable {P : Program} {X : Ctx} {ops : Array Oper} {Q : Exit → Act → World → Prop} {rest : List Oper} {μ : Mem} {l : aF} {L : List Bk} {a : Act} {w : World} {o : Oper} {d : Nat}
variable {ty : TypeId} {pos : String} {af : Array Edge} {gd : Option (Nat × Bool)} {ds : Option Nat}
theorem aHt : ∀ x : Fin 256, IntKind.wrap .i64 ((BitVec.ofInt 64 (x.val : Int) &&& BitVec.ofInt 64 4).toNat : Int) = (if (x.val : Int) / 4 % 2 = 1 then 4 else 0) := by decide +kernel
theorem MR {p : Operand} {t t2 : TypeId} {x : Int} (hx0 : ev l p = some (.int .i64 x)) (h : 0 ≤ x ∧ x ≤ 255) : Val P μ l L ⟨ds, .binOp .quo t p (.const (.int .i64 4)) t2, ty, pos, af, gd⟩ (.int .i64 (x / 4)) := by
  have e : x.tdiv 4 = x / 4 := Int.tdiv_eq_ediv_of_nonneg h.1
  rw [← e]
  exact RE hx0 rfl (by omega) (by rw [e]; omega)
theorem DZ {p : Operand} {t t2 : TypeId} {x r : Int} (hx0 : ev l p = some (.int .i64 x)) (h : 0 ≤ x ∧ x ≤ 255) (hr : (if x / 4 % 2 = 1 then (4 : Int) else 0) = r) : Val P μ l L ⟨ds, .binOp .and t p (.const (.int .i64 4)) t2, ty, pos, af, gd⟩ (.int .i64 r) := fun a w hs => by
  subst hr
  have e0 := hs.eval hx0
  have e1 : a.eval (.const (.int .i64 4)) = .int .i64 4 := rfl
  have e2 := aHt ⟨x.toNat, by omega⟩
  have e3 : ((⟨x.toNat, by omega⟩ : Fin 256).val : Int) = x := by show ((x.toNat : Nat) : Int) = x; omega
  rw [e3] at e2
  generalize a.eval = ρ at e0 e1
  rw [← e2]
  simp [execOp, e0, e1, eqGuard, binOp, Op.intBits]
  rfl
end
end Go.Vcg
namespace Go.Proofs.YtoclmkdfcafhfaaGreatDoor
open Go.RowKit Go.Vcg Ou
abbrev CIx := List Value × Value × Bk
abbrev ckT (gm gs n : Nat) (c : Iq.CkS) (i : CIx) : List Bk := [.inr ⟨.slice (some ⟨gm, 0, none⟩) n n, 4, 1, n, c.met.map Value.bool⟩, .inr ⟨.slice (some ⟨gs, 0, none⟩) n n, 84, 1, n, i.1⟩, i.2.2]
abbrev ckP (fb gm gs n : Nat) (U : Value) (c : Iq.CkS) (i : CIx) : List Bk := .inl ⟨fb, 86, 4, [(0, U), (1, .slice (some ⟨gm, 0, none⟩) n n), (2, .slice (some ⟨gs, 0, none⟩) n n), (3, i.2.1)]⟩ :: ckT gm gs n c i
abbrev ckR (fb gm gs n : Nat) (U : Value) (f : Nat) (c : Iq.CkS) (i : CIx) : List Bk := .inl ⟨fb, 89, 5, [(0, U), (1, .int .i64 (f : Int)), (2, .slice (some ⟨gm, 0, none⟩) n n), (3, .slice (some ⟨gs, 0, none⟩) n n), (4, i.2.1)]⟩ :: ckT gm gs n c i
structure CkI (μ : Mem) (c : Iq.CkS) (i : CIx) : Prop where
  q : Qu 3 i.2.1 i.2.2 (c.next.flatMap aW)
  len : i.1.length = c.slots.length
  ints : ∀ (k : Nat) (v : Value) (xs : List Int), i.1[k]? = some v → c.slots[k]? = some xs → bK μ v xs
theorem CkI.mono {μ μ' : Mem} {c : Iq.CkS} {i : CIx} (h : CkI μ c i) (hle : MLe μ μ') : CkI μ' c i := ⟨h.q, h.len, fun k v xs h1 h2 => (h.ints k v xs h1 h2).mono hle⟩
def fW (c : Iq.CkS) (b : Bool) (μ : Mem) (v : Value) (i : CIx) : Prop := v = .bool b ∧ CkI μ c i
structure UOk (μ : Mem) (A : Option Addr) (n : Nat) (ps : List (F × Value)) : Prop where
  fs : Fs μ A n ps
  n1 : n ≤ 4096
  kd : ∀ p ∈ ps, (0 ≤ p.1.kind ∧ p.1.kind ≤ 255) ∧ (0 ≤ p.1.loc ∧ p.1.loc ≤ 4096)
theorem UOk.mono {μ μ' : Mem} {A : Option Addr} {n : Nat} {ps : List (F × Value)} (h : UOk μ A n ps) (hle : MLe μ μ') : UOk μ' A n ps := ⟨h.fs.mono hle, h.n1, h.kd⟩
abbrev bM (ps : List (F × Value)) : Iq.Fns := ps.map fun p => (p.1.kind, p.1.loc)
structure CkB (n : Nat) (c : Iq.CkS) : Prop where
  ck : Iq.AM c n
  sl : c.slots.length = n
  me : Iq.qF c ≤ 100000
structure PlB (p : Iq.PlP) (deep : Int) (c : Iq.CkS) : Prop where
  pl : Iq.tE p deep (Iq.cnt c.met)
  b1 : (p.breaks.length : Int) ≤ deep
  b2 : (p.agains.length : Int) ≤ deep
theorem CkB.next {n : Nat} {c : Iq.CkS} (h : CkB n c) : c.next.length ≤ 100000 := by
  have := h.me
  unfold Iq.qF at this
  omega
theorem CkB.met {n : Nat} {c : Iq.CkS} (h : CkB n c) : c.met.length = n := h.ck.1
theorem CkB.at {n : Nat} {c : Iq.CkS} (h : CkB n c) (hn : n ≤ 4096) {k : Nat} {xs : List Int} (hx : c.slots[k]? = some xs) : xs.length ≤ 100000000 := by
  have h1 := (h.ck.2 xs (List.mem_of_getElem? hx)).1
  have h2 := Iq.QN c.met
  rw [h.met] at h2
  omega
theorem PlB.sl {n : Nat} {p : Iq.PlP} {deep : Int} {c : Iq.CkS} (h : PlB p deep c) (hc : CkB n c) (hn : n ≤ 4096) (hd : deep ≤ 3000) : p.slots.length ≤ 100000000 := by
  have h1 := h.pl.1
  have h2 := Iq.QN c.met
  rw [hc.met] at h2
  omega
def PlV (μ : Mem) (p : Iq.PlP) (v1 v2 v3 : Value) : Prop := bK μ v1 p.slots ∧ bK μ v2 p.breaks ∧ bK μ v3 p.agains
theorem PlV.mono {μ μ' : Mem} {p : Iq.PlP} {v1 v2 v3 : Value} (h : PlV μ p v1 v2 v3) (hle : MLe μ μ') : PlV μ' p v1 v2 v3 := ⟨h.1.mono hle, h.2.1.mono hle, h.2.2.mono hle⟩
section
variable {P : Program} {μ μ0 : Mem} {l : aF} {L Lr : List Bk} {w : World} {n : Nat} {M : List Nat}
theorem bZ {fn : Func} {r : ResultVar} {Ls : CIx → List Bk} {c : Iq.CkS} {b b' : Bool} (hM : ∀ D, M.count D ≤ 1) (hr : fn.results = #[r]) (h : RV P μ l L r (.bool b')) (i : CIx) (hL : splitB 4 L = some (Ls i, Lr)) (hb : b' = b) (hi : CkI μ c i) :
    GQ ⟨w, μ0, M, n⟩ (bodyPost P fn (fun e w' => ∃ v μ' i, e = .returned v ∧ fH M w w' μ0 (Ls i) μ' ∧ fW c b μ' v i)) .ret μ l L :=
  aS 4 i hM hr h hL rfl (fun μ' hle => ⟨by rw [hb], hi.mono hle⟩)
end
theorem TI {n : Int} {k : Nat} (h : Iq.inI n 0 ((k : Int) - 1) = true) : ∃ j : Nat, n = j ∧ j < k := by
  have := Iq.gQ h
  exact ⟨n.toNat, by omega, by omega⟩
theorem ZH {n loc : Int} {k : Nat} (h : Iq.bB 119 n loc k = true) : ∃ j : Nat, n = j ∧ j < k := by
  have e : Iq.bB 119 n loc k = Iq.inI n 1 ((k : Int) - 1) := by simp [Iq.bB]
  rw [e] at h
  have := Iq.gQ h
  exact ⟨n.toNat, by omega, by omega⟩
theorem vC {α β : Type} {g : α → β} {l : List α} {k : Nat} {x : α} (h : k < l.length) : (l.map g).take (k * 1) ++ [g x] ++ (l.map g).drop (k * 1 + 1) = (l.set k x).map g := by
  rw [Nat.mul_one, List.set_eq_take_append_cons_drop, if_pos h, List.map_append, List.map_cons, List.map_take, List.map_drop, List.append_assoc]
  rfl
theorem wM {l : List Value} {k : Nat} {x : Value} (h : k < l.length) : l.take (k * 1) ++ [x] ++ l.drop (k * 1 + 1) = l.set k x := by
  rw [Nat.mul_one, List.set_eq_take_append_cons_drop, if_pos h, List.append_assoc]
  rfl
theorem mB {c : Iq.CkS} {k : Nat} {b : Bool} (h : k < c.met.length) (hb : c.met.getD k false = b) : (c.met.map Value.bool)[k * 1]? = some (.bool b) := by
  rw [Nat.mul_one, List.getElem?_map]
  rw [List.getD_eq_getElem?_getD] at hb
  rw [List.getElem?_eq_getElem h] at hb ⊢
  rw [← hb]
  rfl
theorem oU (n lo hi : Int) (b : Bool) (hb : Iq.inI n lo hi = b) (w : World) (μ : Mem) (hμ : MOk μ w) : Calls Tryz.prog 47 #[.int .i64 n, .int .i64 lo, .int .i64 hi] w fun e w' => e = .returned (.bool b) ∧ Below w.heap.size w w' := by
  subst hb
  exact fF n lo hi w μ hμ
theorem qX (n lo hi : Int) (b : Bool) (hb : Iq.inI n lo hi = b) (w : World) (μ : Mem) (hμ : MOk μ w) : Calls Tryz.prog 49 #[.int .i64 n, .int .i64 lo, .int .i64 hi] w fun e w' => e = .returned (.bool b) ∧ Below w.heap.size w w' := by
  subst hb
  exact fD n lo hi w μ hμ
theorem CX {ps : List (F × Value)} {f : Nat} {y : F × Value} (h : ps[f]? = some y) : Iq.kindOf (bM ps) (f : Int) = y.1.kind := by
  unfold Iq.kindOf bM
  rw [List.getD_eq_getElem?_getD, Int.toNat_natCast, List.getElem?_map, h]
  rfl
theorem KH {ps : List (F × Value)} {f : Nat} {y : F × Value} (h : ps[f]? = some y) : Iq.fN (bM ps) (f : Int) = y.1.loc := by
  unfold Iq.fN bM
  rw [List.getD_eq_getElem?_getD, Int.toNat_natCast, List.getElem?_map, h]
  rfl
theorem CkI.set {μ : Mem} {c : Iq.CkS} {isl : List Value} {q v qv : Value} {x qx : Bk} {k : Nat} {xs next' : List Int} {met' : List Bool} (h : CkI μ c (isl, q, x)) (hv : bK μ v xs) (hQ : Qu 3 qv qx (next'.flatMap aW)) : CkI μ ⟨met', c.slots.set k xs, next'⟩ (isl.set k v, qv, qx) :=
  ⟨hQ, by show (isl.set k v).length = (c.slots.set k xs).length; rw [List.length_set, List.length_set]; exact h.len, fun j u ys h1 h2 => by
    dsimp only at h1 h2
    rw [List.getElem?_set] at h1 h2
    by_cases hj : k = j
    · rw [if_pos hj] at h1 h2
      split at h1
      · split at h2
        · cases h1
          cases h2
          exact hv
        · cases h2
      · cases h1
    · rw [if_neg hj] at h1 h2
      exact h.ints j u ys h1 h2⟩
attribute [local irreducible] G GC GQ GA bO Calls IntKind.wrap Int.decLt Int.decLe
theorem JG (v1 v2 : Value) (xs ys : List Int) (b : Bool) (hb : decide (xs = ys) = b) (w : World) (μ : Mem) (hμ : MOk μ w) (h1 : bK μ v1 xs) (h2 : bK μ v2 ys) (hxl : xs.length ≤ 100000000) (hyl : ys.length ≤ 100000000) : Calls Tryz.prog 137 #[v1, v2] w fun e w' => e = .returned (.bool b) ∧ Below w.heap.size w w' := by
  subst hb
  exact JF v1 v2 xs ys w μ hμ h1 h2 hxl hyl
theorem uK (v1 : Value) (xs : List Int) (n : Int) (b : Bool) (hb : xs.contains n = b) (w : World) (μ : Mem) (hμ : MOk μ w) (h1 : bK μ v1 xs) (hxl : xs.length ≤ 100000000) : Calls Tryz.prog 138 #[v1, .int .i64 n] w fun e w' => e = .returned (.bool b) ∧ Below w.heap.size w w' := by
  subst hb
  exact xT v1 xs n w μ hμ h1 hxl
theorem YQ (v1 : Value) (xs : List Int) (n : Int) (b : Bool) (hb : xs.contains n = b) (w : World) (μ : Mem) (hμ : MOk μ w) (h1 : bK μ v1 xs) (hxl : xs.length ≤ 100000000) : Calls Tryz.prog 143 #[v1, .int .i64 n] w fun e w' => e = .returned (.bool b) ∧ Below w.heap.size w w' := by
  subst hb
  exact VG v1 xs n w μ hμ h1 hxl
theorem SA (v1 v2 : Value) (xs ys : List Int) (b : Bool) (hb : decide (xs = ys) = b) (w : World) (μ : Mem) (hμ : MOk μ w) (h1 : bK μ v1 xs) (h2 : bK μ v2 ys) (hxl : xs.length ≤ 100000000) (hyl : ys.length ≤ 100000000) : Calls Tryz.prog 142 #[v1, v2] w fun e w' => e = .returned (.bool b) ∧ Below w.heap.size w w' := by
  subst hb
  exact NP v1 v2 xs ys w μ hμ h1 h2 hxl hyl
theorem FK (ps : List (F × Value)) (A : Option Addr) (cc n f : Nat) (t : T) (u : Value) (p : Iq.PlP) (v1 v2 v3 : Value) (deep : Int) (c : Iq.CkS) (i : CIx) (fb gm gs : Nat) (w : World) (μ : Mem) (hμ : MOk μ w) (hO : Go.Vcg.Own μ (ckP fb gm gs n (.slice A n cc) c i) w) (hU : UOk μ A n ps) (hf : f < n) (hu : u.oneCell' = true) (hp : PlV μ p v1 v2 v3) (hi : CkI μ c i) (hB : CkB n c) (hP : PlB p deep c) (hd : deep ≤ 3000) (hn : Iq.bB t.op t.n (Iq.fN (bM ps) f) (bM ps).length = true) :
    Calls Tryz.prog 111 #[.pointer (some ⟨fb, 0, none⟩), .agg (aR t u).toArray, .int .i64 (f : Int), .agg #[v1, v2, v3, .bool p.inSc]] w fun e w' => ∃ v μ' i', e = .returned v ∧ fH (bS (ckP fb gm gs n (.slice A n cc) c i)) w w' μ (ckP fb gm gs n (.slice A n cc) (Iq.cA (bM ps) f t.op t.n t.m p c).1 i') μ' ∧ fW (Iq.cA (bM ps) f t.op t.n t.m p c).1 (Iq.cA (bM ps) f t.op t.n t.m p c).2 μ' v i' := by
  have hcnt := bE hO.diff
  have hpl : ps.length = n := hU.fs.1.1
  have hfl : (bM ps).length = n := by rw [List.length_map]; exact hpl
  rw [hfl] at hn
  have hn1 := hU.n1
  have hml := hB.met
  have hsl := hB.sl
  have hnx := hB.next
  have hp1l := hP.sl hB hn1 hd
  have hp2l := hP.b1
  have hp3l := hP.b2
  have hq1 := hi.q.one
  have hqf := hi.q
  obtain ⟨⟨A1, c1, rfl, hS1⟩, ⟨A2, c2, rfl, hS2⟩, ⟨A3, c3, rfl, hS3⟩⟩ := hp
  obtain ⟨adU, y, rfl, hy, hmU⟩ := hU.fs.1.get hf
  generalize hR : Iq.cA (bM ps) f t.op t.n t.m p c = R
  unfold Iq.cA at hR
  rw [CX hy] at hR
  have hyk := (hU.kd y (List.mem_of_getElem? hy)).1
  obtain ⟨isl, iq, ix⟩ := i
  obtain ⟨QA, QC, hqv, hql⟩ := hqf.form
  dsimp only at hqv
  subst hqv
  have hil : isl.length = n := hi.len.trans hsl
  refine aQ (args := [.pointer (some ⟨fb, 0, none⟩), .agg (aR t u).toArray, .int .i64 (f : Int), .agg #[.slice A1 p.slots.length c1, .slice A2 p.breaks.length c2, .slice A3 p.agains.length c3, .bool p.inSc]]) Tryz.func111 rfl Tryz.ntmps111 (by simp) hμ hO ?_
  by_cases h1 : t.op = 109 ∨ t.op = 110
  · rw [if_pos h1] at hR
    cases hA : Iq.inI t.n 0 ((p.slots.length : Int) - 1)
    · rw [hA, Bool.false_and] at hR
      subst hR
      rcases h1 with h1 | h1
      all_goals repeat' (first | refine KK ?_ | refine NB fun b => ?_ | fail)
      all_goals try (exfalso; omega)
      all_goals (
      refine aN 20 _ (by kernel_rfl) rfl (List.Sublist.cons_cons _ (List.Sublist.cons_cons _ (List.nil_sublist _))) ?_
      all_goals refine DD 0 ?_
      all_goals refine DD 1 ?_
      all_goals refine DD 2 ?_
      all_goals refine DD 3 ?_
      all_goals refine DD 4 ?_
      all_goals refine DD 5 ?_
      all_goals ((refine D3 6 ?_; refine D5 ?_; (with_reducible apply F1 47); exact rfl; exact EN; (exact fun w μc hw hse => oU _ _ _ _ (by exact hA) w μc hw); refine D9 ?_))
      all_goals refine DD 7 ?_
      all_goals (try (refine D7 8 ?_; (repeat' (first | fail))))
      all_goals refine DD 8 ?_
      all_goals refine DD 9 ?_
      all_goals refine DD 10 ?_
      all_goals refine DD 11 ?_
      all_goals refine DD 12 ?_
      all_goals refine DD 13 ?_
      all_goals refine DD 14 ?_
      all_goals refine DD 15 ?_
      all_goals refine DD 16 ?_
      all_goals (refine D3 17 (D6 ?_))
      all_goals refine DD 18 ?_
      all_goals refine DD 19 ?_
      all_goals refine D8 ?_
      all_goals repeat' (first | refine KK ?_ | fail))
      all_goals (refine aM (l' := [(8, .bool false)]) (L' := ckP fb gm gs n (.slice (some adU) n cc) c (isl, .slice QA (c.next.flatMap aW).length QC, ix)) PU PS ?_; exact bZ hcnt rfl (aB rfl) (isl, .slice QA (c.next.flatMap aW).length QC, ix) rfl rfl hi)
    · obtain ⟨k, hk, hkl⟩ := TI hA
      rw [hA, Bool.true_and, hk, Int.toNat_natCast] at hR
      obtain ⟨ad, x, rfl, hx, hm⟩ := hS1.get hkl
      have hgx : p.slots.getD k 0 = x := by rw [List.getD_eq_getElem?_getD, hx]; rfl
      have hxs := hP.pl.2.1 x (List.mem_of_getElem? hx)
      rw [hgx] at hR
      cases hB2 : Iq.inI t.m 0 (x - 1)
      all_goals rw [hB2] at hR
      all_goals subst hR
      all_goals rcases h1 with h1 | h1
      all_goals repeat' (first | refine KK ?_ | refine NB fun b => ?_ | fail)
      all_goals try (exfalso; omega)
      all_goals (
      refine aN 20 _ (by kernel_rfl) rfl (List.Sublist.cons_cons _ (List.Sublist.cons_cons _ (List.nil_sublist _))) ?_
      all_goals (first | refine D1 0 ?_ | fail)
      all_goals (first | refine DD 1 ?_ | fail)
      all_goals (first | refine D1 2 ?_ | fail)
      all_goals (first | refine DD 3 ?_ | fail)
      all_goals (first | refine D1 4 ?_ | fail)
      all_goals (first | refine DD 5 ?_ | fail)
      all_goals ((refine D3 6 ?_; refine D5 ?_; (with_reducible apply F1 47); exact rfl; exact EN; (exact fun w μc hw hse => oU _ _ _ _ (by exact hA) w μc hw); refine D9 ?_))
      all_goals refine DD 7 ?_
      all_goals (try (refine D7 8 ?_; (repeat' (first | fail))))
      all_goals (first | refine D1 8 ?_ | fail)
      all_goals (first | refine DD 9 ?_ | fail)
      all_goals (first | refine D1 10 ?_ | fail)
      all_goals (first | refine DD 11 ?_ | fail)
      all_goals (first | refine D1 12 ?_ | fail)
      all_goals (first | refine DD 13 ?_ | fail)
      all_goals (first | (refine DV (k := 14) (b := by exact U1 k) (c := ?_)) | fail)
      all_goals (first | (refine DV (k := 15) (b := by exact U3 (hm.at 0 rfl)) (c := ?_)) | fail)
      all_goals (first | refine DD 16 ?_ | fail)
      all_goals ((refine D3 17 ?_; refine D5 ?_; (with_reducible apply F1 47); exact rfl; exact EN; (exact fun w μc hw hse => oU _ _ _ _ (by exact hB2) w μc hw); refine D9 ?_))
      all_goals refine DD 18 ?_
      all_goals refine DD 19 ?_
      all_goals refine D8 ?_
      all_goals repeat' (first | refine KK ?_ | fail))
      all_goals first | (refine aM (l' := [(8, .bool true)]) (L' := ckP fb gm gs n (.slice (some adU) n cc) c (isl, .slice QA (c.next.flatMap aW).length QC, ix)) PU PS ?_; exact bZ hcnt rfl (aB rfl) (isl, .slice QA (c.next.flatMap aW).length QC, ix) rfl rfl hi) | (refine aM (l' := [(8, .bool false)]) (L' := ckP fb gm gs n (.slice (some adU) n cc) c (isl, .slice QA (c.next.flatMap aW).length QC, ix)) PU PS ?_; exact bZ hcnt rfl (aB rfl) (isl, .slice QA (c.next.flatMap aW).length QC, ix) rfl rfl hi)
  rw [if_neg h1] at hR
  by_cases h2 : t.op = 119
  · rw [if_pos h2] at hR
    obtain ⟨k, hk, hkl⟩ := ZH (by rw [← h2]; exact hn)
    rw [hk, Int.toNat_natCast] at hR
    have hrl : (c.met.map Value.bool).length = n := by rw [List.length_map]; exact hml
    have hgs : isl[k]? = some isl[k] := List.getElem?_eq_getElem (by omega)
    have hgc : c.slots[k]? = some c.slots[k] := List.getElem?_eq_getElem (by omega)
    have hgi := hi.ints k _ _ hgs hgc
    have hgl := hB.at hn1 hgc
    cases hmt : c.met.getD k false
    · rw [if_neg (by rw [hmt]; simp)] at hR
      dsimp only at hR
      have hgn : (isl.set k (.slice A1 p.slots.length c1))[k * 1]? = some (.slice A1 p.slots.length c1) := by rw [Nat.mul_one]; exact List.getElem?_set_self (by omega)
      have hge : (c.slots.set k p.slots).getD k [] = p.slots := by rw [List.getD_eq_getElem?_getD, List.getElem?_set_self (by omega)]; rfl
      rw [hge, decide_eq_true rfl] at hR
      subst hR
      repeat' (first | refine KK ?_ | refine NB fun b => ?_ | fail)
      all_goals try (exfalso; omega)
      refine aN 9 _ (by kernel_rfl) rfl (List.Sublist.cons_cons _ (List.Sublist.cons_cons _ (List.Sublist.cons_cons _ (List.Sublist.cons_cons _ (List.nil_sublist _))))) ?_
      all_goals refine DD 0 ?_
      all_goals refine DD 1 ?_
      all_goals (first | refine D1 2 ?_ | fail)
      all_goals (first | refine DD 3 ?_ | fail)
      all_goals (first | refine D1 4 ?_ | fail)
      all_goals (first | refine DD 5 ?_ | fail)
      all_goals (first | (refine DV (k := 6) (b := by exact U1 k) (c := ?_)) | fail)
      all_goals (first | (refine DV (k := 7) (b := by exact UR3 (mB (by omega) hmt)) (c := ?_)) | fail)
      all_goals refine DD 8 ?_
      all_goals refine D8 ?_
      all_goals repeat' (first | refine KK ?_ | fail)
      all_goals try (exfalso; omega)
      refine aN 18 _ (by kernel_rfl) rfl (List.Sublist.cons_cons _ (List.Sublist.cons_cons _ (List.Sublist.cons_cons _ (List.nil_sublist _)))) ?_
      all_goals (first | refine D1 0 ?_ | fail)
      all_goals (first | refine D1 1 ?_ | fail)
      all_goals (first | refine D1 2 ?_ | fail)
      all_goals (first | refine DD 3 ?_ | fail)
      all_goals (first | refine D1 4 ?_ | fail)
      all_goals (first | refine DD 5 ?_ | fail)
      all_goals (first | refine D1 6 ?_ | fail)
      all_goals (first | refine D1 7 ?_ | fail)
      all_goals (first | refine D1 8 ?_ | fail)
      all_goals (first | refine DD 9 ?_ | fail)
      all_goals (first | refine D1 10 ?_ | fail)
      all_goals (first | refine DD 11 ?_ | fail)
      all_goals (first | refine D1 12 ?_ | fail)
      all_goals (first | refine DD 13 ?_ | fail)
      all_goals (first | (refine DV (k := 14) (b := by exact U1 k) (c := ?_)) | fail)
      all_goals ((refine D3 15 ?_; refine D5 ?_; (((with_reducible apply gG 3); (iterate 7 exact rfl); (simp; omega))); refine D9 ?_))
      all_goals (first | (refine DV (k := 16) (b := by exact U1 k) (c := ?_)) | fail)
      all_goals ((refine D3 17 ?_; refine D5 ?_; (((with_reducible apply gG 4); (iterate 7 exact rfl); (simp; omega))); refine D9 ?_))
      all_goals refine D8 ?_
      all_goals refine dQ (n' := n) (xs' := (c.met.set k true).map Value.bool) 3 rfl rfl (vC (by omega)) ?_
      all_goals refine dQ (n' := n) (xs' := isl.set k (.slice A1 p.slots.length c1)) 4 rfl rfl (wM (l := isl) (by omega)) ?_
      all_goals dsimp only [dY]
      all_goals repeat' (first | refine KK ?_ | fail)
      all_goals (
      refine aN 12 _ (by kernel_rfl) rfl (List.Sublist.cons_cons _ (List.Sublist.cons_cons _ (List.nil_sublist _))) ?_
      all_goals refine DD 0 ?_
      all_goals refine DD 1 ?_
      all_goals refine DD 2 ?_
      all_goals refine DD 3 ?_
      all_goals refine DD 5 ?_
      all_goals refine DD 6 ?_
      refine bT 4 7 (by kernel_rfl) ?dr3_4 ?dr3_7
      case' dr3_4 =>
        (((with_reducible apply bJ); (iterate 4 exact rfl); (((with_reducible apply iQ); exact rfl; (repeat first | with_reducible exact bG | with_reducible apply dJ); exact rfl))))
        all_goals ((refine D3 7 ?_; refine D5 ?_; refine NB fun b => ?_; refine D9 ?_))
        all_goals ((refine D3 8 ?_; refine D5 ?_; (refine AQ 6 (hQ := hqf) (B := by rw [eG]; omega) (k := fun QA2 QC2 qx hQ2 => ?_)); (dsimp only [dY]); refine D9 ?_))
        all_goals refine DD 9 ?_
        all_goals refine DD 10 ?_
        all_goals ((refine D3 11 ?_; refine D5 ?_; refine Y0 ?_; refine D9 ?_))
        all_goals refine D8 ?_
      case' dr3_7 =>
        ((refine D5 ?_; refine NB fun b => ?_; refine D9 ?_))
        all_goals ((refine D3 4 ?_; (with_reducible apply bJ); (iterate 4 exact rfl); (((with_reducible apply iQ); exact rfl; (repeat first | with_reducible exact bG | with_reducible apply dJ); exact rfl))))
        all_goals ((refine D3 8 ?_; refine D5 ?_; (refine AQ 6 (hQ := hqf) (B := by rw [eG]; omega) (k := fun QA2 QC2 qx hQ2 => ?_)); (dsimp only [dY]); refine D9 ?_))
        all_goals refine DD 9 ?_
        all_goals refine DD 10 ?_
        all_goals ((refine D3 11 ?_; refine D5 ?_; refine Y0 ?_; refine D9 ?_))
        all_goals refine D8 ?_
      all_goals repeat' (first | refine KK ?_ | fail))
      all_goals (
      refine aN 12 _ (by kernel_rfl) rfl (List.Sublist.cons _ (List.Sublist.cons_cons _ (List.Sublist.cons_cons _ (List.Sublist.cons_cons _ (List.Sublist.cons _ (List.Sublist.cons_cons _ (List.nil_sublist _))))))) ?_
      all_goals refine DD 0 ?_
      all_goals refine DD 1 ?_
      all_goals (first | refine D1 2 ?_ | fail)
      all_goals (first | refine DD 3 ?_ | fail)
      all_goals (first | refine D1 4 ?_ | fail)
      all_goals (first | refine DD 5 ?_ | fail)
      all_goals (first | (refine DV (k := 6) (b := by exact U1 k) (c := ?_)) | fail)
      all_goals (first | (refine DV (k := 7) (b := by exact UR3 hgn) (c := ?_)) | fail)
      all_goals (first | refine D1 8 ?_ | fail)
      all_goals (first | refine DD 9 ?_ | fail)
      all_goals ((refine D3 10 ?_; refine D5 ?_; (with_reducible apply F1 137); exact rfl; exact EN; (exact fun w μc hw hse => JG _ _ _ _ _ (decide_eq_true rfl) w μc hw (⟨_, _, rfl, hS1.mono hse.le⟩) (⟨_, _, rfl, hS1.mono hse.le⟩) (by omega) (by omega)); refine D9 ?_))
      all_goals refine DD 11 ?_
      all_goals refine D8 ?_
      all_goals repeat' (first | refine KK ?_ | fail))
      all_goals have hQ3 : Qu 3 (.slice QA2 (c.next.flatMap aW ++ [Value.int .i64 t.n]).length QC2) qx ((c.next ++ [(k : Int)]).flatMap aW) := by rw [List.flatMap_append, ← hk]; exact hQ2
      all_goals (refine aM (l' := [(8, .bool true)]) (L' := ckP fb gm gs n (.slice (some adU) n cc) ⟨c.met.set k true, c.slots.set k p.slots, c.next ++ [(k : Int)]⟩ (isl.set k (.slice A1 p.slots.length c1), .slice QA2 (c.next.flatMap aW ++ [Value.int .i64 t.n]).length QC2, qx)) PU PS ?_; exact bZ hcnt rfl (aB rfl) (isl.set k (.slice A1 p.slots.length c1), .slice QA2 (c.next.flatMap aW ++ [Value.int .i64 t.n]).length QC2, qx) rfl rfl (hi.set ⟨_, _, rfl, hS1⟩ hQ3))
    · rw [if_pos hmt] at hR
      dsimp only at hR
      have hgd : c.slots.getD k [] = c.slots[k] := by rw [List.getD_eq_getElem?_getD, hgc]; rfl
      rw [hgd] at hR
      generalize hE : decide (c.slots[k] = p.slots) = b0 at hR
      subst hR
      have hgs1 : isl[k * 1]? = some isl[k] := by rw [Nat.mul_one]; exact hgs
      have hgo := hgi.one
      generalize isl[k] = v0 at hgs1 hgi hgo
      repeat' (first | refine KK ?_ | refine NB fun b => ?_ | fail)
      all_goals try (exfalso; omega)
      refine aN 9 _ (by kernel_rfl) rfl (List.Sublist.cons_cons _ (List.Sublist.cons_cons _ (List.Sublist.cons_cons _ (List.Sublist.cons_cons _ (List.nil_sublist _))))) ?_
      all_goals refine DD 0 ?_
      all_goals refine DD 1 ?_
      all_goals (first | refine D1 2 ?_ | fail)
      all_goals (first | refine DD 3 ?_ | fail)
      all_goals (first | refine D1 4 ?_ | fail)
      all_goals (first | refine DD 5 ?_ | fail)
      all_goals (first | (refine DV (k := 6) (b := by exact U1 k) (c := ?_)) | fail)
      all_goals (first | (refine DV (k := 7) (b := by exact UR3 (mB (by omega) hmt)) (c := ?_)) | fail)
      all_goals refine DD 8 ?_
      all_goals refine D8 ?_
      all_goals repeat' (first | refine KK ?_ | fail)
      all_goals try (exfalso; omega)
      all_goals (
      refine aN 12 _ (by kernel_rfl) rfl (List.Sublist.cons_cons _ (List.Sublist.cons_cons _ (List.Sublist.cons_cons _ (List.Sublist.cons _ (List.Sublist.cons_cons _ (List.nil_sublist _)))))) ?_
      all_goals refine DD 0 ?_
      all_goals refine DD 1 ?_
      all_goals (first | refine D1 2 ?_ | fail)
      all_goals (first | refine DD 3 ?_ | fail)
      all_goals (first | refine D1 4 ?_ | fail)
      all_goals (first | refine DD 5 ?_ | fail)
      all_goals (first | (refine DV (k := 6) (b := by exact U1 k) (c := ?_)) | fail)
      all_goals (first | (refine DV (k := 7) (b := by exact UR3 hgs1) (c := ?_)) | fail)
      all_goals (first | refine D1 8 ?_ | fail)
      all_goals (first | refine DD 9 ?_ | fail)
      all_goals ((refine D3 10 ?_; refine D5 ?_; (with_reducible apply F1 137); exact rfl; exact EN; (exact fun w μc hw hse => JG _ _ _ _ _ (hE) w μc hw (hgi.mono hse.le) (⟨_, _, rfl, hS1.mono hse.le⟩) (by omega) (by omega)); refine D9 ?_))
      all_goals refine DD 11 ?_
      all_goals refine D8 ?_
      all_goals repeat' (first | refine KK ?_ | fail))
      all_goals (refine aM (l' := [(8, .bool b0)]) (L' := ckP fb gm gs n (.slice (some adU) n cc) c (isl, .slice QA (c.next.flatMap aW).length QC, ix)) PU PS ?_; exact bZ hcnt rfl (aB rfl) (isl, .slice QA (c.next.flatMap aW).length QC, ix) rfl rfl hi)
  rw [if_neg h2] at hR
  by_cases h3 : t.op = 137 ∨ t.op = 138
  · rw [if_pos h3] at hR
    subst hR
    by_cases hg : y.1.kind / 4 % 2 = 1
    · have hG : Iq.KZ y.1.kind = true := decide_eq_true hg
      rw [hG]
      rcases h3 with h3 | h3
      all_goals repeat' (first | refine KO ?_ | (refine KV (b := by first | exact U1 f | exact U4 hmU | ((with_reducible apply DZ); exact rfl; (exact hyk); (exact if_pos hg))) (c := ?_)) | refine KI ?_ | refine NB fun b => ?_ | fail)
      all_goals (refine aM (l' := [(8, .bool true)]) (L' := ckP fb gm gs n (.slice (some adU) n cc) c (isl, .slice QA (c.next.flatMap aW).length QC, ix)) PU PS ?_; exact bZ hcnt rfl (aB rfl) (isl, .slice QA (c.next.flatMap aW).length QC, ix) rfl rfl hi)
    · have hG : Iq.KZ y.1.kind = false := decide_eq_false hg
      rw [hG]
      rcases h3 with h3 | h3
      all_goals repeat' (first | refine KO ?_ | (refine KV (b := by first | exact U1 f | exact U4 hmU | ((with_reducible apply DZ); exact rfl; (exact hyk); (exact if_neg hg))) (c := ?_)) | refine KI ?_ | refine NB fun b => ?_ | fail)
      all_goals (refine aM (l' := [(8, .bool false)]) (L' := ckP fb gm gs n (.slice (some adU) n cc) c (isl, .slice QA (c.next.flatMap aW).length QC, ix)) PU PS ?_; exact bZ hcnt rfl (aB rfl) (isl, .slice QA (c.next.flatMap aW).length QC, ix) rfl rfl hi)
  rw [if_neg h3] at hR
  by_cases h4 : t.op = 165
  · rw [if_pos h4] at hR
    generalize hE : p.breaks.contains t.n = b0 at hR
    subst hR
    repeat' (first | refine KO ?_ | ((with_reducible apply F1 138); exact rfl; exact EN; (exact fun w μc hw hse => uK _ _ _ _ hE w μc hw (⟨_, _, rfl, hS2.mono hse.le⟩) (by omega))) | refine KI ?_ | refine NB fun b => ?_ | fail)
    all_goals (refine aM (l' := [(8, .bool b0)]) (L' := ckP fb gm gs n (.slice (some adU) n cc) c (isl, .slice QA (c.next.flatMap aW).length QC, ix)) PU PS ?_; exact bZ hcnt rfl (aB rfl) (isl, .slice QA (c.next.flatMap aW).length QC, ix) rfl rfl hi)
  rw [if_neg h4] at hR
  by_cases h5 : t.op = 166
  · rw [if_pos h5] at hR
    generalize hE : p.agains.contains t.n = b0 at hR
    subst hR
    repeat' (first | refine KO ?_ | ((with_reducible apply F1 138); exact rfl; exact EN; (exact fun w μc hw hse => uK _ _ _ _ hE w μc hw (⟨_, _, rfl, hS3.mono hse.le⟩) (by omega))) | refine KI ?_ | refine NB fun b => ?_ | fail)
    all_goals (refine aM (l' := [(8, .bool b0)]) (L' := ckP fb gm gs n (.slice (some adU) n cc) c (isl, .slice QA (c.next.flatMap aW).length QC, ix)) PU PS ?_; exact bZ hcnt rfl (aB rfl) (isl, .slice QA (c.next.flatMap aW).length QC, ix) rfl rfl hi)
  rw [if_neg h5] at hR
  by_cases h6 : t.op = 171
  · rw [if_pos h6] at hR
    subst hR
    repeat' (first | refine KK ?_ | refine NB fun b => ?_ | fail)
    all_goals (refine aM (l' := [(8, .bool p.inSc)]) (L' := ckP fb gm gs n (.slice (some adU) n cc) c (isl, .slice QA (c.next.flatMap aW).length QC, ix)) PU PS ?_; exact bZ hcnt rfl (aB rfl) (isl, .slice QA (c.next.flatMap aW).length QC, ix) rfl rfl hi)
  rw [if_neg h6] at hR
  subst hR
  repeat' (first | refine KK ?_ | refine NB fun b => ?_ | fail)
  all_goals (refine aM (l' := [(8, .bool true)]) (L' := ckP fb gm gs n (.slice (some adU) n cc) c (isl, .slice QA (c.next.flatMap aW).length QC, ix)) PU PS ?_; exact bZ hcnt rfl (aB rfl) (isl, .slice QA (c.next.flatMap aW).length QC, ix) rfl rfl hi)
theorem EK (ps : List (F × Value)) (A : Option Addr) (cc n f : Nat) (t : T) (u : Value) (p : Iq.PlP) (v1 v2 v3 : Value) (deep : Int) (c : Iq.CkS) (i : CIx) (fb gm gs : Nat) (w : World) (μ : Mem) (hμ : MOk μ w) (hO : Go.Vcg.Own μ (ckR fb gm gs n (.slice A n cc) f c i) w) (hU : UOk μ A n ps) (hf : f < n) (hu : u.oneCell' = true) (hp : PlV μ p v1 v2 v3) (hi : CkI μ c i) (hB : CkB n c) (hP : PlB p deep c) (hd : deep ≤ 3000) (hn : Iq.bB t.op t.n (Iq.fN (bM ps) f) (bM ps).length = true) :
    Calls Tryz.prog 115 #[.pointer (some ⟨fb, 0, none⟩), .agg (aR t u).toArray, .agg #[v1, v2, v3, .bool p.inSc]] w fun e w' => ∃ v μ' i', e = .returned v ∧ fH (bS (ckR fb gm gs n (.slice A n cc) f c i)) w w' μ (ckR fb gm gs n (.slice A n cc) f (Iq.cA (bM ps) f t.op t.n t.m p c).1 i') μ' ∧ fW (Iq.cA (bM ps) f t.op t.n t.m p c).1 (Iq.cA (bM ps) f t.op t.n t.m p c).2 μ' v i' := by
  have hcnt := bE hO.diff
  have hpl : ps.length = n := hU.fs.1.1
  have hfl : (bM ps).length = n := by rw [List.length_map]; exact hpl
  rw [hfl] at hn
  have hn1 := hU.n1
  have hml := hB.met
  have hsl := hB.sl
  have hnx := hB.next
  have hp1l := hP.sl hB hn1 hd
  have hp2l := hP.b1
  have hp3l := hP.b2
  have hq1 := hi.q.one
  have hqf := hi.q
  obtain ⟨⟨A1, c1, rfl, hS1⟩, ⟨A2, c2, rfl, hS2⟩, ⟨A3, c3, rfl, hS3⟩⟩ := hp
  obtain ⟨adU, y, rfl, hy, hmU⟩ := hU.fs.1.get hf
  generalize hR : Iq.cA (bM ps) f t.op t.n t.m p c = R
  unfold Iq.cA at hR
  rw [CX hy] at hR
  have hyk := (hU.kd y (List.mem_of_getElem? hy)).1
  obtain ⟨isl, iq, ix⟩ := i
  obtain ⟨QA, QC, hqv, hql⟩ := hqf.form
  dsimp only at hqv
  subst hqv
  have hil : isl.length = n := hi.len.trans hsl
  refine aQ (args := [.pointer (some ⟨fb, 0, none⟩), .agg (aR t u).toArray, .agg #[.slice A1 p.slots.length c1, .slice A2 p.breaks.length c2, .slice A3 p.agains.length c3, .bool p.inSc]]) Tryz.func115 rfl Tryz.ntmps115 (by simp) hμ hO ?_
  by_cases h1 : t.op = 109 ∨ t.op = 110
  · rw [if_pos h1] at hR
    cases hA : Iq.inI t.n 0 ((p.slots.length : Int) - 1)
    · rw [hA, Bool.false_and] at hR
      subst hR
      rcases h1 with h1 | h1
      all_goals repeat' (first | refine KK ?_ | refine NB fun b => ?_ | fail)
      all_goals try (exfalso; omega)
      all_goals (
      refine aN 20 _ (by kernel_rfl) rfl (List.Sublist.cons_cons _ (List.Sublist.cons_cons _ (List.nil_sublist _))) ?_
      all_goals refine DD 0 ?_
      all_goals refine DD 1 ?_
      all_goals refine DD 2 ?_
      all_goals refine DD 3 ?_
      all_goals refine DD 4 ?_
      all_goals refine DD 5 ?_
      all_goals ((refine D3 6 ?_; refine D5 ?_; (with_reducible apply F1 49); exact rfl; exact EN; (exact fun w μc hw hse => qX _ _ _ _ (by exact hA) w μc hw); refine D9 ?_))
      all_goals refine DD 7 ?_
      all_goals (try (refine D7 8 ?_; (repeat' (first | fail))))
      all_goals refine DD 8 ?_
      all_goals refine DD 9 ?_
      all_goals refine DD 10 ?_
      all_goals refine DD 11 ?_
      all_goals refine DD 12 ?_
      all_goals refine DD 13 ?_
      all_goals refine DD 14 ?_
      all_goals refine DD 15 ?_
      all_goals refine DD 16 ?_
      all_goals (refine D3 17 (D6 ?_))
      all_goals refine DD 18 ?_
      all_goals refine DD 19 ?_
      all_goals refine D8 ?_
      all_goals repeat' (first | refine KK ?_ | fail))
      all_goals (refine aM (l' := [(6, .bool false)]) (L' := ckR fb gm gs n (.slice (some adU) n cc) f c (isl, .slice QA (c.next.flatMap aW).length QC, ix)) PU PS ?_; exact bZ hcnt rfl (aB rfl) (isl, .slice QA (c.next.flatMap aW).length QC, ix) rfl rfl hi)
    · obtain ⟨k, hk, hkl⟩ := TI hA
      rw [hA, Bool.true_and, hk, Int.toNat_natCast] at hR
      obtain ⟨ad, x, rfl, hx, hm⟩ := hS1.get hkl
      have hgx : p.slots.getD k 0 = x := by rw [List.getD_eq_getElem?_getD, hx]; rfl
      have hxs := hP.pl.2.1 x (List.mem_of_getElem? hx)
      rw [hgx] at hR
      cases hB2 : Iq.inI t.m 0 (x - 1)
      all_goals rw [hB2] at hR
      all_goals subst hR
      all_goals rcases h1 with h1 | h1
      all_goals repeat' (first | refine KK ?_ | refine NB fun b => ?_ | fail)
      all_goals try (exfalso; omega)
      all_goals (
      refine aN 20 _ (by kernel_rfl) rfl (List.Sublist.cons_cons _ (List.Sublist.cons_cons _ (List.nil_sublist _))) ?_
      all_goals (first | refine D1 0 ?_ | fail)
      all_goals (first | refine DD 1 ?_ | fail)
      all_goals (first | refine D1 2 ?_ | fail)
      all_goals (first | refine DD 3 ?_ | fail)
      all_goals (first | refine D1 4 ?_ | fail)
      all_goals (first | refine DD 5 ?_ | fail)
      all_goals ((refine D3 6 ?_; refine D5 ?_; (with_reducible apply F1 49); exact rfl; exact EN; (exact fun w μc hw hse => qX _ _ _ _ (by exact hA) w μc hw); refine D9 ?_))
      all_goals refine DD 7 ?_
      all_goals (try (refine D7 8 ?_; (repeat' (first | fail))))
      all_goals (first | refine D1 8 ?_ | fail)
      all_goals (first | refine DD 9 ?_ | fail)
      all_goals (first | refine D1 10 ?_ | fail)
      all_goals (first | refine DD 11 ?_ | fail)
      all_goals (first | refine D1 12 ?_ | fail)
      all_goals (first | refine DD 13 ?_ | fail)
      all_goals (first | (refine DV (k := 14) (b := by exact U1 k) (c := ?_)) | fail)
      all_goals (first | (refine DV (k := 15) (b := by exact U3 (hm.at 0 rfl)) (c := ?_)) | fail)
      all_goals (first | refine DD 16 ?_ | fail)
      all_goals ((refine D3 17 ?_; refine D5 ?_; (with_reducible apply F1 49); exact rfl; exact EN; (exact fun w μc hw hse => qX _ _ _ _ (by exact hB2) w μc hw); refine D9 ?_))
      all_goals refine DD 18 ?_
      all_goals refine DD 19 ?_
      all_goals refine D8 ?_
      all_goals repeat' (first | refine KK ?_ | fail))
      all_goals first | (refine aM (l' := [(6, .bool true)]) (L' := ckR fb gm gs n (.slice (some adU) n cc) f c (isl, .slice QA (c.next.flatMap aW).length QC, ix)) PU PS ?_; exact bZ hcnt rfl (aB rfl) (isl, .slice QA (c.next.flatMap aW).length QC, ix) rfl rfl hi) | (refine aM (l' := [(6, .bool false)]) (L' := ckR fb gm gs n (.slice (some adU) n cc) f c (isl, .slice QA (c.next.flatMap aW).length QC, ix)) PU PS ?_; exact bZ hcnt rfl (aB rfl) (isl, .slice QA (c.next.flatMap aW).length QC, ix) rfl rfl hi)
  rw [if_neg h1] at hR
  by_cases h2 : t.op = 119
  · rw [if_pos h2] at hR
    obtain ⟨k, hk, hkl⟩ := ZH (by rw [← h2]; exact hn)
    rw [hk, Int.toNat_natCast] at hR
    have hrl : (c.met.map Value.bool).length = n := by rw [List.length_map]; exact hml
    have hgs : isl[k]? = some isl[k] := List.getElem?_eq_getElem (by omega)
    have hgc : c.slots[k]? = some c.slots[k] := List.getElem?_eq_getElem (by omega)
    have hgi := hi.ints k _ _ hgs hgc
    have hgl := hB.at hn1 hgc
    cases hmt : c.met.getD k false
    · rw [if_neg (by rw [hmt]; simp)] at hR
      dsimp only at hR
      have hgn : (isl.set k (.slice A1 p.slots.length c1))[k * 1]? = some (.slice A1 p.slots.length c1) := by rw [Nat.mul_one]; exact List.getElem?_set_self (by omega)
      have hge : (c.slots.set k p.slots).getD k [] = p.slots := by rw [List.getD_eq_getElem?_getD, List.getElem?_set_self (by omega)]; rfl
      rw [hge, decide_eq_true rfl] at hR
      subst hR
      repeat' (first | refine KK ?_ | refine NB fun b => ?_ | fail)
      all_goals try (exfalso; omega)
      refine aN 9 _ (by kernel_rfl) rfl (List.Sublist.cons_cons _ (List.Sublist.cons_cons _ (List.Sublist.cons_cons _ (List.Sublist.cons_cons _ (List.nil_sublist _))))) ?_
      all_goals refine DD 0 ?_
      all_goals refine DD 1 ?_
      all_goals (first | refine D1 2 ?_ | fail)
      all_goals (first | refine DD 3 ?_ | fail)
      all_goals (first | refine D1 4 ?_ | fail)
      all_goals (first | refine DD 5 ?_ | fail)
      all_goals (first | (refine DV (k := 6) (b := by exact U1 k) (c := ?_)) | fail)
      all_goals (first | (refine DV (k := 7) (b := by exact UR3 (mB (by omega) hmt)) (c := ?_)) | fail)
      all_goals refine DD 8 ?_
      all_goals refine D8 ?_
      all_goals repeat' (first | refine KK ?_ | fail)
      all_goals try (exfalso; omega)
      refine aN 8 _ (by kernel_rfl) rfl (List.Sublist.cons_cons _ (List.Sublist.cons_cons _ (List.Sublist.cons_cons _ (List.nil_sublist _)))) ?_
      all_goals (first | refine D1 0 ?_ | fail)
      all_goals (first | refine D1 1 ?_ | fail)
      all_goals (first | refine D1 2 ?_ | fail)
      all_goals (first | refine DD 3 ?_ | fail)
      all_goals (first | refine D1 4 ?_ | fail)
      all_goals (first | refine DD 5 ?_ | fail)
      all_goals (first | (refine DV (k := 6) (b := by exact U1 k) (c := ?_)) | fail)
      all_goals ((refine D3 7 ?_; refine D5 ?_; (((with_reducible apply gG 3); (iterate 7 exact rfl); (simp; omega))); refine D9 ?_))
      all_goals refine D8 ?_
      all_goals refine dQ (n' := n) (xs' := (c.met.set k true).map Value.bool) 3 rfl rfl (vC (by omega)) ?_
      all_goals dsimp only [dY]
      all_goals repeat' (first | refine KK ?_ | fail)
      refine aN 10 _ (by kernel_rfl) rfl (List.Sublist.cons_cons _ (List.Sublist.cons_cons _ (List.Sublist.cons_cons _ (List.nil_sublist _)))) ?_
      all_goals (first | refine D1 0 ?_ | fail)
      all_goals (first | refine D1 1 ?_ | fail)
      all_goals (first | refine D1 2 ?_ | fail)
      all_goals (first | refine DD 3 ?_ | fail)
      all_goals (first | refine D1 4 ?_ | fail)
      all_goals (first | refine DD 5 ?_ | fail)
      all_goals (first | refine D1 6 ?_ | fail)
      all_goals (first | refine DD 7 ?_ | fail)
      all_goals (first | (refine DV (k := 8) (b := by exact U1 k) (c := ?_)) | fail)
      all_goals ((refine D3 9 ?_; refine D5 ?_; (((with_reducible apply gG 4); (iterate 7 exact rfl); (simp; omega))); refine D9 ?_))
      all_goals refine D8 ?_
      all_goals refine dQ (n' := n) (xs' := isl.set k (.slice A1 p.slots.length c1)) 4 rfl rfl (wM (l := isl) (by omega)) ?_
      all_goals dsimp only [dY]
      all_goals repeat' (first | refine KK ?_ | fail)
      all_goals (
      refine aN 12 _ (by kernel_rfl) rfl (List.Sublist.cons_cons _ (List.Sublist.cons_cons _ (List.nil_sublist _))) ?_
      all_goals refine DD 0 ?_
      all_goals refine DD 1 ?_
      all_goals refine DD 2 ?_
      all_goals refine DD 3 ?_
      all_goals refine DD 5 ?_
      all_goals refine DD 6 ?_
      refine bT 4 7 (by kernel_rfl) ?dr4_4 ?dr4_7
      case' dr4_4 =>
        (((with_reducible apply bJ); (iterate 4 exact rfl); (((with_reducible apply iQ); exact rfl; (repeat first | with_reducible exact bG | with_reducible apply dJ); exact rfl))))
        all_goals ((refine D3 7 ?_; refine D5 ?_; refine NB fun b => ?_; refine D9 ?_))
        all_goals ((refine D3 8 ?_; refine D5 ?_; (refine AQ 6 (hQ := hqf) (B := by rw [eG]; omega) (k := fun QA2 QC2 qx hQ2 => ?_)); (dsimp only [dY]); refine D9 ?_))
        all_goals refine DD 9 ?_
        all_goals refine DD 10 ?_
        all_goals ((refine D3 11 ?_; refine D5 ?_; refine Y0 ?_; refine D9 ?_))
        all_goals refine D8 ?_
      case' dr4_7 =>
        ((refine D5 ?_; refine NB fun b => ?_; refine D9 ?_))
        all_goals ((refine D3 4 ?_; (with_reducible apply bJ); (iterate 4 exact rfl); (((with_reducible apply iQ); exact rfl; (repeat first | with_reducible exact bG | with_reducible apply dJ); exact rfl))))
        all_goals ((refine D3 8 ?_; refine D5 ?_; (refine AQ 6 (hQ := hqf) (B := by rw [eG]; omega) (k := fun QA2 QC2 qx hQ2 => ?_)); (dsimp only [dY]); refine D9 ?_))
        all_goals refine DD 9 ?_
        all_goals refine DD 10 ?_
        all_goals ((refine D3 11 ?_; refine D5 ?_; refine Y0 ?_; refine D9 ?_))
        all_goals refine D8 ?_
      all_goals repeat' (first | refine KK ?_ | fail))
      all_goals (
      refine aN 12 _ (by kernel_rfl) rfl (List.Sublist.cons _ (List.Sublist.cons_cons _ (List.Sublist.cons_cons _ (List.Sublist.cons_cons _ (List.Sublist.cons _ (List.Sublist.cons_cons _ (List.nil_sublist _))))))) ?_
      all_goals refine DD 0 ?_
      all_goals refine DD 1 ?_
      all_goals (first | refine D1 2 ?_ | fail)
      all_goals (first | refine DD 3 ?_ | fail)
      all_goals (first | refine D1 4 ?_ | fail)
      all_goals (first | refine DD 5 ?_ | fail)
      all_goals (first | (refine DV (k := 6) (b := by exact U1 k) (c := ?_)) | fail)
      all_goals (first | (refine DV (k := 7) (b := by exact UR3 hgn) (c := ?_)) | fail)
      all_goals (first | refine D1 8 ?_ | fail)
      all_goals (first | refine DD 9 ?_ | fail)
      all_goals ((refine D3 10 ?_; refine D5 ?_; (with_reducible apply F1 142); exact rfl; exact EN; (exact fun w μc hw hse => SA _ _ _ _ _ (decide_eq_true rfl) w μc hw (⟨_, _, rfl, hS1.mono hse.le⟩) (⟨_, _, rfl, hS1.mono hse.le⟩) (by omega) (by omega)); refine D9 ?_))
      all_goals refine DD 11 ?_
      all_goals refine D8 ?_
      all_goals repeat' (first | refine KK ?_ | fail))
      all_goals have hQ3 : Qu 3 (.slice QA2 (c.next.flatMap aW ++ [Value.int .i64 t.n]).length QC2) qx ((c.next ++ [(k : Int)]).flatMap aW) := by rw [List.flatMap_append, ← hk]; exact hQ2
      all_goals (refine aM (l' := [(6, .bool true)]) (L' := ckR fb gm gs n (.slice (some adU) n cc) f ⟨c.met.set k true, c.slots.set k p.slots, c.next ++ [(k : Int)]⟩ (isl.set k (.slice A1 p.slots.length c1), .slice QA2 (c.next.flatMap aW ++ [Value.int .i64 t.n]).length QC2, qx)) PU PS ?_; exact bZ hcnt rfl (aB rfl) (isl.set k (.slice A1 p.slots.length c1), .slice QA2 (c.next.flatMap aW ++ [Value.int .i64 t.n]).length QC2, qx) rfl rfl (hi.set ⟨_, _, rfl, hS1⟩ hQ3))
    · rw [if_pos hmt] at hR
      dsimp only at hR
      have hgd : c.slots.getD k [] = c.slots[k] := by rw [List.getD_eq_getElem?_getD, hgc]; rfl
      rw [hgd] at hR
      generalize hE : decide (c.slots[k] = p.slots) = b0 at hR
      subst hR
      have hgs1 : isl[k * 1]? = some isl[k] := by rw [Nat.mul_one]; exact hgs
      have hgo := hgi.one
      generalize isl[k] = v0 at hgs1 hgi hgo
      repeat' (first | refine KK ?_ | refine NB fun b => ?_ | fail)
      all_goals try (exfalso; omega)
      refine aN 9 _ (by kernel_rfl) rfl (List.Sublist.cons_cons _ (List.Sublist.cons_cons _ (List.Sublist.cons_cons _ (List.Sublist.cons_cons _ (List.nil_sublist _))))) ?_
      all_goals refine DD 0 ?_
      all_goals refine DD 1 ?_
      all_goals (first | refine D1 2 ?_ | fail)
      all_goals (first | refine DD 3 ?_ | fail)
      all_goals (first | refine D1 4 ?_ | fail)
      all_goals (first | refine DD 5 ?_ | fail)
      all_goals (first | (refine DV (k := 6) (b := by exact U1 k) (c := ?_)) | fail)
      all_goals (first | (refine DV (k := 7) (b := by exact UR3 (mB (by omega) hmt)) (c := ?_)) | fail)
      all_goals refine DD 8 ?_
      all_goals refine D8 ?_
      all_goals repeat' (first | refine KK ?_ | fail)
      all_goals try (exfalso; omega)
      all_goals (
      refine aN 12 _ (by kernel_rfl) rfl (List.Sublist.cons_cons _ (List.Sublist.cons_cons _ (List.Sublist.cons_cons _ (List.Sublist.cons _ (List.Sublist.cons_cons _ (List.nil_sublist _)))))) ?_
      all_goals refine DD 0 ?_
      all_goals refine DD 1 ?_
      all_goals (first | refine D1 2 ?_ | fail)
      all_goals (first | refine DD 3 ?_ | fail)
      all_goals (first | refine D1 4 ?_ | fail)
      all_goals (first | refine DD 5 ?_ | fail)
      all_goals (first | (refine DV (k := 6) (b := by exact U1 k) (c := ?_)) | fail)
      all_goals (first | (refine DV (k := 7) (b := by exact UR3 hgs1) (c := ?_)) | fail)
      all_goals (first | refine D1 8 ?_ | fail)
      all_goals (first | refine DD 9 ?_ | fail)
      all_goals ((refine D3 10 ?_; refine D5 ?_; (with_reducible apply F1 142); exact rfl; exact EN; (exact fun w μc hw hse => SA _ _ _ _ _ (hE) w μc hw (hgi.mono hse.le) (⟨_, _, rfl, hS1.mono hse.le⟩) (by omega) (by omega)); refine D9 ?_))
      all_goals refine DD 11 ?_
      all_goals refine D8 ?_
      all_goals repeat' (first | refine KK ?_ | fail))
      all_goals (refine aM (l' := [(6, .bool b0)]) (L' := ckR fb gm gs n (.slice (some adU) n cc) f c (isl, .slice QA (c.next.flatMap aW).length QC, ix)) PU PS ?_; exact bZ hcnt rfl (aB rfl) (isl, .slice QA (c.next.flatMap aW).length QC, ix) rfl rfl hi)
  rw [if_neg h2] at hR
  by_cases h3 : t.op = 137 ∨ t.op = 138
  · rw [if_pos h3] at hR
    subst hR
    rcases h3 with h3 | h3
    all_goals repeat' (first | refine KK ?_ | refine NB fun b => ?_ | fail)
    all_goals try (exfalso; omega)
    all_goals (
    refine aN 16 _ (by kernel_rfl) rfl (List.Sublist.cons _ (List.Sublist.cons _ (List.Sublist.cons_cons _ (List.nil_sublist _)))) ?_
    all_goals refine DD 0 ?_
    all_goals refine DD 1 ?_
    all_goals (first | refine D1 2 ?_ | fail)
    all_goals (first | refine D1 3 ?_ | fail)
    all_goals (first | refine DD 4 ?_ | fail)
    all_goals refine DD 5 ?_
    all_goals refine DD 6 ?_
    all_goals (first | refine D1 7 ?_ | fail)
    all_goals (first | refine DD 8 ?_ | fail)
    all_goals (first | (refine DV (k := 9) (b := by exact U1 f) (c := ?_)) | fail)
    all_goals (first | refine DD 10 ?_ | fail)
    all_goals (first | (refine DV (k := 11) (b := by exact U4 hmU) (c := ?_)) | fail)
    all_goals (first | (refine DV (k := 12) (b := by ((with_reducible apply MR); exact rfl; (exact hyk))) (c := ?_)) | fail)
    all_goals (first | (refine DV (k := 13) (b := by ((with_reducible apply vW); exact rfl; exact rfl; (decide); (exact Int.tmod_eq_emod_of_nonneg (by omega)))) (c := ?_)) | fail)
    all_goals (first | refine D1 14 ?_ | fail)
    all_goals refine DD 15 ?_
    all_goals refine D8 ?_
    all_goals repeat' (first | refine KK ?_ | fail))
    all_goals (refine aM (l' := [(6, .bool (decide (y.1.kind / 4 % 2 = 1)))]) (L' := ckR fb gm gs n (.slice (some adU) n cc) f c (isl, .slice QA (c.next.flatMap aW).length QC, ix)) PU PS ?_; exact bZ hcnt rfl (aB rfl) (isl, .slice QA (c.next.flatMap aW).length QC, ix) rfl rfl hi)
  rw [if_neg h3] at hR
  by_cases h4 : t.op = 165
  · rw [if_pos h4] at hR
    generalize hE : p.breaks.contains t.n = b0 at hR
    subst hR
    repeat' (first | refine KO ?_ | ((with_reducible apply F1 143); exact rfl; exact EN; (exact fun w μc hw hse => YQ _ _ _ _ hE w μc hw (⟨_, _, rfl, hS2.mono hse.le⟩) (by omega))) | refine KI ?_ | refine NB fun b => ?_ | fail)
    all_goals (refine aM (l' := [(6, .bool b0)]) (L' := ckR fb gm gs n (.slice (some adU) n cc) f c (isl, .slice QA (c.next.flatMap aW).length QC, ix)) PU PS ?_; exact bZ hcnt rfl (aB rfl) (isl, .slice QA (c.next.flatMap aW).length QC, ix) rfl rfl hi)
  rw [if_neg h4] at hR
  by_cases h5 : t.op = 166
  · rw [if_pos h5] at hR
    generalize hE : p.agains.contains t.n = b0 at hR
    subst hR
    repeat' (first | refine KO ?_ | ((with_reducible apply F1 143); exact rfl; exact EN; (exact fun w μc hw hse => YQ _ _ _ _ hE w μc hw (⟨_, _, rfl, hS3.mono hse.le⟩) (by omega))) | refine KI ?_ | refine NB fun b => ?_ | fail)
    all_goals (refine aM (l' := [(6, .bool b0)]) (L' := ckR fb gm gs n (.slice (some adU) n cc) f c (isl, .slice QA (c.next.flatMap aW).length QC, ix)) PU PS ?_; exact bZ hcnt rfl (aB rfl) (isl, .slice QA (c.next.flatMap aW).length QC, ix) rfl rfl hi)
  rw [if_neg h5] at hR
  by_cases h6 : t.op = 171
  · rw [if_pos h6] at hR
    subst hR
    repeat' (first | refine KK ?_ | refine NB fun b => ?_ | fail)
    all_goals (refine aM (l' := [(6, .bool p.inSc)]) (L' := ckR fb gm gs n (.slice (some adU) n cc) f c (isl, .slice QA (c.next.flatMap aW).length QC, ix)) PU PS ?_; exact bZ hcnt rfl (aB rfl) (isl, .slice QA (c.next.flatMap aW).length QC, ix) rfl rfl hi)
  rw [if_neg h6] at hR
  subst hR
  repeat' (first | refine KK ?_ | refine NB fun b => ?_ | fail)
  all_goals (refine aM (l' := [(6, .bool true)]) (L' := ckR fb gm gs n (.slice (some adU) n cc) f c (isl, .slice QA (c.next.flatMap aW).length QC, ix)) PU PS ?_; exact bZ hcnt rfl (aB rfl) (isl, .slice QA (c.next.flatMap aW).length QC, ix) rfl rfl hi)
end Go.Proofs.YtoclmkdfcafhfaaGreatDoor
