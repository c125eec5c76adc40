/- Package ir: the state of the check of a unit; a node in its place, both sides. -/
import Derived.Test.YtoclmkdfcafhfaaGreatDoorQaq
set_option maxRecDepth 20000
set_option maxHeartbeats 2000000
namespace Go.Vcg
open Go.RowKit
section
variable {P : Program} {X : Ctx} {ops : Array Oper} {Q : Exit → Act → World → Prop} {rest : List Oper} {μ : Mem} {l : Slots} {L : List Bk} {a : Act} {w : World} {o : Oper} {d : Nat}
variable {ty : TypeId} {pos : String} {af : Array Edge} {gd : Option (Nat × Bool)} {ds : Option Nat}
theorem and4 : ∀ x : Fin 256, IntKind.wrap .i64 ((BitVec.ofInt 64 (x.val : Int) &&& BitVec.ofInt 64 4).toNat : Int) = (if (x.val : Int) / 4 % 2 = 1 then 4 else 0) := by decide +kernel
theorem v_and4 {p : Operand} {t t2 : TypeId} {x r : Int} (hx0 : ev l p = some (.int .i64 x)) (h : 0 ≤ x ∧ x ≤ 255) (hr : (if x / 4 % 2 = 1 then (4 : Int) else 0) = r) : Val P μ l L ⟨ds, .binOp .and t p (.const (.int .i64 4)) t2, ty, pos, af, gd⟩ (.int .i64 r) := fun a w hs => by
  subst hr
  have e0 := hs.eval hx0
  have e1 : a.eval (.const (.int .i64 4)) = .int .i64 4 := rfl
  have e2 := and4 ⟨x.toNat, by omega⟩
  have e3 : ((⟨x.toNat, by omega⟩ : Fin 256).val : Int) = x := by show ((x.toNat : Nat) : Int) = x; omega
  rw [e3] at e2
  generalize a.eval = ρ at e0 e1
  rw [← e2]
  simp [execOp, e0, e1, eqGuard, binOp, Op.intBits]
  rfl
end
end Go.Vcg
namespace Go.Proofs.YtoclmkdfcafhfaaGreatDoor
section
open Go.RowKit Go.Vcg Ou
abbrev CIx := List Value × Value × Bk
abbrev ckT (gm gs n : Nat) (c : Iq.CkS) (i : CIx) : List Bk := [.inr ⟨.slice (some ⟨gm, 0, none⟩) n n, 4, 1, n, c.met.map Value.bool⟩, .inr ⟨.slice (some ⟨gs, 0, none⟩) n n, 84, 1, n, i.1⟩, i.2.2]
abbrev ckP (fb gm gs n : Nat) (U : Value) (c : Iq.CkS) (i : CIx) : List Bk := .inl ⟨fb, 86, 4, [(0, U), (1, .slice (some ⟨gm, 0, none⟩) n n), (2, .slice (some ⟨gs, 0, none⟩) n n), (3, i.2.1)]⟩ :: ckT gm gs n c i
structure CkI (μ : Mem) (c : Iq.CkS) (i : CIx) : Prop where
  q : Qu 3 i.2.1 i.2.2 (c.next.flatMap encIn)
  len : i.1.length = c.slots.length
  ints : ∀ (k : Nat) (v : Value) (xs : List Int), i.1[k]? = some v → c.slots[k]? = some xs → IntsV μ v xs
theorem CkI.mono {μ μ' : Mem} {c : Iq.CkS} {i : CIx} (h : CkI μ c i) (hle : MLe μ μ') : CkI μ' c i := ⟨h.q, h.len, fun k v xs h1 h2 => (h.ints k v xs h1 h2).mono hle⟩
def CkPost (c : Iq.CkS) (b : Bool) (μ : Mem) (v : Value) (i : CIx) : Prop := v = .bool b ∧ CkI μ c i
structure UOk (μ : Mem) (A : Option Addr) (n : Nat) (ps : List (F × Value)) : Prop where
  fs : Fs μ A n ps
  n1 : n ≤ 4096
  kd : ∀ p ∈ ps, (0 ≤ p.1.kind ∧ p.1.kind ≤ 255) ∧ (0 ≤ p.1.loc ∧ p.1.loc ≤ 4096)
theorem UOk.mono {μ μ' : Mem} {A : Option Addr} {n : Nat} {ps : List (F × Value)} (h : UOk μ A n ps) (hle : MLe μ μ') : UOk μ' A n ps := ⟨h.fs.mono hle, h.n1, h.kd⟩
abbrev fnsV (ps : List (F × Value)) : Iq.Fns := ps.map fun p => (p.1.kind, p.1.loc)
structure CkB (n : Nat) (c : Iq.CkS) : Prop where
  ck : Iq.CkOk c n
  sl : c.slots.length = n
  me : Iq.meas c ≤ 100000
structure PlB (p : Iq.PlP) (deep : Int) (c : Iq.CkS) : Prop where
  pl : Iq.PlOk p deep (Iq.cnt c.met)
  b1 : (p.breaks.length : Int) ≤ deep
  b2 : (p.agains.length : Int) ≤ deep
theorem CkB.next {n : Nat} {c : Iq.CkS} (h : CkB n c) : c.next.length ≤ 100000 := by
  have := h.me
  unfold Iq.meas at this
  omega
theorem CkB.met {n : Nat} {c : Iq.CkS} (h : CkB n c) : c.met.length = n := h.ck.1
theorem CkB.at {n : Nat} {c : Iq.CkS} (h : CkB n c) (hn : n ≤ 4096) {k : Nat} {xs : List Int} (hx : c.slots[k]? = some xs) : xs.length ≤ 100000000 := by
  have h1 := (h.ck.2 xs (List.mem_of_getElem? hx)).1
  have h2 := Iq.cnt_le c.met
  rw [h.met] at h2
  omega
theorem PlB.sl {n : Nat} {p : Iq.PlP} {deep : Int} {c : Iq.CkS} (h : PlB p deep c) (hc : CkB n c) (hn : n ≤ 4096) (hd : deep ≤ 3000) : p.slots.length ≤ 100000000 := by
  have h1 := h.pl.1
  have h2 := Iq.cnt_le c.met
  rw [hc.met] at h2
  omega
def PlV (μ : Mem) (p : Iq.PlP) (v1 v2 v3 : Value) : Prop := IntsV μ v1 p.slots ∧ IntsV μ v2 p.breaks ∧ IntsV μ v3 p.agains
theorem PlV.mono {μ μ' : Mem} {p : Iq.PlP} {v1 v2 v3 : Value} (h : PlV μ p v1 v2 v3) (hle : MLe μ μ') : PlV μ' p v1 v2 v3 := ⟨h.1.mono hle, h.2.1.mono hle, h.2.2.mono hle⟩
section
variable {P : Program} {μ μ0 : Mem} {l : Slots} {L Lr : List Bk} {w : World} {n : Nat} {M : List Nat}
theorem ck_ret {fn : Func} {r : ResultVar} {Ls : CIx → List Bk} {c : Iq.CkS} {b b' : Bool} (hM : ∀ D, M.count D ≤ 1) (hr : fn.results = #[r]) (h : RV P μ l L r (.bool b')) (i : CIx) (hL : splitB 4 L = some (Ls i, Lr)) (hb : b' = b) (hi : CkI μ c i) :
    GQ ⟨w, μ0, M, n⟩ (bodyPost P fn (fun e w' => ∃ v μ' i, e = .returned v ∧ BackM M w w' μ0 (Ls i) μ' ∧ CkPost c b μ' v i)) .ret μ l L :=
  ret_bor 4 i hM hr h hL rfl (fun μ' hle => ⟨by rw [hb], hi.mono hle⟩)
end
theorem inI_len {n : Int} {k : Nat} (h : Iq.inI n 0 ((k : Int) - 1) = true) : ∃ j : Nat, n = j ∧ j < k := by
  have := Iq.inI_t h
  exact ⟨n.toNat, by omega, by omega⟩
theorem num119 {n loc : Int} {k : Nat} (h : Iq.numbB 119 n loc k = true) : ∃ j : Nat, n = j ∧ j < k := by
  have e : Iq.numbB 119 n loc k = Iq.inI n 1 ((k : Int) - 1) := by simp [Iq.numbB]
  rw [e] at h
  have := Iq.inI_t h
  exact ⟨n.toNat, by omega, by omega⟩
theorem set_row {α β : Type} {g : α → β} {l : List α} {k : Nat} {x : α} (h : k < l.length) : (l.map g).take (k * 1) ++ [g x] ++ (l.map g).drop (k * 1 + 1) = (l.set k x).map g := by
  rw [Nat.mul_one, List.set_eq_take_append_cons_drop, if_pos h, List.map_append, List.map_cons, List.map_take, List.map_drop, List.append_assoc]
  rfl
theorem set_rowv {l : List Value} {k : Nat} {x : Value} (h : k < l.length) : l.take (k * 1) ++ [x] ++ l.drop (k * 1 + 1) = l.set k x := by
  rw [Nat.mul_one, List.set_eq_take_append_cons_drop, if_pos h, List.append_assoc]
  rfl
theorem row_at {c : Iq.CkS} {k : Nat} {b : Bool} (h : k < c.met.length) (hb : c.met.getD k false = b) : (c.met.map Value.bool)[k * 1]? = some (.bool b) := by
  rw [Nat.mul_one, List.getElem?_map]
  rw [List.getD_eq_getElem?_getD] at hb
  rw [List.getElem?_eq_getElem h] at hb ⊢
  rw [← hb]
  rfl
theorem pin_b (n lo hi : Int) (b : Bool) (hb : Iq.inI n lo hi = b) (w : World) (μ : Mem) (hμ : MOk μ w) : Calls Tryz.prog 47 #[.int .i64 n, .int .i64 lo, .int .i64 hi] w fun e w' => e = .returned (.bool b) ∧ Below w.heap.size w w' := by
  subst hb
  exact pin_spec n lo hi w μ hμ
theorem kindOf_at {ps : List (F × Value)} {f : Nat} {y : F × Value} (h : ps[f]? = some y) : Iq.kindOf (fnsV ps) (f : Int) = y.1.kind := by
  unfold Iq.kindOf fnsV
  rw [List.getD_eq_getElem?_getD, Int.toNat_natCast, List.getElem?_map, h]
  rfl
theorem locOf_at {ps : List (F × Value)} {f : Nat} {y : F × Value} (h : ps[f]? = some y) : Iq.locOf (fnsV ps) (f : Int) = y.1.loc := by
  unfold Iq.locOf fnsV
  rw [List.getD_eq_getElem?_getD, Int.toNat_natCast, List.getElem?_map, h]
  rfl
theorem CkI.set {μ : Mem} {c : Iq.CkS} {isl : List Value} {q v qv : Value} {x qx : Bk} {k : Nat} {xs next' : List Int} {met' : List Bool} (h : CkI μ c (isl, q, x)) (hv : IntsV μ v xs) (hQ : Qu 3 qv qx (next'.flatMap encIn)) : CkI μ ⟨met', c.slots.set k xs, next'⟩ (isl.set k v, qv, qx) :=
  ⟨hQ, by show (isl.set k v).length = (c.slots.set k xs).length; rw [List.length_set, List.length_set]; exact h.len, fun j u ys h1 h2 => by
    dsimp only at h1 h2
    rw [List.getElem?_set] at h1 h2
    by_cases hj : k = j
    · rw [if_pos hj] at h1 h2
      split at h1
      · split at h2
        · cases h1
          cases h2
          exact hv
        · cases h2
      · cases h1
    · rw [if_neg hj] at h1 h2
      exact h.ints j u ys h1 h2⟩
attribute [local irreducible] G GC GQ GA GAop Calls IntKind.wrap Int.decLt Int.decLe
theorem pequal_b (v1 v2 : Value) (xs ys : List Int) (b : Bool) (hb : decide (xs = ys) = b) (w : World) (μ : Mem) (hμ : MOk μ w) (h1 : IntsV μ v1 xs) (h2 : IntsV μ v2 ys) (hxl : xs.length ≤ 100000000) (hyl : ys.length ≤ 100000000) : Calls Tryz.prog 137 #[v1, v2] w fun e w' => e = .returned (.bool b) ∧ Below w.heap.size w w' := by
  subst hb
  exact pequal_spec v1 v2 xs ys w μ hμ h1 h2 hxl hyl
theorem pcontains_b (v1 : Value) (xs : List Int) (n : Int) (b : Bool) (hb : xs.contains n = b) (w : World) (μ : Mem) (hμ : MOk μ w) (h1 : IntsV μ v1 xs) (hxl : xs.length ≤ 100000000) : Calls Tryz.prog 138 #[v1, .int .i64 n] w fun e w' => e = .returned (.bool b) ∧ Below w.heap.size w w' := by
  subst hb
  exact pcontains_spec v1 xs n w μ hμ h1 hxl
theorem pstands_spec (ps : List (F × Value)) (A : Option Addr) (cc n f : Nat) (t : T) (u : Value) (p : Iq.PlP) (v1 v2 v3 : Value) (deep : Int) (c : Iq.CkS) (i : CIx) (fb gm gs : Nat) (w : World) (μ : Mem) (hμ : MOk μ w) (hO : Go.Vcg.Own μ (ckP fb gm gs n (.slice A n cc) c i) w) (hU : UOk μ A n ps) (hf : f < n) (hu : u.oneCell' = true) (hp : PlV μ p v1 v2 v3) (hi : CkI μ c i) (hB : CkB n c) (hP : PlB p deep c) (hd : deep ≤ 3000) (hn : Iq.numbB t.op t.n (Iq.locOf (fnsV ps) f) (fnsV ps).length = true) :
    Calls Tryz.prog 111 #[.pointer (some ⟨fb, 0, none⟩), .agg (encT t u).toArray, .int .i64 (f : Int), .agg #[v1, v2, v3, .bool p.inSc]] w fun e w' => ∃ v μ' i', e = .returned v ∧ BackM (idsOf (ckP fb gm gs n (.slice A n cc) c i)) w w' μ (ckP fb gm gs n (.slice A n cc) (Iq.standsF (fnsV ps) f t.op t.n t.m p c).1 i') μ' ∧ CkPost (Iq.standsF (fnsV ps) f t.op t.n t.m p c).1 (Iq.standsF (fnsV ps) f t.op t.n t.m p c).2 μ' v i' := by
  have hcnt := ids_count hO.diff
  have hpl : ps.length = n := hU.fs.1.1
  have hfl : (fnsV ps).length = n := by rw [List.length_map]; exact hpl
  rw [hfl] at hn
  have hn1 := hU.n1
  have hml := hB.met
  have hsl := hB.sl
  have hnx := hB.next
  have hp1l := hP.sl hB hn1 hd
  have hp2l := hP.b1
  have hp3l := hP.b2
  have hq1 := hi.q.one
  have hqf := hi.q
  obtain ⟨⟨A1, c1, rfl, hS1⟩, ⟨A2, c2, rfl, hS2⟩, ⟨A3, c3, rfl, hS3⟩⟩ := hp
  obtain ⟨adU, y, rfl, hy, hmU⟩ := hU.fs.1.get hf
  generalize hR : Iq.standsF (fnsV ps) f t.op t.n t.m p c = R
  unfold Iq.standsF at hR
  rw [kindOf_at hy] at hR
  have hyk := (hU.kd y (List.mem_of_getElem? hy)).1
  obtain ⟨isl, iq, ix⟩ := i
  obtain ⟨QA, QC, hqv, hql⟩ := hqf.form
  dsimp only at hqv
  subst hqv
  have hil : isl.length = n := hi.len.trans hsl
  refine call_introM (args := [.pointer (some ⟨fb, 0, none⟩), .agg (encT t u).toArray, .int .i64 (f : Int), .agg #[.slice A1 p.slots.length c1, .slice A2 p.breaks.length c2, .slice A3 p.agains.length c3, .bool p.inSc]]) Tryz.func111 rfl Tryz.ntmps111 (by simp) hμ hO ?_
  by_cases h1 : t.op = 109 ∨ t.op = 110
  · rw [if_pos h1] at hR
    cases hA : Iq.inI t.n 0 ((p.slots.length : Int) - 1)
    · rw [hA, Bool.false_and] at hR
      subst hR
      rcases h1 with h1 | h1
      all_goals repeat' (first | refine KK ?_ | refine NB fun b => ?_ | (refine KB ?_ ?_ <;> intro hp) | refine KG ?_ | fail)
      all_goals try (exfalso; omega)
      all_goals (
      refine gc_draw 20 _ (by kernel_rfl) rfl (List.Sublist.cons_cons _ (List.Sublist.cons_cons _ (List.nil_sublist _))) ?_
      all_goals refine DD 0 ?_
      all_goals refine DD 1 ?_
      all_goals refine DD 2 ?_
      all_goals refine DD 3 ?_
      all_goals refine DD 4 ?_
      all_goals refine DD 5 ?_
      all_goals (first | (refine D3 6 ?_; refine D5 ?_; (with_reducible apply F1 47); exact rfl; exact EN; (exact fun w μc hw hse => pin_b _ _ _ _ (by first | exact hA | exact hB2) w μc hw); refine D9 ?_))
      all_goals refine DD 7 ?_
      all_goals (try (refine D7 8 ?_; (repeat' (first | refine KO ?_ | (refine KB ?_ ?_ <;> intro hp)))))
      all_goals refine DD 8 ?_
      all_goals refine DD 9 ?_
      all_goals refine DD 10 ?_
      all_goals refine DD 11 ?_
      all_goals refine DD 12 ?_
      all_goals refine DD 13 ?_
      all_goals refine DD 14 ?_
      all_goals refine DD 15 ?_
      all_goals refine DD 16 ?_
      all_goals (first | (refine D3 17 ?_; refine D5 ?_; (with_reducible apply F1 47); exact rfl; exact EN; (exact fun w μc hw hse => pin_b _ _ _ _ (by first | exact hA | exact hB2) w μc hw); refine D9 ?_) | refine D3 17 (D6 ?_))
      all_goals refine DD 18 ?_
      all_goals refine DD 19 ?_
      all_goals refine D8 ?_
      all_goals repeat' (first | refine KK ?_ | refine NB fun b => ?_ | (refine KB ?_ ?_ <;> intro hp) | refine KG ?_ | fail))
      all_goals (refine gq_sel (l' := [(8, .bool false)]) (L' := ckP fb gm gs n (.slice (some adU) n cc) c (isl, .slice QA (c.next.flatMap encIn).length QC, ix)) PU PS ?_; exact ck_ret hcnt rfl (rv_tmp rfl) (isl, .slice QA (c.next.flatMap encIn).length QC, ix) rfl rfl hi)
    · obtain ⟨k, hk, hkl⟩ := inI_len hA
      rw [hA, Bool.true_and, hk, Int.toNat_natCast] at hR
      obtain ⟨ad, x, rfl, hx, hm⟩ := hS1.get hkl
      have hgx : p.slots.getD k 0 = x := by rw [List.getD_eq_getElem?_getD, hx]; rfl
      have hxs := hP.pl.2.1 x (List.mem_of_getElem? hx)
      rw [hgx] at hR
      cases hB2 : Iq.inI t.m 0 (x - 1)
      all_goals rw [hB2] at hR
      all_goals subst hR
      all_goals rcases h1 with h1 | h1
      all_goals repeat' (first | refine KK ?_ | refine NB fun b => ?_ | (refine KB ?_ ?_ <;> intro hp) | refine KG ?_ | fail)
      all_goals try (exfalso; omega)
      all_goals (
      refine gc_draw 20 _ (by kernel_rfl) rfl (List.Sublist.cons_cons _ (List.Sublist.cons_cons _ (List.nil_sublist _))) ?_
      all_goals (first | refine D1 0 ?_ | (refine DV (k := 0) (b := by first | exact U1 k | exact U3 (hm.at 0 rfl)) (c := ?_)) | refine DD 0 ?_ | fail)
      all_goals (first | refine D1 1 ?_ | (refine DV (k := 1) (b := by first | exact U1 k | exact U3 (hm.at 0 rfl)) (c := ?_)) | (refine D3 1 (DW (b := by first | exact U1 k | exact U3 (hm.at 0 rfl)) (c := ?_))) | refine DD 1 ?_ | fail)
      all_goals (first | refine D1 2 ?_ | (refine DV (k := 2) (b := by first | exact U1 k | exact U3 (hm.at 0 rfl)) (c := ?_)) | refine DD 2 ?_ | fail)
      all_goals (first | refine D1 3 ?_ | (refine DV (k := 3) (b := by first | exact U1 k | exact U3 (hm.at 0 rfl)) (c := ?_)) | (refine D3 3 (DW (b := by first | exact U1 k | exact U3 (hm.at 0 rfl)) (c := ?_))) | refine DD 3 ?_ | fail)
      all_goals (first | refine D1 4 ?_ | (refine DV (k := 4) (b := by first | exact U1 k | exact U3 (hm.at 0 rfl)) (c := ?_)) | refine DD 4 ?_ | fail)
      all_goals (first | refine D1 5 ?_ | (refine DV (k := 5) (b := by first | exact U1 k | exact U3 (hm.at 0 rfl)) (c := ?_)) | refine DD 5 ?_ | fail)
      all_goals (first | (refine D3 6 ?_; refine D5 ?_; (with_reducible apply F1 47); exact rfl; exact EN; (exact fun w μc hw hse => pin_b _ _ _ _ (by first | exact hA | exact hB2) w μc hw); refine D9 ?_))
      all_goals refine DD 7 ?_
      all_goals (try (refine D7 8 ?_; (repeat' (first | refine KO ?_ | (refine KB ?_ ?_ <;> intro hp)))))
      all_goals (first | refine D1 8 ?_ | (refine DV (k := 8) (b := by first | exact U1 k | exact U3 (hm.at 0 rfl)) (c := ?_)) | refine DD 8 ?_ | fail)
      all_goals (first | refine D1 9 ?_ | (refine DV (k := 9) (b := by first | exact U1 k | exact U3 (hm.at 0 rfl)) (c := ?_)) | (refine D3 9 (DW (b := by first | exact U1 k | exact U3 (hm.at 0 rfl)) (c := ?_))) | refine DD 9 ?_ | fail)
      all_goals (first | refine D1 10 ?_ | (refine DV (k := 10) (b := by first | exact U1 k | exact U3 (hm.at 0 rfl)) (c := ?_)) | refine DD 10 ?_ | fail)
      all_goals (first | refine D1 11 ?_ | (refine DV (k := 11) (b := by first | exact U1 k | exact U3 (hm.at 0 rfl)) (c := ?_)) | (refine D3 11 (DW (b := by first | exact U1 k | exact U3 (hm.at 0 rfl)) (c := ?_))) | refine DD 11 ?_ | fail)
      all_goals (first | refine D1 12 ?_ | (refine DV (k := 12) (b := by first | exact U1 k | exact U3 (hm.at 0 rfl)) (c := ?_)) | refine DD 12 ?_ | fail)
      all_goals (first | refine D1 13 ?_ | (refine DV (k := 13) (b := by first | exact U1 k | exact U3 (hm.at 0 rfl)) (c := ?_)) | (refine D3 13 (DW (b := by first | exact U1 k | exact U3 (hm.at 0 rfl)) (c := ?_))) | refine DD 13 ?_ | fail)
      all_goals (first | refine D1 14 ?_ | (refine DV (k := 14) (b := by first | exact U1 k | exact U3 (hm.at 0 rfl)) (c := ?_)) | refine DD 14 ?_ | fail)
      all_goals (first | refine D1 15 ?_ | (refine DV (k := 15) (b := by first | exact U1 k | exact U3 (hm.at 0 rfl)) (c := ?_)) | (refine D3 15 (DW (b := by first | exact U1 k | exact U3 (hm.at 0 rfl)) (c := ?_))) | refine DD 15 ?_ | fail)
      all_goals (first | refine D1 16 ?_ | (refine DV (k := 16) (b := by first | exact U1 k | exact U3 (hm.at 0 rfl)) (c := ?_)) | refine DD 16 ?_ | fail)
      all_goals (first | (refine D3 17 ?_; refine D5 ?_; (with_reducible apply F1 47); exact rfl; exact EN; (exact fun w μc hw hse => pin_b _ _ _ _ (by first | exact hA | exact hB2) w μc hw); refine D9 ?_) | refine D3 17 (D6 ?_))
      all_goals refine DD 18 ?_
      all_goals refine DD 19 ?_
      all_goals refine D8 ?_
      all_goals repeat' (first | refine KK ?_ | refine NB fun b => ?_ | (refine KB ?_ ?_ <;> intro hp) | refine KG ?_ | fail))
      all_goals first | (refine gq_sel (l' := [(8, .bool true)]) (L' := ckP fb gm gs n (.slice (some adU) n cc) c (isl, .slice QA (c.next.flatMap encIn).length QC, ix)) PU PS ?_; exact ck_ret hcnt rfl (rv_tmp rfl) (isl, .slice QA (c.next.flatMap encIn).length QC, ix) rfl rfl hi) | (refine gq_sel (l' := [(8, .bool false)]) (L' := ckP fb gm gs n (.slice (some adU) n cc) c (isl, .slice QA (c.next.flatMap encIn).length QC, ix)) PU PS ?_; exact ck_ret hcnt rfl (rv_tmp rfl) (isl, .slice QA (c.next.flatMap encIn).length QC, ix) rfl rfl hi)
  rw [if_neg h1] at hR
  by_cases h2 : t.op = 119
  · rw [if_pos h2] at hR
    obtain ⟨k, hk, hkl⟩ := num119 (by rw [← h2]; exact hn)
    rw [hk, Int.toNat_natCast] at hR
    have hrl : (c.met.map Value.bool).length = n := by rw [List.length_map]; exact hml
    have hgs : isl[k]? = some isl[k] := List.getElem?_eq_getElem (by omega)
    have hgc : c.slots[k]? = some c.slots[k] := List.getElem?_eq_getElem (by omega)
    have hgi := hi.ints k _ _ hgs hgc
    have hgl := hB.at hn1 hgc
    cases hmt : c.met.getD k false
    · rw [if_neg (by rw [hmt]; simp)] at hR
      dsimp only at hR
      have hgn : (isl.set k (.slice A1 p.slots.length c1))[k * 1]? = some (.slice A1 p.slots.length c1) := by rw [Nat.mul_one]; exact List.getElem?_set_self (by omega)
      have hge : (c.slots.set k p.slots).getD k [] = p.slots := by rw [List.getD_eq_getElem?_getD, List.getElem?_set_self (by omega)]; rfl
      rw [hge, decide_eq_true rfl] at hR
      subst hR
      repeat' (first | refine KK ?_ | refine NB fun b => ?_ | (refine KB ?_ ?_ <;> intro hp) | refine KG ?_ | fail)
      all_goals try (exfalso; omega)
      refine gc_draw 9 _ (by kernel_rfl) rfl (List.Sublist.cons_cons _ (List.Sublist.cons_cons _ (List.Sublist.cons_cons _ (List.Sublist.cons_cons _ (List.nil_sublist _))))) ?_
      all_goals refine DD 0 ?_
      all_goals refine DD 1 ?_
      all_goals (first | refine D1 2 ?_ | (refine DV (k := 2) (b := by first | exact U1 k | exact UR3 (row_at (by omega) hmt)) (c := ?_)) | refine DD 2 ?_ | fail)
      all_goals (first | refine D1 3 ?_ | (refine DV (k := 3) (b := by first | exact U1 k | exact UR3 (row_at (by omega) hmt)) (c := ?_)) | (refine D3 3 (DW (b := by first | exact U1 k | exact UR3 (row_at (by omega) hmt)) (c := ?_))) | refine DD 3 ?_ | fail)
      all_goals (first | refine D1 4 ?_ | (refine DV (k := 4) (b := by first | exact U1 k | exact UR3 (row_at (by omega) hmt)) (c := ?_)) | refine DD 4 ?_ | fail)
      all_goals (first | refine D1 5 ?_ | (refine DV (k := 5) (b := by first | exact U1 k | exact UR3 (row_at (by omega) hmt)) (c := ?_)) | (refine D3 5 (DW (b := by first | exact U1 k | exact UR3 (row_at (by omega) hmt)) (c := ?_))) | refine DD 5 ?_ | fail)
      all_goals (first | refine D1 6 ?_ | (refine DV (k := 6) (b := by first | exact U1 k | exact UR3 (row_at (by omega) hmt)) (c := ?_)) | refine DD 6 ?_ | fail)
      all_goals (first | refine D1 7 ?_ | (refine DV (k := 7) (b := by first | exact U1 k | exact UR3 (row_at (by omega) hmt)) (c := ?_)) | (refine D3 7 (DW (b := by first | exact U1 k | exact UR3 (row_at (by omega) hmt)) (c := ?_))) | refine DD 7 ?_ | fail)
      all_goals refine DD 8 ?_
      all_goals refine D8 ?_
      all_goals repeat' (first | refine KK ?_ | refine NB fun b => ?_ | (refine KB ?_ ?_ <;> intro hp) | refine KG ?_ | fail)
      all_goals try (exfalso; omega)
      refine gc_draw 18 _ (by kernel_rfl) rfl (List.Sublist.cons_cons _ (List.Sublist.cons_cons _ (List.Sublist.cons_cons _ (List.nil_sublist _)))) ?_
      all_goals (first | refine D1 0 ?_ | (refine DV (k := 0) (b := by first | exact U1 k) (c := ?_)) | (refine D3 0 (DW (b := by first | exact U1 k) (c := ?_))) | refine DD 0 ?_ | fail)
      all_goals (first | refine D1 1 ?_ | (refine DV (k := 1) (b := by first | exact U1 k) (c := ?_)) | (refine D3 1 (DW (b := by first | exact U1 k) (c := ?_))) | refine DD 1 ?_ | fail)
      all_goals (first | refine D1 2 ?_ | (refine DV (k := 2) (b := by first | exact U1 k) (c := ?_)) | (refine D3 2 (DW (b := by first | exact U1 k) (c := ?_))) | refine DD 2 ?_ | fail)
      all_goals (first | refine D1 3 ?_ | (refine DV (k := 3) (b := by first | exact U1 k) (c := ?_)) | (refine D3 3 (DW (b := by first | exact U1 k) (c := ?_))) | refine DD 3 ?_ | fail)
      all_goals (first | refine D1 4 ?_ | (refine DV (k := 4) (b := by first | exact U1 k) (c := ?_)) | (refine D3 4 (DW (b := by first | exact U1 k) (c := ?_))) | refine DD 4 ?_ | fail)
      all_goals (first | refine D1 5 ?_ | (refine DV (k := 5) (b := by first | exact U1 k) (c := ?_)) | (refine D3 5 (DW (b := by first | exact U1 k) (c := ?_))) | refine DD 5 ?_ | fail)
      all_goals (first | refine D1 6 ?_ | (refine DV (k := 6) (b := by first | exact U1 k) (c := ?_)) | (refine D3 6 (DW (b := by first | exact U1 k) (c := ?_))) | refine DD 6 ?_ | fail)
      all_goals (first | refine D1 7 ?_ | (refine DV (k := 7) (b := by first | exact U1 k) (c := ?_)) | (refine D3 7 (DW (b := by first | exact U1 k) (c := ?_))) | refine DD 7 ?_ | fail)
      all_goals (first | refine D1 8 ?_ | (refine DV (k := 8) (b := by first | exact U1 k) (c := ?_)) | (refine D3 8 (DW (b := by first | exact U1 k) (c := ?_))) | refine DD 8 ?_ | fail)
      all_goals (first | refine D1 9 ?_ | (refine DV (k := 9) (b := by first | exact U1 k) (c := ?_)) | (refine D3 9 (DW (b := by first | exact U1 k) (c := ?_))) | refine DD 9 ?_ | fail)
      all_goals (first | refine D1 10 ?_ | (refine DV (k := 10) (b := by first | exact U1 k) (c := ?_)) | (refine D3 10 (DW (b := by first | exact U1 k) (c := ?_))) | refine DD 10 ?_ | fail)
      all_goals (first | refine D1 11 ?_ | (refine DV (k := 11) (b := by first | exact U1 k) (c := ?_)) | (refine D3 11 (DW (b := by first | exact U1 k) (c := ?_))) | refine DD 11 ?_ | fail)
      all_goals (first | refine D1 12 ?_ | (refine DV (k := 12) (b := by first | exact U1 k) (c := ?_)) | (refine D3 12 (DW (b := by first | exact U1 k) (c := ?_))) | refine DD 12 ?_ | fail)
      all_goals (first | refine D1 13 ?_ | (refine DV (k := 13) (b := by first | exact U1 k) (c := ?_)) | (refine D3 13 (DW (b := by first | exact U1 k) (c := ?_))) | refine DD 13 ?_ | fail)
      all_goals (first | refine D1 14 ?_ | (refine DV (k := 14) (b := by first | exact U1 k) (c := ?_)) | (refine D3 14 (DW (b := by first | exact U1 k) (c := ?_))) | refine DD 14 ?_ | fail)
      all_goals (first | (refine D3 15 ?_; refine D5 ?_; (first | refine Y0 ?_ | ((with_reducible apply g_store_row 3); (iterate 7 exact rfl); (simp; omega)) | ((with_reducible apply g_store_row 4); (iterate 7 exact rfl); (simp; omega))); refine D9 ?_))
      all_goals (first | refine D1 16 ?_ | (refine DV (k := 16) (b := by first | exact U1 k) (c := ?_)) | (refine D3 16 (DW (b := by first | exact U1 k) (c := ?_))) | refine DD 16 ?_ | fail)
      all_goals (first | (refine D3 17 ?_; refine D5 ?_; (first | refine Y0 ?_ | ((with_reducible apply g_store_row 3); (iterate 7 exact rfl); (simp; omega)) | ((with_reducible apply g_store_row 4); (iterate 7 exact rfl); (simp; omega))); refine D9 ?_))
      all_goals refine D8 ?_
      all_goals refine gq_rowEq (n' := n) (xs' := (c.met.set k true).map Value.bool) 3 rfl rfl (set_row (by omega)) ?_
      all_goals refine gq_rowEq (n' := n) (xs' := isl.set k (.slice A1 p.slots.length c1)) 4 rfl rfl (set_rowv (l := isl) (by omega)) ?_
      all_goals dsimp only [updB]
      all_goals repeat' (first | refine KK ?_ | refine NB fun b => ?_ | (refine KB ?_ ?_ <;> intro hp) | refine KG ?_ | fail)
      all_goals (
      refine gc_draw 12 _ (by kernel_rfl) rfl (List.Sublist.cons_cons _ (List.Sublist.cons_cons _ (List.nil_sublist _))) ?_
      all_goals refine DD 0 ?_
      all_goals refine DD 1 ?_
      all_goals refine DD 2 ?_
      all_goals refine DD 3 ?_
      all_goals refine DD 5 ?_
      all_goals refine DD 6 ?_
      refine ga_all2 4 7 (by kernel_rfl) ?dr3_4 ?dr3_7
      case' dr3_4 =>
        (first | ((with_reducible apply gaop_val); exact rfl; exact rfl; exact rfl; exact rfl; (first | ((with_reducible apply pv_sound); exact rfl) | ((with_reducible apply v_ld); exact rfl; (repeat first | with_reducible exact inb_hd | with_reducible apply inb_tl); exact rfl))))
        all_goals (first | (refine D3 7 ?_; refine D5 ?_; refine NB fun b => ?_; refine D9 ?_))
        all_goals (first | (refine D3 8 ?_; refine D5 ?_; (first | refine AQ 5 (hQ := hqf) (B := by rw [encIn_len]; omega) (k := fun QA2 QC2 qx hQ2 => ?_) | refine AQ 6 (hQ := hqf) (B := by rw [encIn_len]; omega) (k := fun QA2 QC2 qx hQ2 => ?_)); (dsimp only [updB]); refine D9 ?_))
        all_goals refine DD 9 ?_
        all_goals refine DD 10 ?_
        all_goals (first | (refine D3 11 ?_; refine D5 ?_; refine Y0 ?_; refine D9 ?_))
        all_goals refine D8 ?_
      case' dr3_7 =>
        (first | (refine D5 ?_; refine NB fun b => ?_; refine D9 ?_))
        all_goals (first | (refine D3 4 ?_; (with_reducible apply gaop_val); exact rfl; exact rfl; exact rfl; exact rfl; (first | ((with_reducible apply pv_sound); exact rfl) | ((with_reducible apply v_ld); exact rfl; (repeat first | with_reducible exact inb_hd | with_reducible apply inb_tl); exact rfl))))
        all_goals (first | (refine D3 8 ?_; refine D5 ?_; (first | refine AQ 5 (hQ := hqf) (B := by rw [encIn_len]; omega) (k := fun QA2 QC2 qx hQ2 => ?_) | refine AQ 6 (hQ := hqf) (B := by rw [encIn_len]; omega) (k := fun QA2 QC2 qx hQ2 => ?_)); (dsimp only [updB]); refine D9 ?_))
        all_goals refine DD 9 ?_
        all_goals refine DD 10 ?_
        all_goals (first | (refine D3 11 ?_; refine D5 ?_; refine Y0 ?_; refine D9 ?_))
        all_goals refine D8 ?_
      all_goals repeat' (first | refine KK ?_ | refine NB fun b => ?_ | (refine KB ?_ ?_ <;> intro hp) | refine KG ?_ | fail))
      all_goals (
      refine gc_draw 12 _ (by kernel_rfl) rfl (List.Sublist.cons _ (List.Sublist.cons_cons _ (List.Sublist.cons_cons _ (List.Sublist.cons_cons _ (List.Sublist.cons _ (List.Sublist.cons_cons _ (List.nil_sublist _))))))) ?_
      all_goals refine DD 0 ?_
      all_goals refine DD 1 ?_
      all_goals (first | refine D1 2 ?_ | (refine DV (k := 2) (b := by first | exact U1 k | exact UR3 hgn) (c := ?_)) | refine DD 2 ?_ | fail)
      all_goals (first | refine D1 3 ?_ | (refine DV (k := 3) (b := by first | exact U1 k | exact UR3 hgn) (c := ?_)) | (refine D3 3 (DW (b := by first | exact U1 k | exact UR3 hgn) (c := ?_))) | refine DD 3 ?_ | fail)
      all_goals (first | refine D1 4 ?_ | (refine DV (k := 4) (b := by first | exact U1 k | exact UR3 hgn) (c := ?_)) | refine DD 4 ?_ | fail)
      all_goals (first | refine D1 5 ?_ | (refine DV (k := 5) (b := by first | exact U1 k | exact UR3 hgn) (c := ?_)) | (refine D3 5 (DW (b := by first | exact U1 k | exact UR3 hgn) (c := ?_))) | refine DD 5 ?_ | fail)
      all_goals (first | refine D1 6 ?_ | (refine DV (k := 6) (b := by first | exact U1 k | exact UR3 hgn) (c := ?_)) | refine DD 6 ?_ | fail)
      all_goals (first | refine D1 7 ?_ | (refine DV (k := 7) (b := by first | exact U1 k | exact UR3 hgn) (c := ?_)) | (refine D3 7 (DW (b := by first | exact U1 k | exact UR3 hgn) (c := ?_))) | refine DD 7 ?_ | fail)
      all_goals (first | refine D1 8 ?_ | (refine DV (k := 8) (b := by first | exact U1 k | exact UR3 hgn) (c := ?_)) | refine DD 8 ?_ | fail)
      all_goals (first | refine D1 9 ?_ | (refine DV (k := 9) (b := by first | exact U1 k | exact UR3 hgn) (c := ?_)) | (refine D3 9 (DW (b := by first | exact U1 k | exact UR3 hgn) (c := ?_))) | refine DD 9 ?_ | fail)
      all_goals (first | (refine D3 10 ?_; refine D5 ?_; (with_reducible apply F1 137); exact rfl; exact EN; (exact fun w μc hw hse => pequal_b _ _ _ _ _ (decide_eq_true rfl) w μc hw (⟨_, _, rfl, hS1.mono hse.le⟩) (⟨_, _, rfl, hS1.mono hse.le⟩) (by omega) (by omega)); refine D9 ?_))
      all_goals refine DD 11 ?_
      all_goals refine D8 ?_
      all_goals repeat' (first | refine KK ?_ | refine NB fun b => ?_ | (refine KB ?_ ?_ <;> intro hp) | refine KG ?_ | fail))
      all_goals have hQ3 : Qu 3 (.slice QA2 (c.next.flatMap encIn ++ [Value.int .i64 t.n]).length QC2) qx ((c.next ++ [(k : Int)]).flatMap encIn) := by rw [List.flatMap_append, ← hk]; exact hQ2
      all_goals (refine gq_sel (l' := [(8, .bool true)]) (L' := ckP fb gm gs n (.slice (some adU) n cc) ⟨c.met.set k true, c.slots.set k p.slots, c.next ++ [(k : Int)]⟩ (isl.set k (.slice A1 p.slots.length c1), .slice QA2 (c.next.flatMap encIn ++ [Value.int .i64 t.n]).length QC2, qx)) PU PS ?_; exact ck_ret hcnt rfl (rv_tmp rfl) (isl.set k (.slice A1 p.slots.length c1), .slice QA2 (c.next.flatMap encIn ++ [Value.int .i64 t.n]).length QC2, qx) rfl rfl (hi.set ⟨_, _, rfl, hS1⟩ hQ3))
    · rw [if_pos hmt] at hR
      dsimp only at hR
      have hgd : c.slots.getD k [] = c.slots[k] := by rw [List.getD_eq_getElem?_getD, hgc]; rfl
      rw [hgd] at hR
      generalize hE : decide (c.slots[k] = p.slots) = b0 at hR
      subst hR
      have hgs1 : isl[k * 1]? = some isl[k] := by rw [Nat.mul_one]; exact hgs
      have hgo := hgi.one
      generalize isl[k] = v0 at hgs1 hgi hgo
      repeat' (first | refine KK ?_ | refine NB fun b => ?_ | (refine KB ?_ ?_ <;> intro hp) | refine KG ?_ | fail)
      all_goals try (exfalso; omega)
      refine gc_draw 9 _ (by kernel_rfl) rfl (List.Sublist.cons_cons _ (List.Sublist.cons_cons _ (List.Sublist.cons_cons _ (List.Sublist.cons_cons _ (List.nil_sublist _))))) ?_
      all_goals refine DD 0 ?_
      all_goals refine DD 1 ?_
      all_goals (first | refine D1 2 ?_ | (refine DV (k := 2) (b := by first | exact U1 k | exact UR3 (row_at (by omega) hmt)) (c := ?_)) | refine DD 2 ?_ | fail)
      all_goals (first | refine D1 3 ?_ | (refine DV (k := 3) (b := by first | exact U1 k | exact UR3 (row_at (by omega) hmt)) (c := ?_)) | (refine D3 3 (DW (b := by first | exact U1 k | exact UR3 (row_at (by omega) hmt)) (c := ?_))) | refine DD 3 ?_ | fail)
      all_goals (first | refine D1 4 ?_ | (refine DV (k := 4) (b := by first | exact U1 k | exact UR3 (row_at (by omega) hmt)) (c := ?_)) | refine DD 4 ?_ | fail)
      all_goals (first | refine D1 5 ?_ | (refine DV (k := 5) (b := by first | exact U1 k | exact UR3 (row_at (by omega) hmt)) (c := ?_)) | (refine D3 5 (DW (b := by first | exact U1 k | exact UR3 (row_at (by omega) hmt)) (c := ?_))) | refine DD 5 ?_ | fail)
      all_goals (first | refine D1 6 ?_ | (refine DV (k := 6) (b := by first | exact U1 k | exact UR3 (row_at (by omega) hmt)) (c := ?_)) | refine DD 6 ?_ | fail)
      all_goals (first | refine D1 7 ?_ | (refine DV (k := 7) (b := by first | exact U1 k | exact UR3 (row_at (by omega) hmt)) (c := ?_)) | (refine D3 7 (DW (b := by first | exact U1 k | exact UR3 (row_at (by omega) hmt)) (c := ?_))) | refine DD 7 ?_ | fail)
      all_goals refine DD 8 ?_
      all_goals refine D8 ?_
      all_goals repeat' (first | refine KK ?_ | refine NB fun b => ?_ | (refine KB ?_ ?_ <;> intro hp) | refine KG ?_ | fail)
      all_goals try (exfalso; omega)
      all_goals (
      refine gc_draw 12 _ (by kernel_rfl) rfl (List.Sublist.cons_cons _ (List.Sublist.cons_cons _ (List.Sublist.cons_cons _ (List.Sublist.cons _ (List.Sublist.cons_cons _ (List.nil_sublist _)))))) ?_
      all_goals refine DD 0 ?_
      all_goals refine DD 1 ?_
      all_goals (first | refine D1 2 ?_ | (refine DV (k := 2) (b := by first | exact U1 k | exact UR3 hgs1) (c := ?_)) | refine DD 2 ?_ | fail)
      all_goals (first | refine D1 3 ?_ | (refine DV (k := 3) (b := by first | exact U1 k | exact UR3 hgs1) (c := ?_)) | (refine D3 3 (DW (b := by first | exact U1 k | exact UR3 hgs1) (c := ?_))) | refine DD 3 ?_ | fail)
      all_goals (first | refine D1 4 ?_ | (refine DV (k := 4) (b := by first | exact U1 k | exact UR3 hgs1) (c := ?_)) | refine DD 4 ?_ | fail)
      all_goals (first | refine D1 5 ?_ | (refine DV (k := 5) (b := by first | exact U1 k | exact UR3 hgs1) (c := ?_)) | (refine D3 5 (DW (b := by first | exact U1 k | exact UR3 hgs1) (c := ?_))) | refine DD 5 ?_ | fail)
      all_goals (first | refine D1 6 ?_ | (refine DV (k := 6) (b := by first | exact U1 k | exact UR3 hgs1) (c := ?_)) | refine DD 6 ?_ | fail)
      all_goals (first | refine D1 7 ?_ | (refine DV (k := 7) (b := by first | exact U1 k | exact UR3 hgs1) (c := ?_)) | (refine D3 7 (DW (b := by first | exact U1 k | exact UR3 hgs1) (c := ?_))) | refine DD 7 ?_ | fail)
      all_goals (first | refine D1 8 ?_ | (refine DV (k := 8) (b := by first | exact U1 k | exact UR3 hgs1) (c := ?_)) | refine DD 8 ?_ | fail)
      all_goals (first | refine D1 9 ?_ | (refine DV (k := 9) (b := by first | exact U1 k | exact UR3 hgs1) (c := ?_)) | (refine D3 9 (DW (b := by first | exact U1 k | exact UR3 hgs1) (c := ?_))) | refine DD 9 ?_ | fail)
      all_goals (first | (refine D3 10 ?_; refine D5 ?_; (with_reducible apply F1 137); exact rfl; exact EN; (exact fun w μc hw hse => pequal_b _ _ _ _ _ (hE) w μc hw (hgi.mono hse.le) (⟨_, _, rfl, hS1.mono hse.le⟩) (by omega) (by omega)); refine D9 ?_))
      all_goals refine DD 11 ?_
      all_goals refine D8 ?_
      all_goals repeat' (first | refine KK ?_ | refine NB fun b => ?_ | (refine KB ?_ ?_ <;> intro hp) | refine KG ?_ | fail))
      all_goals (refine gq_sel (l' := [(8, .bool b0)]) (L' := ckP fb gm gs n (.slice (some adU) n cc) c (isl, .slice QA (c.next.flatMap encIn).length QC, ix)) PU PS ?_; exact ck_ret hcnt rfl (rv_tmp rfl) (isl, .slice QA (c.next.flatMap encIn).length QC, ix) rfl rfl hi)
  rw [if_neg h2] at hR
  by_cases h3 : t.op = 137 ∨ t.op = 138
  · rw [if_pos h3] at hR
    subst hR
    by_cases hg : y.1.kind / 4 % 2 = 1
    · have hG : Iq.genB y.1.kind = true := decide_eq_true hg
      rw [hG]
      rcases h3 with h3 | h3
      all_goals repeat' (first | refine KO ?_ | (refine KV (b := by first | exact U1 f | exact U4 hmU | ((with_reducible apply v_and4); exact rfl; (exact hyk); (exact if_pos hg))) (c := ?_)) | refine KI ?_ | refine NB fun b => ?_ | (refine KB ?_ ?_ <;> intro hp) | refine KG ?_ | fail)
      all_goals first | (exfalso; omega) | (refine gq_sel (l' := [(8, .bool true)]) (L' := ckP fb gm gs n (.slice (some adU) n cc) c (isl, .slice QA (c.next.flatMap encIn).length QC, ix)) PU PS ?_; exact ck_ret hcnt rfl (rv_tmp rfl) (isl, .slice QA (c.next.flatMap encIn).length QC, ix) rfl rfl hi)
    · have hG : Iq.genB y.1.kind = false := decide_eq_false hg
      rw [hG]
      rcases h3 with h3 | h3
      all_goals repeat' (first | refine KO ?_ | (refine KV (b := by first | exact U1 f | exact U4 hmU | ((with_reducible apply v_and4); exact rfl; (exact hyk); (exact if_neg hg))) (c := ?_)) | refine KI ?_ | refine NB fun b => ?_ | (refine KB ?_ ?_ <;> intro hp) | refine KG ?_ | fail)
      all_goals first | (exfalso; omega) | (refine gq_sel (l' := [(8, .bool false)]) (L' := ckP fb gm gs n (.slice (some adU) n cc) c (isl, .slice QA (c.next.flatMap encIn).length QC, ix)) PU PS ?_; exact ck_ret hcnt rfl (rv_tmp rfl) (isl, .slice QA (c.next.flatMap encIn).length QC, ix) rfl rfl hi)
  rw [if_neg h3] at hR
  by_cases h4 : t.op = 165
  · rw [if_pos h4] at hR
    generalize hE : p.breaks.contains t.n = b0 at hR
    subst hR
    repeat' (first | refine KO ?_ | ((with_reducible apply F1 138); exact rfl; exact EN; (exact fun w μc hw hse => pcontains_b _ _ _ _ hE w μc hw (⟨_, _, rfl, hS2.mono hse.le⟩) (by omega))) | refine KI ?_ | refine NB fun b => ?_ | (refine KB ?_ ?_ <;> intro hp) | refine KG ?_ | fail)
    all_goals first | (exfalso; omega) | (refine gq_sel (l' := [(8, .bool b0)]) (L' := ckP fb gm gs n (.slice (some adU) n cc) c (isl, .slice QA (c.next.flatMap encIn).length QC, ix)) PU PS ?_; exact ck_ret hcnt rfl (rv_tmp rfl) (isl, .slice QA (c.next.flatMap encIn).length QC, ix) rfl rfl hi)
  rw [if_neg h4] at hR
  by_cases h5 : t.op = 166
  · rw [if_pos h5] at hR
    generalize hE : p.agains.contains t.n = b0 at hR
    subst hR
    repeat' (first | refine KO ?_ | ((with_reducible apply F1 138); exact rfl; exact EN; (exact fun w μc hw hse => pcontains_b _ _ _ _ hE w μc hw (⟨_, _, rfl, hS3.mono hse.le⟩) (by omega))) | refine KI ?_ | refine NB fun b => ?_ | (refine KB ?_ ?_ <;> intro hp) | refine KG ?_ | fail)
    all_goals first | (exfalso; omega) | (refine gq_sel (l' := [(8, .bool b0)]) (L' := ckP fb gm gs n (.slice (some adU) n cc) c (isl, .slice QA (c.next.flatMap encIn).length QC, ix)) PU PS ?_; exact ck_ret hcnt rfl (rv_tmp rfl) (isl, .slice QA (c.next.flatMap encIn).length QC, ix) rfl rfl hi)
  rw [if_neg h5] at hR
  by_cases h6 : t.op = 171
  · rw [if_pos h6] at hR
    subst hR
    repeat' (first | refine KK ?_ | refine NB fun b => ?_ | (refine KB ?_ ?_ <;> intro hp) | refine KG ?_ | fail)
    all_goals first | (exfalso; omega) | (refine gq_sel (l' := [(8, .bool p.inSc)]) (L' := ckP fb gm gs n (.slice (some adU) n cc) c (isl, .slice QA (c.next.flatMap encIn).length QC, ix)) PU PS ?_; exact ck_ret hcnt rfl (rv_tmp rfl) (isl, .slice QA (c.next.flatMap encIn).length QC, ix) rfl rfl hi)
  rw [if_neg h6] at hR
  subst hR
  repeat' (first | refine KK ?_ | refine NB fun b => ?_ | (refine KB ?_ ?_ <;> intro hp) | refine KG ?_ | fail)
  all_goals first | (exfalso; omega) | (refine gq_sel (l' := [(8, .bool true)]) (L' := ckP fb gm gs n (.slice (some adU) n cc) c (isl, .slice QA (c.next.flatMap encIn).length QC, ix)) PU PS ?_; exact ck_ret hcnt rfl (rv_tmp rfl) (isl, .slice QA (c.next.flatMap encIn).length QC, ix) rfl rfl hi)
end
section
open Go.RowKit Go.Vcg Ou
theorem AllT.here {q : It → Prop} {t : T} (h : AllT q t) : ∃ k, q ⟨t.op, t.at', t.n, t.m, t.s, k⟩ := by
  cases h with
  | node h hk => exact h
theorem AllT.kid {q : It → Prop} {t : T} (h : AllT q t) {k : T} (hk : k ∈ t.kids) : AllT q k := by
  cases h with
  | node h hk2 => exact hk2 k hk
def qN (y : It) : Prop := (-9223372036854775808 ≤ y.op ∧ y.op ≤ 9223372036854775807) ∧ y.s.size ≤ 65536
theorem qN_op {t : T} (h : AllT qN t) : -9223372036854775808 ≤ t.op ∧ t.op ≤ 9223372036854775807 := by
  obtain ⟨k, h1, h2⟩ := h.here
  exact h1
theorem qN_s {t : T} (h : AllT qN t) : t.s.size ≤ 65536 := by
  obtain ⟨k, h1, h2⟩ := h.here
  exact h2
mutual
theorem szT_of : ∀ (t : T), AllT qN t → t.size ≤ 100000 → Iq.SzT t
  | .mk op a n m s kids, h, hs => by
    have h1 := qN_s h
    have h2 := kids_le (.mk op a n m s kids)
    exact ⟨by show kids.length ≤ _; simp only [T.kids] at h2; omega, h1, szL_of kids (fun k hk => h.kid hk) (fun k hk => by
      obtain ⟨i, hi⟩ := List.mem_iff_getElem?.1 hk
      have := T.size_kid (t := .mk op a n m s kids) hi
      omega)⟩
theorem szL_of : ∀ (ts : List T), (∀ t ∈ ts, AllT qN t) → (∀ t ∈ ts, t.size ≤ 100000) → Iq.SzL ts
  | [], _, _ => trivial
  | t :: r, h, hs => ⟨szT_of t (h t (List.mem_cons_self ..)) (hs t (List.mem_cons_self ..)), szL_of r (fun k hk => h k (List.mem_cons_of_mem _ hk)) (fun k hk => hs k (List.mem_cons_of_mem _ hk))⟩
end
theorem maxM_ofQ {μ : Mem} (h : MaxQ μ) : MaxM μ := fun w hw => by
  obtain ⟨m, hm⟩ := h
  obtain ⟨c, t, f, h1, h2, h3⟩ := hm
  refine ⟨m, ?_⟩
  have h4 := hw _ _ h1
  show w.cell? ⟨0, 0, none⟩ = _
  dsimp only at h3 h4
  simp [World.cell?, h4, h3]
section
variable {row : Int → List UInt8 × List UInt8} {fs : Iq.Fns}
theorem nodeF_eq (f : Int) (t : T) (p : Iq.PlP) (deep : Int) (c : Iq.CkS) : Iq.nodeF row fs f t p deep c = (if Iq.shapeB row fs t f deep = true then (if (Iq.standsF fs f t.op t.n t.m p c).2 = true then Iq.kidsF row fs f t.op t.n t.m (Iq.inside t.op t.n p) deep t.kids 0 (Iq.standsF fs f t.op t.n t.m p c).1 else ((Iq.standsF fs f t.op t.n t.m p c).1, false)) else (c, false)) := by
  cases t with
  | mk op a n m s kids => rw [Iq.nodeF]; rfl
theorem kidsF_cons (f op n m : Int) (p : Iq.PlP) (deep : Int) (t : T) (ts : List T) (i : Nat) (c : Iq.CkS) : Iq.kidsF row fs f op n m p deep (t :: ts) i c = (if (Iq.nodeF row fs f t (Iq.atKid op n m p i) (deep + 1) c).2 = true then Iq.kidsF row fs f op n m p deep ts (i + 1) (Iq.nodeF row fs f t (Iq.atKid op n m p i) (deep + 1) c).1 else ((Iq.nodeF row fs f t (Iq.atKid op n m p i) (deep + 1) c).1, false)) := by
  rw [Iq.kidsF]
theorem kidsF_nil (f op n m : Int) (p : Iq.PlP) (deep : Int) (i : Nat) (c : Iq.CkS) : Iq.kidsF row fs f op n m p deep [] i c = (c, true) := by
  rw [Iq.kidsF]
theorem shape_eq (t : T) (f deep : Int) : Iq.shapeB row fs t f deep = (decide (deep ≤ 2048) && (!(row t.op).1.isEmpty && (Iq.kidsB (row t.op).2 (t.kids.map T.op) && (Iq.textB t.op t.s.data.toList && (Iq.moreB t.op t.m && (Iq.numbB t.op t.n (Iq.locOf fs f) fs.length && Iq.argsB t.op t.m (t.kids.map T.op))))))) := rfl
theorem ckb_node {n : Nat} {t : T} {f : Int} {p : Iq.PlP} {deep : Int} {c c' : Iq.CkS} {b : Bool} (hfl : fs.length = n) (h1 : n ≤ 4096) (hloc : ∀ f, Iq.locOf fs f ≤ 4096) (hB : CkB n c) (hP : PlB p deep c) (hz : Iq.SzT t) (h : Iq.nodeF row fs f t p deep c = (c', b)) (hb : b = true) : CkB n c' ∧ Iq.cnt c.met ≤ Iq.cnt c'.met := by
  subst hb
  subst hfl
  have h2 := Iq.node_ok (row := row) h1 hloc t f p deep c c' hB.ck hP.pl hz h
  have h3 := Iq.node_len (row := row) (fs := fs) t f p deep c hB.met
  rw [h] at h3
  exact ⟨⟨h2.2.1, h3.2.1.trans hB.sl, by rw [h3.2.2]; exact hB.me⟩, h2.2.2⟩
theorem plb_in {op n : Int} {f : Int} {p : Iq.PlP} {deep : Int} {c c' : Iq.CkS} (hP : PlB p deep c) (hn : Iq.numbB op n (Iq.locOf fs f) fs.length = true) (hc : Iq.cnt c.met ≤ Iq.cnt c'.met) : Iq.PlOk (Iq.inside op n p) (deep + 1) (Iq.cnt c'.met) := (Iq.inside_ok hP.pl hn).up hc
theorem plb_kid {op n m : Int} {f : Int} {p : Iq.PlP} {deep : Int} {c c' : Iq.CkS} (i : Nat) (hP : PlB p deep c) (hn : Iq.numbB op n (Iq.locOf fs f) fs.length = true) (hm : Iq.moreB op m = true) (hc : Iq.cnt c.met ≤ Iq.cnt c'.met) : PlB (Iq.atKid op n m (Iq.inside op n p) i) (deep + 1) c' := by
  refine ⟨Iq.atKid_ok (plb_in hP hn hc) hn hm, ?_, ?_⟩
  · have := hP.b1
    unfold Iq.atKid Iq.inside
    split
    · rename_i h
      rw [if_neg (by omega), if_neg (by omega)]
      simp only [List.length_append, List.length_cons, List.length_nil]
      omega
    · split
      · simp only [List.length_append, List.length_cons, List.length_nil]
        omega
      · split <;> (try dsimp only) <;> omega
  · have := hP.b2
    unfold Iq.atKid Iq.inside
    split
    · rename_i h
      rw [if_neg (by omega), if_neg (by omega)]
      simp only [List.length_append, List.length_cons, List.length_nil]
      omega
    · split
      · (try dsimp only); omega
      · split <;> (try dsimp only) <;> omega
theorem ckb_stands {n : Nat} {t : T} {f : Int} {p : Iq.PlP} {deep : Int} {c : Iq.CkS} (hfl : fs.length = n) (hB : CkB n c) (hP : PlB p deep c) (hd : deep ≤ 2048) (hn : Iq.numbB t.op t.n (Iq.locOf fs f) fs.length = true) : CkB n (Iq.standsF fs f t.op t.n t.m p c).1 ∧ Iq.cnt c.met ≤ Iq.cnt (Iq.standsF fs f t.op t.n t.m p c).1.met := by
  subst hfl
  have h1 := Iq.stands_ok (f := f) (op := t.op) (n := t.n) (m := t.m) hB.ck hP.pl hd hn
  have h2 := Iq.stands_len f t.op t.n t.m p c hB.met hn
  exact ⟨⟨h1.1, h2.2.1.trans hB.sl, by rw [h2.2.2]; exact hB.me⟩, h1.2⟩
end
theorem loc_le {μ : Mem} {A : Option Addr} {n : Nat} {ps : List (F × Value)} (hU : UOk μ A n ps) (f : Int) : Iq.locOf (fnsV ps) f ≤ 4096 := by
  unfold Iq.locOf fnsV
  rw [List.getD_eq_getElem?_getD, List.getElem?_map]
  cases hf : ps[f.toNat]? with
  | none => decide
  | some x => exact (hU.kd x (List.mem_of_getElem? hf)).2.2
theorem atKid_sc (op n m : Int) (p : Iq.PlP) (i : Nat) : (Iq.atKid op n m p i).inSc = p.inSc := by
  unfold Iq.atKid
  split <;> rfl
def PNodeC (N : Nat) : Prop := ∀ (ps : List (F × Value)) (A : Option Addr) (cc n : Nat) (fb gm gs : Nat) (t : T) (u : Value) (f : Nat) (p : Iq.PlP) (v1 v2 v3 : Value) (deep : Int) (c : Iq.CkS) (i : CIx) (w : World) (μ : Mem), MOk μ w → Go.Vcg.Own μ (ckP fb gm gs n (.slice A n cc) c i) w → MaxQ μ → UOk μ A n ps → f < n → KR μ t.kids u → AllT qN t → t.size ≤ N → t.size ≤ 100000 → PlV μ p v1 v2 v3 → CkI μ c i → CkB n c → PlB p deep c → 1 ≤ deep → deep ≤ 2049 →
  Calls Tryz.prog 76 #[.pointer (some ⟨fb, 0, none⟩), .agg (encT t u).toArray, .int .i64 (f : Int), .agg #[v1, v2, v3, .bool p.inSc], .int .i64 deep] w fun e w' => ∃ v μ' i', e = .returned v ∧ BackM (idsOf (ckP fb gm gs n (.slice A n cc) c i)) w w' μ (ckP fb gm gs n (.slice A n cc) (Iq.nodeF rowI (fnsV ps) f t p deep c).1 i') μ' ∧ CkPost (Iq.nodeF rowI (fnsV ps) f t p deep c).1 (Iq.nodeF rowI (fnsV ps) f t p deep c).2 μ' v i'
attribute [local irreducible] Iq.nodeF Iq.kidsF Iq.standsF Iq.shapeB rowI G GC GQ GA GAop Calls IntKind.wrap Int.decLt Int.decLe
theorem pnumb_b (t : T) (u : Value) (hu : u.oneCell' = true) (f : F) (v : Value) (hv : v.oneCell' = true) (k : Int) (b : Bool) (hb : Iq.numbB t.op t.n f.loc k = b) (hL : 0 ≤ f.loc ∧ f.loc ≤ 100000) (hk : 0 ≤ k ∧ k ≤ 100000) (w : World) (μ : Mem) (hμ : MOk μ w) : Calls Tryz.prog 109 #[.agg (encT t u).toArray, .agg (encF f v).toArray, .int .i64 k] w fun e w' => e = .returned (.bool b) ∧ Below w.heap.size w w' := by
  subst hb
  exact pnumb_spec t u hu f v hv k hL hk w μ hμ
theorem pargs_b (t : T) (u : Value) (b : Bool) (hb : Iq.argsB t.op t.m (t.kids.map T.op) = b) (w : World) (μ : Mem) (hμ : MOk μ w) (hu : KR μ t.kids u) (hk : t.kids.length ≤ 100000) (hm : t.op = 129 → 0 ≤ t.m ∧ t.m ≤ 1) : Calls Tryz.prog 110 #[.agg (encT t u).toArray] w fun e w' => e = .returned (.bool b) ∧ Below w.heap.size w w' := by
  subst hb
  exact pargs_spec t u w μ hμ hu hk hm
theorem ptext_b (t : T) (u : Value) (hu : u.oneCell' = true) (hs : t.s.size ≤ 1000000) (b : Bool) (hb : Iq.textB t.op t.s.data.toList = b) (w : World) (μ : Mem) (hμ : MOk μ w) (hm : MaxQ μ) : Calls Tryz.prog 107 #[.agg (encT t u).toArray] w fun e w' => e = .returned (.bool b) ∧ Below w.heap.size w w' := by
  subst hb
  exact ptext_spec t u hu hs w μ hμ hm
theorem pmore_b (t : T) (u : Value) (hu : u.oneCell' = true) (b : Bool) (hb : Iq.moreB t.op t.m = b) (w : World) (μ : Mem) (hμ : MOk μ w) : Calls Tryz.prog 108 #[.agg (encT t u).toArray] w fun e w' => e = .returned (.bool b) ∧ Below w.heap.size w w' := by
  subst hb
  exact pmore_spec t u hu w μ hμ
theorem pkids_b (op : Int) (ks : List T) (u : Value) (b : Bool) (hb : Iq.kidsB (rowI op).2 (ks.map T.op) = b) (hsg : (rowI op).2.length ≤ 1000) (w : World) (μ : Mem) (hμ : MOk μ w) (hu : KR μ ks u) (hk : ks.length ≤ 100000) : Calls Tryz.prog 106 #[.string (ofB (rowI op).2), u] w fun e w' => e = .returned (.bool b) ∧ Below w.heap.size w w' := by
  subst hb
  exact pkids_spec (rowI op).2 hsg ks u w μ hμ hu hk
end
end Go.Proofs.YtoclmkdfcafhfaaGreatDoor
