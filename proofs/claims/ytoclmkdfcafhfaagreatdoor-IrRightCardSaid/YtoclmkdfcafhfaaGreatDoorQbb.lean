/- Package ir -/
import Derived.Test.YtoclmkdfcafhfaaGreatDoorQba
set_option maxRecDepth 20000
namespace Go.Proofs.YtoclmkdfcafhfaaGreatDoor
open Go.RowKit Go.Vcg Ou
theorem AllT.here {q : It → Prop} {t : T} (h : AllT q t) : ∃ k, q ⟨t.op, t.at', t.n, t.m, t.s, k⟩ := by
  cases h with
  | node h hk => exact h
theorem AllT.kid {q : It → Prop} {t : T} (h : AllT q t) {k : T} (hk : k ∈ t.kids) : AllT q k := by
  cases h with
  | node h hk2 => exact hk2 k hk
def qN (y : It) : Prop := (-9223372036854775808 ≤ y.op ∧ y.op ≤ 9223372036854775807) ∧ y.s.size ≤ 65536
theorem qN_op {t : T} (h : AllT qN t) : -9223372036854775808 ≤ t.op ∧ t.op ≤ 9223372036854775807 := by
  obtain ⟨k, h1, h2⟩ := h.here
  exact h1
theorem qN_s {t : T} (h : AllT qN t) : t.s.size ≤ 65536 := by
  obtain ⟨k, h1, h2⟩ := h.here
  exact h2
mutual
theorem szT_of : ∀ (t : T), AllT qN t → t.size ≤ 100000 → Iq.SzT t
  | .mk op a n m s kids, h, hs => by
    have h1 := qN_s h
    have h2 := kids_le (.mk op a n m s kids)
    exact ⟨by show kids.length ≤ _; simp only [T.kids] at h2; omega, h1, szL_of kids (fun k hk => h.kid hk) (fun k hk => by
      obtain ⟨i, hi⟩ := List.mem_iff_getElem?.1 hk
      have := T.size_kid (t := .mk op a n m s kids) hi
      omega)⟩
theorem szL_of : ∀ (ts : List T), (∀ t ∈ ts, AllT qN t) → (∀ t ∈ ts, t.size ≤ 100000) → Iq.SzL ts
  | [], _, _ => trivial
  | t :: r, h, hs => ⟨szT_of t (h t (List.mem_cons_self ..)) (hs t (List.mem_cons_self ..)), szL_of r (fun k hk => h k (List.mem_cons_of_mem _ hk)) (fun k hk => hs k (List.mem_cons_of_mem _ hk))⟩
end
theorem maxM_ofQ {μ : Mem} (h : MaxQ μ) : MaxM μ := fun w hw => by
  obtain ⟨m, hm⟩ := h
  obtain ⟨c, t, f, h1, h2, h3⟩ := hm
  refine ⟨m, ?_⟩
  have h4 := hw _ _ h1
  show w.cell? ⟨0, 0, none⟩ = _
  dsimp only at h3 h4
  simp [World.cell?, h4, h3]
section
variable {row : Int → List UInt8 × List UInt8} {fs : Iq.Fns}
theorem nodeF_eq (f : Int) (t : T) (p : Iq.PlP) (deep : Int) (c : Iq.CkS) : Iq.nodeF row fs f t p deep c = (if Iq.shapeB row fs t f deep = true then (if (Iq.standsF fs f t.op t.n t.m p c).2 = true then Iq.kidsF row fs f t.op t.n t.m (Iq.inside t.op t.n p) deep t.kids 0 (Iq.standsF fs f t.op t.n t.m p c).1 else ((Iq.standsF fs f t.op t.n t.m p c).1, false)) else (c, false)) := by
  cases t with
  | mk op a n m s kids => rw [Iq.nodeF]; rfl
theorem kidsF_cons (f op n m : Int) (p : Iq.PlP) (deep : Int) (t : T) (ts : List T) (i : Nat) (c : Iq.CkS) : Iq.kidsF row fs f op n m p deep (t :: ts) i c = (if (Iq.nodeF row fs f t (Iq.atKid op n m p i) (deep + 1) c).2 = true then Iq.kidsF row fs f op n m p deep ts (i + 1) (Iq.nodeF row fs f t (Iq.atKid op n m p i) (deep + 1) c).1 else ((Iq.nodeF row fs f t (Iq.atKid op n m p i) (deep + 1) c).1, false)) := by
  rw [Iq.kidsF]
theorem kidsF_nil (f op n m : Int) (p : Iq.PlP) (deep : Int) (i : Nat) (c : Iq.CkS) : Iq.kidsF row fs f op n m p deep [] i c = (c, true) := by
  rw [Iq.kidsF]
theorem shape_eq (t : T) (f deep : Int) : Iq.shapeB row fs t f deep = (decide (deep ≤ 2048) && (!(row t.op).1.isEmpty && (Iq.kidsB (row t.op).2 (t.kids.map T.op) && (Iq.textB t.op t.s.data.toList && (Iq.moreB t.op t.m && (Iq.numbB t.op t.n (Iq.locOf fs f) fs.length && Iq.argsB t.op t.m (t.kids.map T.op))))))) := rfl
theorem ckb_node {n : Nat} {t : T} {f : Int} {p : Iq.PlP} {deep : Int} {c c' : Iq.CkS} {b : Bool} (hfl : fs.length = n) (h1 : n ≤ 4096) (hloc : ∀ f, Iq.locOf fs f ≤ 4096) (hB : CkB n c) (hP : PlB p deep c) (hz : Iq.SzT t) (h : Iq.nodeF row fs f t p deep c = (c', b)) (hb : b = true) : CkB n c' ∧ Iq.cnt c.met ≤ Iq.cnt c'.met := by
  subst hb
  subst hfl
  have h2 := Iq.node_ok (row := row) h1 hloc t f p deep c c' hB.ck hP.pl hz h
  have h3 := Iq.node_len (row := row) (fs := fs) t f p deep c hB.met
  rw [h] at h3
  exact ⟨⟨h2.2.1, h3.2.1.trans hB.sl, by rw [h3.2.2]; exact hB.me⟩, h2.2.2⟩
theorem plb_in {op n : Int} {f : Int} {p : Iq.PlP} {deep : Int} {c c' : Iq.CkS} (hP : PlB p deep c) (hn : Iq.numbB op n (Iq.locOf fs f) fs.length = true) (hc : Iq.cnt c.met ≤ Iq.cnt c'.met) : Iq.PlOk (Iq.inside op n p) (deep + 1) (Iq.cnt c'.met) := (Iq.inside_ok hP.pl hn).up hc
theorem plb_kid {op n m : Int} {f : Int} {p : Iq.PlP} {deep : Int} {c c' : Iq.CkS} (i : Nat) (hP : PlB p deep c) (hn : Iq.numbB op n (Iq.locOf fs f) fs.length = true) (hm : Iq.moreB op m = true) (hc : Iq.cnt c.met ≤ Iq.cnt c'.met) : PlB (Iq.atKid op n m (Iq.inside op n p) i) (deep + 1) c' := by
  refine ⟨Iq.atKid_ok (plb_in hP hn hc) hn hm, ?_, ?_⟩
  · have := hP.b1
    unfold Iq.atKid Iq.inside
    split
    · rename_i h
      rw [if_neg (by omega), if_neg (by omega)]
      simp only [List.length_append, List.length_cons, List.length_nil]
      omega
    · split
      · simp only [List.length_append, List.length_cons, List.length_nil]
        omega
      · split <;> (try dsimp only) <;> omega
  · have := hP.b2
    unfold Iq.atKid Iq.inside
    split
    · rename_i h
      rw [if_neg (by omega), if_neg (by omega)]
      simp only [List.length_append, List.length_cons, List.length_nil]
      omega
    · split
      · (try dsimp only); omega
      · split <;> (try dsimp only) <;> omega
theorem ckb_stands {n : Nat} {t : T} {f : Int} {p : Iq.PlP} {deep : Int} {c : Iq.CkS} (hfl : fs.length = n) (hB : CkB n c) (hP : PlB p deep c) (hd : deep ≤ 2048) (hn : Iq.numbB t.op t.n (Iq.locOf fs f) fs.length = true) : CkB n (Iq.standsF fs f t.op t.n t.m p c).1 ∧ Iq.cnt c.met ≤ Iq.cnt (Iq.standsF fs f t.op t.n t.m p c).1.met := by
  subst hfl
  have h1 := Iq.stands_ok (f := f) (op := t.op) (n := t.n) (m := t.m) hB.ck hP.pl hd hn
  have h2 := Iq.stands_len f t.op t.n t.m p c hB.met hn
  exact ⟨⟨h1.1, h2.2.1.trans hB.sl, by rw [h2.2.2]; exact hB.me⟩, h1.2⟩
end
theorem loc_le {μ : Mem} {A : Option Addr} {n : Nat} {ps : List (F × Value)} (hU : UOk μ A n ps) (f : Int) : Iq.locOf (fnsV ps) f ≤ 4096 := by
  unfold Iq.locOf fnsV
  rw [List.getD_eq_getElem?_getD, List.getElem?_map]
  cases hf : ps[f.toNat]? with
  | none => decide
  | some x => exact (hU.kd x (List.mem_of_getElem? hf)).2.2
theorem inside_sc (op n : Int) (p : Iq.PlP) : (Iq.inside op n p).inSc = (if op = 170 then true else p.inSc) := by
  unfold Iq.inside
  split
  · rw [if_neg (by omega)]
  · split <;> rfl
theorem atKid_sc (op n m : Int) (p : Iq.PlP) (i : Nat) : (Iq.atKid op n m p i).inSc = p.inSc := by
  unfold Iq.atKid
  split <;> rfl
def PNodeC (N : Nat) : Prop := ∀ (ps : List (F × Value)) (A : Option Addr) (cc n : Nat) (fb gm gs : Nat) (t : T) (u : Value) (f : Nat) (p : Iq.PlP) (v1 v2 v3 : Value) (deep : Int) (c : Iq.CkS) (i : CIx) (w : World) (μ : Mem), MOk μ w → Go.Vcg.Own μ (ckP fb gm gs n (.slice A n cc) c i) w → MaxQ μ → UOk μ A n ps → f < n → KR μ t.kids u → AllT qN t → t.size ≤ N → t.size ≤ 100000 → PlV μ p v1 v2 v3 → CkI μ c i → CkB n c → PlB p deep c → 1 ≤ deep → deep ≤ 2049 →
  Calls Tryz.prog 76 #[.pointer (some ⟨fb, 0, none⟩), .agg (encT t u).toArray, .int .i64 (f : Int), .agg #[v1, v2, v3, .bool p.inSc], .int .i64 deep] w fun e w' => ∃ v μ' i', e = .returned v ∧ BackM (idsOf (ckP fb gm gs n (.slice A n cc) c i)) w w' μ (ckP fb gm gs n (.slice A n cc) (Iq.nodeF rowI (fnsV ps) f t p deep c).1 i') μ' ∧ CkPost (Iq.nodeF rowI (fnsV ps) f t p deep c).1 (Iq.nodeF rowI (fnsV ps) f t p deep c).2 μ' v i'
attribute [local irreducible] Iq.nodeF Iq.kidsF Iq.standsF Iq.shapeB rowI G GC GQ GA GAop Calls IntKind.wrap Int.decLt Int.decLe
theorem pnumb_b (t : T) (u : Value) (hu : u.oneCell' = true) (f : F) (v : Value) (hv : v.oneCell' = true) (k : Int) (b : Bool) (hb : Iq.numbB t.op t.n f.loc k = b) (hL : 0 ≤ f.loc ∧ f.loc ≤ 100000) (hk : 0 ≤ k ∧ k ≤ 100000) (w : World) (μ : Mem) (hμ : MOk μ w) : Calls Tryz.prog 109 #[.agg (encT t u).toArray, .agg (encF f v).toArray, .int .i64 k] w fun e w' => e = .returned (.bool b) ∧ Below w.heap.size w w' := by
  subst hb
  exact pnumb_spec t u hu f v hv k hL hk w μ hμ
theorem pargs_b (t : T) (u : Value) (b : Bool) (hb : Iq.argsB t.op t.m (t.kids.map T.op) = b) (w : World) (μ : Mem) (hμ : MOk μ w) (hu : KR μ t.kids u) (hk : t.kids.length ≤ 100000) (hm : t.op = 129 → 0 ≤ t.m ∧ t.m ≤ 1) : Calls Tryz.prog 110 #[.agg (encT t u).toArray] w fun e w' => e = .returned (.bool b) ∧ Below w.heap.size w w' := by
  subst hb
  exact pargs_spec t u w μ hμ hu hk hm
theorem ptext_b (t : T) (u : Value) (hu : u.oneCell' = true) (hs : t.s.size ≤ 1000000) (b : Bool) (hb : Iq.textB t.op t.s.data.toList = b) (w : World) (μ : Mem) (hμ : MOk μ w) (hm : MaxQ μ) : Calls Tryz.prog 107 #[.agg (encT t u).toArray] w fun e w' => e = .returned (.bool b) ∧ Below w.heap.size w w' := by
  subst hb
  exact ptext_spec t u hu hs w μ hμ hm
theorem pmore_b (t : T) (u : Value) (hu : u.oneCell' = true) (b : Bool) (hb : Iq.moreB t.op t.m = b) (w : World) (μ : Mem) (hμ : MOk μ w) : Calls Tryz.prog 108 #[.agg (encT t u).toArray] w fun e w' => e = .returned (.bool b) ∧ Below w.heap.size w w' := by
  subst hb
  exact pmore_spec t u hu w μ hμ
theorem pkids_b (op : Int) (ks : List T) (u : Value) (b : Bool) (hb : Iq.kidsB (rowI op).2 (ks.map T.op) = b) (hsg : (rowI op).2.length ≤ 1000) (w : World) (μ : Mem) (hμ : MOk μ w) (hu : KR μ ks u) (hk : ks.length ≤ 100000) : Calls Tryz.prog 106 #[.string (ofB (rowI op).2), u] w fun e w' => e = .returned (.bool b) ∧ Below w.heap.size w w' := by
  subst hb
  exact pkids_spec (rowI op).2 hsg ks u w μ hμ hu hk
end Go.Proofs.YtoclmkdfcafhfaaGreatDoor
