/- Equality of trees and of units, but for positions: package ir's and the reference's. -/
import Derived.Test.YtoclmkdfcafhfaaGreatDoorQag
set_option maxRecDepth 20000
set_option maxHeartbeats 2000000
namespace Go.Proofs.YtoclmkdfcafhfaaGreatDoor
section eq1
open Go.RowKit Go.Vcg
inductive Sm : T → T → Prop
  | mk (a b : T) (h1 : a.op = b.op) (h2 : a.n = b.n) (h3 : a.m = b.m) (h4 : a.s = b.s) (h5 : a.kids.length = b.kids.length) (h6 : ∀ (i : Nat) (x y : T), a.kids[i]? = some x → b.kids[i]? = some y → Sm x y) : Sm a b
def SmL (l m : List T) : Prop := l.length = m.length ∧ ∀ (i : Nat) (x y : T), l[i]? = some x → m[i]? = some y → Sm x y
theorem sm_iff {a b : T} : Sm a b ↔ a.op = b.op ∧ a.n = b.n ∧ a.m = b.m ∧ a.s = b.s ∧ SmL a.kids b.kids :=
  ⟨fun h => by cases h with | mk _ _ h1 h2 h3 h4 h5 h6 => exact ⟨h1, h2, h3, h4, h5, h6⟩, fun ⟨h1, h2, h3, h4, h5, h6⟩ => .mk a b h1 h2 h3 h4 h5 h6⟩
noncomputable def dB (p : Prop) : Bool := @decide p (Classical.propDecidable p)
theorem dB_t {p : Prop} (h : p) : dB p = true := @decide_eq_true p (Classical.propDecidable p) h
theorem dB_f {p : Prop} (h : ¬p) : dB p = false := @decide_eq_false p (Classical.propDecidable p) h
theorem dB_true {p : Prop} (h : dB p = true) : p := @of_decide_eq_true p (Classical.propDecidable p) h
theorem dB_false {p : Prop} (h : dB p = false) : ¬p := @of_decide_eq_false p (Classical.propDecidable p) h
noncomputable def smB (a b : T) : Bool := dB (Sm a b)
noncomputable def smLB (l m : List T) : Bool := dB (SmL l m)
theorem smB_t {a b : T} (h : Sm a b) : smB a b = true := by unfold smB; exact dB_t h
theorem smB_f {a b : T} (h : ¬Sm a b) : smB a b = false := by unfold smB; exact dB_f h
theorem smB_true {a b : T} (h : smB a b = true) : Sm a b := by unfold smB at h; exact dB_true h
theorem smB_false {a b : T} (h : smB a b = false) : ¬Sm a b := by unfold smB at h; exact dB_false h
theorem smLB_t {a b : List T} (h : SmL a b) : smLB a b = true := by unfold smLB; exact dB_t h
theorem smLB_f {a b : List T} (h : ¬SmL a b) : smLB a b = false := by unfold smLB; exact dB_f h
theorem sm_op {a b : T} (h : ¬a.op = b.op) : smB a b = false := smB_f fun e => h (sm_iff.1 e).1
theorem sm_n {a b : T} (h : ¬a.n = b.n) : smB a b = false := smB_f fun e => h (sm_iff.1 e).2.1
theorem sm_m {a b : T} (h : ¬a.m = b.m) : smB a b = false := smB_f fun e => h (sm_iff.1 e).2.2.1
theorem sm_s {a b : T} (h : ¬a.s = b.s) : smB a b = false := smB_f fun e => h (sm_iff.1 e).2.2.2.1
theorem sm_all {a b : T} (h1 : a.op = b.op) (h2 : a.n = b.n) (h3 : a.m = b.m) (h4 : a.s = b.s) : smLB a.kids b.kids = smB a b := by
  by_cases h : SmL a.kids b.kids
  · rw [smLB_t h, smB_t (sm_iff.2 ⟨h1, h2, h3, h4, h⟩)]
  · rw [smLB_f h, smB_f fun e => h (sm_iff.1 e).2.2.2.2]
theorem T.ind2 {p : T → Prop} (h : ∀ t : T, (∀ k, k ∈ t.kids → p k) → p t) (t : T) : p t := by
  have key : ∀ (n : Nat) (t : T), t.size ≤ n → p t := by
    intro n
    induction n with
    | zero => intro t ht; rw [T.size_eq] at ht; omega
    | succ n ih =>
      intro t ht
      refine h t fun k hk => ih k ?_
      obtain ⟨i, hi⟩ := List.mem_iff_getElem?.1 hk
      have := T.size_kid hi
      omega
  exact key t.size t (Nat.le_refl _)
theorem kids_le (t : T) : t.kids.length < t.size := by
  rw [T.size_eq]
  have : ∀ l : List T, l.length ≤ (l.map T.size).sum := fun l => by
    induction l with
    | nil => simp
    | cons x l ih =>
      have := T.size_eq x
      simp; omega
  have := this t.kids
  omega
attribute [local irreducible] smB smLB G GC GQ GA GAop Calls IntKind.wrap Int.decLt Int.decLe
def NodeOk (f : FuncId) (a : T) : Prop := ∀ (b : T) (w : World) (μ : Mem) (u v : Value), MOk μ w → KR μ a.kids u → KR μ b.kids v → a.size ≤ 100000 → b.size ≤ 100000 →
  Calls Tryz.prog f #[.agg (encT a u).toArray, .agg (encT b v).toArray] w fun e w' => e = .returned (.bool (smB a b)) ∧ Below w.heap.size w w'
theorem eqN_spec (ks ls : List T) (ih : ∀ k, k ∈ ks → NodeOk 53 k) (w : World) (μ : Mem) (hμ : MOk μ w) (u v : Value) (hu : KR μ ks u) (hv : KR μ ls v) (hks : ∀ k ∈ ks, T.size k ≤ 100000) (hls : ∀ k ∈ ls, T.size k ≤ 100000) (hkl : ks.length ≤ 100000) (hll : ls.length ≤ 100000) :
    Calls Tryz.prog 79 #[u, v, .func (.func 53) #[] #[]] w fun e w' => e = .returned (.bool (smLB ks ls)) ∧ Below w.heap.size w w' := by
  obtain ⟨A, c, rfl, _, hget⟩ := hu.form
  obtain ⟨A2, c2, rfl, _, hget2⟩ := hv.form
  refine call_intro (args := [.slice A ks.length c, .slice A2 ls.length c2, .func (.func 53) #[] #[]]) Tryz.func79 rfl Tryz.ntmps79 (by simp) hμ ?_
  by_cases hl : ks.length = ls.length
  · rw [hl]
    repeat' (first | refine KK ?_ | refine NB fun b => ?_ | (refine KB ?_ ?_ <;> intro hp) | refine KG ?_ | fail)
    refine gc_loop (ι := Nat) (fun k => k ≤ ls.length ∧ ∀ (j : Nat) (x y : T), j < k → ks[j]? = some x → ls[j]? = some y → Sm x y) (fun k => ls.length - k) (fun _ => μ) (fun k => [(17, .int .i64 k), (16, .int .i64 ls.length), (15, .slice A ls.length c), (0, .slice A ls.length c), (1, .slice A2 ls.length c2), (2, .func (.func 53) #[] #[])]) (fun _ => []) 0 ⟨by omega, fun j _ _ h => absurd h (by omega)⟩ (fun a w hs => hs.sub PU (by repeat first | exact List.Sublist.refl _ | exact List.nil_sublist _ | refine List.Sublist.cons _ ?_)) ?_
    rintro k ⟨hk1, hk2⟩
    by_cases hlt : k < ls.length
    · obtain ⟨ad, x, rfl, hm, ho, hkr⟩ := hget k _ (List.getElem?_eq_getElem (by omega))
      obtain ⟨ad2, x2, rfl, hm2, ho2, hkr2⟩ := hget2 k _ (List.getElem?_eq_getElem hlt)
      have hka : ks[k]? = some ks[k] := List.getElem?_eq_getElem (by omega)
      have hkb : ls[k]? = some ls[k] := List.getElem?_eq_getElem hlt
      generalize ks[k] = t at hm hkr hka
      generalize ls[k] = s at hm2 hkr2 hkb
      have this : ∀ (w : World) (μc : Mem), MOk μc w → MLe μ μc → Calls Tryz.prog 53 #[.agg (encT t x).toArray, .agg (encT s x2).toArray] w fun e w' => e = .returned (.bool (smB t s)) ∧ Below w.heap.size w w' :=
        fun w μc hw hle => ih t (List.mem_of_getElem? hka) s w μc x x2 hw (hkr.mono hle) (hkr2.mono hle) (hks _ (List.mem_of_getElem? hka)) (hls _ (List.mem_of_getElem? hkb))
      cases hc : smB t s
      · rw [hc] at this
        repeat' (first | refine KO ?_ | ((with_reducible apply C1); exact rfl; exact EN; exact fun w μc hw hse => this w μc hw hse.le) | (refine KV (b := by first | exact U1 k | exact U4 hm | exact U4 hm2) (c := ?_)) | refine KI ?_ | refine NB fun b => ?_ | (refine KB ?_ ?_ <;> intro hp) | refine KG ?_ | fail)
        refine ret_v1 rfl (by first | exact rv_tmp rfl | exact (RG 0 rfl rfl rfl rfl rfl) | exact (RG 1 rfl rfl rfl rfl rfl) | exact (RG 2 rfl rfl rfl rfl rfl) | exact (RG 3 rfl rfl rfl rfl rfl)) (congrArg _ (smLB_f fun h => smB_false hc (h.2 k t s hka hkb)).symm)
      · rw [hc] at this
        repeat' (first | refine KO ?_ | ((with_reducible apply C1); exact rfl; exact EN; exact fun w μc hw hse => this w μc hw hse.le) | (refine KV (b := by first | exact U1 k | exact U4 hm | exact U4 hm2) (c := ?_)) | refine KI ?_ | refine NB fun b => ?_ | (refine KB ?_ ?_ <;> intro hp) | refine KG ?_ | fail)
        refine gq_back (k + 1) ⟨by omega, fun j y z hj hy hz => ?_⟩ (by omega) rfl PU (by repeat first | exact List.Sublist.refl _ | exact List.nil_sublist _ | refine List.Sublist.cons _ ?_)
        rcases Nat.lt_or_ge j k with h | h
        · exact hk2 j y z h hy hz
        · have : j = k := by omega
          subst this
          rw [hka] at hy
          rw [hkb] at hz
          cases hy
          cases hz
          exact smB_true hc
    · repeat' (first | refine KK ?_ | refine NB fun b => ?_ | (refine KB ?_ ?_ <;> intro hp) | refine KG ?_ | fail)
      refine ret_v1 rfl (by first | exact rv_tmp rfl | exact (RG 0 rfl rfl rfl rfl rfl) | exact (RG 1 rfl rfl rfl rfl rfl) | exact (RG 2 rfl rfl rfl rfl rfl) | exact (RG 3 rfl rfl rfl rfl rfl)) (congrArg _ (smLB_t ⟨hl, fun j x y hx hy => hk2 j x y ?_ hx hy⟩).symm)
      have := (List.getElem?_eq_some_iff.1 hx).1
      omega
  · rw [smLB_f fun h => hl h.1]
    repeat' (first | refine KK ?_ | refine NB fun b => ?_ | (refine KB ?_ ?_ <;> intro hp) | refine KG ?_ | fail)
    all_goals first | exact ret_v1 rfl (by first | exact rv_tmp rfl | exact (RG 0 rfl rfl rfl rfl rfl) | exact (RG 1 rfl rfl rfl rfl rfl) | exact (RG 2 rfl rfl rfl rfl rfl) | exact (RG 3 rfl rfl rfl rfl rfl)) rfl | (exfalso; omega)
theorem irNode_spec (a : T) : NodeOk 53 a := by
  refine T.ind2 (fun a ih => ?_) a
  intro s w μ u v hμ hu hv hsa hsb
  refine call_intro Tryz.func53 rfl Tryz.ntmps53 (by simp) hμ ?_
  have ha := kids_le a
  have hb := kids_le s
  have hk : ∀ (t : T), t.size ≤ 100000 → ∀ k ∈ t.kids, T.size k ≤ 100000 := fun t ht k hk => by
    obtain ⟨i, hi⟩ := List.mem_iff_getElem?.1 hk
    have := T.size_kid hi
    omega
  repeat' (first | refine KO ?_ | ((with_reducible apply C1); exact rfl; exact EN; exact fun w μc hw hse => eqN_spec a.kids s.kids ih w μc hw u v (hu.mono hse.le) (hv.mono hse.le) (hk a hsa) (hk s hsb) (by omega) (by omega)) | refine KI ?_ | refine NB fun b => ?_ | (refine KB ?_ ?_ <;> intro hp) | refine KG ?_ | fail)
  all_goals first
    | exact ret_v1 rfl (by first | exact rv_tmp rfl | exact (RG 0 rfl rfl rfl rfl rfl) | exact (RG 1 rfl rfl rfl rfl rfl) | exact (RG 2 rfl rfl rfl rfl rfl) | exact (RG 3 rfl rfl rfl rfl rfl)) (congrArg _ (sm_op (by assumption)).symm)
    | exact ret_v1 rfl (by first | exact rv_tmp rfl | exact (RG 0 rfl rfl rfl rfl rfl) | exact (RG 1 rfl rfl rfl rfl rfl) | exact (RG 2 rfl rfl rfl rfl rfl) | exact (RG 3 rfl rfl rfl rfl rfl)) (congrArg _ (sm_n (by assumption)).symm)
    | exact ret_v1 rfl (by first | exact rv_tmp rfl | exact (RG 0 rfl rfl rfl rfl rfl) | exact (RG 1 rfl rfl rfl rfl rfl) | exact (RG 2 rfl rfl rfl rfl rfl) | exact (RG 3 rfl rfl rfl rfl rfl)) (congrArg _ (sm_m (by assumption)).symm)
    | exact ret_v1 rfl (by first | exact rv_tmp rfl | exact (RG 0 rfl rfl rfl rfl rfl) | exact (RG 1 rfl rfl rfl rfl rfl) | exact (RG 2 rfl rfl rfl rfl rfl) | exact (RG 3 rfl rfl rfl rfl rfl)) (congrArg _ (sm_s (by assumption)).symm)
    | exact ret_v1 rfl (by first | exact rv_tmp rfl | exact (RG 0 rfl rfl rfl rfl rfl) | exact (RG 1 rfl rfl rfl rfl rfl) | exact (RG 2 rfl rfl rfl rfl rfl) | exact (RG 3 rfl rfl rfl rfl rfl)) (congrArg _ (sm_all (by assumption) (by assumption) (by assumption) (by assumption)))
end eq1
section eq2
open Go.RowKit Go.Vcg
structure F where
  name : ByteArray
  kind : Int
  len : Int
  loc : Int
  body : T
abbrev encF (f : F) (u : Value) : List Value := [.string f.name, .int .i64 f.kind, .int .i64 f.len, .int .i64 f.loc, .int .i64 f.body.op, .int .i64 f.body.at', .int .i64 f.body.n, .int .i64 f.body.m, .string f.body.s, u]
abbrev encFV (p : F × Value) : List Value := encF p.1 p.2
def Fs (μ : Mem) (A : Option Addr) (n : Nat) (ps : List (F × Value)) : Prop := Sl encFV 10 μ A n ps ∧ n ≤ 100000 ∧ ∀ p ∈ ps, KR μ p.1.body.kids p.2 ∧ p.1.body.size ≤ 100000
theorem Fs.mono {μ μ' : Mem} {A : Option Addr} {n : Nat} {ps : List (F × Value)} (h : Fs μ A n ps) (hle : MLe μ μ') : Fs μ' A n ps := ⟨h.1.mono hle, h.2.1, fun p hp => ⟨(h.2.2 p hp).1.mono hle, (h.2.2 p hp).2⟩⟩
def SmF (f g : F) : Prop := f.name = g.name ∧ f.kind = g.kind ∧ f.len = g.len ∧ f.loc = g.loc ∧ Sm f.body g.body
def SmU (ps qs : List (F × Value)) : Prop := ps.length = qs.length ∧ ∀ (i : Nat) (p q : F × Value), ps[i]? = some p → qs[i]? = some q → SmF p.1 q.1
noncomputable def smFB (f g : F) : Bool := dB (SmF f g)
noncomputable def smUB (l m : List (F × Value)) : Bool := dB (SmU l m)
theorem smFB_t {a b : F} (h : SmF a b) : smFB a b = true := by unfold smFB; exact dB_t h
theorem smFB_f {a b : F} (h : ¬SmF a b) : smFB a b = false := by unfold smFB; exact dB_f h
theorem smFB_true {a b : F} (h : smFB a b = true) : SmF a b := by unfold smFB at h; exact dB_true h
theorem smFB_false {a b : F} (h : smFB a b = false) : ¬SmF a b := by unfold smFB at h; exact dB_false h
theorem smUB_t {a b : List (F × Value)} (h : SmU a b) : smUB a b = true := by unfold smUB; exact dB_t h
theorem smUB_f {a b : List (F × Value)} (h : ¬SmU a b) : smUB a b = false := by unfold smUB; exact dB_f h
theorem smF_1 {a b : F} (h : ¬a.name = b.name) : smFB a b = false := smFB_f fun e => h e.1
theorem smF_2 {a b : F} (h : ¬a.kind = b.kind) : smFB a b = false := smFB_f fun e => h e.2.1
theorem smF_3 {a b : F} (h : ¬a.len = b.len) : smFB a b = false := smFB_f fun e => h e.2.2.1
theorem smF_4 {a b : F} (h : ¬a.loc = b.loc) : smFB a b = false := smFB_f fun e => h e.2.2.2.1
theorem smF_all {a b : F} (h1 : a.name = b.name) (h2 : a.kind = b.kind) (h3 : a.len = b.len) (h4 : a.loc = b.loc) : smB a.body b.body = smFB a b := by
  by_cases h : Sm a.body b.body
  · rw [smB_t h, smFB_t ⟨h1, h2, h3, h4, h⟩]
  · rw [smB_f h, smFB_f fun e => h e.2.2.2.2]
attribute [local irreducible] smB smLB smFB smUB G GC GQ GA GAop Calls IntKind.wrap Int.decLt Int.decLe
theorem same1_spec (f g : F) (w : World) (μ : Mem) (u v : Value) (hμ : MOk μ w) (hu : KR μ f.body.kids u) (hv : KR μ g.body.kids v) (hf : f.body.size ≤ 100000) (hg : g.body.size ≤ 100000) :
    Calls Tryz.prog 52 #[.agg (encF f u).toArray, .agg (encF g v).toArray] w fun e w' => e = .returned (.bool (smFB f g)) ∧ Below w.heap.size w w' := by
  refine call_intro Tryz.func52 rfl Tryz.ntmps52 (by simp) hμ ?_
  have hou := hu.one
  have hov := hv.one
  repeat' (first | refine KO ?_ | ((with_reducible apply C1); exact rfl; exact EN; exact fun w μc hw hse => irNode_spec f.body g.body w μc u v hw (hu.mono hse.le) (hv.mono hse.le) hf hg) | refine KI ?_ | refine NB fun b => ?_ | (refine KB ?_ ?_ <;> intro hp) | refine KG ?_ | fail)
  all_goals first
    | exact ret_v1 rfl (by first | exact rv_tmp rfl | exact (RG 0 rfl rfl rfl rfl rfl) | exact (RG 1 rfl rfl rfl rfl rfl) | exact (RG 2 rfl rfl rfl rfl rfl) | exact (RG 3 rfl rfl rfl rfl rfl)) (congrArg _ (smF_1 (by assumption)).symm)
    | exact ret_v1 rfl (by first | exact rv_tmp rfl | exact (RG 0 rfl rfl rfl rfl rfl) | exact (RG 1 rfl rfl rfl rfl rfl) | exact (RG 2 rfl rfl rfl rfl rfl) | exact (RG 3 rfl rfl rfl rfl rfl)) (congrArg _ (smF_2 (by assumption)).symm)
    | exact ret_v1 rfl (by first | exact rv_tmp rfl | exact (RG 0 rfl rfl rfl rfl rfl) | exact (RG 1 rfl rfl rfl rfl rfl) | exact (RG 2 rfl rfl rfl rfl rfl) | exact (RG 3 rfl rfl rfl rfl rfl)) (congrArg _ (smF_3 (by assumption)).symm)
    | exact ret_v1 rfl (by first | exact rv_tmp rfl | exact (RG 0 rfl rfl rfl rfl rfl) | exact (RG 1 rfl rfl rfl rfl rfl) | exact (RG 2 rfl rfl rfl rfl rfl) | exact (RG 3 rfl rfl rfl rfl rfl)) (congrArg _ (smF_4 (by assumption)).symm)
    | exact ret_v1 rfl (by first | exact rv_tmp rfl | exact (RG 0 rfl rfl rfl rfl rfl) | exact (RG 1 rfl rfl rfl rfl rfl) | exact (RG 2 rfl rfl rfl rfl rfl) | exact (RG 3 rfl rfl rfl rfl rfl)) (congrArg _ (smF_all (by assumption) (by assumption) (by assumption) (by assumption)))
theorem eqF_spec (ps qs : List (F × Value)) (A A2 : Option Addr) (c c2 : Nat) (w : World) (μ : Mem) (hμ : MOk μ w) (hp : Fs μ A ps.length ps) (hq : Fs μ A2 qs.length qs) :
    Calls Tryz.prog 51 #[.slice A ps.length c, .slice A2 qs.length c2, .func (.func 52) #[] #[]] w fun e w' => e = .returned (.bool (smUB ps qs)) ∧ Below w.heap.size w w' := by
  obtain ⟨hS, hn, hk⟩ := hp
  obtain ⟨hS2, hn2, hk2⟩ := hq
  refine call_intro (args := [.slice A ps.length c, .slice A2 qs.length c2, .func (.func 52) #[] #[]]) Tryz.func51 rfl Tryz.ntmps51 (by simp) hμ ?_
  by_cases hl : ps.length = qs.length
  · rw [hl] at hS ⊢
    repeat' (first | refine KK ?_ | refine NB fun b => ?_ | (refine KB ?_ ?_ <;> intro hp) | refine KG ?_ | fail)
    refine gc_loop (ι := Nat) (fun k => k ≤ qs.length ∧ ∀ (j : Nat) (x y : F × Value), j < k → ps[j]? = some x → qs[j]? = some y → SmF x.1 y.1) (fun k => qs.length - k) (fun _ => μ) (fun k => [(17, .int .i64 k), (16, .int .i64 qs.length), (15, .slice A qs.length c), (0, .slice A qs.length c), (1, .slice A2 qs.length c2), (2, .func (.func 52) #[] #[])]) (fun _ => []) 0 ⟨by omega, fun j _ _ h => absurd h (by omega)⟩ (fun a w hs => hs.sub PU (by repeat first | exact List.Sublist.refl _ | exact List.nil_sublist _ | refine List.Sublist.cons _ ?_)) ?_
    rintro k ⟨hk1, hkk⟩
    by_cases hlt : k < qs.length
    · obtain ⟨ad, t, rfl, hka, hm⟩ := hS.get hlt
      obtain ⟨ad2, s, rfl, hkb, hm2⟩ := hS2.get hlt
      have q1 := hk t (List.mem_of_getElem? hka)
      have q2 := hk2 s (List.mem_of_getElem? hkb)
      have ho := q1.1.one
      have ho2 := q2.1.one
      have this : ∀ (w : World) (μc : Mem), MOk μc w → MLe μ μc → Calls Tryz.prog 52 #[.agg (encF t.1 t.2).toArray, .agg (encF s.1 s.2).toArray] w fun e w' => e = .returned (.bool (smFB t.1 s.1)) ∧ Below w.heap.size w w' :=
        fun w μc hw hle => same1_spec t.1 s.1 w μc t.2 s.2 hw (q1.1.mono hle) (q2.1.mono hle) q1.2 q2.2
      cases hc : smFB t.1 s.1
      · rw [hc] at this
        repeat' (first | refine KO ?_ | ((with_reducible apply C1); exact rfl; exact EN; exact fun w μc hw hse => this w μc hw hse.le) | (refine KV (b := by first | exact U1 k | exact U4 hm | exact U4 hm2) (c := ?_)) | refine KI ?_ | refine NB fun b => ?_ | (refine KB ?_ ?_ <;> intro hp) | refine KG ?_ | fail)
        refine ret_v1 rfl (by first | exact rv_tmp rfl | exact (RG 0 rfl rfl rfl rfl rfl) | exact (RG 1 rfl rfl rfl rfl rfl) | exact (RG 2 rfl rfl rfl rfl rfl) | exact (RG 3 rfl rfl rfl rfl rfl)) (congrArg _ (smUB_f fun h => smFB_false hc (h.2 k t s hka hkb)).symm)
      · rw [hc] at this
        repeat' (first | refine KO ?_ | ((with_reducible apply C1); exact rfl; exact EN; exact fun w μc hw hse => this w μc hw hse.le) | (refine KV (b := by first | exact U1 k | exact U4 hm | exact U4 hm2) (c := ?_)) | refine KI ?_ | refine NB fun b => ?_ | (refine KB ?_ ?_ <;> intro hp) | refine KG ?_ | fail)
        refine gq_back (k + 1) ⟨by omega, fun j y z hj hy hz => ?_⟩ (by omega) rfl PU (by repeat first | exact List.Sublist.refl _ | exact List.nil_sublist _ | refine List.Sublist.cons _ ?_)
        rcases Nat.lt_or_ge j k with h | h
        · exact hkk j y z h hy hz
        · have : j = k := by omega
          subst this
          rw [hka] at hy
          rw [hkb] at hz
          cases hy
          cases hz
          exact smFB_true hc
    · repeat' (first | refine KK ?_ | refine NB fun b => ?_ | (refine KB ?_ ?_ <;> intro hp) | refine KG ?_ | fail)
      refine ret_v1 rfl (by first | exact rv_tmp rfl | exact (RG 0 rfl rfl rfl rfl rfl) | exact (RG 1 rfl rfl rfl rfl rfl) | exact (RG 2 rfl rfl rfl rfl rfl) | exact (RG 3 rfl rfl rfl rfl rfl)) (congrArg _ (smUB_t ⟨hl, fun j x y hx hy => hkk j x y ?_ hx hy⟩).symm)
      have := (List.getElem?_eq_some_iff.1 hx).1
      omega
  · rw [smUB_f fun h => hl h.1]
    repeat' (first | refine KK ?_ | refine NB fun b => ?_ | (refine KB ?_ ?_ <;> intro hp) | refine KG ?_ | fail)
    all_goals first | exact ret_v1 rfl (by first | exact rv_tmp rfl | exact (RG 0 rfl rfl rfl rfl rfl) | exact (RG 1 rfl rfl rfl rfl rfl) | exact (RG 2 rfl rfl rfl rfl rfl) | exact (RG 3 rfl rfl rfl rfl rfl)) rfl | (exfalso; omega)
theorem irSame_spec (ps qs : List (F × Value)) (A A2 : Option Addr) (c c2 : Nat) (w : World) (μ : Mem) (hμ : MOk μ w) (hp : Fs μ A ps.length ps) (hq : Fs μ A2 qs.length qs) :
    Calls Tryz.prog 23 #[.agg #[.slice A ps.length c], .agg #[.slice A2 qs.length c2]] w fun e w' => e = .returned (.bool (smUB ps qs)) ∧ Below w.heap.size w w' := by
  refine call_intro (args := [.agg #[.slice A ps.length c], .agg #[.slice A2 qs.length c2]]) Tryz.func23 rfl Tryz.ntmps23 (by simp) hμ ?_
  repeat' (first | refine KO ?_ | ((with_reducible apply C1); exact rfl; exact EN; exact fun w μc hw hse => eqF_spec ps qs A A2 c c2 w μc hw (hp.mono hse.le) (hq.mono hse.le)) | refine KI ?_ | refine NB fun b => ?_ | (refine KB ?_ ?_ <;> intro hp) | refine KG ?_ | fail)
  exact ret_v1 rfl (by first | exact rv_tmp rfl | exact (RG 0 rfl rfl rfl rfl rfl) | exact (RG 1 rfl rfl rfl rfl rfl) | exact (RG 2 rfl rfl rfl rfl rfl) | exact (RG 3 rfl rfl rfl rfl rfl)) rfl
end eq2
section eq3
open Go.RowKit Go.Vcg
attribute [local irreducible] smB smLB smFB smUB G GC GQ GA GAop Calls IntKind.wrap Int.decLt Int.decLe
end eq3
end Go.Proofs.YtoclmkdfcafhfaaGreatDoor
namespace Go.Rex
open Go.RowKit
open Go.Vcg (Keep)
abbrev Env := Nat → Option (Nat × Nat × Nat)
def capU : Nat := 18446744073709551616
mutual
def rv (ρ : Env) : Value → Option Value
  | .bool b => some (.bool b)
  | .int k n => some (.int k n)
  | .float k n => some (.float k n)
  | .string s => some (.string s)
  | .pointer none => some (.pointer none)
  | .pointer (some ⟨b, o, none⟩) => match ρ b with
    | some (B, _, O) => some (.pointer (some ⟨B, O + o, none⟩))
    | none => none
  | .slice none n c => some (.slice none n c)
  | .slice (some ⟨b, o, none⟩) n c => match ρ b with
    | some (B, C, O) => if c < capU then some (.slice (some ⟨B, O + o, none⟩) n c)
      else if n + (c - capU) ≤ C then some (.slice (some ⟨B, O + o, none⟩) n (C - (c - capU))) else none
    | none => none
  | .map none => some (.map none)
  | .map (some b) => match ρ b with
    | some (B, _, _) => some (.map (some B))
    | none => none
  | .func (.func f) ⟨x⟩ ⟨y⟩ => match rvs ρ x, rvs ρ y with
    | some X, some Y => some (.func (.func f) ⟨X⟩ ⟨Y⟩)
    | _, _ => none
  | .nilFunc => some .nilFunc
  | .iface t v => match rv ρ v with
    | some V => some (.iface t V)
    | none => none
  | .nilIface => some .nilIface
  | .agg ⟨x⟩ => match rvs ρ x with
    | some X => some (.agg ⟨X⟩)
    | none => none
  | .tuple ⟨x⟩ => match rvs ρ x with
    | some X => some (.tuple ⟨X⟩)
    | none => none
  | _ => none
def rvs (ρ : Env) : List Value → Option (List Value)
  | [] => some []
  | v :: r => match rv ρ v, rvs ρ r with
    | some V, some R => some (V :: R)
    | _, _ => none
end
def ELe (ρ ρ' : Env) : Prop := ∀ b x, ρ b = some x → ρ' b = some x
theorem ELe.refl (ρ : Env) : ELe ρ ρ := fun _ _ h => h
theorem ELe.trans {ρ ρ' ρ'' : Env} (h : ELe ρ ρ') (k : ELe ρ' ρ'') : ELe ρ ρ'' := fun b x e => k b x (h b x e)
mutual
theorem rv_mono {ρ ρ' : Env} (h : ELe ρ ρ') : ∀ {v V : Value}, rv ρ v = some V → rv ρ' v = some V
  | .bool _, _, e => by simpa [rv] using e
  | .int _ _, _, e => by simpa [rv] using e
  | .float _ _, _, e => by simpa [rv] using e
  | .complex _ _ _, _, e => by simp [rv] at e
  | .chan _, _, e => by simp [rv] at e
  | .string _, _, e => by simpa [rv] using e
  | .pointer none, _, e => by simpa [rv] using e
  | .pointer (some ⟨_, _, some _⟩), _, e => by simp [rv] at e
  | .pointer (some ⟨b, o, none⟩), V, e => by
    unfold rv at e ⊢
    cases hb : ρ b with
    | none => simp [hb] at e
    | some x => rw [h b x hb]; rw [hb] at e; exact e
  | .slice none _ _, _, e => by simpa [rv] using e
  | .slice (some ⟨_, _, some _⟩) _ _, _, e => by simp [rv] at e
  | .slice (some ⟨b, o, none⟩) n c, V, e => by
    unfold rv at e ⊢
    cases hb : ρ b with
    | none => simp [hb] at e
    | some x => rw [h b x hb]; rw [hb] at e; exact e
  | .map none, _, e => by simpa [rv] using e
  | .map (some b), V, e => by
    unfold rv at e ⊢
    cases hb : ρ b with
    | none => simp [hb] at e
    | some x => rw [h b x hb]; rw [hb] at e; exact e
  | .func (.func f) ⟨x⟩ ⟨y⟩, V, e => by
    unfold rv at e ⊢
    cases hx : rvs ρ x with
    | none => simp [hx] at e
    | some X =>
      cases hy : rvs ρ y with
      | none => simp [hx, hy] at e
      | some Y =>
        rw [rvs_mono h hx, rvs_mono h hy]
        rw [hx, hy] at e
        exact e
  | .func (.method _) _ _, _, e => by simp [rv] at e
  | .func (.methodOf _ _) _ _, _, e => by simp [rv] at e
  | .func (.via _ _ _ _) _ _, _, e => by simp [rv] at e
  | .func (.yield _) _ _, _, e => by simp [rv] at e
  | .nilFunc, _, e => by simpa [rv] using e
  | .iface t v, V, e => by
    unfold rv at e ⊢
    cases hv : rv ρ v with
    | none => simp [hv] at e
    | some x => rw [rv_mono h hv]; rw [hv] at e; exact e
  | .nilIface, _, e => by simpa [rv] using e
  | .agg ⟨x⟩, V, e => by
    unfold rv at e ⊢
    cases hx : rvs ρ x with
    | none => simp [hx] at e
    | some X => rw [rvs_mono h hx]; rw [hx] at e; exact e
  | .tuple ⟨x⟩, V, e => by
    unfold rv at e ⊢
    cases hx : rvs ρ x with
    | none => simp [hx] at e
    | some X => rw [rvs_mono h hx]; rw [hx] at e; exact e
theorem rvs_mono {ρ ρ' : Env} (h : ELe ρ ρ') : ∀ {v V : List Value}, rvs ρ v = some V → rvs ρ' v = some V
  | [], _, e => by simpa [rvs] using e
  | v :: r, V, e => by
    unfold rvs at e ⊢
    cases hv : rv ρ v with
    | none => simp [hv] at e
    | some x =>
      cases hr : rvs ρ r with
      | none => simp [hv, hr] at e
      | some R =>
        rw [rv_mono h hv, rvs_mono h hr]
        rw [hv, hr] at e
        exact e
end
def flat : Value → Bool
  | .bool _ => true
  | .int _ _ => true
  | .float _ _ => true
  | .string _ => true
  | .pointer none => true
  | .slice none _ _ => true
  | .map none => true
  | .nilFunc => true
  | .nilIface => true
  | _ => false
theorem rv_flat {ρ : Env} {v : Value} (h : flat v = true) : rv ρ v = some v := by
  unfold flat at h
  split at h <;> first | simp [rv] | cases h
def flats : List Value → Bool
  | [] => true
  | v :: r => match flat v with
    | true => flats r
    | false => false
theorem rvs_flats {ρ : Env} : ∀ {l : List Value}, flats l = true → rvs ρ l = some l
  | [], _ => by simp [rvs]
  | v :: r, h => by
    unfold flats at h
    split at h
    · rename_i hv
      unfold rvs
      rw [rv_flat hv, rvs_flats h]
    · cases h
def flat2 (v : Value) : Bool := match v with
  | .agg ⟨l⟩ => flats l
  | .tuple ⟨l⟩ => flats l
  | .iface _ v => flat v
  | .func (.func _) ⟨[]⟩ ⟨[]⟩ => true
  | v => flat v
theorem rv_flat2 {ρ : Env} {v : Value} (h : flat2 v = true) : rv ρ v = some v := by
  unfold flat2 at h
  split at h
  · unfold rv; rw [rvs_flats h]
  · unfold rv; rw [rvs_flats h]
  · unfold rv; rw [rv_flat h]
  · simp [rv, rvs]
  · exact rv_flat h
def nth {α : Type} : List α → Nat → Option α
  | [], _ => none
  | x :: r, i => match i with
    | 0 => some x
    | i + 1 => nth r i
theorem nth_eq {α : Type} : ∀ (l : List α) (i : Nat), nth l i = l[i]?
  | [], _ => by simp [nth]
  | x :: r, 0 => by simp [nth]
  | x :: r, i + 1 => by simp [nth, nth_eq r i]
def takeD {α : Type} : Nat → Nat → List α → Option (List α)
  | 0, n, l => takeN n l
  | d + 1, n, l => match l with
    | [] => none
    | _ :: r => takeD d n r
where
  takeN : Nat → List α → Option (List α)
  | 0, _ => some []
  | n + 1, l => match l with
    | [] => none
    | x :: r => match takeN n r with
      | some r' => some (x :: r')
      | none => none
theorem takeN_spec {α : Type} : ∀ {n : Nat} {l xs : List α}, takeD.takeN n l = some xs → xs.length = n ∧ ∀ j, j < n → l[j]? = xs[j]?
  | 0, l, xs, h => by unfold takeD.takeN at h; cases h; simp
  | n + 1, [], xs, h => by unfold takeD.takeN at h; cases h
  | n + 1, x :: r, xs, h => by
    unfold takeD.takeN at h
    simp only at h
    split at h
    · rename_i r' hr
      cases h
      obtain ⟨h1, h2⟩ := takeN_spec hr
      refine ⟨by simp [h1], fun j hj => ?_⟩
      cases j with
      | zero => simp
      | succ j => simpa using h2 j (by omega)
    · cases h
theorem takeD_spec {α : Type} : ∀ {d n : Nat} {l xs : List α}, takeD d n l = some xs → xs.length = n ∧ ∀ j, j < n → l[d + j]? = xs[j]?
  | 0, n, l, xs, h => by unfold takeD at h; simpa using takeN_spec h
  | d + 1, n, [], xs, h => by unfold takeD at h; cases h
  | d + 1, n, x :: r, xs, h => by
    unfold takeD at h
    obtain ⟨h1, h2⟩ := takeD_spec h
    refine ⟨h1, fun j hj => ?_⟩
    have e : d + 1 + j = (d + j) + 1 := by omega
    rw [e]
    simpa using h2 j hj
def layD {α : Type} : Nat → List α → List α → Option (List α)
  | 0, ys, l => layN ys l
  | d + 1, ys, l => match l with
    | [] => none
    | x :: r => match layD d ys r with
      | some r' => some (x :: r')
      | none => none
where
  layN : List α → List α → Option (List α)
  | [], l => some l
  | y :: ys, l => match l with
    | [] => none
    | _ :: r => match layN ys r with
      | some r' => some (y :: r')
      | none => none
theorem layN_spec {α : Type} : ∀ {ys l xs : List α}, layD.layN ys l = some xs → ys.length ≤ l.length ∧ xs = ys ++ l.drop ys.length
  | [], l, xs, h => by unfold layD.layN at h; cases h; simp
  | y :: ys, [], xs, h => by unfold layD.layN at h; cases h
  | y :: ys, x :: r, xs, h => by
    unfold layD.layN at h
    simp only at h
    split at h
    · rename_i r' hr
      cases h
      obtain ⟨h1, h2⟩ := layN_spec hr
      exact ⟨by simpa using h1, by simp [h2]⟩
    · cases h
theorem layD_spec {α : Type} : ∀ {d : Nat} {ys l xs : List α}, layD d ys l = some xs → d + ys.length ≤ l.length ∧ xs = l.take d ++ ys ++ l.drop (d + ys.length)
  | 0, ys, l, xs, h => by unfold layD at h; simpa using layN_spec h
  | d + 1, ys, [], xs, h => by unfold layD at h; cases h
  | d + 1, ys, x :: r, xs, h => by
    unfold layD at h
    simp only at h
    split at h
    · rename_i r' hr
      cases h
      obtain ⟨h1, h2⟩ := layD_spec hr
      have e : d + 1 + ys.length = d + ys.length + 1 := by omega
      refine ⟨by simp; omega, by simp [h2, e]⟩
    · cases h
theorem rvs_length {ρ : Env} : ∀ {l L : List Value}, rvs ρ l = some L → L.length = l.length
  | [], L, h => by simp [rvs] at h; simp [h]
  | v :: r, L, h => by
    unfold rvs at h
    split at h
    · rename_i V R hv hr
      cases h
      simp [rvs_length hr]
    · cases h
theorem rvs_get {ρ : Env} : ∀ {l L : List Value}, rvs ρ l = some L → ∀ (i : Nat) (v : Value), l[i]? = some v → ∃ V, L[i]? = some V ∧ rv ρ v = some V
  | [], L, h, i, v, e => by simp at e
  | u :: r, L, h, i, v, e => by
    unfold rvs at h
    split at h
    · rename_i V R hv hr
      cases h
      cases i with
      | zero => simp at e; subst e; exact ⟨V, by simp, hv⟩
      | succ i => simpa using rvs_get hr i v (by simpa using e)
    · cases h
theorem rvs_of_get {ρ : Env} : ∀ {l L : List Value}, L.length = l.length → (∀ (i : Nat) (v : Value), l[i]? = some v → ∃ V, L[i]? = some V ∧ rv ρ v = some V) → rvs ρ l = some L
  | [], [], _, _ => by simp [rvs]
  | [], _ :: _, h, _ => by simp at h
  | _ :: _, [], h, _ => by simp at h
  | v :: r, V :: R, h, hg => by
    unfold rvs
    obtain ⟨V', h1, h2⟩ := hg 0 v (by simp)
    simp at h1
    subst h1
    have hr : rvs ρ r = some R := rvs_of_get (by simpa using h) fun i u hu => by
      simpa using hg (i + 1) u (by simpa using hu)
    rw [h2, hr]
theorem rvs_append {ρ : Env} : ∀ {l m L M : List Value}, rvs ρ l = some L → rvs ρ m = some M → rvs ρ (l ++ m) = some (L ++ M)
  | [], m, L, M, h, k => by simp [rvs] at h; subst h; simpa using k
  | v :: r, m, L, M, h, k => by
    unfold rvs at h
    split at h
    · rename_i V R hv hr
      cases h
      simp only [List.cons_append]
      unfold rvs
      rw [hv, rvs_append hr k]
    · cases h
theorem rvs_take {ρ : Env} {l L : List Value} (h : rvs ρ l = some L) (n : Nat) : rvs ρ (l.take n) = some (L.take n) :=
  rvs_of_get (by simp [rvs_length h]) fun i v hv => by
    rw [List.getElem?_take] at hv
    split at hv
    · rename_i hi
      obtain ⟨V, h1, h2⟩ := rvs_get h i v hv
      exact ⟨V, by rw [List.getElem?_take, if_pos hi]; exact h1, h2⟩
    · cases hv
theorem rvs_drop {ρ : Env} {l L : List Value} (h : rvs ρ l = some L) (n : Nat) : rvs ρ (l.drop n) = some (L.drop n) :=
  rvs_of_get (by simp [rvs_length h]) fun i v hv => by
    rw [List.getElem?_drop] at hv
    obtain ⟨V, h1, h2⟩ := rvs_get h _ v hv
    exact ⟨V, by rw [List.getElem?_drop]; exact h1, h2⟩
theorem rvs_takeD {ρ : Env} {l L xs : List Value} {d n : Nat} (h : rvs ρ l = some L) (e : takeD d n l = some xs) : ∃ XS, rvs ρ xs = some XS ∧ XS.length = n ∧ ∀ j V, XS[j]? = some V → L[d + j]? = some V := by
  obtain ⟨h1, h2⟩ := takeD_spec e
  have hx : xs = (l.drop d).take n := by
    apply List.ext_getElem?
    intro j
    rw [List.getElem?_take]
    split
    · rename_i hj
      rw [List.getElem?_drop, h2 j hj]
    · rename_i hj
      exact List.getElem?_eq_none (by omega)
  subst hx
  have hr := rvs_take (rvs_drop h d) n
  refine ⟨_, hr, by rw [rvs_length hr, h1], fun j V hV => ?_⟩
  rw [List.getElem?_take] at hV
  split at hV
  · rw [List.getElem?_drop] at hV; exact hV
  · cases hV
theorem rvs_layD {ρ : Env} {l L ys YS xs : List Value} {d : Nat} (h : rvs ρ l = some L) (hy : rvs ρ ys = some YS) (e : layD d ys l = some xs) : d + YS.length ≤ L.length ∧ rvs ρ xs = some (L.take d ++ YS ++ L.drop (d + YS.length)) := by
  obtain ⟨h1, h2⟩ := layD_spec e
  subst h2
  refine ⟨by rw [rvs_length h, rvs_length hy]; exact h1, ?_⟩
  rw [rvs_length hy]
  exact rvs_append (rvs_append (rvs_take h d) hy) (rvs_drop h _)
inductive T (α : Type) where
  | e
  | v (x : α)
  | n (l r : T α)
def tget {α : Type} (d : Nat) : T α → Nat → Option α :=
  Nat.rec (motive := fun _ => T α → Nat → Option α)
    (fun t _ => match t with
      | .v x => some x
      | .e => none
      | .n _ _ => none)
    (fun _ ih t k => match t with
      | .n l r => match Nat.beq (Nat.mod k 2) 0 with
        | true => ih l (Nat.div k 2)
        | false => ih r (Nat.div k 2)
      | .e => none
      | .v _ => none) d
def tset {α : Type} (d : Nat) : T α → Nat → Option α → T α :=
  Nat.rec (motive := fun _ => T α → Nat → Option α → T α)
    (fun _ _ x => match x with
      | some x => .v x
      | none => .e)
    (fun _ ih t k x => match t with
      | .n l r => match Nat.beq (Nat.mod k 2) 0 with
        | true => .n (ih l (Nat.div k 2) x) r
        | false => .n l (ih r (Nat.div k 2) x)
      | .e => match Nat.beq (Nat.mod k 2) 0 with
        | true => .n (ih .e (Nat.div k 2) x) .e
        | false => .n .e (ih .e (Nat.div k 2) x)
      | .v _ => match Nat.beq (Nat.mod k 2) 0 with
        | true => .n (ih .e (Nat.div k 2) x) .e
        | false => .n .e (ih .e (Nat.div k 2) x)) d
theorem tget_succ {α : Type} (d : Nat) (t : T α) (k : Nat) : tget (d + 1) t k = match t with
      | .n l r => match Nat.beq (Nat.mod k 2) 0 with
        | true => tget d l (Nat.div k 2)
        | false => tget d r (Nat.div k 2)
      | .e => none
      | .v _ => none := rfl
theorem tset_succ {α : Type} (d : Nat) (t : T α) (k : Nat) (x : Option α) : tset (d + 1) t k x = match t with
      | .n l r => match Nat.beq (Nat.mod k 2) 0 with
        | true => .n (tset d l (Nat.div k 2) x) r
        | false => .n l (tset d r (Nat.div k 2) x)
      | .e => match Nat.beq (Nat.mod k 2) 0 with
        | true => .n (tset d .e (Nat.div k 2) x) .e
        | false => .n .e (tset d .e (Nat.div k 2) x)
      | .v _ => match Nat.beq (Nat.mod k 2) 0 with
        | true => .n (tset d .e (Nat.div k 2) x) .e
        | false => .n .e (tset d .e (Nat.div k 2) x) := rfl
theorem tget_set_same {α : Type} : ∀ (d : Nat) (t : T α) (k : Nat) (x : Option α), tget d (tset d t k x) k = x
  | 0, t, k, x => by cases x <;> rfl
  | d + 1, t, k, x => by
    rw [tset_succ, tget_succ]
    cases t <;> cases h : Nat.beq (Nat.mod k 2) 0 <;> exact tget_set_same d _ _ x
theorem tget_e {α : Type} : ∀ (d k : Nat), tget d (.e : T α) k = none
  | 0, _ => rfl
  | _ + 1, _ => rfl
theorem tget_set_other {α : Type} : ∀ (d : Nat) (t : T α) (k j : Nat) (x : Option α), k < 2 ^ d → j < 2 ^ d → j ≠ k → tget d (tset d t k x) j = tget d t j
  | 0, t, k, j, x, hk, hj, hne => by simp at hk hj; omega
  | d + 1, t, k, j, x, hk, hj, hne => by
    have hk2 : Nat.div k 2 < 2 ^ d := by show k / 2 < _; rw [Nat.pow_succ] at hk; omega
    have hj2 : Nat.div j 2 < 2 ^ d := by show j / 2 < _; rw [Nat.pow_succ] at hj; omega
    have hb : ∀ n, Nat.beq (Nat.mod n 2) 0 = decide (n % 2 = 0) := fun n => by
      show Nat.beq (n % 2) 0 = _
      by_cases h : n % 2 = 0
      · simp [h]
      · rw [decide_eq_false h]
        cases h' : Nat.beq (n % 2) 0 with
        | false => rfl
        | true => exact absurd (Nat.eq_of_beq_eq_true h') h
    have hm : Nat.beq (Nat.mod k 2) 0 = Nat.beq (Nat.mod j 2) 0 → Nat.div j 2 ≠ Nat.div k 2 := fun h e => by
      have e' : j / 2 = k / 2 := e
      rw [hb, hb] at h
      have : (k % 2 = 0) ↔ (j % 2 = 0) := by simpa using h
      omega
    have ih := fun t (h : Nat.beq (Nat.mod k 2) 0 = Nat.beq (Nat.mod j 2) 0) => tget_set_other d t _ _ x hk2 hj2 (hm h)
    rw [tset_succ, tget_succ, tget_succ]
    cases t with
    | n l r =>
      cases hk0 : Nat.beq (Nat.mod k 2) 0 <;> cases hj0 : Nat.beq (Nat.mod j 2) 0 <;> simp only [] <;> first | rfl | exact ih _ (by rw [hk0, hj0])
    | e =>
      cases hk0 : Nat.beq (Nat.mod k 2) 0 <;> cases hj0 : Nat.beq (Nat.mod j 2) 0 <;> simp only [] <;> first | exact tget_e _ _ | (rw [ih _ (by rw [hk0, hj0])]; exact tget_e _ _)
    | v y =>
      cases hk0 : Nat.beq (Nat.mod k 2) 0 <;> cases hj0 : Nat.beq (Nat.mod j 2) 0 <;> simp only [] <;> first | exact tget_e _ _ | (rw [ih _ (by rw [hk0, hj0])]; exact tget_e _ _)
inductive AObj where
  | cells (cs : List Value) (t : TypeId) (ro : Bool)
  | row (cs : List Value) (t : TypeId) (sz : Nat)
  | map (es : List (Value × Value))
  | tab (cs : List Value)
structure Heap where
  t : T AObj
  mw : Nat
def depth : Nat := 20
def hget (h : Heap) (b : Nat) : Option AObj := match Nat.blt b 1048576 with
  | true => tget depth h.t b
  | false => none
def hset (h : Heap) (b : Nat) (o : Option AObj) : Heap := match h with
  | ⟨t, mw⟩ => ⟨tset depth t b o, bif Nat.blt b mw then b else mw⟩
theorem hget_lt {h : Heap} {b : Nat} {o : AObj} (e : hget h b = some o) : b < 1048576 := by
  unfold hget at e
  split at e
  · rename_i hb; simp [Nat.blt] at hb; omega
  · cases e
theorem hget_set_same {h : Heap} {b : Nat} {o : Option AObj} (hb : b < 1048576) : hget (hset h b o) b = o := by
  have : Nat.blt b 1048576 = true := by simp [Nat.blt]; omega
  simp only [hget, hset, this, tget_set_same]
theorem hget_set_other {h : Heap} {b c : Nat} {o : Option AObj} (hb : b < 1048576) (hc : c ≠ b) : hget (hset h b o) c = hget h c := by
  unfold hget
  split
  · rename_i h'
    have : c < 1048576 := by simp [Nat.blt] at h'; omega
    exact tget_set_other depth h.t b c o (by simpa [depth] using hb) (by simpa [depth] using this) hc
  · rfl
def ents : Nat → List (Value × Value) → List MapEntry
  | _, [] => []
  | i, (k, v) :: r => ⟨k, v, i⟩ :: ents (i + 1) r
def rvp (ρ : Env) : List (Value × Value) → Option (List (Value × Value))
  | [] => some []
  | (k, v) :: r => match rv ρ k, rv ρ v, rvp ρ r with
    | some K, some V, some R => some ((K, V) :: R)
    | _, _, _ => none
theorem rvp_mono {ρ ρ' : Env} (h : ELe ρ ρ') : ∀ {l L : List (Value × Value)}, rvp ρ l = some L → rvp ρ' l = some L
  | [], L, e => by simpa [rvp] using e
  | (k, v) :: r, L, e => by
    unfold rvp at e ⊢
    split at e
    · rename_i K V R hk hv hr
      rw [rv_mono h hk, rv_mono h hv, rvp_mono h hr]
      exact e
    · cases e
def ObjOk (ρ : Env) (C : Nat) : AObj → Option Obj → Prop
  | .cells cs t _, x => ∃ CS, rvs ρ cs = some CS ∧ x = some (.cells CS.toArray t (0, 0))
  | .row cs t sz, x => ∃ CS arr, rvs ρ cs = some CS ∧ x = some (.cells arr t (0, 0)) ∧ arr.size = C * sz ∧ C ≤ maxLen ∧ CS.length ≤ arr.size ∧ arr.toList.take CS.length = CS
  | .map es, x => ∃ ES, rvp ρ es = some ES ∧ x = some (.map (ents 0 ES).toArray ES.length)
  | .tab cs, x => ∃ CS t f, rvs ρ cs = some CS ∧ x = some (.cells CS.toArray t f)
def AObj.ro : AObj → Bool
  | .cells _ _ r => r
  | .tab _ => true
  | _ => false
theorem ObjOk.mono {ρ ρ' : Env} (h : ELe ρ ρ') {C : Nat} {o : AObj} {x : Option Obj} (k : ObjOk ρ C o x) : ObjOk ρ' C o x := by
  cases o with
  | cells cs t r => obtain ⟨CS, h1, h2⟩ := k; exact ⟨CS, rvs_mono h h1, h2⟩
  | row cs t sz => obtain ⟨CS, arr, h1, h2⟩ := k; exact ⟨CS, arr, rvs_mono h h1, h2⟩
  | map es => obtain ⟨ES, h1, h2⟩ := k; exact ⟨ES, rvp_mono h h1, h2⟩
  | tab cs => obtain ⟨CS, t, f, h1, h2⟩ := k; exact ⟨CS, t, f, rvs_mono h h1, h2⟩
def HeapOk (ρ : Env) (h : Heap) (w : World) : Prop := ∀ b o, hget h b = some o → ∃ B C, ρ b = some (B, C, 0) ∧ ObjOk ρ C o w.heap[B]?
structure Rel (w0 : World) (ρ : Env) (h : Heap) (nx : Nat) (w : World) : Prop where
  ok : HeapOk ρ h w
  inj : ∀ b b' o o' B C C', hget h b = some o → hget h b' = some o' → ρ b = some (B, C, 0) → ρ b' = some (B, C', 0) → b = b'
  new : ∀ b, nx ≤ b → ρ b = none
  small : nx ≤ 1048576
  own : ∀ b o, hget h b = some o → o.ro = false → ∀ B C, ρ b = some (B, C, 0) → w0.heap.size ≤ B
  old : ∀ b o, hget h b = some o → o.ro = true → ∀ B C, ρ b = some (B, C, 0) → B < w0.heap.size
  keep : Keep [] w0 w
theorem Rel.lt {w0 : World} {ρ : Env} {h : Heap} {nx : Nat} {w : World} (r : Rel w0 ρ h nx w) {b : Nat} {o : AObj} (e : hget h b = some o) : b < nx := by
  rcases Nat.lt_or_ge b nx with h' | h'
  · exact h'
  · obtain ⟨B, C, hB, _⟩ := r.ok b o e
    rw [r.new b h'] at hB
    cases hB
end Go.Rex
