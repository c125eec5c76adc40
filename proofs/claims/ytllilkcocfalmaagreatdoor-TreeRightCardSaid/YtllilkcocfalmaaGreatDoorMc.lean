/- Classes of nodes by the node itself: the program's and the reference's. Class values: functions that decide classes of nodes. of, either, few, each: class values and rows of children. of and either: class values made of others. each and fits: rows of children. fits: whether children match a row. body, key, args: class values that depend on a node. template and chain. Rows and class values put together. No statement of the seat is proved here. -/
import Derived.Test.YtllilkcocfalmaaGreatDoorMb
import Derived.Test.YtllilkcocfalmaaGreatDoorSt
import Derived.Test.YtllilkcocfalmaaGreatDoorSel
set_option maxRecDepth 20000
namespace Go.Proofs.YtllilkcocfalmaaGreatDoor
open Go.RowKit Go.Vcg
def andI (x y : Int) : Int := IntKind.i64.wrap (BitVec.ofInt 64 x &&& BitVec.ofInt 64 y).toNat
theorem v_andI {P : Program} {μ : Mem} {l : Slots} {L : List Bk} {ds : Option Nat} {ty : TypeId} {pos : String} {af : Array Edge} {gd : Option (Nat × Bool)} {p q : Operand} {t t2 : TypeId} {x y : Int} (hx0 : ev l p = some (.int .i64 x)) (hx1 : ev l q = some (.int .i64 y)) : Val P μ l L ⟨ds, .binOp .and t p q t2, ty, pos, af, gd⟩ (.int .i64 (andI x y)) :=
  fun a w hs => by have e0 := hs.eval hx0; have e1 := hs.eval hx1; generalize a.eval = ρ at e0 e1; simp [execOp, e0, e1, eqGuard, binOp, Op.intBits]; rfl
def hasT (t : T) (m : Int) : Bool := decide (t.op = 4) && decide (andI t.n m ≠ 0)
def simpleT (t : T) : Bool := decide (t.op = 34) || (decide (t.op = 51) || decide (t.op = 52)) && decide (t.n = 0)
def targetT (t : T) : Bool := simpleT t || decide (t.op = 60) || decide (t.op = 61)
def linkT (t : T) : Bool := decide (t.op = 49) || decide (t.op = 51) || decide (t.op = 52)
def stmtT (t : T) : Bool := if t.op = 4 then hasT t 1 else decide (t.op = 2) || decide (t.op = 21) || decide (t.op = 23) || decide (6 ≤ t.op) && decide (t.op ≤ 19)
def exprT (t : T) : Bool := if t.op = 4 then !hasT t 57 else decide (30 ≤ t.op) && decide (t.op ≤ 38) || decide (42 ≤ t.op) && decide (t.op ≤ 54)
def len0 (t : T) (n : Nat) : Bool := match t.kids with | k :: _ => decide (k.kids.length = n) | [] => false
def leftT (t : T) : Bool := targetT t || decide (t.op = 2) && decide (t.kids.length = 1) && len0 t 1
def getT (t : T) : Bool := hasT t 16 && len0 t 0
def set0 (t : T) : Bool := match t.kids with | k :: _ => (match k.kids with | [x] => decide (x.op ≠ 64) | _ => false) | [] => false
def setT (t : T) : Bool := hasT t 32 && set0 t
def methT (t : T) : Bool := hasT t 8
def okAt (i : Nat) (c : UInt8) : Prop := LetP c.toNat ∨ i ≠ 0 ∧ DigP c.toNat
def formP (l : List UInt8) : Prop := l ≠ [] ∧ ∀ (i : Nat) (c : UInt8), l[i]? = some c → okAt i c
noncomputable def formB (s : ByteArray) : Bool := dB (formP (bl s))
noncomputable def namedT (t : T) : Bool := decide (t.op = 31) && formB t.s
theorem formB_t {s : ByteArray} (h : formP (bl s)) : formB s = true := by unfold formB; exact dB_t h
theorem formB_f {s : ByteArray} (h : ¬formP (bl s)) : formB s = false := by unfold formB; exact dB_f h
/-- a function that decides a class of nodes -/
def NodeP (f : FuncId) (p : T → Bool) : Prop := ∀ (t : T) (u : Value) (w : World) (μ : Mem), MOk μ w → KR μ t.kids u → t.size ≤ 100000 → t.s.size ≤ 65536 →
  Calls Tryz.prog f #[.agg (encT t u).toArray] w fun e w' => e = .returned (.bool (p t)) ∧ Below w.heap.size w w'
attribute [local irreducible] andI formB G GC GQ GA GAop Calls IntKind.wrap Int.decLt Int.decLe
theorem tHas_spec (m : Int) : ∀ (t : T) (u : Value) (w : World) (μ : Mem), MOk μ w → KR μ t.kids u → t.size ≤ 100000 →
    Calls Tryz.prog 85 #[.agg (encT t u).toArray, .int .i64 m] w fun e w' => e = .returned (.bool (hasT t m)) ∧ Below w.heap.size w w' := by
  intro t u w μ hμ hk hs
  have ho := hk.one
  refine call_intro (args := [.agg (encT t u).toArray, .int .i64 m]) Tryz.func85 rfl Tryz.ntmps85 (by simp) hμ ?_
  repeat' (first | (refine KO ?_) | ((with_reducible apply g_v); exact rfl; (first | ((with_reducible apply v_andI); exact rfl; exact rfl))) | (refine KI ?_) | (refine NB fun b => ?_) | ((refine KB ?_ ?_ <;> intro hp)) | (refine KG ?_) | fail)
  all_goals (refine ret_s rfl rfl ?_; simp_all [hasT]; try omega)
theorem simple_spec : NodeP 68 simpleT := by
  intro t u w μ hμ hk hs hss
  have ho := hk.one
  refine call_intro (args := [.agg (encT t u).toArray]) Tryz.func68 rfl Tryz.ntmps68 (by simp) hμ ?_
  repeat' (first | (refine KK ?_) | (refine NB fun b => ?_) | ((refine KB ?_ ?_ <;> intro hp)) | (refine KG ?_) | fail)
  all_goals (refine ret_s rfl rfl ?_; simp_all [simpleT]; try omega)
theorem target_spec : NodeP 69 targetT := by
  intro t u w μ hμ hk hs hss
  have ho := hk.one
  refine call_intro (args := [.agg (encT t u).toArray]) Tryz.func69 rfl Tryz.ntmps69 (by simp) hμ ?_
  repeat' (first | (refine KO ?_) | ((with_reducible apply F1 68); exact rfl; exact EN; (exact fun w μc hw hse => simple_spec t u w μc hw (hk.mono hse.le) hs hss)) | (refine KI ?_) | (refine NB fun b => ?_) | ((refine KB ?_ ?_ <;> intro hp)) | (refine KG ?_) | fail)
  all_goals (refine ret_s rfl rfl ?_; simp_all [targetT]; try omega)
theorem link_spec : NodeP 36 linkT := by
  intro t u w μ hμ hk hs hss
  have ho := hk.one
  refine call_intro (args := [.agg (encT t u).toArray]) Tryz.func36 rfl Tryz.ntmps36 (by simp) hμ ?_
  repeat' (first | (refine KK ?_) | (refine NB fun b => ?_) | ((refine KB ?_ ?_ <;> intro hp)) | (refine KG ?_) | fail)
  all_goals (refine ret_s rfl rfl ?_; simp_all [linkT]; try omega)
theorem statement_spec : NodeP 73 stmtT := by
  intro t u w μ hμ hk hs hss
  have ho := hk.one
  refine call_intro (args := [.agg (encT t u).toArray]) Tryz.func73 rfl Tryz.ntmps73 (by simp) hμ ?_
  repeat' (first | (refine KO ?_) | ((with_reducible apply F1 85); exact rfl; exact EN; (exact fun w μc hw hse => tHas_spec 1 t u w μc hw (hk.mono hse.le) hs)) | (refine KI ?_) | (refine NB fun b => ?_) | ((refine KB ?_ ?_ <;> intro hp)) | (refine KG ?_) | fail)
  all_goals (refine ret_s rfl rfl ?_; simp_all [stmtT]; try omega)
theorem expression_spec : NodeP 63 exprT := by
  intro t u w μ hμ hk hs hss
  have ho := hk.one
  refine call_intro (args := [.agg (encT t u).toArray]) Tryz.func63 rfl Tryz.ntmps63 (by simp) hμ ?_
  repeat' (first | (refine KO ?_) | ((with_reducible apply F1 85); exact rfl; exact EN; (exact fun w μc hw hse => tHas_spec 57 t u w μc hw (hk.mono hse.le) hs)) | (refine KI ?_) | (refine NB fun b => ?_) | ((refine KB ?_ ?_ <;> intro hp)) | (refine KG ?_) | fail)
  all_goals (refine ret_s rfl rfl ?_; simp_all [exprT]; try omega)
theorem method_spec : NodeP 97 methT := by
  intro t u w μ hμ hk hs hss
  have ho := hk.one
  refine call_intro (args := [.agg (encT t u).toArray]) Tryz.func97 rfl Tryz.ntmps97 (by simp) hμ ?_
  repeat' (first | (refine KO ?_) | ((with_reducible apply F1 85); exact rfl; exact EN; (exact fun w μc hw hse => tHas_spec 8 t u w μc hw (hk.mono hse.le) hs)) | (refine KI ?_) | (refine NB fun b => ?_) | ((refine KB ?_ ?_ <;> intro hp)) | (refine KG ?_) | fail)
  all_goals (refine ret_s rfl rfl ?_; simp_all [methT]; try omega)
theorem len0_nil {t : T} {n : Nat} (h : t.kids = []) : len0 t n = false := by unfold len0; rw [h]
theorem len0_cons {t k : T} {r : List T} {n : Nat} (h : t.kids = k :: r) : len0 t n = decide (k.kids.length = n) := by unfold len0; rw [h]
theorem getter_spec : NodeP 95 getT := by
  intro t u w μ hμ hk hs hss
  have ho := hk.one
  obtain ⟨A, c, rfl, hlc, hkid⟩ := hk.form
  have hlen := kidsLe t
  refine call_intro (args := [.agg (encT t (.slice A t.kids.length c)).toArray]) Tryz.func95 rfl Tryz.ntmps95 (by simp) hμ ?_
  have hh : ∀ (w : World) (μc : Mem), MOk μc w → MLe μ μc → Calls Tryz.prog 85 #[.agg (encT t (.slice A t.kids.length c)).toArray, .int .i64 16] w fun e w' => e = .returned (.bool (hasT t 16)) ∧ Below w.heap.size w w' := fun w μc hw hle => tHas_spec 16 t _ w μc hw (hk.mono hle) hs
  by_cases h0 : t.kids.length = 0
  · have hg : getT t = false := by
      unfold getT
      rw [len0_nil (List.eq_nil_of_length_eq_zero h0), Bool.and_false]
    rw [hg]
    repeat' (first | (refine KO ?_) | ((with_reducible apply F1 85); exact rfl; exact EN; (exact fun w μc hw hse => hh w μc hw hse.le)) | (refine KI ?_) | (refine NB fun b => ?_) | ((refine KB ?_ ?_ <;> intro hp)) | (refine KG ?_) | fail)
    all_goals (refine ret_s rfl rfl ?_; simp_all)
  · obtain ⟨k, r, hkr⟩ := List.exists_cons_of_ne_nil (l := t.kids) (by intro e; rw [e] at h0; exact h0 rfl)
    obtain ⟨ad, x, rfl, hm, hox, hkx⟩ := hkid 0 k (by rw [hkr]; rfl)
    obtain ⟨A2, c2, rfl, hlc2, -⟩ := hkx.form
    have hsz := T.size_kid (t := t) (i := 0) (k := k) (by rw [hkr]; rfl)
    have hlk := kidsLe k
    have hg : getT t = (hasT t 16 && decide (k.kids.length = 0)) := by
      unfold getT
      rw [len0_cons hkr]
    rw [hg]
    repeat' (first | (refine KO ?_) | ((with_reducible apply F1 85); exact rfl; exact EN; (exact fun w μc hw hse => hh w μc hw hse.le)) | ((with_reducible apply g_v); exact rfl; (first | (exact U1 0) | (exact U4 hm))) | (refine KI ?_) | (refine NB fun b => ?_) | ((refine KB ?_ ?_ <;> intro hp)) | (refine KG ?_) | fail)
    all_goals (refine ret_s rfl rfl ?_; simp_all)
theorem set0_nil {t : T} (h : t.kids = []) : set0 t = false := by unfold set0; rw [h]
theorem set0_ne {t k : T} {r : List T} (h : t.kids = k :: r) (hk : k.kids.length ≠ 1) : set0 t = false := by
  unfold set0
  rw [h]
  match hm : k.kids with
  | [] => simp [hm]
  | [x] => rw [hm] at hk; exact absurd rfl hk
  | _ :: _ :: _ => simp [hm]
theorem set0_one {t k x : T} {r : List T} (h : t.kids = k :: r) (hk : k.kids = [x]) : set0 t = decide (x.op ≠ 64) := by
  unfold set0
  rw [h]
  simp only [hk]
theorem setter_spec : NodeP 96 setT := by
  intro t u w μ hμ hk hs hss
  have ho := hk.one
  obtain ⟨A, c, rfl, hlc, hkid⟩ := hk.form
  have hlen := kidsLe t
  refine call_intro (args := [.agg (encT t (.slice A t.kids.length c)).toArray]) Tryz.func96 rfl Tryz.ntmps96 (by simp) hμ ?_
  have hh : ∀ (w : World) (μc : Mem), MOk μc w → MLe μ μc → Calls Tryz.prog 85 #[.agg (encT t (.slice A t.kids.length c)).toArray, .int .i64 32] w fun e w' => e = .returned (.bool (hasT t 32)) ∧ Below w.heap.size w w' := fun w μc hw hle => tHas_spec 32 t _ w μc hw (hk.mono hle) hs
  by_cases h0 : t.kids.length = 0
  · have hg : setT t = false := by
      unfold setT
      rw [set0_nil (List.eq_nil_of_length_eq_zero h0), Bool.and_false]
    rw [hg]
    repeat' (first | (refine KO ?_) | ((with_reducible apply F1 85); exact rfl; exact EN; (exact fun w μc hw hse => hh w μc hw hse.le)) | (refine KI ?_) | (refine NB fun b => ?_) | ((refine KB ?_ ?_ <;> intro hp)) | (refine KG ?_) | fail)
    all_goals (refine ret_s rfl rfl ?_; simp_all)
  · obtain ⟨k, r, hkr⟩ := List.exists_cons_of_ne_nil (l := t.kids) (by intro e; rw [e] at h0; exact h0 rfl)
    obtain ⟨ad, x, rfl, hm, hox, hkx⟩ := hkid 0 k (by rw [hkr]; rfl)
    obtain ⟨A2, c2, rfl, hlc2, hkid2⟩ := hkx.form
    have hsz := T.size_kid (t := t) (i := 0) (k := k) (by rw [hkr]; rfl)
    have hlk := kidsLe k
    by_cases h1 : k.kids.length = 1
    · obtain ⟨y, hy⟩ := List.length_eq_one_iff.1 h1
      obtain ⟨ad2, x2, rfl, hm2, hox2, hkx2⟩ := hkid2 0 y (by rw [hy]; rfl)
      have hg : setT t = (hasT t 32 && decide (y.op ≠ 64)) := by
        unfold setT
        rw [set0_one hkr hy]
      rw [hg]
      repeat' (first | (refine KO ?_) | ((with_reducible apply F1 85); exact rfl; exact EN; (exact fun w μc hw hse => hh w μc hw hse.le)) | ((with_reducible apply g_v); exact rfl; (first | (exact U1 0) | (exact U4 hm) | (exact U4 hm2))) | (refine KI ?_) | (refine NB fun b => ?_) | ((refine KB ?_ ?_ <;> intro hp)) | (refine KG ?_) | fail)
      all_goals (refine ret_s rfl rfl ?_; simp_all)
    · have hg : setT t = false := by
        unfold setT
        rw [set0_ne hkr h1, Bool.and_false]
      rw [hg]
      repeat' (first | (refine KO ?_) | ((with_reducible apply F1 85); exact rfl; exact EN; (exact fun w μc hw hse => hh w μc hw hse.le)) | ((with_reducible apply g_v); exact rfl; (first | (exact U1 0) | (exact U4 hm))) | (refine KI ?_) | (refine NB fun b => ?_) | ((refine KB ?_ ?_ <;> intro hp)) | (refine KG ?_) | fail)
      all_goals (refine ret_s rfl rfl ?_; simp_all; try omega)
theorem left_spec : NodeP 75 leftT := by
  intro t u w μ hμ hk hs hss
  have ho := hk.one
  obtain ⟨A, c, rfl, hlc, hkid⟩ := hk.form
  have hlen := kidsLe t
  refine call_intro (args := [.agg (encT t (.slice A t.kids.length c)).toArray]) Tryz.func75 rfl Tryz.ntmps75 (by simp) hμ ?_
  have hh : ∀ (w : World) (μc : Mem), MOk μc w → MLe μ μc → Calls Tryz.prog 69 #[.agg (encT t (.slice A t.kids.length c)).toArray] w fun e w' => e = .returned (.bool (targetT t)) ∧ Below w.heap.size w w' := fun w μc hw hle => target_spec t _ w μc hw (hk.mono hle) hs hss
  by_cases h0 : t.kids.length = 1
  · obtain ⟨k, hkr⟩ := List.length_eq_one_iff.1 h0
    obtain ⟨ad, x, rfl, hm, hox, hkx⟩ := hkid 0 k (by rw [hkr]; rfl)
    obtain ⟨A2, c2, rfl, hlc2, -⟩ := hkx.form
    have hsz := T.size_kid (t := t) (i := 0) (k := k) (by rw [hkr]; rfl)
    have hlk := kidsLe k
    have hg : leftT t = (targetT t || decide (t.op = 2) && decide (k.kids.length = 1)) := by
      unfold leftT
      rw [len0_cons hkr, h0]
      simp
    rw [hg]
    repeat' (first | (refine KO ?_) | ((with_reducible apply F1 69); exact rfl; exact EN; (exact fun w μc hw hse => hh w μc hw hse.le)) | ((with_reducible apply g_v); exact rfl; (first | (exact U1 0) | (exact U4 hm))) | (refine KI ?_) | (refine NB fun b => ?_) | ((refine KB ?_ ?_ <;> intro hp)) | (refine KG ?_) | fail)
    all_goals (refine ret_s rfl rfl ?_; simp_all; try omega)
  · have hg : leftT t = targetT t := by
      unfold leftT
      rw [decide_eq_false h0]
      simp
    rw [hg]
    repeat' (first | (refine KO ?_) | ((with_reducible apply F1 69); exact rfl; exact EN; (exact fun w μc hw hse => hh w μc hw hse.le)) | (refine KI ?_) | (refine NB fun b => ?_) | ((refine KB ?_ ?_ <;> intro hp)) | (refine KG ?_) | fail)
    all_goals (refine ret_s rfl rfl ?_; simp_all; try omega)
theorem form_spec (s : ByteArray) (hs : s.size ≤ 65536) (w : World) (μ : Mem) (hμ : MOk μ w) :
    Calls Tryz.prog 46 #[.string s] w fun e w' => e = .returned (.bool (formB s)) ∧ Below w.heap.size w w' := by
  refine call_intro (args := [.string s]) Tryz.func46 rfl Tryz.ntmps46 (by simp) hμ ?_
  repeat' (first | (refine KK ?_) | ((refine KB ?_ ?_ <;> intro hp)) | (refine KG ?_) | fail)
  refine gc_loop (ι := Nat) (fun i => i ≤ s.size ∧ ∀ (j : Nat) (c : UInt8), j < i → (bl s)[j]? = some c → okAt j c) (fun i => s.size - i) (fun _ => μ) (fun i => [(8, .int .i64 i), (7, .int .i64 s.size), (0, .string s)]) (fun _ => []) 0 ⟨Nat.zero_le _, fun j _ h => absurd h (by omega)⟩ (fun a w hs => J6 hs) ?_
  rintro i ⟨hi, hok⟩
  by_cases hlt : i < s.size
  · obtain ⟨c, hc1, hc2⟩ := bl_at (s := s) (i := i) hlt
    have hcl := c.toNat_lt
    have hnext : okAt i c → ∀ (j : Nat) (d : UInt8), j < i + 1 → (bl s)[j]? = some d → okAt j d := fun h j d hj hd => by
      rcases Nat.lt_or_ge j i with h1 | h1
      · exact hok j d h1 hd
      · obtain rfl : j = i := by omega
        rw [hc1] at hd
        cases hd
        exact h
    have hbad : ¬okAt i c → formB s = false := fun h => formB_f fun hf => h (hf.2 i c hc1)
    by_cases hk : okAt i c
    · have hb := hnext hk
      unfold okAt LetP DigP at hk
      repeat' (first | (refine KO ?_) | ((with_reducible apply g_v); exact rfl; (first | (exact U2 i))) | (refine KI ?_) | ((refine KB ?_ ?_ <;> intro hp)) | (refine KG ?_) | fail)
      all_goals first
        | exact J4 (i + 1) ⟨by omega, hb⟩ (by omega)
        | (exfalso; omega)
    · rw [hbad hk]
      unfold okAt LetP DigP at hk
      repeat' (first | (refine KO ?_) | ((with_reducible apply g_v); exact rfl; (first | (exact U2 i))) | (refine KI ?_) | ((refine KB ?_ ?_ <;> intro hp)) | (refine KG ?_) | fail)
      all_goals first
        | exact ret_s rfl rfl rfl
        | (exfalso; omega)
  · obtain rfl : i = s.size := by omega
    have hall : ∀ (j : Nat) (c : UInt8), (bl s)[j]? = some c → okAt j c := fun j c hc => hok j c (by have := (List.getElem?_eq_some_iff.1 hc).1; rw [bl_len] at this; exact this) hc
    have hg : formB s = decide (s ≠ ⟨#[]⟩) := by
      by_cases h : s = ⟨#[]⟩
      · rw [formB_f fun hf => hf.1 (by rw [h]), h]
        simp
      · rw [formB_t ⟨fun e => h (bl_inj e), hall⟩]
        simp [h]
    rw [hg]
    repeat' (first | (refine KK ?_) | ((refine KB ?_ ?_ <;> intro hp)) | (refine KG ?_) | fail)
    exact ret_s rfl rfl rfl
theorem named_spec : NodeP 98 namedT := by
  intro t u w μ hμ hk hs hss
  have ho := hk.one
  refine call_intro (args := [.agg (encT t u).toArray]) Tryz.func98 rfl Tryz.ntmps98 (by simp) hμ ?_
  repeat' (first | (refine KO ?_) | ((with_reducible apply F1 46); exact rfl; exact EN; (exact fun w μc hw hse => form_spec t.s hss w μc hw)) | (refine KI ?_) | (refine NB fun b => ?_) | ((refine KB ?_ ?_ <;> intro hp)) | (refine KG ?_) | fail)
  all_goals (refine ret_s rfl rfl ?_; simp_all [namedT])
end Go.Proofs.YtllilkcocfalmaaGreatDoor
set_option maxRecDepth 20000
namespace Go.Proofs.YtllilkcocfalmaaGreatDoor
open Go.RowKit Go.Vcg
/-- a function value that decides a class of nodes -/
def Cls (μ : Mem) (v : Value) (p : T → Bool) : Prop := ∃ (f : FuncId) (cap : List Value), v = .func (.func f) #[] cap.toArray ∧ callable Tryz.prog f = true ∧ ∀ (t : T) (u : Value) (w : World) (μ' : Mem), MOk μ' w → MLe μ μ' → KR μ' t.kids u → t.size ≤ 100000 → t.s.size ≤ 65536 →
  Calls Tryz.prog f ([Value.agg (encT t u).toArray] ++ cap).toArray w fun e w' => e = .returned (.bool (p t)) ∧ Below w.heap.size w w'
theorem Cls.mono {μ μ' : Mem} {v : Value} {p : T → Bool} (h : Cls μ v p) (hle : MLe μ μ') : Cls μ' v p := by
  obtain ⟨f, cap, h1, h2, h3⟩ := h
  exact ⟨f, cap, h1, h2, fun t u w μ2 hw hl => h3 t u w μ2 hw (hle.trans hl)⟩
theorem Cls.of {f : FuncId} {p : T → Bool} (h : NodeP f p) (hf : callable Tryz.prog f = true) (μ : Mem) : Cls μ (.func (.func f) #[] #[]) p :=
  ⟨f, [], rfl, hf, fun t u w μ' hw _ hk hs hss => h t u w μ' hw hk hs hss⟩
abbrev encIn (x : Int) : List Value := [.int .i64 x]
abbrev encV (v : Value) : List Value := [v]
def firstT (qs : List Bool) : Int := match qs.findIdx? id with | some i => i | none => -1
theorem firstT_at {qs : List Bool} {k : Nat} (h : qs[k]? = some true) (hn : ∀ (j : Nat) (q : Bool), j < k → qs[j]? = some q → q = false) : firstT qs = k := by
  have hlt := (List.getElem?_eq_some_iff.1 h).1
  have : qs.findIdx? id = some k := by
    rw [List.findIdx?_eq_some_iff_getElem]
    refine ⟨hlt, ?_, fun j hj => ?_⟩
    · have := (List.getElem?_eq_some_iff.1 h).2
      simp [this]
    · have := hn j _ hj (List.getElem?_eq_getElem (by omega))
      simp [this]
  unfold firstT
  rw [this]
theorem firstT_none {qs : List Bool} (hn : ∀ (j : Nat) (q : Bool), qs[j]? = some q → q = false) : firstT qs = -1 := by
  have : qs.findIdx? id = none := by
    rw [List.findIdx?_eq_none_iff]
    intro x hx
    obtain ⟨i, hi⟩ := List.mem_iff_getElem?.1 hx
    exact hn i x hi
  unfold firstT
  rw [this]
theorem firstT_any (qs : List Bool) : decide (0 ≤ firstT qs) = qs.any id := by
  unfold firstT
  cases h : qs.findIdx? id with
  | none =>
    rw [List.findIdx?_eq_none_iff] at h
    simp only [show ¬(0 : Int) ≤ -1 by omega, decide_false]
    symm
    rw [List.any_eq_false]
    intro x hx
    simpa using h x hx
  | some i =>
    rw [List.findIdx?_eq_some_iff_getElem] at h
    obtain ⟨h1, h2, -⟩ := h
    have : (0 : Int) ≤ (i : Int) := by omega
    simp only [this, decide_true]
    symm
    rw [List.any_eq_true]
    exact ⟨qs[i], List.getElem_mem h1, h2⟩
theorem any_mem (is : List Int) (x : Int) : (is.map fun y => decide (x = y)).any id = decide (x ∈ is) := by
  induction is with
  | nil => rfl
  | cons y r ih => simp only [List.map_cons, List.any_cons, ih, id_eq, List.mem_cons, Bool.decide_or]
attribute [local irreducible] G GC GQ GA GAop Calls IntKind.wrap Int.decLt Int.decLe
theorem index_spec (x : Int) (is : List Int) (A : Option Addr) (n c : Nat) (w : World) (μ : Mem) (hμ : MOk μ w) (hS : Sl encIn 1 μ A n is) (hn : n ≤ 100000) :
    Calls Tryz.prog 119 #[.slice A n c, .int .i64 x] w fun e w' => e = .returned (.int .i64 (firstT (is.map fun y => decide (x = y)))) ∧ Below w.heap.size w w' := by
  refine call_intro (args := [.slice A n c, .int .i64 x]) Tryz.func119 rfl Tryz.ntmps119 (by simp) hμ ?_
  have hqn : (is.map fun y => decide (x = y)).length = n := by rw [List.length_map]; exact hS.1
  repeat' (first | (refine KK ?_) | ((refine KB ?_ ?_ <;> intro hp)) | (refine KG ?_) | fail)
  refine gc_loop (ι := Nat) (fun k => k ≤ n ∧ ∀ (j : Nat) (q : Bool), j < k → (is.map fun y => decide (x = y))[j]? = some q → q = false) (fun k => n - k) (fun _ => μ) (fun k => [(8, .int .i64 k), (7, .int .i64 n), (6, .slice A n c), (0, .slice A n c), (1, .int .i64 x)]) (fun _ => []) 0 ⟨by omega, fun j _ h => absurd h (by omega)⟩ (fun a w hs => J6 hs) ?_
  rintro k ⟨hk, hf⟩
  by_cases hlt : k < n
  · have hqk : (is.map fun y => decide (x = y))[k]? = some ((is.map fun y => decide (x = y))[k]'(by omega)) := List.getElem?_eq_getElem (by omega)
    generalize (is.map fun y => decide (x = y))[k]'(by omega) = q at hqk
    have hnext : q = false → ∀ (j : Nat) (q : Bool), j < k + 1 → (is.map fun y => decide (x = y))[j]? = some q → q = false := fun h j p hj hp => by
      rcases Nat.lt_or_ge j k with h1 | h1
      · exact hf j p h1 hp
      · obtain rfl : j = k := by omega
        rw [hqk] at hp
        cases hp
        exact h
    obtain ⟨ad, y, rfl, hy, hm⟩ := hS.get hlt
    have hqv : q = decide (x = y) := by
      rw [List.getElem?_map, hy] at hqk
      exact (Option.some.inj hqk).symm
    cases hq : q
    · have hb := hnext hq
      rw [hq] at hqv
      have hne : ¬ x = y := of_decide_eq_false hqv.symm
      repeat' (first | (refine KO ?_) | ((with_reducible apply g_v); exact rfl; (first | (exact U1 k) | (exact U3 (hm.at 0 rfl)))) | (refine KI ?_) | ((refine KB ?_ ?_ <;> intro hp)) | (refine KG ?_) | fail)
      all_goals first | exact J4 (k + 1) ⟨by omega, hb⟩ (by omega) | exact absurd ‹x = y› hne
    · rw [hq] at hqv hqk
      have he : x = y := of_decide_eq_true hqv.symm
      repeat' (first | (refine KO ?_) | ((with_reducible apply g_v); exact rfl; (first | (exact U1 k) | (exact U3 (hm.at 0 rfl)))) | (refine KI ?_) | ((refine KB ?_ ?_ <;> intro hp)) | (refine KG ?_) | fail)
      all_goals first | (refine ret_s rfl rfl ?_; rw [firstT_at hqk hf]) | exact absurd he ‹¬x = y›
  · repeat' (first | (refine KK ?_) | ((refine KB ?_ ?_ <;> intro hp)) | (refine KG ?_) | fail)
    refine ret_s rfl rfl ?_
    rw [firstT_none fun j q hq => hf j q (by have := (List.getElem?_eq_some_iff.1 hq).1; omega) hq]
theorem contains_spec (x : Int) (is : List Int) (A : Option Addr) (n c : Nat) (w : World) (μ : Mem) (hμ : MOk μ w) (hS : Sl encIn 1 μ A n is) (hn : n ≤ 100000) :
    Calls Tryz.prog 93 #[.slice A n c, .int .i64 x] w fun e w' => e = .returned (.bool (decide (x ∈ is))) ∧ Below w.heap.size w w' := by
  refine call_intro (args := [.slice A n c, .int .i64 x]) Tryz.func93 rfl Tryz.ntmps93 (by simp) hμ ?_
  rw [← any_mem, ← firstT_any]
  repeat' (first | (refine KO ?_) | ((with_reducible apply C1); exact rfl; exact EN; exact fun w μc hw hse => index_spec x is A n c w μc hw (hS.mono hse.le) hn) | (refine KI ?_) | ((refine KB ?_ ?_ <;> intro hp)) | (refine KG ?_) | fail)
  exact ret_s rfl rfl rfl
theorem indexN_spec (f : FuncId) (cap : List Value) (q1 : T → Bool) (ks : List T) (A : Option Addr) (n c : Nat) (w : World) (μ : Mem) (hμ : MOk μ w) (hcal : callable Tryz.prog f = true) (hk : KR μ ks (.slice A n c)) (hkn : ks.length = n) (hf1 : ∀ (t : T) (u : Value) (w : World) (μ' : Mem), t ∈ ks → MOk μ' w → MLe μ μ' → KR μ' t.kids u → Calls Tryz.prog f ([Value.agg (encT t u).toArray] ++ cap).toArray w fun e w' => e = .returned (.bool (q1 t)) ∧ Below w.heap.size w w') (hn : n ≤ 100000) :
    Calls Tryz.prog 117 #[.slice A n c, .func (.func f) #[] cap.toArray] w fun e w' => e = .returned (.int .i64 (firstT (ks.map q1))) ∧ Below w.heap.size w w' := by
  refine call_intro (args := [.slice A n c, .func (.func f) #[] cap.toArray]) Tryz.func117 rfl Tryz.ntmps117 (by simp) hμ ?_
  have hget : ∀ (i : Nat) (t : T), ks[i]? = some t → ∃ a u, A = some a ∧ MCells μ (a.add (i * 6)) (encT t u) ∧ u.oneCell' = true ∧ KR μ t.kids u := by
    obtain ⟨A', c', e, _, hg⟩ := hk.form
    cases e
    exact hg
  have hqn : (ks.map q1).length = n := by rw [List.length_map]; exact hkn
  repeat' (first | (refine KK ?_) | ((refine KB ?_ ?_ <;> intro hp)) | (refine KG ?_) | fail)
  refine gc_loop (ι := Nat) (fun k => k ≤ n ∧ ∀ (j : Nat) (q : Bool), j < k → (ks.map q1)[j]? = some q → q = false) (fun k => n - k) (fun _ => μ) (fun k => [(8, .int .i64 k), (7, .int .i64 n), (6, .slice A n c), (0, .slice A n c), (1, .func (.func f) #[] cap.toArray)]) (fun _ => []) 0 ⟨by omega, fun j _ h => absurd h (by omega)⟩ (fun a w hs => J6 hs) ?_
  rintro k ⟨hk, hf⟩
  by_cases hlt : k < n
  · have hqk : (ks.map q1)[k]? = some ((ks.map q1)[k]'(by omega)) := List.getElem?_eq_getElem (by omega)
    generalize (ks.map q1)[k]'(by omega) = q at hqk
    have hnext : q = false → ∀ (j : Nat) (q : Bool), j < k + 1 → (ks.map q1)[j]? = some q → q = false := fun h j p hj hp => by
      rcases Nat.lt_or_ge j k with h1 | h1
      · exact hf j p h1 hp
      · obtain rfl : j = k := by omega
        rw [hqk] at hp
        cases hp
        exact h
    have hkk : ks[k]? = some ks[k] := List.getElem?_eq_getElem (by omega)
    generalize ks[k] = t at hkk
    obtain ⟨ad, x, rfl, hm, ho, hkx⟩ := hget k t hkk
    have hqv : q = q1 t := by
      rw [List.getElem?_map, hkk] at hqk
      exact (Option.some.inj hqk).symm
    have hc := fun (w : World) (μc : Mem) (hw : MOk μc w) (hle : MLe μ μc) => hf1 t x w μc (List.mem_of_getElem? hkk) hw hle (hkx.mono hle)
    rw [← hqv] at hc
    cases hq : q
    · have hb := hnext hq
      rw [hq] at hc
      repeat' (first | (refine KO ?_) | ((with_reducible apply C1); exact rfl; exact EN; exact fun w μc hw hse => hc w μc hw hse.le) | ((with_reducible apply g_v); exact rfl; (first | (exact U1 k) | (exact U4 hm))) | (refine KI ?_) | ((refine KB ?_ ?_ <;> intro hp)) | (refine KG ?_) | fail)
      exact J4 (k + 1) ⟨by omega, hb⟩ (by omega)
    · rw [hq] at hc hqk
      repeat' (first | (refine KO ?_) | ((with_reducible apply C1); exact rfl; exact EN; exact fun w μc hw hse => hc w μc hw hse.le) | ((with_reducible apply g_v); exact rfl; (first | (exact U1 k) | (exact U4 hm))) | (refine KI ?_) | ((refine KB ?_ ?_ <;> intro hp)) | (refine KG ?_) | fail)
      refine ret_s rfl rfl ?_
      rw [firstT_at hqk hf]
  · repeat' (first | (refine KK ?_) | ((refine KB ?_ ?_ <;> intro hp)) | (refine KG ?_) | fail)
    refine ret_s rfl rfl ?_
    rw [firstT_none fun j q hq => hf j q (by have := (List.getElem?_eq_some_iff.1 hq).1; omega) hq]
theorem indexC_spec (f : FuncId) (cap : List Value) (qs : List Bool) (vs : List Value) (A : Option Addr) (n c : Nat) (w : World) (μ : Mem) (hμ : MOk μ w) (hcal : callable Tryz.prog f = true) (hS : Sl encV 1 μ A n vs) (hone : ∀ v ∈ vs, v.oneCell' = true) (hql : qs.length = n) (hf1 : ∀ (i : Nat) (v : Value) (q : Bool) (w : World) (μ' : Mem), vs[i]? = some v → qs[i]? = some q → MOk μ' w → MLe μ μ' → Calls Tryz.prog f ([v] ++ cap).toArray w fun e w' => e = .returned (.bool q) ∧ Below w.heap.size w w') (hn : n ≤ 100000) :
    Calls Tryz.prog 118 #[.slice A n c, .func (.func f) #[] cap.toArray] w fun e w' => e = .returned (.int .i64 (firstT (qs))) ∧ Below w.heap.size w w' := by
  refine call_intro (args := [.slice A n c, .func (.func f) #[] cap.toArray]) Tryz.func118 rfl Tryz.ntmps118 (by simp) hμ ?_
  have hqn : (qs).length = n := by exact hql
  repeat' (first | (refine KK ?_) | ((refine KB ?_ ?_ <;> intro hp)) | (refine KG ?_) | fail)
  refine gc_loop (ι := Nat) (fun k => k ≤ n ∧ ∀ (j : Nat) (q : Bool), j < k → (qs)[j]? = some q → q = false) (fun k => n - k) (fun _ => μ) (fun k => [(8, .int .i64 k), (7, .int .i64 n), (6, .slice A n c), (0, .slice A n c), (1, .func (.func f) #[] cap.toArray)]) (fun _ => []) 0 ⟨by omega, fun j _ h => absurd h (by omega)⟩ (fun a w hs => J6 hs) ?_
  rintro k ⟨hk, hf⟩
  by_cases hlt : k < n
  · have hqk : (qs)[k]? = some ((qs)[k]'(by omega)) := List.getElem?_eq_getElem (by omega)
    generalize (qs)[k]'(by omega) = q at hqk
    have hnext : q = false → ∀ (j : Nat) (q : Bool), j < k + 1 → (qs)[j]? = some q → q = false := fun h j p hj hp => by
      rcases Nat.lt_or_ge j k with h1 | h1
      · exact hf j p h1 hp
      · obtain rfl : j = k := by omega
        rw [hqk] at hp
        cases hp
        exact h
    obtain ⟨ad, v, rfl, hv, hm⟩ := hS.get hlt
    have ho := hone v (List.mem_of_getElem? hv)
    have hc := fun (w : World) (μc : Mem) (hw : MOk μc w) (hle : MLe μ μc) => hf1 k v q w μc hv hqk hw hle
    cases hq : q
    · have hb := hnext hq
      rw [hq] at hc
      repeat' (first | (refine KO ?_) | ((with_reducible apply C1); exact rfl; exact EN; exact fun w μc hw hse => hc w μc hw hse.le) | ((with_reducible apply g_v); exact rfl; (first | (exact U1 k) | (exact U3 (hm.at 0 rfl)))) | (refine KI ?_) | ((refine KB ?_ ?_ <;> intro hp)) | (refine KG ?_) | fail)
      exact J4 (k + 1) ⟨by omega, hb⟩ (by omega)
    · rw [hq] at hc hqk
      repeat' (first | (refine KO ?_) | ((with_reducible apply C1); exact rfl; exact EN; exact fun w μc hw hse => hc w μc hw hse.le) | ((with_reducible apply g_v); exact rfl; (first | (exact U1 k) | (exact U3 (hm.at 0 rfl)))) | (refine KI ?_) | ((refine KB ?_ ?_ <;> intro hp)) | (refine KG ?_) | fail)
      refine ret_s rfl rfl ?_
      rw [firstT_at hqk hf]
  · repeat' (first | (refine KK ?_) | ((refine KB ?_ ?_ <;> intro hp)) | (refine KG ?_) | fail)
    refine ret_s rfl rfl ?_
    rw [firstT_none fun j q hq => hf j q (by have := (List.getElem?_eq_some_iff.1 hq).1; omega) hq]
end Go.Proofs.YtllilkcocfalmaaGreatDoor
set_option maxRecDepth 20000
namespace Go.Proofs.YtllilkcocfalmaaGreatDoor
open Go.RowKit Go.Vcg
theorem sh_cell {b t sz i : Nat} {cs : Slots} {v : Value} {μ : Mem} (h : Bk.sh (.inl ⟨b, t, sz, cs⟩) μ) (hv : lk cs i = some v) : MCell μ ⟨b, i, none⟩ v :=
  let ⟨arr, h1, _, h3⟩ := h
  ⟨arr, t, (0, 0), h1, rfl, h3 i v hv⟩
theorem node_cell {b ty : Nat} {t : T} {u : Value} {cs : Slots} {μ : Mem} (h : Bk.sh (.inl ⟨b, ty, 6, cs⟩) μ) (hc : LC cs 0 6 (encT t u)) : MCells μ ⟨b, 0, none⟩ (encT t u) := by
  have hS := sl_lit (enc := encTV) (sz := 6) (n := 1) (l := [(t, u)]) h rfl (by simp) (by simpa using hc)
  obtain ⟨a, e, ha⟩ := hS.2 (by omega)
  cases e
  exact ha 0 (t, u) rfl
def fewP (p : T → Bool) (a b : Int) (ks : List T) : Bool := decide (a ≤ (ks.length : Int)) && (decide (b < 0) || decide ((ks.length : Int) ≤ b)) && ks.all p
theorem any_not (p : T → Bool) (ks : List T) : (!(ks.any fun t => !p t)) = ks.all p := by
  induction ks with
  | nil => rfl
  | cons k r ih => simp [List.any_cons, List.all_cons, ← ih]
def ofT (is : List Int) (t : T) : Bool := decide (t.op ∈ is)
attribute [local irreducible] G GC GQ GA GAop Calls IntKind.wrap Int.decLt Int.decLe
theorem containsN_spec (f : FuncId) (cap : List Value) (q1 : T → Bool) (ks : List T) (A : Option Addr) (n c : Nat) (w : World) (μ : Mem) (hμ : MOk μ w) (hcal : callable Tryz.prog f = true) (hk : KR μ ks (.slice A n c)) (hkn : ks.length = n) (hf1 : ∀ (t : T) (u : Value) (w : World) (μ' : Mem), t ∈ ks → MOk μ' w → MLe μ μ' → KR μ' t.kids u → Calls Tryz.prog f ([Value.agg (encT t u).toArray] ++ cap).toArray w fun e w' => e = .returned (.bool (q1 t)) ∧ Below w.heap.size w w') (hn : n ≤ 100000) :
    Calls Tryz.prog 87 #[.slice A n c, .func (.func f) #[] cap.toArray] w fun e w' => e = .returned (.bool (ks.any q1)) ∧ Below w.heap.size w w' := by
  refine call_intro (args := [.slice A n c, .func (.func f) #[] cap.toArray]) Tryz.func87 rfl Tryz.ntmps87 (by simp) hμ ?_
  have h : decide (0 ≤ firstT (ks.map q1)) = ks.any q1 := by rw [firstT_any, List.any_map]; rfl
  rw [← h]
  repeat' (first | (refine KO ?_) | ((with_reducible apply C1); exact rfl; exact EN; exact fun w μc hw hse => indexN_spec f cap q1 ks A n c w μc hw hcal (hk.mono hse.le) hkn (fun t u w μ' h1 h2 h3 h4 => hf1 t u w μ' h1 h2 (hse.le.trans h3) h4) hn) | (refine KI ?_) | ((refine KB ?_ ?_ <;> intro hp)) | (refine KG ?_) | fail)
  exact ret_s rfl rfl rfl
theorem containsC_spec (f : FuncId) (cap : List Value) (qs : List Bool) (vs : List Value) (A : Option Addr) (n c : Nat) (w : World) (μ : Mem) (hμ : MOk μ w) (hcal : callable Tryz.prog f = true) (hS : Sl encV 1 μ A n vs) (hone : ∀ v ∈ vs, v.oneCell' = true) (hql : qs.length = n) (hf1 : ∀ (i : Nat) (v : Value) (q : Bool) (w : World) (μ' : Mem), vs[i]? = some v → qs[i]? = some q → MOk μ' w → MLe μ μ' → Calls Tryz.prog f ([v] ++ cap).toArray w fun e w' => e = .returned (.bool q) ∧ Below w.heap.size w w') (hn : n ≤ 100000) :
    Calls Tryz.prog 90 #[.slice A n c, .func (.func f) #[] cap.toArray] w fun e w' => e = .returned (.bool (qs.any id)) ∧ Below w.heap.size w w' := by
  refine call_intro (args := [.slice A n c, .func (.func f) #[] cap.toArray]) Tryz.func90 rfl Tryz.ntmps90 (by simp) hμ ?_
  rw [← firstT_any]
  repeat' (first | (refine KO ?_) | ((with_reducible apply C1); exact rfl; exact EN; exact fun w μc hw hse => indexC_spec f cap qs vs A n c w μc hw hcal (hS.mono hse.le) hone hql (fun i v q w μ' h1 h2 h3 h4 => hf1 i v q w μ' h1 h2 h3 (hse.le.trans h4)) hn) | (refine KI ?_) | ((refine KB ?_ ?_ <;> intro hp)) | (refine KG ?_) | fail)
  exact ret_s rfl rfl rfl
theorem few1_spec (v : Value) (p : T → Bool) (t : T) (u : Value) (bc : Nat) (w : World) (μ : Mem) (hμ : MOk μ w) (hc : Cls μ v p) (hcell : MCell μ ⟨bc, 0, none⟩ v) (hk : KR μ t.kids u) (hs : t.size ≤ 100000) (hss : t.s.size ≤ 65536) :
    Calls Tryz.prog 88 ([Value.agg (encT t u).toArray] ++ [Value.pointer (some ⟨bc, 0, none⟩)]).toArray w fun e w' => e = .returned (.bool (!p t)) ∧ Below w.heap.size w w' := by
  have ho := hk.one
  obtain ⟨f, cap, rfl, hcal, hf⟩ := hc
  refine call_intro (args := [.agg (encT t u).toArray, .pointer (some ⟨bc, 0, none⟩)]) Tryz.func88 rfl Tryz.ntmps88 (by simp) hμ ?_
  repeat' (first | (refine KO ?_) | ((with_reducible apply C1); exact rfl; exact EN; exact fun w μc hw hse => hf t u w μc hw hse.le (hk.mono hse.le) hs hss) | ((with_reducible apply g_v); exact rfl; (first | ((with_reducible apply v_load_sh); exact rfl; exact rfl; exact hcell))) | (refine KI ?_) | (refine NB fun b => ?_) | ((refine KB ?_ ?_ <;> intro hp)) | (refine KG ?_) | fail)
  exact ret_s rfl rfl rfl
theorem few_spec' (p : T → Bool) (v : Value) (x y : Int) (ks : List T) (A : Option Addr) (n c : Nat) (w : World) (μ : Mem) (hμ : MOk μ w) (hc : Cls μ v p) (hk : KR μ ks (.slice A n c)) (hkn : ks.length = n) (hn : n ≤ 100000) (hks : ∀ k ∈ ks, T.size k ≤ 100000 ∧ k.s.size ≤ 65536) :
    Calls Tryz.prog 61 #[.slice A n c, v, .int .i64 x, .int .i64 y] w fun e w' => e = .returned (.bool (fewP p x y ks)) ∧ Below w.heap.size w w' := by
  have hc' := hc
  obtain ⟨f, cap, rfl, hcal, hf⟩ := hc'
  refine call_intro (args := [.slice A n c, .func (.func f) #[] cap.toArray, .int .i64 x, .int .i64 y]) Tryz.func61 rfl Tryz.ntmps61 (by simp) hμ ?_
  repeat' (first | (refine KO ?_) | ((with_reducible apply C1); exact rfl; exact EN; exact fun w μc hw hse => containsN_spec 88 [.pointer (some ⟨b, 0, none⟩)] (fun t => !p t) ks A n c w μc hw (by kernel_rfl) (hk.mono hse.le) hkn (fun t u w μ' h1 h2 h3 h4 => few1_spec _ p t u b w μ' h2 (hc.mono (hse.le.trans h3)) ((sh_cell hse.hd rfl).mono h3) h4 (hks t h1).1 (hks t h1).2) hn) | (refine KI ?_) | (refine NB fun b => ?_) | ((refine KB ?_ ?_ <;> intro hp)) | (refine KG ?_) | fail)
  all_goals (refine ret_s rfl rfl ?_; simp_all [fewP, any_not, ← any_not]; try omega)
end Go.Proofs.YtllilkcocfalmaaGreatDoor
set_option maxRecDepth 20000
namespace Go.Proofs.YtllilkcocfalmaaGreatDoor
open Go.RowKit Go.Vcg
def eiT (ps : List (T → Bool)) (t : T) : Bool := ps.any fun p => p t
/-- function values that decide classes of nodes -/
def Clss (μ : Mem) (vs : List Value) (ps : List (T → Bool)) : Prop := vs.length = ps.length ∧ ∀ (i : Nat) (v : Value) (p : T → Bool), vs[i]? = some v → ps[i]? = some p → Cls μ v p
theorem Clss.mono {μ μ' : Mem} {vs : List Value} {ps : List (T → Bool)} (h : Clss μ vs ps) (hle : MLe μ μ') : Clss μ' vs ps := ⟨h.1, fun i v p hv hp => (h.2 i v p hv hp).mono hle⟩
theorem Clss.nil (μ : Mem) : Clss μ [] [] := ⟨rfl, fun i v p h => by simp at h⟩
theorem Clss.cons {μ : Mem} {v : Value} {p : T → Bool} {vs : List Value} {ps : List (T → Bool)} (h : Cls μ v p) (hr : Clss μ vs ps) : Clss μ (v :: vs) (p :: ps) :=
  ⟨by simp [hr.1], fun i v' p' hv hp => by
    cases i with
    | zero => simp at hv hp; subst hv; subst hp; exact h
    | succ i => exact hr.2 i v' p' (by simpa using hv) (by simpa using hp)⟩
theorem Cls.one {μ : Mem} {v : Value} {p : T → Bool} (h : Cls μ v p) : v.oneCell' = true := by
  obtain ⟨f, cap, rfl, _⟩ := h
  rfl
theorem Clss.one {μ : Mem} {vs : List Value} {ps : List (T → Bool)} (h : Clss μ vs ps) : ∀ v ∈ vs, v.oneCell' = true := fun v hv => by
  obtain ⟨i, hi⟩ := List.mem_iff_getElem?.1 hv
  have hlt := (List.getElem?_eq_some_iff.1 hi).1
  have hlt2 : i < ps.length := by rw [← h.1]; exact hlt
  exact (h.2 i v ps[i] hi (List.getElem?_eq_getElem hlt2)).one
attribute [local irreducible] G GC GQ GA GAop Calls IntKind.wrap Int.decLt Int.decLe
theorem of1_spec (is : List Int) (A : Option Addr) (n c bx : Nat) (t : T) (u : Value) (w : World) (μ : Mem) (hμ : MOk μ w) (hcell : MCell μ ⟨bx, 0, none⟩ (.slice A n c)) (hS : Sl encIn 1 μ A n is) (hn : n ≤ 100000) (hk : KR μ t.kids u) :
    Calls Tryz.prog 92 ([Value.agg (encT t u).toArray] ++ [Value.pointer (some ⟨bx, 0, none⟩)]).toArray w fun e w' => e = .returned (.bool (ofT is t)) ∧ Below w.heap.size w w' := by
  have ho := hk.one
  refine call_intro (args := [.agg (encT t u).toArray, .pointer (some ⟨bx, 0, none⟩)]) Tryz.func92 rfl Tryz.ntmps92 (by simp) hμ ?_
  repeat' (first | (refine KO ?_) | ((with_reducible apply C1); exact rfl; exact EN; exact fun w μc hw hse => contains_spec t.op is A n c w μc hw (hS.mono hse.le) hn) | ((with_reducible apply g_v); exact rfl; (first | ((with_reducible apply v_load_sh); exact rfl; exact rfl; exact hcell))) | (refine KI ?_) | (refine NB fun b => ?_) | ((refine KB ?_ ?_ <;> intro hp)) | (refine KG ?_) | fail)
  exact ret_s rfl rfl rfl
def OfPost (p : T → Bool) (μ : Mem) (v : Value) : Prop := Cls μ v p
theorem of_spec (is : List Int) (A : Option Addr) (n c : Nat) (w : World) (μ : Mem) (hμ : MOk μ w) (hS : Sl encIn 1 μ A n is) (hn : n ≤ 100000) :
    Calls Tryz.prog 64 #[.slice A n c] w fun e w' => ∃ v μ', e = .returned v ∧ Grow w w' μ μ' ∧ OfPost (ofT is) μ' v := by
  refine call_intro (args := [.slice A n c]) Tryz.func64 rfl Tryz.ntmps64 (by simp) hμ ?_
  repeat' (first | (refine KK ?_) | (refine NB fun b => ?_) | ((refine KB ?_ ?_ <;> intro hp)) | (refine KG ?_) | fail)
  exact ret_m1 rfl (rv_tmp rfl) (fun μ' hle' hL => ⟨92, [.pointer (some ⟨b, 0, none⟩)], rfl, by kernel_rfl, fun t u w μ2 hw hl hk hs hss => of1_spec is A n c b t u w μ2 hw ((sh_cell (hL _ (List.mem_cons_self ..)) rfl).mono hl) (hS.mono (hle'.trans hl)) hn hk⟩)
theorem either11_spec (v : Value) (p : T → Bool) (t : T) (u : Value) (bn : Nat) (w : World) (μ : Mem) (hμ : MOk μ w) (hc : Cls μ v p) (hm : MCells μ ⟨bn, 0, none⟩ (encT t u)) (hk : KR μ t.kids u) (hs : t.size ≤ 100000) (hss : t.s.size ≤ 65536) :
    Calls Tryz.prog 91 ([v] ++ [Value.pointer (some ⟨bn, 0, none⟩)]).toArray w fun e w' => e = .returned (.bool (p t)) ∧ Below w.heap.size w w' := by
  have ho := hk.one
  obtain ⟨f, cap, rfl, hcal, hf⟩ := hc
  refine call_intro (args := [.func (.func f) #[] cap.toArray, .pointer (some ⟨bn, 0, none⟩)]) Tryz.func91 rfl Tryz.ntmps91 (by simp) hμ ?_
  repeat' (first | (refine KO ?_) | ((with_reducible apply C1); exact rfl; exact EN; exact fun w μc hw hse => hf t u w μc hw hse.le (hk.mono hse.le) hs hss) | ((with_reducible apply g_v); exact rfl; (first | (exact U4 hm))) | (refine KI ?_) | ((refine KB ?_ ?_ <;> intro hp)) | (refine KG ?_) | fail)
  exact ret_s rfl rfl rfl
theorem either1_spec (vs : List Value) (ps : List (T → Bool)) (A : Option Addr) (n c bx : Nat) (t : T) (u : Value) (w : World) (μ : Mem) (hμ : MOk μ w) (hcell : MCell μ ⟨bx, 0, none⟩ (.slice A n c)) (hS : Sl encV 1 μ A n vs) (hcl : Clss μ vs ps) (hn : n ≤ 100000) (hk : KR μ t.kids u) (hs : t.size ≤ 100000) (hss : t.s.size ≤ 65536) :
    Calls Tryz.prog 89 ([Value.agg (encT t u).toArray] ++ [Value.pointer (some ⟨bx, 0, none⟩)]).toArray w fun e w' => e = .returned (.bool (eiT ps t)) ∧ Below w.heap.size w w' := by
  have ho := hk.one
  have hql : (ps.map fun p => p t).length = n := by rw [List.length_map, ← hcl.1]; exact hS.1
  have h : (ps.map fun p => p t).any id = eiT ps t := by rw [List.any_map]; rfl
  have key : ∀ (bn : Nat) (μc : Mem), MLe μ μc → MCells μc ⟨bn, 0, none⟩ (encT t u) → ∀ (i : Nat) (v : Value) (q : Bool) (w : World) (μ' : Mem), vs[i]? = some v → (ps.map fun p => p t)[i]? = some q → MOk μ' w → MLe μc μ' → Calls Tryz.prog 91 ([v] ++ [Value.pointer (some ⟨bn, 0, none⟩)]).toArray w fun e w' => e = .returned (.bool q) ∧ Below w.heap.size w w' := by
    intro bn μc hle hm i v q w μ' hv hq hw2 hle2
    rw [List.getElem?_map] at hq
    cases hp : ps[i]? with
    | none => rw [hp] at hq; cases hq
    | some p =>
      rw [hp] at hq
      cases hq
      exact either11_spec v p t u bn w μ' hw2 ((hcl.2 i v p hv hp).mono (hle.trans hle2)) (hm.mono hle2) (hk.mono (hle.trans hle2)) hs hss
  refine call_intro (args := [.agg (encT t u).toArray, .pointer (some ⟨bx, 0, none⟩)]) Tryz.func89 rfl Tryz.ntmps89 (by simp) hμ ?_
  rw [← h]
  repeat' (first | (refine KO ?_) | ((with_reducible apply C1); exact rfl; exact EN; exact fun w μc hw hse => containsC_spec 91 [.pointer (some ⟨b, 0, none⟩)] (ps.map fun p => p t) vs A n c w μc hw (by kernel_rfl) (hS.mono hse.le) hcl.one hql (key b μc hse.le (node_cell hse.hd (by repeat first | exact lc_nil | refine lc_cons rfl ?_))) hn) | ((with_reducible apply g_v); exact rfl; (first | ((with_reducible apply v_load_sh); exact rfl; exact rfl; exact hcell))) | (refine KI ?_) | (refine NB fun b => ?_) | ((refine KB ?_ ?_ <;> intro hp)) | (refine KG ?_) | fail)
  exact ret_s rfl rfl rfl
theorem either_spec (vs : List Value) (ps : List (T → Bool)) (A : Option Addr) (n c : Nat) (w : World) (μ : Mem) (hμ : MOk μ w) (hS : Sl encV 1 μ A n vs) (hcl : Clss μ vs ps) (hn : n ≤ 100000) :
    Calls Tryz.prog 62 #[.slice A n c] w fun e w' => ∃ v μ', e = .returned v ∧ Grow w w' μ μ' ∧ OfPost (eiT ps) μ' v := by
  refine call_intro (args := [.slice A n c]) Tryz.func62 rfl Tryz.ntmps62 (by simp) hμ ?_
  repeat' (first | (refine KK ?_) | (refine NB fun b => ?_) | ((refine KB ?_ ?_ <;> intro hp)) | (refine KG ?_) | fail)
  exact ret_m1 rfl (rv_tmp rfl) (fun μ' hle' hL => ⟨89, [.pointer (some ⟨b, 0, none⟩)], rfl, by kernel_rfl, fun t u w μ2 hw hl hk hs hss => either1_spec vs ps A n c b t u w μ2 hw ((sh_cell (hL _ (List.mem_cons_self ..)) rfl).mono hl) (hS.mono (hle'.trans hl)) (hcl.mono (hle'.trans hl)) hn hk hs hss⟩)
end Go.Proofs.YtllilkcocfalmaaGreatDoor
set_option maxRecDepth 20000
namespace Go.Proofs.YtllilkcocfalmaaGreatDoor
open Go.RowKit Go.Vcg
abbrev encP (x : Value × Int) : List Value := [x.1, .int .i64 x.2]
attribute [local irreducible] G GC GQ GA GAop Calls IntKind.wrap Int.decLt Int.decLe
theorem each_spec (vs : List Value) (A : Option Addr) (n c : Nat) (w : World) (μ : Mem) (hμ : MOk μ w) (hS : Sl encV 1 μ A n vs) (hone : ∀ v ∈ vs, ∃ (f : FuncId) (cap : List Value), v = .func (.func f) #[] cap.toArray) (hn : n ≤ 100000) :
    Calls Tryz.prog 67 #[.slice A n c] w (RowPost w 81 2 n (vs.flatMap fun v => encP (v, 0))) := by
  refine call_intro (args := [.slice A n c]) Tryz.func67 rfl Tryz.ntmps67 (by simp) hμ ?_
  repeat' (first | (refine KK ?_) | (refine NB fun b => ?_) | ((refine KB ?_ ?_ <;> intro hp)) | (refine KG ?_) | fail)
  refine gc_loop (ι := Nat × Value) (fun i => i.1 ≤ n) (fun i => n - i.1) (fun _ => μ) (fun i => [(8, .int .i64 i.1), (7, .int .i64 n), (6, .slice A n c), (3, i.2)]) (fun i => [.inr ⟨i.2, 81, 2, i.1, (vs.take i.1).flatMap fun v => encP (v, 0)⟩]) (0, .slice none 0 0) (by simp) (fun a w hs => (hs.nilRow 81 2).sub (by repeat first | exact subS_nil | refine subS_cons rfl ?_) (by repeat first | exact List.Sublist.refl _ | exact List.nil_sublist _ | refine List.Sublist.cons_cons _ ?_ | refine List.Sublist.cons _ ?_)) ?_
  rintro ⟨k, v⟩ hk
  have hk' : k ≤ n := hk
  dsimp only
  by_cases hlt : k < n
  · obtain ⟨ad, x, rfl, hx, hm⟩ := hS.get hlt
    obtain ⟨f, cap, rfl⟩ := hone x (List.mem_of_getElem? hx)
    have hs : ((vs.take (k + 1)).flatMap fun v => encP (v, 0)) = ((vs.take k).flatMap fun v => encP (v, 0)) ++ encP (.func (.func f) #[] cap.toArray, 0) := by
      obtain ⟨hk1, he⟩ := List.getElem?_eq_some_iff.1 hx
      rw [List.take_succ_eq_append_getElem hk1, List.flatMap_append, he]
      simp only [List.flatMap_cons, List.flatMap_nil, List.append_nil]
    repeat' (first | (refine KO ?_) | (first | ((with_reducible apply g_ap); exact rfl; exact rfl; exact rfl; (repeat first | with_reducible exact rowup_hd | with_reducible apply rowup_tl); (iterate 6 exact rfl); (first | ((with_reducible apply src_in); exact rfl; (repeat first | with_reducible exact inb_hd | with_reducible apply inb_tl); exact rfl)); (first | exact rfl | omega | simp); (first | assumption | (exact ones_mem (by (repeat first | with_reducible exact ones_nil | ((with_reducible apply ones_cons); (first | exact rfl | assumption))))) | simp [Value.oneCell']); omega; omega; intro v) | ((with_reducible apply g_append0); (iterate 9 exact rfl); (first | ((with_reducible apply src_in); exact rfl; (repeat first | with_reducible exact inb_hd | with_reducible apply inb_tl); exact rfl)); (first | exact rfl | omega | simp); (first | assumption | (exact ones_mem (by (repeat first | with_reducible exact ones_nil | ((with_reducible apply ones_cons); (first | exact rfl | assumption))))) | simp [Value.oneCell']); omega; omega; intro v)) | ((with_reducible apply g_v); exact rfl; (first | (exact U1 k) | (exact U3 (hm.at 0 rfl)))) | (refine KI ?_) | (refine NB fun b => ?_) | ((refine KB ?_ ?_ <;> intro hp)) | (refine KG ?_) | fail)
    refine gq_back (k + 1, _) (by show k + 1 ≤ n; omega) (by show n - (k + 1) < n - k; omega) rfl (by repeat first | exact subS_nil | refine subS_cons rfl ?_) ?_
    dsimp only
    rw [hs]
    exact (by repeat first | exact List.Sublist.refl _ | exact List.nil_sublist _ | refine List.Sublist.cons _ ?_)
  · repeat' (first | (refine KK ?_) | (refine NB fun b => ?_) | ((refine KB ?_ ?_ <;> intro hp)) | (refine KG ?_) | fail)
    obtain rfl : k = n := by omega
    rw [List.take_of_length_le (by rw [hS.1]; omega)]
    exact ret_row 0 rfl rfl rfl
end Go.Proofs.YtllilkcocfalmaaGreatDoor
set_option maxRecDepth 20000
namespace Go.Proofs.YtllilkcocfalmaaGreatDoor
open Go.RowKit Go.Vcg
theorem KR.drop1 {μ : Mem} {ks : List T} {A : Option Addr} {n c : Nat} (h : KR μ ks (.slice A n c)) (hn : 1 ≤ n) : KR μ (ks.drop 1) (.slice (if c = 1 then A else A.map (·.add (1 * 6))) (n - 1) (c - 1)) := by
  cases h with
  | mk _ A c vs hcap hcell hone hsub =>
    have e : (ks.drop 1).length = ks.length - 1 := by simp
    have h0 : ∀ (i : Nat) (t : T), (ks.drop 1)[i]? = some t → ks[1 + i]? = some t := fun i t hi => by simpa [Nat.add_comm] using hi
    have := KR.mk (μ := μ) (ks.drop 1) (if c = 1 then A else A.map (·.add (1 * 6))) (c - 1) (fun i => vs (1 + i)) (by omega) (fun i t hi => ?_) (fun i t hi => hone _ t (h0 i t hi)) (fun i t hi => hsub _ t (h0 i t hi))
    · rw [e] at this
      exact this
    · obtain ⟨a, e, hc⟩ := hcell _ t (h0 i t hi)
      have : 1 + i < ks.length := (List.getElem?_eq_some_iff.1 (h0 i t hi)).1
      rw [if_neg (by omega), e]
      refine ⟨_, rfl, ?_⟩
      rw [add_add', ← Nat.add_mul]
      exact hc
def eatF (p : T → Bool) (m : Int) : Nat → List T → Nat × List T
  | n, [] => (n, [])
  | n, k :: r => if p k = true ∧ (n = 0 ∨ m = 2) then eatF p m (n + 1) r else (n, k :: r)
def fitP : List ((T → Bool) × Int) → List T → Bool
  | [], l => decide (l.length = 0)
  | (p, m) :: r, l => if (eatF p m 0 l).1 = 0 ∧ m = 0 then false else fitP r (eatF p m 0 l).2
theorem drop_cons' {α : Type} {l : List α} {j : Nat} {t : α} (h : l[j]? = some t) : l.drop j = t :: l.drop (j + 1) := by
  obtain ⟨hlt, e⟩ := List.getElem?_eq_some_iff.1 h
  rw [← e, List.getElem_cons_drop]
attribute [local irreducible] G GC GQ GA GAop Calls IntKind.wrap Int.decLt Int.decLe
theorem fits_spec (parts : List (Value × Int)) (rows : List ((T → Bool) × Int)) (ks : List T) (A B : Option Addr) (n c m d : Nat) (w : World) (μ : Mem) (hμ : MOk μ w) (hk : KR μ ks (.slice A n c)) (hkn : ks.length = n) (hn : n ≤ 100000) (hS : Sl encP 2 μ B m parts) (hm : m ≤ 1000) (hrl : rows.length = m) (hrows : ∀ (i : Nat) (x : Value × Int) (y : (T → Bool) × Int), parts[i]? = some x → rows[i]? = some y → x.2 = y.2 ∧ Cls μ x.1 y.1) (hks : ∀ k ∈ ks, T.size k ≤ 100000 ∧ k.s.size ≤ 65536) :
    Calls Tryz.prog 66 #[.slice A n c, .slice B m d] w fun e w' => e = .returned (.bool (fitP rows ks)) ∧ Below w.heap.size w w' := by
  refine call_intro (args := [.slice A n c, .slice B m d]) Tryz.func66 rfl Tryz.ntmps66 (by simp) hμ ?_
  generalize hR : fitP rows ks = R
  repeat' (first | (refine KK ?_) | (refine NB fun b => ?_) | ((refine KB ?_ ?_ <;> intro hp)) | (refine KG ?_) | fail)
  refine gc_loop (ι := Nat × Nat × Option Addr × Nat) (fun i => i.1 ≤ m ∧ i.2.1 ≤ n ∧ KR μ (ks.drop i.2.1) (.slice i.2.2.1 (n - i.2.1) i.2.2.2) ∧ fitP (rows.drop i.1) (ks.drop i.2.1) = R) (fun i => m - i.1) (fun _ => μ) (fun i => [(10, .int .i64 i.1), (9, .int .i64 m), (8, .slice B m d), (0, .slice i.2.2.1 (n - i.2.1) i.2.2.2)]) (fun _ => []) (0, 0, A, c) ⟨by simp, by simp, by simpa using hk, by simpa using hR⟩ (fun a w hs => J6 hs) ?_
  rintro ⟨i, j, Aj, cj⟩ ⟨hi, hj, hkj, hRj⟩
  dsimp only at hi hj hkj hRj ⊢
  by_cases hlt : i < m
  · obtain ⟨ad, ⟨v, mm⟩, rfl, hx, hmx⟩ := hS.get hlt
    have hy : rows[i]? = some rows[i] := List.getElem?_eq_getElem (by omega)
    generalize rows[i] = y at hy
    obtain ⟨p, mm'⟩ := y
    obtain ⟨he, hcls⟩ := hrows i _ _ hx hy
    dsimp only at he hcls
    subst he
    obtain ⟨f, cap, rfl, hcal, hf⟩ := hcls
    rw [drop_cons' hy] at hRj
    repeat' (first | (refine KO ?_) | ((with_reducible apply g_v); exact rfl; (first | (exact U1 i) | (exact U4 hmx))) | (refine KI ?_) | (refine NB fun b => ?_) | ((refine KB ?_ ?_ <;> intro hp)) | (refine KG ?_) | fail)
    refine gc_loop (ι := Nat × Nat × Option Addr × Nat) (fun q => q.1 ≤ q.2.1 ∧ q.2.1 ≤ n ∧ KR μ (ks.drop q.2.1) (.slice q.2.2.1 (n - q.2.1) q.2.2.2) ∧ eatF p mm q.1 (ks.drop q.2.1) = eatF p mm 0 (ks.drop j)) (fun q => n - q.2.1) (fun _ => μ) (fun q => [(7, .int .i64 q.1), (6, .pointer (some ⟨b, 0, none⟩)), (10, .int .i64 i), (9, .int .i64 m), (8, .slice (some ad) m d), (0, .slice q.2.2.1 (n - q.2.1) q.2.2.2)]) (fun _ => [.inl ⟨b, 81, 2, idx 0 [.func (.func f) #[] cap.toArray, .int .i64 mm]⟩]) (0, j, Aj, cj) ⟨Nat.zero_le _, hj, hkj, rfl⟩ (fun a w hs => J5 hs) ?_
    rintro ⟨cnt, j2, A2, c2⟩ ⟨hcj, hj2, hk2, he2⟩
    dsimp only at hcj hj2 hk2 he2 ⊢
    have hend : ∀ l, eatF p mm cnt (ks.drop j2) = (cnt, l) → l = ks.drop j2 → (if cnt = 0 ∧ mm = 0 then false else fitP (rows.drop (i + 1)) (ks.drop j2)) = R := fun l h hl => by
      rw [fitP, ← he2, h, hl] at hRj
      exact hRj
    by_cases hlt2 : j2 < n
    · have hkk : ks[j2]? = some ks[j2] := List.getElem?_eq_getElem (by omega)
      generalize ks[j2] = t at hkk
      have hdt := drop_cons' hkk
      have hkt := hk2.drop1 (by omega)
      rw [List.drop_drop] at hkt
      obtain ⟨A', c', e, hlc, hget⟩ := hk2.form
      have hkl : (ks.drop j2).length = n - j2 := by rw [List.length_drop, hkn]
      rw [hkl] at e hlc
      cases e
      obtain ⟨ad2, x, rfl, hm2, ho2, hkx⟩ := hget 0 t (by rw [hdt]; rfl)
      have hts := hks t (List.mem_of_getElem? hkk)
      have hcall := fun (w : World) (μc : Mem) (hw : MOk μc w) (hle : MLe μ μc) => hf t x w μc hw hle (hkx.mono hle) hts.1 hts.2
      by_cases hp1 : p t = true ∧ (cnt = 0 ∨ mm = 2)
      · have hE : eatF p mm (cnt + 1) (ks.drop (j2 + 1)) = eatF p mm 0 (ks.drop j) := by
          rw [← he2, hdt, eatF, if_pos hp1]
        rw [hp1.1] at hcall
        have hp2 := hp1.2
        repeat' (first | (refine KK ?_) | (refine NB fun b => ?_) | ((refine KB ?_ ?_ <;> intro hp)) | (refine KG ?_) | fail)
        refine gc_draw 20 _ (by kernel_rfl) rfl (List.Sublist.cons_cons _ (List.nil_sublist _)) ?_
        all_goals refine DD 0 ?_
        all_goals (first | (refine D1 1 ?_) | ((with_reducible apply ga_v 1); exact rfl; kernel_rfl; (exact fun _ _ _ h => h); (first | (exact U1 0) | (exact U4 hm2))) | (refine DD 1 ?_) | fail)
        all_goals (first | (refine D1 2 ?_) | ((with_reducible apply ga_v 2); exact rfl; kernel_rfl; (exact fun _ _ _ h => h); (first | (exact U1 0) | (exact U4 hm2))) | (refine DD 2 ?_) | fail)
        all_goals refine DD 3 ?_
        all_goals (try (refine D7 4 ?_; (repeat' (first | refine KO ?_ | (refine KB ?_ ?_ <;> intro hp)))))
        all_goals (first | (refine D1 4 ?_) | ((with_reducible apply ga_v 4); exact rfl; kernel_rfl; (exact fun _ _ _ h => h); (first | (exact U1 0) | (exact U4 hm2))) | (refine DD 4 ?_) | fail)
        all_goals (first | (refine D1 5 ?_) | ((with_reducible apply ga_v 5); exact rfl; kernel_rfl; (exact fun _ _ _ h => h); (first | (exact U1 0) | (exact U4 hm2))) | ((with_reducible apply ga_all1 5); kernel_rfl; (with_reducible apply gaop_val); exact rfl; exact rfl; exact rfl; exact rfl; (first | (exact U1 0) | (exact U4 hm2))) | (refine DD 5 ?_) | fail)
        all_goals refine DD 6 ?_
        all_goals (first | (refine D1 7 ?_) | ((with_reducible apply ga_v 7); exact rfl; kernel_rfl; (exact fun _ _ _ h => h); (first | (exact U1 0) | (exact U4 hm2))) | (refine DD 7 ?_) | fail)
        all_goals (first | (refine D1 8 ?_) | ((with_reducible apply ga_v 8); exact rfl; kernel_rfl; (exact fun _ _ _ h => h); (first | (exact U1 0) | (exact U4 hm2))) | ((with_reducible apply ga_all1 8); kernel_rfl; (with_reducible apply gaop_val); exact rfl; exact rfl; exact rfl; exact rfl; (first | (exact U1 0) | (exact U4 hm2))) | (refine DD 8 ?_) | fail)
        all_goals (first | (refine D3 9 ?_; refine D5 ?_; (with_reducible apply C1); exact rfl; exact EN; exact fun w μc hw hse => hcall w μc hw hse.le; refine D9 ?_) | (refine D3 9 (D6 ?_)))
        all_goals refine DD 10 ?_
        all_goals refine DD 11 ?_
        all_goals (try (refine D7 12 ?_; (repeat' (first | refine KO ?_ | (refine KB ?_ ?_ <;> intro hp)))))
        all_goals refine DD 12 ?_
        all_goals (first | (refine D1 13 ?_) | ((with_reducible apply ga_v 13); exact rfl; kernel_rfl; (exact fun _ _ _ h => h); (first | (exact U1 0) | (exact U4 hm2))) | (refine DD 13 ?_) | fail)
        all_goals refine DD 14 ?_
        all_goals (try (refine D7 15 ?_; (repeat' (first | refine KO ?_ | (refine KB ?_ ?_ <;> intro hp)))))
        all_goals (first | (refine D1 15 ?_) | ((with_reducible apply ga_v 15); exact rfl; kernel_rfl; (exact fun _ _ _ h => h); (first | (exact U1 0) | (exact U4 hm2))) | (refine DD 15 ?_) | fail)
        all_goals (first | (refine D1 16 ?_) | ((with_reducible apply ga_v 16); exact rfl; kernel_rfl; (exact fun _ _ _ h => h); (first | (exact U1 0) | (exact U4 hm2))) | ((with_reducible apply ga_all1 16); kernel_rfl; (with_reducible apply gaop_val); exact rfl; exact rfl; exact rfl; exact rfl; (first | (exact U1 0) | (exact U4 hm2))) | (refine DD 16 ?_) | fail)
        all_goals (first | (refine D1 17 ?_) | ((with_reducible apply ga_v 17); exact rfl; kernel_rfl; (exact fun _ _ _ h => h); (first | (exact U1 0) | (exact U4 hm2))) | (refine DD 17 ?_) | fail)
        all_goals refine DD 18 ?_
        all_goals refine DD 19 ?_
        all_goals refine D8 ?_
        all_goals
          repeat' (first | (refine KO ?_) | ((with_reducible apply g_v); exact rfl; (first | ((with_reducible apply v_slice_lo 1); exact rfl; exact rfl; exact rfl; exact rfl; exact rfl; omega))) | (refine KI ?_) | (refine NB fun b => ?_) | ((refine KB ?_ ?_ <;> intro hp)) | (refine KG ?_) | fail)
        all_goals first
          | exact J2 (cnt + 1, j2 + 1, _, _) ⟨by show cnt + 1 ≤ j2 + 1; omega, by show j2 + 1 ≤ n; omega, hkt, hE⟩ (by show n - (j2 + 1) < n - j2; omega)
          | (exfalso; omega)
      · have hE := hend _ (by rw [hdt, eatF, if_neg hp1]) hdt.symm
        cases hpt : p t
        · rw [hpt] at hcall
          by_cases hz : cnt = 0 ∧ mm = 0
          · rw [if_pos hz] at hE
            repeat' (first | (refine KK ?_) | (refine NB fun b => ?_) | ((refine KB ?_ ?_ <;> intro hp)) | (refine KG ?_) | fail)
            refine gc_draw 20 _ (by kernel_rfl) rfl (List.Sublist.cons_cons _ (List.nil_sublist _)) ?_
            all_goals refine DD 0 ?_
            all_goals (first | (refine D1 1 ?_) | ((with_reducible apply ga_v 1); exact rfl; kernel_rfl; (exact fun _ _ _ h => h); (first | (exact U1 0) | (exact U4 hm2))) | (refine DD 1 ?_) | fail)
            all_goals (first | (refine D1 2 ?_) | ((with_reducible apply ga_v 2); exact rfl; kernel_rfl; (exact fun _ _ _ h => h); (first | (exact U1 0) | (exact U4 hm2))) | (refine DD 2 ?_) | fail)
            all_goals refine DD 3 ?_
            all_goals (try (refine D7 4 ?_; (repeat' (first | refine KO ?_ | (refine KB ?_ ?_ <;> intro hp)))))
            all_goals (first | (refine D1 4 ?_) | ((with_reducible apply ga_v 4); exact rfl; kernel_rfl; (exact fun _ _ _ h => h); (first | (exact U1 0) | (exact U4 hm2))) | (refine DD 4 ?_) | fail)
            all_goals (first | (refine D1 5 ?_) | ((with_reducible apply ga_v 5); exact rfl; kernel_rfl; (exact fun _ _ _ h => h); (first | (exact U1 0) | (exact U4 hm2))) | ((with_reducible apply ga_all1 5); kernel_rfl; (with_reducible apply gaop_val); exact rfl; exact rfl; exact rfl; exact rfl; (first | (exact U1 0) | (exact U4 hm2))) | (refine DD 5 ?_) | fail)
            all_goals refine DD 6 ?_
            all_goals (first | (refine D1 7 ?_) | ((with_reducible apply ga_v 7); exact rfl; kernel_rfl; (exact fun _ _ _ h => h); (first | (exact U1 0) | (exact U4 hm2))) | (refine DD 7 ?_) | fail)
            all_goals (first | (refine D1 8 ?_) | ((with_reducible apply ga_v 8); exact rfl; kernel_rfl; (exact fun _ _ _ h => h); (first | (exact U1 0) | (exact U4 hm2))) | ((with_reducible apply ga_all1 8); kernel_rfl; (with_reducible apply gaop_val); exact rfl; exact rfl; exact rfl; exact rfl; (first | (exact U1 0) | (exact U4 hm2))) | (refine DD 8 ?_) | fail)
            all_goals (first | (refine D3 9 ?_; refine D5 ?_; (with_reducible apply C1); exact rfl; exact EN; exact fun w μc hw hse => hcall w μc hw hse.le; refine D9 ?_) | (refine D3 9 (D6 ?_)))
            all_goals refine DD 10 ?_
            all_goals refine DD 11 ?_
            all_goals (try (refine D7 12 ?_; (repeat' (first | refine KO ?_ | (refine KB ?_ ?_ <;> intro hp)))))
            all_goals refine DD 12 ?_
            all_goals (first | (refine D1 13 ?_) | ((with_reducible apply ga_v 13); exact rfl; kernel_rfl; (exact fun _ _ _ h => h); (first | (exact U1 0) | (exact U4 hm2))) | (refine DD 13 ?_) | fail)
            all_goals refine DD 14 ?_
            all_goals (try (refine D7 15 ?_; (repeat' (first | refine KO ?_ | (refine KB ?_ ?_ <;> intro hp)))))
            all_goals (first | (refine D1 15 ?_) | ((with_reducible apply ga_v 15); exact rfl; kernel_rfl; (exact fun _ _ _ h => h); (first | (exact U1 0) | (exact U4 hm2))) | (refine DD 15 ?_) | fail)
            all_goals (first | (refine D1 16 ?_) | ((with_reducible apply ga_v 16); exact rfl; kernel_rfl; (exact fun _ _ _ h => h); (first | (exact U1 0) | (exact U4 hm2))) | ((with_reducible apply ga_all1 16); kernel_rfl; (with_reducible apply gaop_val); exact rfl; exact rfl; exact rfl; exact rfl; (first | (exact U1 0) | (exact U4 hm2))) | (refine DD 16 ?_) | fail)
            all_goals (first | (refine D1 17 ?_) | ((with_reducible apply ga_v 17); exact rfl; kernel_rfl; (exact fun _ _ _ h => h); (first | (exact U1 0) | (exact U4 hm2))) | (refine DD 17 ?_) | fail)
            all_goals refine DD 18 ?_
            all_goals refine DD 19 ?_
            all_goals refine D8 ?_
            all_goals
              repeat' (first | (refine KK ?_) | (refine NB fun b => ?_) | ((refine KB ?_ ?_ <;> intro hp)) | (refine KG ?_) | fail)
            all_goals first
              | exact ret_s rfl rfl (congrArg _ hE)
              | (exfalso; omega)
          · rw [if_neg hz] at hE
            repeat' (first | (refine KK ?_) | (refine NB fun b => ?_) | ((refine KB ?_ ?_ <;> intro hp)) | (refine KG ?_) | fail)
            refine gc_draw 20 _ (by kernel_rfl) rfl (List.Sublist.cons_cons _ (List.nil_sublist _)) ?_
            all_goals refine DD 0 ?_
            all_goals (first | (refine D1 1 ?_) | ((with_reducible apply ga_v 1); exact rfl; kernel_rfl; (exact fun _ _ _ h => h); (first | (exact U1 0) | (exact U4 hm2))) | (refine DD 1 ?_) | fail)
            all_goals (first | (refine D1 2 ?_) | ((with_reducible apply ga_v 2); exact rfl; kernel_rfl; (exact fun _ _ _ h => h); (first | (exact U1 0) | (exact U4 hm2))) | (refine DD 2 ?_) | fail)
            all_goals refine DD 3 ?_
            all_goals (try (refine D7 4 ?_; (repeat' (first | refine KO ?_ | (refine KB ?_ ?_ <;> intro hp)))))
            all_goals (first | (refine D1 4 ?_) | ((with_reducible apply ga_v 4); exact rfl; kernel_rfl; (exact fun _ _ _ h => h); (first | (exact U1 0) | (exact U4 hm2))) | (refine DD 4 ?_) | fail)
            all_goals (first | (refine D1 5 ?_) | ((with_reducible apply ga_v 5); exact rfl; kernel_rfl; (exact fun _ _ _ h => h); (first | (exact U1 0) | (exact U4 hm2))) | ((with_reducible apply ga_all1 5); kernel_rfl; (with_reducible apply gaop_val); exact rfl; exact rfl; exact rfl; exact rfl; (first | (exact U1 0) | (exact U4 hm2))) | (refine DD 5 ?_) | fail)
            all_goals refine DD 6 ?_
            all_goals (first | (refine D1 7 ?_) | ((with_reducible apply ga_v 7); exact rfl; kernel_rfl; (exact fun _ _ _ h => h); (first | (exact U1 0) | (exact U4 hm2))) | (refine DD 7 ?_) | fail)
            all_goals (first | (refine D1 8 ?_) | ((with_reducible apply ga_v 8); exact rfl; kernel_rfl; (exact fun _ _ _ h => h); (first | (exact U1 0) | (exact U4 hm2))) | ((with_reducible apply ga_all1 8); kernel_rfl; (with_reducible apply gaop_val); exact rfl; exact rfl; exact rfl; exact rfl; (first | (exact U1 0) | (exact U4 hm2))) | (refine DD 8 ?_) | fail)
            all_goals (first | (refine D3 9 ?_; refine D5 ?_; (with_reducible apply C1); exact rfl; exact EN; exact fun w μc hw hse => hcall w μc hw hse.le; refine D9 ?_) | (refine D3 9 (D6 ?_)))
            all_goals refine DD 10 ?_
            all_goals refine DD 11 ?_
            all_goals (try (refine D7 12 ?_; (repeat' (first | refine KO ?_ | (refine KB ?_ ?_ <;> intro hp)))))
            all_goals refine DD 12 ?_
            all_goals (first | (refine D1 13 ?_) | ((with_reducible apply ga_v 13); exact rfl; kernel_rfl; (exact fun _ _ _ h => h); (first | (exact U1 0) | (exact U4 hm2))) | (refine DD 13 ?_) | fail)
            all_goals refine DD 14 ?_
            all_goals (try (refine D7 15 ?_; (repeat' (first | refine KO ?_ | (refine KB ?_ ?_ <;> intro hp)))))
            all_goals (first | (refine D1 15 ?_) | ((with_reducible apply ga_v 15); exact rfl; kernel_rfl; (exact fun _ _ _ h => h); (first | (exact U1 0) | (exact U4 hm2))) | (refine DD 15 ?_) | fail)
            all_goals (first | (refine D1 16 ?_) | ((with_reducible apply ga_v 16); exact rfl; kernel_rfl; (exact fun _ _ _ h => h); (first | (exact U1 0) | (exact U4 hm2))) | ((with_reducible apply ga_all1 16); kernel_rfl; (with_reducible apply gaop_val); exact rfl; exact rfl; exact rfl; exact rfl; (first | (exact U1 0) | (exact U4 hm2))) | (refine DD 16 ?_) | fail)
            all_goals (first | (refine D1 17 ?_) | ((with_reducible apply ga_v 17); exact rfl; kernel_rfl; (exact fun _ _ _ h => h); (first | (exact U1 0) | (exact U4 hm2))) | (refine DD 17 ?_) | fail)
            all_goals refine DD 18 ?_
            all_goals refine DD 19 ?_
            all_goals refine D8 ?_
            all_goals
              repeat' (first | (refine KK ?_) | (refine NB fun b => ?_) | ((refine KB ?_ ?_ <;> intro hp)) | (refine KG ?_) | fail)
            all_goals first
              | exact J2 (i + 1, j2, _, _) ⟨by show i + 1 ≤ m; omega, hj2, hk2, hE⟩ (by show m - (i + 1) < m - i; omega)
              | (exfalso; omega)
        · rw [hpt] at hcall
          have hp2 : ¬(cnt = 0 ∨ mm = 2) := fun h => hp1 ⟨hpt, h⟩
          by_cases hz : cnt = 0 ∧ mm = 0
          · rw [if_pos hz] at hE
            repeat' (first | (refine KK ?_) | (refine NB fun b => ?_) | ((refine KB ?_ ?_ <;> intro hp)) | (refine KG ?_) | fail)
            refine gc_draw 20 _ (by kernel_rfl) rfl (List.Sublist.cons_cons _ (List.nil_sublist _)) ?_
            all_goals refine DD 0 ?_
            all_goals (first | (refine D1 1 ?_) | ((with_reducible apply ga_v 1); exact rfl; kernel_rfl; (exact fun _ _ _ h => h); (first | (exact U1 0) | (exact U4 hm2))) | (refine DD 1 ?_) | fail)
            all_goals (first | (refine D1 2 ?_) | ((with_reducible apply ga_v 2); exact rfl; kernel_rfl; (exact fun _ _ _ h => h); (first | (exact U1 0) | (exact U4 hm2))) | (refine DD 2 ?_) | fail)
            all_goals refine DD 3 ?_
            all_goals (try (refine D7 4 ?_; (repeat' (first | refine KO ?_ | (refine KB ?_ ?_ <;> intro hp)))))
            all_goals (first | (refine D1 4 ?_) | ((with_reducible apply ga_v 4); exact rfl; kernel_rfl; (exact fun _ _ _ h => h); (first | (exact U1 0) | (exact U4 hm2))) | (refine DD 4 ?_) | fail)
            all_goals (first | (refine D1 5 ?_) | ((with_reducible apply ga_v 5); exact rfl; kernel_rfl; (exact fun _ _ _ h => h); (first | (exact U1 0) | (exact U4 hm2))) | ((with_reducible apply ga_all1 5); kernel_rfl; (with_reducible apply gaop_val); exact rfl; exact rfl; exact rfl; exact rfl; (first | (exact U1 0) | (exact U4 hm2))) | (refine DD 5 ?_) | fail)
            all_goals refine DD 6 ?_
            all_goals (first | (refine D1 7 ?_) | ((with_reducible apply ga_v 7); exact rfl; kernel_rfl; (exact fun _ _ _ h => h); (first | (exact U1 0) | (exact U4 hm2))) | (refine DD 7 ?_) | fail)
            all_goals (first | (refine D1 8 ?_) | ((with_reducible apply ga_v 8); exact rfl; kernel_rfl; (exact fun _ _ _ h => h); (first | (exact U1 0) | (exact U4 hm2))) | ((with_reducible apply ga_all1 8); kernel_rfl; (with_reducible apply gaop_val); exact rfl; exact rfl; exact rfl; exact rfl; (first | (exact U1 0) | (exact U4 hm2))) | (refine DD 8 ?_) | fail)
            all_goals (first | (refine D3 9 ?_; refine D5 ?_; (with_reducible apply C1); exact rfl; exact EN; exact fun w μc hw hse => hcall w μc hw hse.le; refine D9 ?_) | (refine D3 9 (D6 ?_)))
            all_goals refine DD 10 ?_
            all_goals refine DD 11 ?_
            all_goals (try (refine D7 12 ?_; (repeat' (first | refine KO ?_ | (refine KB ?_ ?_ <;> intro hp)))))
            all_goals refine DD 12 ?_
            all_goals (first | (refine D1 13 ?_) | ((with_reducible apply ga_v 13); exact rfl; kernel_rfl; (exact fun _ _ _ h => h); (first | (exact U1 0) | (exact U4 hm2))) | (refine DD 13 ?_) | fail)
            all_goals refine DD 14 ?_
            all_goals (try (refine D7 15 ?_; (repeat' (first | refine KO ?_ | (refine KB ?_ ?_ <;> intro hp)))))
            all_goals (first | (refine D1 15 ?_) | ((with_reducible apply ga_v 15); exact rfl; kernel_rfl; (exact fun _ _ _ h => h); (first | (exact U1 0) | (exact U4 hm2))) | (refine DD 15 ?_) | fail)
            all_goals (first | (refine D1 16 ?_) | ((with_reducible apply ga_v 16); exact rfl; kernel_rfl; (exact fun _ _ _ h => h); (first | (exact U1 0) | (exact U4 hm2))) | ((with_reducible apply ga_all1 16); kernel_rfl; (with_reducible apply gaop_val); exact rfl; exact rfl; exact rfl; exact rfl; (first | (exact U1 0) | (exact U4 hm2))) | (refine DD 16 ?_) | fail)
            all_goals (first | (refine D1 17 ?_) | ((with_reducible apply ga_v 17); exact rfl; kernel_rfl; (exact fun _ _ _ h => h); (first | (exact U1 0) | (exact U4 hm2))) | (refine DD 17 ?_) | fail)
            all_goals refine DD 18 ?_
            all_goals refine DD 19 ?_
            all_goals refine D8 ?_
            all_goals
              repeat' (first | (refine KK ?_) | (refine NB fun b => ?_) | ((refine KB ?_ ?_ <;> intro hp)) | (refine KG ?_) | fail)
            all_goals first
              | exact ret_s rfl rfl (congrArg _ hE)
              | (exfalso; omega)
          · rw [if_neg hz] at hE
            repeat' (first | (refine KK ?_) | (refine NB fun b => ?_) | ((refine KB ?_ ?_ <;> intro hp)) | (refine KG ?_) | fail)
            refine gc_draw 20 _ (by kernel_rfl) rfl (List.Sublist.cons_cons _ (List.nil_sublist _)) ?_
            all_goals refine DD 0 ?_
            all_goals (first | (refine D1 1 ?_) | ((with_reducible apply ga_v 1); exact rfl; kernel_rfl; (exact fun _ _ _ h => h); (first | (exact U1 0) | (exact U4 hm2))) | (refine DD 1 ?_) | fail)
            all_goals (first | (refine D1 2 ?_) | ((with_reducible apply ga_v 2); exact rfl; kernel_rfl; (exact fun _ _ _ h => h); (first | (exact U1 0) | (exact U4 hm2))) | (refine DD 2 ?_) | fail)
            all_goals refine DD 3 ?_
            all_goals (try (refine D7 4 ?_; (repeat' (first | refine KO ?_ | (refine KB ?_ ?_ <;> intro hp)))))
            all_goals (first | (refine D1 4 ?_) | ((with_reducible apply ga_v 4); exact rfl; kernel_rfl; (exact fun _ _ _ h => h); (first | (exact U1 0) | (exact U4 hm2))) | (refine DD 4 ?_) | fail)
            all_goals (first | (refine D1 5 ?_) | ((with_reducible apply ga_v 5); exact rfl; kernel_rfl; (exact fun _ _ _ h => h); (first | (exact U1 0) | (exact U4 hm2))) | ((with_reducible apply ga_all1 5); kernel_rfl; (with_reducible apply gaop_val); exact rfl; exact rfl; exact rfl; exact rfl; (first | (exact U1 0) | (exact U4 hm2))) | (refine DD 5 ?_) | fail)
            all_goals refine DD 6 ?_
            all_goals (first | (refine D1 7 ?_) | ((with_reducible apply ga_v 7); exact rfl; kernel_rfl; (exact fun _ _ _ h => h); (first | (exact U1 0) | (exact U4 hm2))) | (refine DD 7 ?_) | fail)
            all_goals (first | (refine D1 8 ?_) | ((with_reducible apply ga_v 8); exact rfl; kernel_rfl; (exact fun _ _ _ h => h); (first | (exact U1 0) | (exact U4 hm2))) | ((with_reducible apply ga_all1 8); kernel_rfl; (with_reducible apply gaop_val); exact rfl; exact rfl; exact rfl; exact rfl; (first | (exact U1 0) | (exact U4 hm2))) | (refine DD 8 ?_) | fail)
            all_goals (first | (refine D3 9 ?_; refine D5 ?_; (with_reducible apply C1); exact rfl; exact EN; exact fun w μc hw hse => hcall w μc hw hse.le; refine D9 ?_) | (refine D3 9 (D6 ?_)))
            all_goals refine DD 10 ?_
            all_goals refine DD 11 ?_
            all_goals (try (refine D7 12 ?_; (repeat' (first | refine KO ?_ | (refine KB ?_ ?_ <;> intro hp)))))
            all_goals refine DD 12 ?_
            all_goals (first | (refine D1 13 ?_) | ((with_reducible apply ga_v 13); exact rfl; kernel_rfl; (exact fun _ _ _ h => h); (first | (exact U1 0) | (exact U4 hm2))) | (refine DD 13 ?_) | fail)
            all_goals refine DD 14 ?_
            all_goals (try (refine D7 15 ?_; (repeat' (first | refine KO ?_ | (refine KB ?_ ?_ <;> intro hp)))))
            all_goals (first | (refine D1 15 ?_) | ((with_reducible apply ga_v 15); exact rfl; kernel_rfl; (exact fun _ _ _ h => h); (first | (exact U1 0) | (exact U4 hm2))) | (refine DD 15 ?_) | fail)
            all_goals (first | (refine D1 16 ?_) | ((with_reducible apply ga_v 16); exact rfl; kernel_rfl; (exact fun _ _ _ h => h); (first | (exact U1 0) | (exact U4 hm2))) | ((with_reducible apply ga_all1 16); kernel_rfl; (with_reducible apply gaop_val); exact rfl; exact rfl; exact rfl; exact rfl; (first | (exact U1 0) | (exact U4 hm2))) | (refine DD 16 ?_) | fail)
            all_goals (first | (refine D1 17 ?_) | ((with_reducible apply ga_v 17); exact rfl; kernel_rfl; (exact fun _ _ _ h => h); (first | (exact U1 0) | (exact U4 hm2))) | (refine DD 17 ?_) | fail)
            all_goals refine DD 18 ?_
            all_goals refine DD 19 ?_
            all_goals refine D8 ?_
            all_goals
              repeat' (first | (refine KK ?_) | (refine NB fun b => ?_) | ((refine KB ?_ ?_ <;> intro hp)) | (refine KG ?_) | fail)
            all_goals first
              | exact J2 (i + 1, j2, _, _) ⟨by show i + 1 ≤ m; omega, hj2, hk2, hE⟩ (by show m - (i + 1) < m - i; omega)
              | (exfalso; omega)
    · obtain rfl : j2 = n := by omega
      have hdt : ks.drop j2 = [] := List.drop_of_length_le (by omega)
      have hE := hend _ (by rw [hdt, eatF]) hdt.symm
      by_cases hz : cnt = 0 ∧ mm = 0
      · rw [if_pos hz] at hE
        repeat' (first | (refine KK ?_) | (refine NB fun b => ?_) | ((refine KB ?_ ?_ <;> intro hp)) | (refine KG ?_) | fail)
        refine gc_draw 20 _ (by kernel_rfl) rfl (List.Sublist.cons_cons _ (List.nil_sublist _)) ?_
        all_goals refine DD 0 ?_
        all_goals (first | (refine D1 1 ?_) | ((with_reducible apply ga_v 1); exact rfl; kernel_rfl; (exact fun _ _ _ h => h); (first | (exact U1 0))) | (refine DD 1 ?_) | fail)
        all_goals (first | (refine D1 2 ?_) | ((with_reducible apply ga_v 2); exact rfl; kernel_rfl; (exact fun _ _ _ h => h); (first | (exact U1 0))) | (refine DD 2 ?_) | fail)
        all_goals refine DD 3 ?_
        all_goals (try (refine D7 4 ?_; (repeat' (first | refine KO ?_ | (refine KB ?_ ?_ <;> intro hp)))))
        all_goals (first | (refine D1 4 ?_) | ((with_reducible apply ga_v 4); exact rfl; kernel_rfl; (exact fun _ _ _ h => h); (first | (exact U1 0))) | (refine DD 4 ?_) | fail)
        all_goals (first | (refine D1 5 ?_) | ((with_reducible apply ga_v 5); exact rfl; kernel_rfl; (exact fun _ _ _ h => h); (first | (exact U1 0))) | ((with_reducible apply ga_all1 5); kernel_rfl; (with_reducible apply gaop_val); exact rfl; exact rfl; exact rfl; exact rfl; (first | (exact U1 0))) | (refine DD 5 ?_) | fail)
        all_goals refine DD 6 ?_
        all_goals (first | (refine D1 7 ?_) | ((with_reducible apply ga_v 7); exact rfl; kernel_rfl; (exact fun _ _ _ h => h); (first | (exact U1 0))) | (refine DD 7 ?_) | fail)
        all_goals (first | (refine D1 8 ?_) | ((with_reducible apply ga_v 8); exact rfl; kernel_rfl; (exact fun _ _ _ h => h); (first | (exact U1 0))) | ((with_reducible apply ga_all1 8); kernel_rfl; (with_reducible apply gaop_val); exact rfl; exact rfl; exact rfl; exact rfl; (first | (exact U1 0))) | (refine DD 8 ?_) | fail)
        all_goals (first | (refine D3 9 ?_; refine D5 ?_; (with_reducible apply C1); exact rfl; exact EN; fail; refine D9 ?_) | (refine D3 9 (D6 ?_)))
        all_goals refine DD 10 ?_
        all_goals refine DD 11 ?_
        all_goals (try (refine D7 12 ?_; (repeat' (first | refine KO ?_ | (refine KB ?_ ?_ <;> intro hp)))))
        all_goals refine DD 12 ?_
        all_goals (first | (refine D1 13 ?_) | ((with_reducible apply ga_v 13); exact rfl; kernel_rfl; (exact fun _ _ _ h => h); (first | (exact U1 0))) | (refine DD 13 ?_) | fail)
        all_goals refine DD 14 ?_
        all_goals (try (refine D7 15 ?_; (repeat' (first | refine KO ?_ | (refine KB ?_ ?_ <;> intro hp)))))
        all_goals (first | (refine D1 15 ?_) | ((with_reducible apply ga_v 15); exact rfl; kernel_rfl; (exact fun _ _ _ h => h); (first | (exact U1 0))) | (refine DD 15 ?_) | fail)
        all_goals (first | (refine D1 16 ?_) | ((with_reducible apply ga_v 16); exact rfl; kernel_rfl; (exact fun _ _ _ h => h); (first | (exact U1 0))) | ((with_reducible apply ga_all1 16); kernel_rfl; (with_reducible apply gaop_val); exact rfl; exact rfl; exact rfl; exact rfl; (first | (exact U1 0))) | (refine DD 16 ?_) | fail)
        all_goals (first | (refine D1 17 ?_) | ((with_reducible apply ga_v 17); exact rfl; kernel_rfl; (exact fun _ _ _ h => h); (first | (exact U1 0))) | (refine DD 17 ?_) | fail)
        all_goals refine DD 18 ?_
        all_goals refine DD 19 ?_
        all_goals refine D8 ?_
        all_goals
          repeat' (first | (refine KK ?_) | (refine NB fun b => ?_) | ((refine KB ?_ ?_ <;> intro hp)) | (refine KG ?_) | fail)
        all_goals first
          | exact ret_s rfl rfl (congrArg _ hE)
          | (exfalso; omega)
      · rw [if_neg hz] at hE
        repeat' (first | (refine KK ?_) | (refine NB fun b => ?_) | ((refine KB ?_ ?_ <;> intro hp)) | (refine KG ?_) | fail)
        refine gc_draw 20 _ (by kernel_rfl) rfl (List.Sublist.cons_cons _ (List.nil_sublist _)) ?_
        all_goals refine DD 0 ?_
        all_goals (first | (refine D1 1 ?_) | ((with_reducible apply ga_v 1); exact rfl; kernel_rfl; (exact fun _ _ _ h => h); (first | (exact U1 0))) | (refine DD 1 ?_) | fail)
        all_goals (first | (refine D1 2 ?_) | ((with_reducible apply ga_v 2); exact rfl; kernel_rfl; (exact fun _ _ _ h => h); (first | (exact U1 0))) | (refine DD 2 ?_) | fail)
        all_goals refine DD 3 ?_
        all_goals (try (refine D7 4 ?_; (repeat' (first | refine KO ?_ | (refine KB ?_ ?_ <;> intro hp)))))
        all_goals (first | (refine D1 4 ?_) | ((with_reducible apply ga_v 4); exact rfl; kernel_rfl; (exact fun _ _ _ h => h); (first | (exact U1 0))) | (refine DD 4 ?_) | fail)
        all_goals (first | (refine D1 5 ?_) | ((with_reducible apply ga_v 5); exact rfl; kernel_rfl; (exact fun _ _ _ h => h); (first | (exact U1 0))) | ((with_reducible apply ga_all1 5); kernel_rfl; (with_reducible apply gaop_val); exact rfl; exact rfl; exact rfl; exact rfl; (first | (exact U1 0))) | (refine DD 5 ?_) | fail)
        all_goals refine DD 6 ?_
        all_goals (first | (refine D1 7 ?_) | ((with_reducible apply ga_v 7); exact rfl; kernel_rfl; (exact fun _ _ _ h => h); (first | (exact U1 0))) | (refine DD 7 ?_) | fail)
        all_goals (first | (refine D1 8 ?_) | ((with_reducible apply ga_v 8); exact rfl; kernel_rfl; (exact fun _ _ _ h => h); (first | (exact U1 0))) | ((with_reducible apply ga_all1 8); kernel_rfl; (with_reducible apply gaop_val); exact rfl; exact rfl; exact rfl; exact rfl; (first | (exact U1 0))) | (refine DD 8 ?_) | fail)
        all_goals (first | (refine D3 9 ?_; refine D5 ?_; (with_reducible apply C1); exact rfl; exact EN; fail; refine D9 ?_) | (refine D3 9 (D6 ?_)))
        all_goals refine DD 10 ?_
        all_goals refine DD 11 ?_
        all_goals (try (refine D7 12 ?_; (repeat' (first | refine KO ?_ | (refine KB ?_ ?_ <;> intro hp)))))
        all_goals refine DD 12 ?_
        all_goals (first | (refine D1 13 ?_) | ((with_reducible apply ga_v 13); exact rfl; kernel_rfl; (exact fun _ _ _ h => h); (first | (exact U1 0))) | (refine DD 13 ?_) | fail)
        all_goals refine DD 14 ?_
        all_goals (try (refine D7 15 ?_; (repeat' (first | refine KO ?_ | (refine KB ?_ ?_ <;> intro hp)))))
        all_goals (first | (refine D1 15 ?_) | ((with_reducible apply ga_v 15); exact rfl; kernel_rfl; (exact fun _ _ _ h => h); (first | (exact U1 0))) | (refine DD 15 ?_) | fail)
        all_goals (first | (refine D1 16 ?_) | ((with_reducible apply ga_v 16); exact rfl; kernel_rfl; (exact fun _ _ _ h => h); (first | (exact U1 0))) | ((with_reducible apply ga_all1 16); kernel_rfl; (with_reducible apply gaop_val); exact rfl; exact rfl; exact rfl; exact rfl; (first | (exact U1 0))) | (refine DD 16 ?_) | fail)
        all_goals (first | (refine D1 17 ?_) | ((with_reducible apply ga_v 17); exact rfl; kernel_rfl; (exact fun _ _ _ h => h); (first | (exact U1 0))) | (refine DD 17 ?_) | fail)
        all_goals refine DD 18 ?_
        all_goals refine DD 19 ?_
        all_goals refine D8 ?_
        all_goals
          repeat' (first | (refine KK ?_) | (refine NB fun b => ?_) | ((refine KB ?_ ?_ <;> intro hp)) | (refine KG ?_) | fail)
        all_goals first
          | exact J2 (i + 1, j2, _, _) ⟨by show i + 1 ≤ m; omega, hj2, hk2, hE⟩ (by show m - (i + 1) < m - i; omega)
          | (exfalso; omega)
  · obtain rfl : i = m := by omega
    rw [List.drop_of_length_le (by omega)] at hRj
    have hR2 : decide (n - j = 0) = R := by rw [← hRj, ← hkn, ← List.length_drop]; rfl
    repeat' (first | (refine KK ?_) | (refine NB fun b => ?_) | ((refine KB ?_ ?_ <;> intro hp)) | (refine KG ?_) | fail)
    refine ret_s rfl rfl ?_
    rw [← hR2]
    congr 1
    simp
    try omega
end Go.Proofs.YtllilkcocfalmaaGreatDoor
set_option maxRecDepth 20000
namespace Go.Proofs.YtllilkcocfalmaaGreatDoor
open Go.RowKit Go.Vcg
def bodyT (t : T) : T → Bool := if hasT t 128 = true then exprT else ofT [6]
def keyT (t : T) : T → Bool := if t.m = 1 then exprT else ofT [31, 30]
def argsT : T → Bool := eiT [exprT, ofT [41]]
theorem Cls.form {μ : Mem} {v : Value} {p : T → Bool} (h : Cls μ v p) : ∃ (f : FuncId) (cap : List Value), v = .func (.func f) #[] cap.toArray := let ⟨f, cap, e, _⟩ := h; ⟨f, cap, e⟩
theorem cls_expr (μ : Mem) : Cls μ (.func (.func 63) #[] #[]) exprT := Cls.of expression_spec (by kernel_rfl) μ
attribute [local irreducible] G GC GQ GA GAop Calls IntKind.wrap Int.decLt Int.decLe
theorem body_spec (t : T) (u : Value) (w : World) (μ : Mem) (hμ : MOk μ w) (hk : KR μ t.kids u) (hs : t.size ≤ 100000) :
    Calls Tryz.prog 74 #[.agg (encT t u).toArray] w fun e w' => ∃ v μ', e = .returned v ∧ Grow w w' μ μ' ∧ OfPost (bodyT t) μ' v := by
  have ho := hk.one
  refine call_intro (args := [.agg (encT t u).toArray]) Tryz.func74 rfl Tryz.ntmps74 (by simp) hμ ?_
  unfold bodyT
  cases hh : hasT t 128
  · rw [if_neg (by simp)]
    repeat' (first | (refine KO ?_) | ((with_reducible apply F1 85); exact rfl; exact EN; (exact fun w μc hw hse => hh ▸ tHas_spec 128 t u w μc hw (hk.mono hse.le) hs)) | ((with_reducible show G _ _ _ _ (Oper.mk _ (Op.call (Call.mk (Callee.value (Operand.func 64)) _ _)) _ _ _ _ :: _) _ _ _); (with_reducible apply g_share); exact rfl; intro μs hles hshs; (with_reducible apply g_enter_m); exact rfl; exact rfl; exact rfl; ((with_reducible apply e_call1); kernel_rfl; exact rfl); (exact fun w hw => of_spec [6] _ _ _ w _ hw (sl_lit hshs rfl (by simp) (by repeat first | exact lc_nil | refine lc_cons rfl ?_)) (by omega)); rintro v3 μ3 hle3 hc3) | (refine KI ?_) | (refine NB fun b => ?_) | ((refine KB ?_ ?_ <;> intro hp)) | (refine KG ?_) | fail)
    exact ret_m1 rfl (rv_tmp rfl) (fun μ' hle' hL => Cls.mono hc3 hle')
  · rw [if_pos rfl]
    repeat' (first | (refine KO ?_) | ((with_reducible apply F1 85); exact rfl; exact EN; (exact fun w μc hw hse => hh ▸ tHas_spec 128 t u w μc hw (hk.mono hse.le) hs)) | (refine KI ?_) | (refine NB fun b => ?_) | ((refine KB ?_ ?_ <;> intro hp)) | (refine KG ?_) | fail)
    exact ret_m1 rfl (rv_tmp rfl) (fun μ' hle' hL => cls_expr μ')
theorem key_spec (t : T) (u : Value) (w : World) (μ : Mem) (hμ : MOk μ w) (hk : KR μ t.kids u) :
    Calls Tryz.prog 94 #[.agg (encT t u).toArray] w fun e w' => ∃ v μ', e = .returned v ∧ Grow w w' μ μ' ∧ OfPost (keyT t) μ' v := by
  have ho := hk.one
  refine call_intro (args := [.agg (encT t u).toArray]) Tryz.func94 rfl Tryz.ntmps94 (by simp) hμ ?_
  unfold keyT
  by_cases h1 : t.m = 1
  · rw [if_pos h1]
    repeat' (first | (refine KK ?_) | (refine NB fun b => ?_) | ((refine KB ?_ ?_ <;> intro hp)) | (refine KG ?_) | fail)
    exact ret_m1 rfl (rv_tmp rfl) (fun μ' hle' hL => cls_expr μ')
  · rw [if_neg h1]
    repeat' (first | (refine KO ?_) | ((with_reducible show G _ _ _ _ (Oper.mk _ (Op.call (Call.mk (Callee.value (Operand.func 64)) _ _)) _ _ _ _ :: _) _ _ _); (with_reducible apply g_share); exact rfl; intro μs hles hshs; (with_reducible apply g_enter_m); exact rfl; exact rfl; exact rfl; ((with_reducible apply e_call1); kernel_rfl; exact rfl); (exact fun w hw => of_spec [31, 30] _ _ _ w _ hw (sl_lit hshs rfl (by simp) (by repeat first | exact lc_nil | refine lc_cons rfl ?_)) (by omega)); rintro v3 μ3 hle3 hc3) | (refine KI ?_) | (refine NB fun b => ?_) | ((refine KB ?_ ?_ <;> intro hp)) | (refine KG ?_) | fail)
    exact ret_m1 rfl (rv_tmp rfl) (fun μ' hle' hL => Cls.mono hc3 hle')
theorem args_spec (w : World) (μ : Mem) (hμ : MOk μ w) :
    Calls Tryz.prog 70 #[] w fun e w' => ∃ v μ', e = .returned v ∧ Grow w w' μ μ' ∧ OfPost argsT μ' v := by
  refine call_intro (args := []) Tryz.func70 rfl Tryz.ntmps70 (by simp) hμ ?_
  repeat' (first | (refine KO ?_) | ((with_reducible show G _ _ _ _ (Oper.mk _ (Op.call (Call.mk (Callee.value (Operand.func 64)) _ _)) _ _ _ _ :: _) _ _ _); (with_reducible apply g_share); exact rfl; intro μs hles hshs; (with_reducible apply g_enter_m); exact rfl; exact rfl; exact rfl; ((with_reducible apply e_call1); kernel_rfl; exact rfl); (exact fun w hw => of_spec [41] _ _ _ w _ hw (sl_lit hshs rfl (by simp) (by repeat first | exact lc_nil | refine lc_cons rfl ?_)) (by omega)); rintro v3 μ3 hle3 hc3; (obtain ⟨f3, cap3, rfl⟩ := Cls.form hc3)) | ((with_reducible show G _ _ _ _ (Oper.mk _ (Op.call (Call.mk (Callee.value (Operand.func 62)) _ _)) _ _ _ _ :: _) _ _ _); (with_reducible apply g_share); exact rfl; intro μt hlet hsht; (with_reducible apply g_enter_m); exact rfl; exact rfl; exact rfl; ((with_reducible apply e_call1); kernel_rfl; exact rfl); (exact fun w hw => either_spec [.func (.func 63) #[] #[], .func (.func f3) #[] cap3.toArray] [exprT, ofT [41]] _ _ _ w _ hw (sl_lit hsht rfl (by simp) (by repeat first | exact lc_nil | refine lc_cons rfl ?_)) (Clss.cons (cls_expr _) (Clss.cons (Cls.mono hc3 hlet) (Clss.nil _))) (by omega)); rintro v4 μ4 hle4 hc4) | (refine KI ?_) | (refine NB fun b => ?_) | ((refine KB ?_ ?_ <;> intro hp)) | (refine KG ?_) | fail)
  exact ret_m1 rfl (rv_tmp rfl) (fun μ' hle' hL => Cls.mono hc4 hle')
end Go.Proofs.YtllilkcocfalmaaGreatDoor
set_option maxRecDepth 20000
namespace Go.Proofs.YtllilkcocfalmaaGreatDoor
open Go.RowKit Go.Vcg
def tmOk (i : Nat) (e : T → Bool) (t : T) : Prop := if i % 2 = 0 then t.op = 31 else e t = true
def templP (e : T → Bool) (ks : List T) : Prop := ks.length % 2 = 1 ∧ ∀ (i : Nat) (t : T), ks[i]? = some t → tmOk i e t
noncomputable def templB (e : T → Bool) (ks : List T) : Bool := dB (templP e ks)
theorem templB_t {e : T → Bool} {ks : List T} (h : templP e ks) : templB e ks = true := by unfold templB; exact dB_t h
theorem templB_f {e : T → Bool} {ks : List T} (h : ¬templP e ks) : templB e ks = false := by unfold templB; exact dB_f h
/-- some node on the spine has N 1 -/
inductive Chained : T → Prop
  | one {t : T} (h : linkT t = true) (hn : t.n = 1) : Chained t
  | more {t k : T} (h : linkT t = true) (hk : t.kids[0]? = some k) (hc : Chained k) : Chained t
noncomputable def chB (t : T) : Bool := dB (Chained t)
theorem chB_t {t : T} (h : Chained t) : chB t = true := by unfold chB; exact dB_t h
theorem chB_f {t : T} (h : ¬Chained t) : chB t = false := by unfold chB; exact dB_f h
theorem ch_link {t : T} (h : linkT t = false) : ¬Chained t := fun hc => by
  cases hc with
  | one h2 _ => rw [h] at h2; cases h2
  | more h2 _ _ => rw [h] at h2; cases h2
theorem ch_nil {t : T} (h : t.n ≠ 1) (hk : t.kids[0]? = none) : ¬Chained t := fun hc => by
  cases hc with
  | one _ h2 => exact h h2
  | more _ h2 _ => rw [hk] at h2; cases h2
theorem ch_iff {t k : T} (hl : linkT t = true) (h : t.n ≠ 1) (hk : t.kids[0]? = some k) : Chained t ↔ Chained k := by
  constructor
  · intro hc
    cases hc with
    | one _ h2 => exact absurd h2 h
    | more _ h2 h3 => rw [hk] at h2; cases h2; exact h3
  · exact fun hc => .more hl hk hc
noncomputable def chainT (ks : List T) : Bool := match ks with | [k] => chB k | _ => false
/-- all strings of a tree are short -/
inductive Sh' : T → Prop
  | mk {t : T} (h : t.s.size ≤ 65536) (hk : ∀ k ∈ t.kids, Sh' k) : Sh' t
theorem Sh'.s {t : T} (h : Sh' t) : t.s.size ≤ 65536 := by cases h; assumption
theorem Sh'.kid {t k : T} (h : Sh' t) (hk : k ∈ t.kids) : Sh' k := by
  cases h with
  | mk _ h => exact h k hk
attribute [local irreducible] templB chB G GC GQ GA GAop Calls IntKind.wrap Int.decLt Int.decLe
theorem template_spec (ks : List T) (A : Option Addr) (n c : Nat) (w : World) (μ : Mem) (hμ : MOk μ w) (hk : KR μ ks (.slice A n c)) (hkn : ks.length = n) (hn : n ≤ 100000) (hks : ∀ k ∈ ks, T.size k ≤ 100000 ∧ k.s.size ≤ 65536) :
    Calls Tryz.prog 60 #[.slice A n c] w fun e w' => e = .returned (.bool (templB exprT ks)) ∧ Below w.heap.size w w' := by
  refine call_intro (args := [.slice A n c]) Tryz.func60 rfl Tryz.ntmps60 (by simp) hμ ?_
  have hget : ∀ (i : Nat) (t : T), ks[i]? = some t → ∃ a u, A = some a ∧ MCells μ (a.add (i * 6)) (encT t u) ∧ u.oneCell' = true ∧ KR μ t.kids u := by
    obtain ⟨A', c', e, _, hg⟩ := hk.form
    cases e
    exact hg
  repeat' (first | (refine KK ?_) | (refine NB fun b => ?_) | ((refine KB ?_ ?_ <;> intro hp)) | (refine KG ?_) | fail)
  refine gc_loop (ι := Nat) (fun i => i ≤ n ∧ ∀ (j : Nat) (t : T), j < i → ks[j]? = some t → tmOk j exprT t) (fun i => n - i) (fun _ => μ) (fun i => [(7, .int .i64 i), (6, .int .i64 n), (5, .slice A n c), (0, .slice A n c)]) (fun _ => []) 0 ⟨by omega, fun j _ h => absurd h (by omega)⟩ (fun a w hs => J6 hs) ?_
  rintro i ⟨hi, hok⟩
  by_cases hlt : i < n
  · have hkk : ks[i]? = some ks[i] := List.getElem?_eq_getElem (by omega)
    generalize ks[i] = t at hkk
    obtain ⟨ad, x, rfl, hm, ho, hkx⟩ := hget i t hkk
    have hts := hks t (List.mem_of_getElem? hkk)
    have hr : (i : Int).tmod 2 = ((i % 2 : Nat) : Int) := rfl
    have hcall := fun (w : World) (μc : Mem) (hw : MOk μc w) (hle : MLe μ μc) => expression_spec t x w μc hw (hkx.mono hle) hts.1 hts.2
    by_cases hp1 : tmOk i exprT t
    · have hnext : ∀ (j : Nat) (t : T), j < i + 1 → ks[j]? = some t → tmOk j exprT t := fun j t' hj ht => by
        rcases Nat.lt_or_ge j i with h | h
        · exact hok j t' h ht
        · obtain rfl : j = i := by omega
          rw [hkk] at ht
          cases ht
          exact hp1
      unfold tmOk at hp1
      by_cases h2 : i % 2 = 0
      · rw [if_pos h2] at hp1
        repeat' (first | (refine KO ?_) | ((with_reducible apply C1); exact rfl; exact EN; exact fun w μc hw hse => hcall w μc hw hse.le) | ((with_reducible apply g_v); exact rfl; (first | (exact U1 i) | (exact U4 hm))) | (refine KI ?_) | (refine NB fun b => ?_) | ((refine KB ?_ ?_ <;> intro hp)) | (refine KG ?_) | fail)
        all_goals first
          | exact J2 (i + 1) ⟨by omega, hnext⟩ (by omega)
          | (exfalso; omega)
      · rw [if_neg h2] at hp1
        rw [hp1] at hcall
        repeat' (first | (refine KO ?_) | ((with_reducible apply C1); exact rfl; exact EN; exact fun w μc hw hse => hcall w μc hw hse.le) | ((with_reducible apply g_v); exact rfl; (first | (exact U1 i) | (exact U4 hm))) | (refine KI ?_) | (refine NB fun b => ?_) | ((refine KB ?_ ?_ <;> intro hp)) | (refine KG ?_) | fail)
        all_goals first
          | exact J2 (i + 1) ⟨by omega, hnext⟩ (by omega)
          | (exfalso; omega)
    · rw [templB_f fun h => hp1 (h.2 i t hkk)]
      unfold tmOk at hp1
      by_cases h2 : i % 2 = 0
      · rw [if_pos h2] at hp1
        repeat' (first | (refine KO ?_) | ((with_reducible apply C1); exact rfl; exact EN; exact fun w μc hw hse => hcall w μc hw hse.le) | ((with_reducible apply g_v); exact rfl; (first | (exact U1 i) | (exact U4 hm))) | (refine KI ?_) | (refine NB fun b => ?_) | ((refine KB ?_ ?_ <;> intro hp)) | (refine KG ?_) | fail)
        all_goals first
          | exact ret_s rfl rfl rfl
          | (exfalso; omega)
      · rw [if_neg h2] at hp1
        rw [Bool.not_eq_true _ |>.mp hp1] at hcall
        repeat' (first | (refine KO ?_) | ((with_reducible apply C1); exact rfl; exact EN; exact fun w μc hw hse => hcall w μc hw hse.le) | ((with_reducible apply g_v); exact rfl; (first | (exact U1 i) | (exact U4 hm))) | (refine KI ?_) | (refine NB fun b => ?_) | ((refine KB ?_ ?_ <;> intro hp)) | (refine KG ?_) | fail)
        all_goals first
          | exact ret_s rfl rfl rfl
          | (exfalso; omega)
  · obtain rfl : i = n := by omega
    have hr : (i : Int).tmod 2 = ((i % 2 : Nat) : Int) := rfl
    have hg : templB exprT ks = decide ((i : Int).tmod 2 = 1) := by
      by_cases h : i % 2 = 1
      · rw [templB_t ⟨by rw [hkn]; exact h, fun j t hj => hok j t (by have := (List.getElem?_eq_some_iff.1 hj).1; omega) hj⟩]
        symm
        rw [decide_eq_true_eq]
        omega
      · rw [templB_f fun hf => h (by rw [← hkn]; exact hf.1)]
        symm
        rw [decide_eq_false_iff_not]
        omega
    rw [hg]
    repeat' (first | (refine KK ?_) | (refine NB fun b => ?_) | ((refine KB ?_ ?_ <;> intro hp)) | (refine KG ?_) | fail)
    exact ret_s rfl rfl rfl
structure ChS where
  bb : Nat
  t : T
  u : Value
theorem chain_spec (ks : List T) (A : Option Addr) (n c : Nat) (w : World) (μ : Mem) (hμ : MOk μ w) (hk : KR μ ks (.slice A n c)) (hkn : ks.length = n) (hn : n ≤ 100000) (hks : ∀ k ∈ ks, T.size k ≤ 100000 ∧ Sh' k) :
    Calls Tryz.prog 71 #[.slice A n c] w fun e w' => e = .returned (.bool (chainT ks)) ∧ Below w.heap.size w w' := by
  refine call_intro (args := [.slice A n c]) Tryz.func71 rfl Tryz.ntmps71 (by simp) hμ ?_
  by_cases h1 : n = 1
  · subst h1
    obtain ⟨t0, rfl⟩ := List.length_eq_one_iff.1 hkn
    obtain ⟨A', c', e, _, hget⟩ := hk.form
    cases e
    obtain ⟨ad, x, rfl, hm, ho, hkx⟩ := hget 0 t0 rfl
    have hts := hks t0 (List.mem_singleton.2 rfl)
    have hg : chainT [t0] = chB t0 := rfl
    rw [hg]
    have hcall := fun (w : World) (μc : Mem) (hw : MOk μc w) (hle : MLe μ μc) => link_spec t0 x w μc hw (hkx.mono hle) hts.1 (hts.2.s)
    cases hl : linkT t0
    · rw [chB_f (ch_link hl)]
      rw [hl] at hcall
      repeat' (first | (refine KO ?_) | ((with_reducible apply C1); exact rfl; exact EN; exact fun w μc hw hse => hcall w μc hw hse.le) | ((with_reducible apply g_v); exact rfl; (first | (exact U1 0) | (exact U4 hm))) | (refine KI ?_) | (refine NB fun b => ?_) | ((refine KB ?_ ?_ <;> intro hp)) | (refine KG ?_) | fail)
      all_goals first | exact ret_s rfl rfl rfl | (exfalso; omega)
    · rw [hl] at hcall
      generalize hB : chB t0 = B
      repeat' (first | (refine KO ?_) | ((with_reducible apply C1); exact rfl; exact EN; exact fun w μc hw hse => hcall w μc hw hse.le) | ((with_reducible apply g_v); exact rfl; (first | (exact U1 0) | (exact U4 hm))) | (refine KI ?_) | (refine NB fun b => ?_) | ((refine KB ?_ ?_ <;> intro hp)) | (refine KG ?_) | fail)
      refine gc_loop (ι := ChS) (fun j => chB j.t = B ∧ KR μ j.t.kids j.u ∧ j.t.size ≤ 100000 ∧ Sh' j.t) (fun j => j.t.size) (fun _ => μ) (fun j => [(3, .pointer (some ⟨j.bb, 0, none⟩))]) (fun j => [.inl ⟨j.bb, 24, 6, idx 0 (encT j.t j.u)⟩]) ⟨b, t0, x⟩ ⟨hB, hkx, hts⟩ (fun a w hs => J5 hs) ?_
      clear hcall hl hB hts hkx ho hm hget hk hks
      rintro ⟨bb, t, u⟩ ⟨hB, hkt, hsz, hsh⟩
      dsimp only at hB hkt hsz hsh ⊢
      have hot := hkt.one
      obtain ⟨A2, c2, rfl, hlc2, hget⟩ := hkt.form
      have hlen := kidsLe t
      have hcall := fun (w : World) (μc : Mem) (hw : MOk μc w) (hle : MLe μ μc) => link_spec t _ w μc hw (hkt.mono hle) hsz hsh.s
      cases hl : linkT t
      · rw [chB_f (ch_link hl)] at hB
        subst hB
        rw [hl] at hcall
        repeat' (first | (refine KO ?_) | ((with_reducible apply C1); exact rfl; exact EN; exact fun w μc hw hse => hcall w μc hw hse.le) | (refine KI ?_) | (refine NB fun b => ?_) | ((refine KB ?_ ?_ <;> intro hp)) | (refine KG ?_) | fail)
        all_goals first | exact ret_s rfl rfl rfl | (exfalso; omega)
      · rw [hl] at hcall
        by_cases hn1 : t.n = 1
        · rw [chB_t (.one hl hn1)] at hB
          subst hB
          repeat' (first | (refine KO ?_) | ((with_reducible apply C1); exact rfl; exact EN; exact fun w μc hw hse => hcall w μc hw hse.le) | (refine KI ?_) | (refine NB fun b => ?_) | ((refine KB ?_ ?_ <;> intro hp)) | (refine KG ?_) | fail)
          all_goals first | exact ret_s rfl rfl rfl | (exfalso; omega)
        · by_cases h0 : t.kids.length = 0
          · rw [chB_f (ch_nil hn1 (by rw [List.getElem?_eq_none_iff]; omega))] at hB
            subst hB
            repeat' (first | (refine KO ?_) | ((with_reducible apply C1); exact rfl; exact EN; exact fun w μc hw hse => hcall w μc hw hse.le) | (refine KI ?_) | (refine NB fun b => ?_) | ((refine KB ?_ ?_ <;> intro hp)) | (refine KG ?_) | fail)
            all_goals first | exact ret_s rfl rfl rfl | (exfalso; omega)
          · have hk0 : t.kids[0]? = some t.kids[0] := List.getElem?_eq_getElem (by omega)
            generalize t.kids[0] = k at hk0
            obtain ⟨ad2, x2, rfl, hm2, ho2, hkx2⟩ := hget 0 k hk0
            have hks := T.size_kid hk0
            have hBk : chB k = B := by
              by_cases hc : Chained k
              · rw [chB_t hc, ← hB, chB_t ((ch_iff hl hn1 hk0).2 hc)]
              · rw [chB_f hc, ← hB, chB_f fun h => hc ((ch_iff hl hn1 hk0).1 h)]
            have hshk := hsh.kid (List.mem_of_getElem? hk0)
            repeat' (first | (refine KO ?_) | ((with_reducible apply C1); exact rfl; exact EN; exact fun w μc hw hse => hcall w μc hw hse.le) | ((with_reducible apply g_v); exact rfl; (first | (exact U1 0) | (exact U4 hm2))) | (refine KI ?_) | (refine NB fun b => ?_) | ((refine KB ?_ ?_ <;> intro hp)) | (refine KG ?_) | fail)
            all_goals first
              | exact J2 ⟨_, k, x2⟩ ⟨hBk, hkx2, (by show k.size ≤ 100000; omega), hshk⟩ hks
              | (exfalso; omega)
  · have hg : chainT ks = false := by
      unfold chainT
      split
      · exact absurd hkn.symm h1
      · rfl
    rw [hg]
    repeat' (first | (refine KO ?_) | ((with_reducible apply C1); exact rfl; exact EN; fail) | (refine KI ?_) | (refine NB fun b => ?_) | ((refine KB ?_ ?_ <;> intro hp)) | (refine KG ?_) | fail)
    all_goals first | exact ret_s rfl rfl rfl | (exfalso; omega)
end Go.Proofs.YtllilkcocfalmaaGreatDoor
set_option maxRecDepth 20000
namespace Go.Proofs.YtllilkcocfalmaaGreatDoor
open Go.RowKit Go.Vcg
theorem Clss.forms {μ : Mem} {vs : List Value} {ps : List (T → Bool)} (h : Clss μ vs ps) : ∀ v ∈ vs, ∃ (f : FuncId) (cap : List Value), v = .func (.func f) #[] cap.toArray := fun v hv => by
  obtain ⟨i, hi⟩ := List.mem_iff_getElem?.1 hv
  have hlt := (List.getElem?_eq_some_iff.1 hi).1
  have hlt2 : i < ps.length := by rw [← h.1]; exact hlt
  exact (h.2 i v ps[i] hi (List.getElem?_eq_getElem hlt2)).form
def Rws (μ : Mem) (parts : List (Value × Int)) (rows : List ((T → Bool) × Int)) : Prop := parts.length = rows.length ∧ ∀ (i : Nat) (x : Value × Int) (y : (T → Bool) × Int), parts[i]? = some x → rows[i]? = some y → x.2 = y.2 ∧ Cls μ x.1 y.1
theorem Rws.nil (μ : Mem) : Rws μ [] [] := ⟨rfl, fun i x y h => by simp at h⟩
theorem Rws.cons {μ : Mem} {v : Value} {p : T → Bool} {m : Int} {ps : List (Value × Int)} {rs : List ((T → Bool) × Int)} (h : Cls μ v p) (hr : Rws μ ps rs) : Rws μ ((v, m) :: ps) ((p, m) :: rs) :=
  ⟨by simp [hr.1], fun i x y hx hy => by
    cases i with
    | zero => simp at hx hy; subst hx; subst hy; exact ⟨rfl, h⟩
    | succ i => exact hr.2 i x y (by simpa using hx) (by simpa using hy)⟩
theorem Rws.each {μ : Mem} {vs : List Value} {ps : List (T → Bool)} (h : Clss μ vs ps) : Rws μ (vs.map fun v => (v, (0 : Int))) (ps.map fun p => (p, (0 : Int))) :=
  ⟨by simp [h.1], fun i x y hx hy => by
    rw [List.getElem?_map] at hx hy
    cases hv : vs[i]? with
    | none => rw [hv] at hx; cases hx
    | some v =>
      cases hp : ps[i]? with
      | none => rw [hp] at hy; cases hy
      | some p =>
        rw [hv] at hx
        rw [hp] at hy
        cases hx
        cases hy
        exact ⟨rfl, h.2 i v p hv hp⟩⟩
theorem fits_rows (parts : List (Value × Int)) (rows : List ((T → Bool) × Int)) (ks : List T) (A B : Option Addr) (c m d : Nat) (w : World) (μ : Mem) (hμ : MOk μ w) {n : Nat} (hk : KR μ ks (.slice A n c)) (hkn : ks.length = n) (hn : n ≤ 100000) (hS : Sl encP 2 μ B m parts) (_hl : parts.length = m) (hm : m ≤ 1000) (hr : Rws μ parts rows) (hks : ∀ k ∈ ks, T.size k ≤ 100000 ∧ k.s.size ≤ 65536) :
    Calls Tryz.prog 66 #[.slice A n c, .slice B m d] w fun e w' => e = .returned (.bool (fitP rows ks)) ∧ Below w.heap.size w w' :=
  fits_spec parts rows ks A B n c m d w μ hμ hk hkn hn hS hm (by rw [← hr.1]; exact hS.1) hr.2 hks
def eachP (ps : List (T → Bool)) : List ((T → Bool) × Int) := ps.map fun p => (p, (0 : Int))
theorem fits_each (vs : List Value) (ps : List (T → Bool)) (ks : List T) (A B : Option Addr) (c m d : Nat) (w : World) (μ : Mem) (hμ : MOk μ w) {n : Nat} (hk : KR μ ks (.slice A n c)) (hkn : ks.length = n) (hn : n ≤ 100000) (hS : Sl encP 2 μ B m (vs.map fun v => (v, (0 : Int)))) (_hl : vs.length = m) (hm : m ≤ 1000) (hr : Clss μ vs ps) (hks : ∀ k ∈ ks, T.size k ≤ 100000 ∧ k.s.size ≤ 65536) :
    Calls Tryz.prog 66 #[.slice A n c, .slice B m d] w fun e w' => e = .returned (.bool (fitP (eachP ps) ks)) ∧ Below w.heap.size w w' :=
  fits_rows _ _ ks A B c m d w μ hμ hk hkn hn hS (by simpa using _hl) hm (Rws.each hr) hks
theorem cls_target (μ : Mem) : Cls μ (.func (.func 69) #[] #[]) targetT := Cls.of target_spec (by kernel_rfl) μ
theorem cls_expression (μ : Mem) : Cls μ (.func (.func 63) #[] #[]) exprT := Cls.of expression_spec (by kernel_rfl) μ
theorem cls_statement (μ : Mem) : Cls μ (.func (.func 73) #[] #[]) stmtT := Cls.of statement_spec (by kernel_rfl) μ
theorem cls_simple (μ : Mem) : Cls μ (.func (.func 68) #[] #[]) simpleT := Cls.of simple_spec (by kernel_rfl) μ
theorem cls_left (μ : Mem) : Cls μ (.func (.func 75) #[] #[]) leftT := Cls.of left_spec (by kernel_rfl) μ
theorem cls_getter (μ : Mem) : Cls μ (.func (.func 95) #[] #[]) getT := Cls.of getter_spec (by kernel_rfl) μ
theorem cls_setter (μ : Mem) : Cls μ (.func (.func 96) #[] #[]) setT := Cls.of setter_spec (by kernel_rfl) μ
theorem cls_method (μ : Mem) : Cls μ (.func (.func 97) #[] #[]) methT := Cls.of method_spec (by kernel_rfl) μ
theorem cls_named (μ : Mem) : Cls μ (.func (.func 98) #[] #[]) namedT := Cls.of named_spec (by kernel_rfl) μ
end Go.Proofs.YtllilkcocfalmaaGreatDoor
