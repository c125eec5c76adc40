/- A byte of an identifier; escaped strings: the program's form and the reference's has. (and what leans on it). No statement of the seat is proved here. -/
import Derived.Test.YtfabmichdhbiaaaGreatDoorQaf
import Derived.Test.YtfabmichdhbiaaaGreatDoorQae
set_option maxRecDepth 20000
set_option maxHeartbeats 2000000
namespace Go.Proofs.YtfabmichdhbiaaaGreatDoor
open Go.RowKit Go.Vcg
theorem drop_cons {l : List UInt8} {i : Nat} {b : UInt8} (h : l[i]? = some b) : l.drop i = b :: l.drop (i + 1) := by
  obtain ⟨hlt, e⟩ := List.getElem?_eq_some_iff.1 h
  rw [← e, List.getElem_cons_drop]
theorem bl_at {s : ByteArray} {i : Nat} (h : i < s.size) : ∃ b, (bl s)[i]? = some b ∧ bAt s i = b.toNat := by
  have h1 : i < (bl s).length := by rw [bl_len]; exact h
  have h2 : s.data.toList[i]? = some (bl s)[i] := List.getElem?_eq_getElem h1
  refine ⟨(bl s)[i], List.getElem?_eq_getElem h1, ?_⟩
  unfold bAt
  rw [h2]
  rfl
def LetP (n : Nat) : Prop := 97 ≤ n ∧ n ≤ 122 ∨ 65 ≤ n ∧ n ≤ 90 ∨ n = 95 ∨ n = 36
instance (n : Nat) : Decidable (LetP n) := by unfold LetP; exact inferInstance
def DigP (n : Nat) : Prop := 48 ≤ n ∧ n ≤ 57
instance (n : Nat) : Decidable (DigP n) := by unfold DigP; exact inferInstance
attribute [local irreducible] G GC GQ GA GAop Calls IntKind.wrap Int.decLt Int.decLe
end Go.Proofs.YtfabmichdhbiaaaGreatDoor
namespace Go.Proofs.YtfabmichdhbiaaaGreatDoor
open Go.RowKit Go.Vcg
def andI (x y : Int) : Int := IntKind.i64.wrap (BitVec.ofInt 64 x &&& BitVec.ofInt 64 y).toNat
theorem v_andI {P : Program} {μ : Mem} {l : Slots} {L : List Bk} {ds : Option Nat} {ty : TypeId} {pos : String} {af : Array Edge} {gd : Option (Nat × Bool)} {p q : Operand} {t t2 : TypeId} {x y : Int} (hx0 : ev l p = some (.int .i64 x)) (hx1 : ev l q = some (.int .i64 y)) : Val P μ l L ⟨ds, .binOp .and t p q t2, ty, pos, af, gd⟩ (.int .i64 (andI x y)) :=
  fun a w hs => by have e0 := hs.eval hx0; have e1 := hs.eval hx1; generalize a.eval = ρ at e0 e1; simp [execOp, e0, e1, eqGuard, binOp, Op.intBits]; rfl
def hasT (t : T) (m : Int) : Bool := decide (t.op = 4) && decide (andI t.n m ≠ 0)
def simpleT (t : T) : Bool := decide (t.op = 34) || (decide (t.op = 51) || decide (t.op = 52)) && decide (t.n = 0)
def targetT (t : T) : Bool := simpleT t || decide (t.op = 60) || decide (t.op = 61)
def linkT (t : T) : Bool := decide (t.op = 49) || decide (t.op = 51) || decide (t.op = 52)
def stmtT (t : T) : Bool := if t.op = 4 then hasT t 1 else decide (t.op = 2) || decide (t.op = 21) || decide (t.op = 23) || decide (6 ≤ t.op) && decide (t.op ≤ 19)
def exprT (t : T) : Bool := if t.op = 4 then !hasT t 57 else decide (30 ≤ t.op) && decide (t.op ≤ 38) || decide (42 ≤ t.op) && decide (t.op ≤ 54)
def len0 (t : T) (n : Nat) : Bool := match t.kids with | k :: _ => decide (k.kids.length = n) | [] => false
def leftT (t : T) : Bool := targetT t || decide (t.op = 2) && decide (t.kids.length = 1) && len0 t 1
def getT (t : T) : Bool := hasT t 16 && len0 t 0
def set0 (t : T) : Bool := match t.kids with | k :: _ => (match k.kids with | [x] => decide (x.op ≠ 64) | _ => false) | [] => false
def setT (t : T) : Bool := hasT t 32 && set0 t
def methT (t : T) : Bool := hasT t 8
def okAt (i : Nat) (c : UInt8) : Prop := LetP c.toNat ∨ i ≠ 0 ∧ DigP c.toNat
def formP (l : List UInt8) : Prop := l ≠ [] ∧ ∀ (i : Nat) (c : UInt8), l[i]? = some c → okAt i c
noncomputable def formB (s : ByteArray) : Bool := dB (formP (bl s))
noncomputable def namedT (t : T) : Bool := decide (t.op = 31) && formB t.s
theorem formB_t {s : ByteArray} (h : formP (bl s)) : formB s = true := by unfold formB; exact dB_t h
theorem formB_f {s : ByteArray} (h : ¬formP (bl s)) : formB s = false := by unfold formB; exact dB_f h
def NodeP (f : FuncId) (p : T → Bool) : Prop := ∀ (t : T) (u : Value) (w : World) (μ : Mem), MOk μ w → KR μ t.kids u → t.size ≤ 100000 → t.s.size ≤ 65536 →
  Calls Tryz.prog f #[.agg (encT t u).toArray] w fun e w' => e = .returned (.bool (p t)) ∧ Below w.heap.size w w'
attribute [local irreducible] andI formB G GC GQ GA GAop Calls IntKind.wrap Int.decLt Int.decLe
theorem tHas_spec (m : Int) : ∀ (t : T) (u : Value) (w : World) (μ : Mem), MOk μ w → KR μ t.kids u → t.size ≤ 100000 →
    Calls Tryz.prog 87 #[.agg (encT t u).toArray, .int .i64 m] w fun e w' => e = .returned (.bool (hasT t m)) ∧ Below w.heap.size w w' := by
  intro t u w μ hμ hk hs
  have ho := hk.one
  refine call_intro (args := [.agg (encT t u).toArray, .int .i64 m]) Tryz.func87 rfl Tryz.ntmps87 (by simp) hμ ?_
  repeat' (first | refine KO ?_ | (refine KV (b := by first | ((with_reducible apply v_andI); exact rfl; exact rfl)) (c := ?_)) | refine KI ?_ | refine NB fun b => ?_ | ((refine KB ?_ ?_ <;> intro hp)) | refine KG ?_ | fail)
  all_goals (refine ret_s rfl rfl ?_; simp_all [hasT]; try omega)
theorem simple_spec : NodeP 60 simpleT := by
  intro t u w μ hμ hk hs hss
  have ho := hk.one
  refine call_intro (args := [.agg (encT t u).toArray]) Tryz.func60 rfl Tryz.ntmps60 (by simp) hμ ?_
  repeat' (first | refine KK ?_ | refine NB fun b => ?_ | ((refine KB ?_ ?_ <;> intro hp)) | refine KG ?_ | fail)
  all_goals (refine ret_s rfl rfl ?_; simp_all [simpleT]; try omega)
theorem target_spec : NodeP 61 targetT := by
  intro t u w μ hμ hk hs hss
  have ho := hk.one
  refine call_intro (args := [.agg (encT t u).toArray]) Tryz.func61 rfl Tryz.ntmps61 (by simp) hμ ?_
  repeat' (first | refine KO ?_ | ((with_reducible apply F1 60); exact rfl; exact EN; (exact fun w μc hw hse => simple_spec t u w μc hw (hk.mono hse.le) hs hss)) | refine KI ?_ | refine NB fun b => ?_ | ((refine KB ?_ ?_ <;> intro hp)) | refine KG ?_ | fail)
  all_goals (refine ret_s rfl rfl ?_; simp_all [targetT]; try omega)
theorem link_spec : NodeP 28 linkT := by
  intro t u w μ hμ hk hs hss
  have ho := hk.one
  refine call_intro (args := [.agg (encT t u).toArray]) Tryz.func28 rfl Tryz.ntmps28 (by simp) hμ ?_
  repeat' (first | refine KK ?_ | refine NB fun b => ?_ | ((refine KB ?_ ?_ <;> intro hp)) | refine KG ?_ | fail)
  all_goals (refine ret_s rfl rfl ?_; simp_all [linkT]; try omega)
theorem statement_spec : NodeP 65 stmtT := by
  intro t u w μ hμ hk hs hss
  have ho := hk.one
  refine call_intro (args := [.agg (encT t u).toArray]) Tryz.func65 rfl Tryz.ntmps65 (by simp) hμ ?_
  repeat' (first | refine KO ?_ | ((with_reducible apply F1 87); exact rfl; exact EN; (exact fun w μc hw hse => tHas_spec 1 t u w μc hw (hk.mono hse.le) hs)) | refine KI ?_ | refine NB fun b => ?_ | ((refine KB ?_ ?_ <;> intro hp)) | refine KG ?_ | fail)
  all_goals (refine ret_s rfl rfl ?_; simp_all [stmtT]; try omega)
theorem expression_spec : NodeP 55 exprT := by
  intro t u w μ hμ hk hs hss
  have ho := hk.one
  refine call_intro (args := [.agg (encT t u).toArray]) Tryz.func55 rfl Tryz.ntmps55 (by simp) hμ ?_
  repeat' (first | refine KO ?_ | ((with_reducible apply F1 87); exact rfl; exact EN; (exact fun w μc hw hse => tHas_spec 57 t u w μc hw (hk.mono hse.le) hs)) | refine KI ?_ | refine NB fun b => ?_ | ((refine KB ?_ ?_ <;> intro hp)) | refine KG ?_ | fail)
  all_goals (refine ret_s rfl rfl ?_; simp_all [exprT]; try omega)
theorem method_spec : NodeP 99 methT := by
  intro t u w μ hμ hk hs hss
  have ho := hk.one
  refine call_intro (args := [.agg (encT t u).toArray]) Tryz.func99 rfl Tryz.ntmps99 (by simp) hμ ?_
  repeat' (first | refine KO ?_ | ((with_reducible apply F1 87); exact rfl; exact EN; (exact fun w μc hw hse => tHas_spec 8 t u w μc hw (hk.mono hse.le) hs)) | refine KI ?_ | refine NB fun b => ?_ | ((refine KB ?_ ?_ <;> intro hp)) | refine KG ?_ | fail)
  all_goals (refine ret_s rfl rfl ?_; simp_all [methT]; try omega)
theorem len0_nil {t : T} {n : Nat} (h : t.kids = []) : len0 t n = false := by unfold len0; rw [h]
theorem len0_cons {t k : T} {r : List T} {n : Nat} (h : t.kids = k :: r) : len0 t n = decide (k.kids.length = n) := by unfold len0; rw [h]
theorem getter_spec : NodeP 97 getT := by
  intro t u w μ hμ hk hs hss
  have ho := hk.one
  obtain ⟨A, c, rfl, hlc, hkid⟩ := hk.form
  have hlen := kidsLe t
  refine call_intro (args := [.agg (encT t (.slice A t.kids.length c)).toArray]) Tryz.func97 rfl Tryz.ntmps97 (by simp) hμ ?_
  have hh : ∀ (w : World) (μc : Mem), MOk μc w → MLe μ μc → Calls Tryz.prog 87 #[.agg (encT t (.slice A t.kids.length c)).toArray, .int .i64 16] w fun e w' => e = .returned (.bool (hasT t 16)) ∧ Below w.heap.size w w' := fun w μc hw hle => tHas_spec 16 t _ w μc hw (hk.mono hle) hs
  by_cases h0 : t.kids.length = 0
  · have hg : getT t = false := by
      unfold getT
      rw [len0_nil (List.eq_nil_of_length_eq_zero h0), Bool.and_false]
    rw [hg]
    repeat' (first | refine KO ?_ | ((with_reducible apply F1 87); exact rfl; exact EN; (exact fun w μc hw hse => hh w μc hw hse.le)) | refine KI ?_ | refine NB fun b => ?_ | ((refine KB ?_ ?_ <;> intro hp)) | refine KG ?_ | fail)
    all_goals (refine ret_s rfl rfl ?_; simp_all)
  · obtain ⟨k, r, hkr⟩ := List.exists_cons_of_ne_nil (l := t.kids) (by intro e; rw [e] at h0; exact h0 rfl)
    obtain ⟨ad, x, rfl, hm, hox, hkx⟩ := hkid 0 k (by rw [hkr]; rfl)
    obtain ⟨A2, c2, rfl, hlc2, -⟩ := hkx.form
    have hsz := T.size_kid (t := t) (i := 0) (k := k) (by rw [hkr]; rfl)
    have hlk := kidsLe k
    have hg : getT t = (hasT t 16 && decide (k.kids.length = 0)) := by
      unfold getT
      rw [len0_cons hkr]
    rw [hg]
    repeat' (first | refine KO ?_ | ((with_reducible apply F1 87); exact rfl; exact EN; (exact fun w μc hw hse => hh w μc hw hse.le)) | (refine KV (b := by first | exact U1 0 | exact U4 hm) (c := ?_)) | refine KI ?_ | refine NB fun b => ?_ | ((refine KB ?_ ?_ <;> intro hp)) | refine KG ?_ | fail)
    all_goals (refine ret_s rfl rfl ?_; simp_all)
theorem set0_nil {t : T} (h : t.kids = []) : set0 t = false := by unfold set0; rw [h]
theorem set0_ne {t k : T} {r : List T} (h : t.kids = k :: r) (hk : k.kids.length ≠ 1) : set0 t = false := by
  unfold set0
  rw [h]
  match hm : k.kids with
  | [] => simp [hm]
  | [x] => rw [hm] at hk; exact absurd rfl hk
  | _ :: _ :: _ => simp [hm]
theorem set0_one {t k x : T} {r : List T} (h : t.kids = k :: r) (hk : k.kids = [x]) : set0 t = decide (x.op ≠ 64) := by
  unfold set0
  rw [h]
  simp only [hk]
theorem setter_spec : NodeP 98 setT := by
  intro t u w μ hμ hk hs hss
  have ho := hk.one
  obtain ⟨A, c, rfl, hlc, hkid⟩ := hk.form
  have hlen := kidsLe t
  refine call_intro (args := [.agg (encT t (.slice A t.kids.length c)).toArray]) Tryz.func98 rfl Tryz.ntmps98 (by simp) hμ ?_
  have hh : ∀ (w : World) (μc : Mem), MOk μc w → MLe μ μc → Calls Tryz.prog 87 #[.agg (encT t (.slice A t.kids.length c)).toArray, .int .i64 32] w fun e w' => e = .returned (.bool (hasT t 32)) ∧ Below w.heap.size w w' := fun w μc hw hle => tHas_spec 32 t _ w μc hw (hk.mono hle) hs
  by_cases h0 : t.kids.length = 0
  · have hg : setT t = false := by
      unfold setT
      rw [set0_nil (List.eq_nil_of_length_eq_zero h0), Bool.and_false]
    rw [hg]
    repeat' (first | refine KO ?_ | ((with_reducible apply F1 87); exact rfl; exact EN; (exact fun w μc hw hse => hh w μc hw hse.le)) | refine KI ?_ | refine NB fun b => ?_ | ((refine KB ?_ ?_ <;> intro hp)) | refine KG ?_ | fail)
    all_goals (refine ret_s rfl rfl ?_; simp_all)
  · obtain ⟨k, r, hkr⟩ := List.exists_cons_of_ne_nil (l := t.kids) (by intro e; rw [e] at h0; exact h0 rfl)
    obtain ⟨ad, x, rfl, hm, hox, hkx⟩ := hkid 0 k (by rw [hkr]; rfl)
    obtain ⟨A2, c2, rfl, hlc2, hkid2⟩ := hkx.form
    have hsz := T.size_kid (t := t) (i := 0) (k := k) (by rw [hkr]; rfl)
    have hlk := kidsLe k
    by_cases h1 : k.kids.length = 1
    · obtain ⟨y, hy⟩ := List.length_eq_one_iff.1 h1
      obtain ⟨ad2, x2, rfl, hm2, hox2, hkx2⟩ := hkid2 0 y (by rw [hy]; rfl)
      have hg : setT t = (hasT t 32 && decide (y.op ≠ 64)) := by
        unfold setT
        rw [set0_one hkr hy]
      rw [hg]
      repeat' (first | refine KO ?_ | ((with_reducible apply F1 87); exact rfl; exact EN; (exact fun w μc hw hse => hh w μc hw hse.le)) | (refine KV (b := by first | exact U1 0 | exact U4 hm | exact U4 hm2) (c := ?_)) | refine KI ?_ | refine NB fun b => ?_ | ((refine KB ?_ ?_ <;> intro hp)) | refine KG ?_ | fail)
      all_goals (refine ret_s rfl rfl ?_; simp_all)
    · have hg : setT t = false := by
        unfold setT
        rw [set0_ne hkr h1, Bool.and_false]
      rw [hg]
      repeat' (first | refine KO ?_ | ((with_reducible apply F1 87); exact rfl; exact EN; (exact fun w μc hw hse => hh w μc hw hse.le)) | (refine KV (b := by first | exact U1 0 | exact U4 hm) (c := ?_)) | refine KI ?_ | refine NB fun b => ?_ | ((refine KB ?_ ?_ <;> intro hp)) | refine KG ?_ | fail)
      all_goals (refine ret_s rfl rfl ?_; simp_all; try omega)
theorem left_spec : NodeP 67 leftT := by
  intro t u w μ hμ hk hs hss
  have ho := hk.one
  obtain ⟨A, c, rfl, hlc, hkid⟩ := hk.form
  have hlen := kidsLe t
  refine call_intro (args := [.agg (encT t (.slice A t.kids.length c)).toArray]) Tryz.func67 rfl Tryz.ntmps67 (by simp) hμ ?_
  have hh : ∀ (w : World) (μc : Mem), MOk μc w → MLe μ μc → Calls Tryz.prog 61 #[.agg (encT t (.slice A t.kids.length c)).toArray] w fun e w' => e = .returned (.bool (targetT t)) ∧ Below w.heap.size w w' := fun w μc hw hle => target_spec t _ w μc hw (hk.mono hle) hs hss
  by_cases h0 : t.kids.length = 1
  · obtain ⟨k, hkr⟩ := List.length_eq_one_iff.1 h0
    obtain ⟨ad, x, rfl, hm, hox, hkx⟩ := hkid 0 k (by rw [hkr]; rfl)
    obtain ⟨A2, c2, rfl, hlc2, -⟩ := hkx.form
    have hsz := T.size_kid (t := t) (i := 0) (k := k) (by rw [hkr]; rfl)
    have hlk := kidsLe k
    have hg : leftT t = (targetT t || decide (t.op = 2) && decide (k.kids.length = 1)) := by
      unfold leftT
      rw [len0_cons hkr, h0]
      simp
    rw [hg]
    repeat' (first | refine KO ?_ | ((with_reducible apply F1 61); exact rfl; exact EN; (exact fun w μc hw hse => hh w μc hw hse.le)) | (refine KV (b := by first | exact U1 0 | exact U4 hm) (c := ?_)) | refine KI ?_ | refine NB fun b => ?_ | ((refine KB ?_ ?_ <;> intro hp)) | refine KG ?_ | fail)
    all_goals (refine ret_s rfl rfl ?_; simp_all; try omega)
  · have hg : leftT t = targetT t := by
      unfold leftT
      rw [decide_eq_false h0]
      simp
    rw [hg]
    repeat' (first | refine KO ?_ | ((with_reducible apply F1 61); exact rfl; exact EN; (exact fun w μc hw hse => hh w μc hw hse.le)) | refine KI ?_ | refine NB fun b => ?_ | ((refine KB ?_ ?_ <;> intro hp)) | refine KG ?_ | fail)
    all_goals (refine ret_s rfl rfl ?_; simp_all; try omega)
theorem form_spec (s : ByteArray) (hs : s.size ≤ 65536) (w : World) (μ : Mem) (hμ : MOk μ w) :
    Calls Tryz.prog 86 #[.string s] w fun e w' => e = .returned (.bool (formB s)) ∧ Below w.heap.size w w' := by
  refine call_intro (args := [.string s]) Tryz.func86 rfl Tryz.ntmps86 (by simp) hμ ?_
  repeat' (first | refine KK ?_ | ((refine KB ?_ ?_ <;> intro hp)) | refine KG ?_ | fail)
  refine gc_loop (ι := Nat) (fun i => i ≤ s.size ∧ ∀ (j : Nat) (c : UInt8), j < i → (bl s)[j]? = some c → okAt j c) (fun i => s.size - i) (fun _ => μ) (fun i => [(8, .int .i64 i), (7, .int .i64 s.size), (0, .string s)]) (fun _ => []) 0 ⟨Nat.zero_le _, fun j _ h => absurd h (by omega)⟩ (fun a w hs => J6 hs) ?_
  rintro i ⟨hi, hok⟩
  by_cases hlt : i < s.size
  · obtain ⟨c, hc1, hc2⟩ := bl_at (s := s) (i := i) hlt
    have hcl := c.toNat_lt
    have hnext : okAt i c → ∀ (j : Nat) (d : UInt8), j < i + 1 → (bl s)[j]? = some d → okAt j d := fun h j d hj hd => by
      rcases Nat.lt_or_ge j i with h1 | h1
      · exact hok j d h1 hd
      · obtain rfl : j = i := by omega
        rw [hc1] at hd
        cases hd
        exact h
    have hbad : ¬okAt i c → formB s = false := fun h => formB_f fun hf => h (hf.2 i c hc1)
    by_cases hk : okAt i c
    · have hb := hnext hk
      unfold okAt LetP DigP at hk
      repeat' (first | refine KO ?_ | (refine KV (b := by first | exact U2 i) (c := ?_)) | refine KI ?_ | ((refine KB ?_ ?_ <;> intro hp)) | refine KG ?_ | fail)
      all_goals first
        | exact J4 (i + 1) ⟨by omega, hb⟩ (by omega)
        | (exfalso; omega)
    · rw [hbad hk]
      unfold okAt LetP DigP at hk
      repeat' (first | refine KO ?_ | (refine KV (b := by first | exact U2 i) (c := ?_)) | refine KI ?_ | ((refine KB ?_ ?_ <;> intro hp)) | refine KG ?_ | fail)
      all_goals first
        | exact ret_s rfl rfl rfl
        | (exfalso; omega)
  · obtain rfl : i = s.size := by omega
    have hall : ∀ (j : Nat) (c : UInt8), (bl s)[j]? = some c → okAt j c := fun j c hc => hok j c (by have := (List.getElem?_eq_some_iff.1 hc).1; rw [bl_len] at this; exact this) hc
    have hg : formB s = decide (s ≠ ⟨#[]⟩) := by
      by_cases h : s = ⟨#[]⟩
      · rw [formB_f fun hf => hf.1 (by rw [h]), h]
        simp
      · rw [formB_t ⟨fun e => h (bl_inj e), hall⟩]
        simp [h]
    rw [hg]
    repeat' (first | refine KK ?_ | ((refine KB ?_ ?_ <;> intro hp)) | refine KG ?_ | fail)
    exact ret_s rfl rfl rfl
theorem named_spec : NodeP 100 namedT := by
  intro t u w μ hμ hk hs hss
  have ho := hk.one
  refine call_intro (args := [.agg (encT t u).toArray]) Tryz.func100 rfl Tryz.ntmps100 (by simp) hμ ?_
  repeat' (first | refine KO ?_ | ((with_reducible apply F1 86); exact rfl; exact EN; (exact fun w μc hw hse => form_spec t.s hss w μc hw)) | refine KI ?_ | refine NB fun b => ?_ | ((refine KB ?_ ?_ <;> intro hp)) | refine KG ?_ | fail)
  all_goals (refine ret_s rfl rfl ?_; simp_all [namedT])
end Go.Proofs.YtfabmichdhbiaaaGreatDoor
namespace Go.Proofs.YtfabmichdhbiaaaGreatDoor
open Go.RowKit Go.Vcg
def Cls (μ : Mem) (v : Value) (p : T → Bool) : Prop := ∃ (f : FuncId) (cap : List Value), v = .func (.func f) #[] cap.toArray ∧ callable Tryz.prog f = true ∧ ∀ (t : T) (u : Value) (w : World) (μ' : Mem), MOk μ' w → MLe μ μ' → KR μ' t.kids u → t.size ≤ 100000 → t.s.size ≤ 65536 →
  Calls Tryz.prog f ([Value.agg (encT t u).toArray] ++ cap).toArray w fun e w' => e = .returned (.bool (p t)) ∧ Below w.heap.size w w'
theorem Cls.mono {μ μ' : Mem} {v : Value} {p : T → Bool} (h : Cls μ v p) (hle : MLe μ μ') : Cls μ' v p := by
  obtain ⟨f, cap, h1, h2, h3⟩ := h
  exact ⟨f, cap, h1, h2, fun t u w μ2 hw hl => h3 t u w μ2 hw (hle.trans hl)⟩
theorem Cls.of {f : FuncId} {p : T → Bool} (h : NodeP f p) (hf : callable Tryz.prog f = true) (μ : Mem) : Cls μ (.func (.func f) #[] #[]) p :=
  ⟨f, [], rfl, hf, fun t u w μ' hw _ hk hs hss => h t u w μ' hw hk hs hss⟩
abbrev encIn (x : Int) : List Value := [.int .i64 x]
abbrev encV (v : Value) : List Value := [v]
def firstT (qs : List Bool) : Int := match qs.findIdx? id with | some i => i | none => -1
theorem firstT_at {qs : List Bool} {k : Nat} (h : qs[k]? = some true) (hn : ∀ (j : Nat) (q : Bool), j < k → qs[j]? = some q → q = false) : firstT qs = k := by
  have hlt := (List.getElem?_eq_some_iff.1 h).1
  have : qs.findIdx? id = some k := by
    rw [List.findIdx?_eq_some_iff_getElem]
    refine ⟨hlt, ?_, fun j hj => ?_⟩
    · have := (List.getElem?_eq_some_iff.1 h).2
      simp [this]
    · have := hn j _ hj (List.getElem?_eq_getElem (by omega))
      simp [this]
  unfold firstT
  rw [this]
theorem firstT_none {qs : List Bool} (hn : ∀ (j : Nat) (q : Bool), qs[j]? = some q → q = false) : firstT qs = -1 := by
  have : qs.findIdx? id = none := by
    rw [List.findIdx?_eq_none_iff]
    intro x hx
    obtain ⟨i, hi⟩ := List.mem_iff_getElem?.1 hx
    exact hn i x hi
  unfold firstT
  rw [this]
theorem firstT_any (qs : List Bool) : decide (0 ≤ firstT qs) = qs.any id := by
  unfold firstT
  cases h : qs.findIdx? id with
  | none =>
    rw [List.findIdx?_eq_none_iff] at h
    simp only [show ¬(0 : Int) ≤ -1 by omega, decide_false]
    symm
    rw [List.any_eq_false]
    intro x hx
    simpa using h x hx
  | some i =>
    rw [List.findIdx?_eq_some_iff_getElem] at h
    obtain ⟨h1, h2, -⟩ := h
    have : (0 : Int) ≤ (i : Int) := by omega
    simp only [this, decide_true]
    symm
    rw [List.any_eq_true]
    exact ⟨qs[i], List.getElem_mem h1, h2⟩
theorem any_mem (is : List Int) (x : Int) : (is.map fun y => decide (x = y)).any id = decide (x ∈ is) := by
  induction is with
  | nil => rfl
  | cons y r ih => simp only [List.map_cons, List.any_cons, ih, id_eq, List.mem_cons, Bool.decide_or]
attribute [local irreducible] G GC GQ GA GAop Calls IntKind.wrap Int.decLt Int.decLe
theorem index_spec (x : Int) (is : List Int) (A : Option Addr) (n c : Nat) (w : World) (μ : Mem) (hμ : MOk μ w) (hS : Sl encIn 1 μ A n is) (hn : n ≤ 100000) :
    Calls Tryz.prog 111 #[.slice A n c, .int .i64 x] w fun e w' => e = .returned (.int .i64 (firstT (is.map fun y => decide (x = y)))) ∧ Below w.heap.size w w' := by
  refine call_intro (args := [.slice A n c, .int .i64 x]) Tryz.func111 rfl Tryz.ntmps111 (by simp) hμ ?_
  have hqn : (is.map fun y => decide (x = y)).length = n := by rw [List.length_map]; exact hS.1
  repeat' (first | refine KK ?_ | ((refine KB ?_ ?_ <;> intro hp)) | refine KG ?_ | fail)
  refine gc_loop (ι := Nat) (fun k => k ≤ n ∧ ∀ (j : Nat) (q : Bool), j < k → (is.map fun y => decide (x = y))[j]? = some q → q = false) (fun k => n - k) (fun _ => μ) (fun k => [(8, .int .i64 k), (7, .int .i64 n), (6, .slice A n c), (0, .slice A n c), (1, .int .i64 x)]) (fun _ => []) 0 ⟨by omega, fun j _ h => absurd h (by omega)⟩ (fun a w hs => J6 hs) ?_
  rintro k ⟨hk, hf⟩
  by_cases hlt : k < n
  · have hqk : (is.map fun y => decide (x = y))[k]? = some ((is.map fun y => decide (x = y))[k]'(by omega)) := List.getElem?_eq_getElem (by omega)
    generalize (is.map fun y => decide (x = y))[k]'(by omega) = q at hqk
    have hnext : q = false → ∀ (j : Nat) (q : Bool), j < k + 1 → (is.map fun y => decide (x = y))[j]? = some q → q = false := fun h j p hj hp => by
      rcases Nat.lt_or_ge j k with h1 | h1
      · exact hf j p h1 hp
      · obtain rfl : j = k := by omega
        rw [hqk] at hp
        cases hp
        exact h
    obtain ⟨ad, y, rfl, hy, hm⟩ := hS.get hlt
    have hqv : q = decide (x = y) := by
      rw [List.getElem?_map, hy] at hqk
      exact (Option.some.inj hqk).symm
    cases hq : q
    · have hb := hnext hq
      rw [hq] at hqv
      have hne : ¬ x = y := of_decide_eq_false hqv.symm
      repeat' (first | refine KO ?_ | (refine KV (b := by first | exact U1 k | exact U3 (hm.at 0 rfl)) (c := ?_)) | refine KI ?_ | ((refine KB ?_ ?_ <;> intro hp)) | refine KG ?_ | fail)
      all_goals first | exact J4 (k + 1) ⟨by omega, hb⟩ (by omega) | exact absurd ‹x = y› hne
    · rw [hq] at hqv hqk
      have he : x = y := of_decide_eq_true hqv.symm
      repeat' (first | refine KO ?_ | (refine KV (b := by first | exact U1 k | exact U3 (hm.at 0 rfl)) (c := ?_)) | refine KI ?_ | ((refine KB ?_ ?_ <;> intro hp)) | refine KG ?_ | fail)
      all_goals first | (refine ret_s rfl rfl ?_; rw [firstT_at hqk hf]) | exact absurd he ‹¬x = y›
  · repeat' (first | refine KK ?_ | ((refine KB ?_ ?_ <;> intro hp)) | refine KG ?_ | fail)
    refine ret_s rfl rfl ?_
    rw [firstT_none fun j q hq => hf j q (by have := (List.getElem?_eq_some_iff.1 hq).1; omega) hq]
theorem contains_spec (x : Int) (is : List Int) (A : Option Addr) (n c : Nat) (w : World) (μ : Mem) (hμ : MOk μ w) (hS : Sl encIn 1 μ A n is) (hn : n ≤ 100000) :
    Calls Tryz.prog 95 #[.slice A n c, .int .i64 x] w fun e w' => e = .returned (.bool (decide (x ∈ is))) ∧ Below w.heap.size w w' := by
  refine call_intro (args := [.slice A n c, .int .i64 x]) Tryz.func95 rfl Tryz.ntmps95 (by simp) hμ ?_
  rw [← any_mem, ← firstT_any]
  repeat' (first | refine KO ?_ | ((with_reducible apply C1); exact rfl; exact EN; exact fun w μc hw hse => index_spec x is A n c w μc hw (hS.mono hse.le) hn) | refine KI ?_ | ((refine KB ?_ ?_ <;> intro hp)) | refine KG ?_ | fail)
  exact ret_s rfl rfl rfl
theorem indexN_spec (f : FuncId) (cap : List Value) (q1 : T → Bool) (ks : List T) (A : Option Addr) (n c : Nat) (w : World) (μ : Mem) (hμ : MOk μ w) (hcal : callable Tryz.prog f = true) (hk : KR μ ks (.slice A n c)) (hkn : ks.length = n) (hf1 : ∀ (t : T) (u : Value) (w : World) (μ' : Mem), t ∈ ks → MOk μ' w → MLe μ μ' → KR μ' t.kids u → Calls Tryz.prog f ([Value.agg (encT t u).toArray] ++ cap).toArray w fun e w' => e = .returned (.bool (q1 t)) ∧ Below w.heap.size w w') (hn : n ≤ 100000) :
    Calls Tryz.prog 109 #[.slice A n c, .func (.func f) #[] cap.toArray] w fun e w' => e = .returned (.int .i64 (firstT (ks.map q1))) ∧ Below w.heap.size w w' := by
  refine call_intro (args := [.slice A n c, .func (.func f) #[] cap.toArray]) Tryz.func109 rfl Tryz.ntmps109 (by simp) hμ ?_
  have hget : ∀ (i : Nat) (t : T), ks[i]? = some t → ∃ a u, A = some a ∧ MCells μ (a.add (i * 6)) (encT t u) ∧ u.oneCell' = true ∧ KR μ t.kids u := by
    obtain ⟨A', c', e, _, hg⟩ := hk.form
    cases e
    exact hg
  have hqn : (ks.map q1).length = n := by rw [List.length_map]; exact hkn
  repeat' (first | refine KK ?_ | ((refine KB ?_ ?_ <;> intro hp)) | refine KG ?_ | fail)
  refine gc_loop (ι := Nat) (fun k => k ≤ n ∧ ∀ (j : Nat) (q : Bool), j < k → (ks.map q1)[j]? = some q → q = false) (fun k => n - k) (fun _ => μ) (fun k => [(8, .int .i64 k), (7, .int .i64 n), (6, .slice A n c), (0, .slice A n c), (1, .func (.func f) #[] cap.toArray)]) (fun _ => []) 0 ⟨by omega, fun j _ h => absurd h (by omega)⟩ (fun a w hs => J6 hs) ?_
  rintro k ⟨hk, hf⟩
  by_cases hlt : k < n
  · have hqk : (ks.map q1)[k]? = some ((ks.map q1)[k]'(by omega)) := List.getElem?_eq_getElem (by omega)
    generalize (ks.map q1)[k]'(by omega) = q at hqk
    have hnext : q = false → ∀ (j : Nat) (q : Bool), j < k + 1 → (ks.map q1)[j]? = some q → q = false := fun h j p hj hp => by
      rcases Nat.lt_or_ge j k with h1 | h1
      · exact hf j p h1 hp
      · obtain rfl : j = k := by omega
        rw [hqk] at hp
        cases hp
        exact h
    have hkk : ks[k]? = some ks[k] := List.getElem?_eq_getElem (by omega)
    generalize ks[k] = t at hkk
    obtain ⟨ad, x, rfl, hm, ho, hkx⟩ := hget k t hkk
    have hqv : q = q1 t := by
      rw [List.getElem?_map, hkk] at hqk
      exact (Option.some.inj hqk).symm
    have hc := fun (w : World) (μc : Mem) (hw : MOk μc w) (hle : MLe μ μc) => hf1 t x w μc (List.mem_of_getElem? hkk) hw hle (hkx.mono hle)
    rw [← hqv] at hc
    cases hq : q
    · have hb := hnext hq
      rw [hq] at hc
      repeat' (first | refine KO ?_ | ((with_reducible apply C1); exact rfl; exact EN; exact fun w μc hw hse => hc w μc hw hse.le) | (refine KV (b := by first | exact U1 k | exact U4 hm) (c := ?_)) | refine KI ?_ | ((refine KB ?_ ?_ <;> intro hp)) | refine KG ?_ | fail)
      exact J4 (k + 1) ⟨by omega, hb⟩ (by omega)
    · rw [hq] at hc hqk
      repeat' (first | refine KO ?_ | ((with_reducible apply C1); exact rfl; exact EN; exact fun w μc hw hse => hc w μc hw hse.le) | (refine KV (b := by first | exact U1 k | exact U4 hm) (c := ?_)) | refine KI ?_ | ((refine KB ?_ ?_ <;> intro hp)) | refine KG ?_ | fail)
      refine ret_s rfl rfl ?_
      rw [firstT_at hqk hf]
  · repeat' (first | refine KK ?_ | ((refine KB ?_ ?_ <;> intro hp)) | refine KG ?_ | fail)
    refine ret_s rfl rfl ?_
    rw [firstT_none fun j q hq => hf j q (by have := (List.getElem?_eq_some_iff.1 hq).1; omega) hq]
theorem indexC_spec (f : FuncId) (cap : List Value) (qs : List Bool) (vs : List Value) (A : Option Addr) (n c : Nat) (w : World) (μ : Mem) (hμ : MOk μ w) (hcal : callable Tryz.prog f = true) (hS : Sl encV 1 μ A n vs) (hone : ∀ v ∈ vs, v.oneCell' = true) (hql : qs.length = n) (hf1 : ∀ (i : Nat) (v : Value) (q : Bool) (w : World) (μ' : Mem), vs[i]? = some v → qs[i]? = some q → MOk μ' w → MLe μ μ' → Calls Tryz.prog f ([v] ++ cap).toArray w fun e w' => e = .returned (.bool q) ∧ Below w.heap.size w w') (hn : n ≤ 100000) :
    Calls Tryz.prog 110 #[.slice A n c, .func (.func f) #[] cap.toArray] w fun e w' => e = .returned (.int .i64 (firstT (qs))) ∧ Below w.heap.size w w' := by
  refine call_intro (args := [.slice A n c, .func (.func f) #[] cap.toArray]) Tryz.func110 rfl Tryz.ntmps110 (by simp) hμ ?_
  have hqn : (qs).length = n := by exact hql
  repeat' (first | refine KK ?_ | ((refine KB ?_ ?_ <;> intro hp)) | refine KG ?_ | fail)
  refine gc_loop (ι := Nat) (fun k => k ≤ n ∧ ∀ (j : Nat) (q : Bool), j < k → (qs)[j]? = some q → q = false) (fun k => n - k) (fun _ => μ) (fun k => [(8, .int .i64 k), (7, .int .i64 n), (6, .slice A n c), (0, .slice A n c), (1, .func (.func f) #[] cap.toArray)]) (fun _ => []) 0 ⟨by omega, fun j _ h => absurd h (by omega)⟩ (fun a w hs => J6 hs) ?_
  rintro k ⟨hk, hf⟩
  by_cases hlt : k < n
  · have hqk : (qs)[k]? = some ((qs)[k]'(by omega)) := List.getElem?_eq_getElem (by omega)
    generalize (qs)[k]'(by omega) = q at hqk
    have hnext : q = false → ∀ (j : Nat) (q : Bool), j < k + 1 → (qs)[j]? = some q → q = false := fun h j p hj hp => by
      rcases Nat.lt_or_ge j k with h1 | h1
      · exact hf j p h1 hp
      · obtain rfl : j = k := by omega
        rw [hqk] at hp
        cases hp
        exact h
    obtain ⟨ad, v, rfl, hv, hm⟩ := hS.get hlt
    have ho := hone v (List.mem_of_getElem? hv)
    have hc := fun (w : World) (μc : Mem) (hw : MOk μc w) (hle : MLe μ μc) => hf1 k v q w μc hv hqk hw hle
    cases hq : q
    · have hb := hnext hq
      rw [hq] at hc
      repeat' (first | refine KO ?_ | ((with_reducible apply C1); exact rfl; exact EN; exact fun w μc hw hse => hc w μc hw hse.le) | (refine KV (b := by first | exact U1 k | exact U3 (hm.at 0 rfl)) (c := ?_)) | refine KI ?_ | ((refine KB ?_ ?_ <;> intro hp)) | refine KG ?_ | fail)
      exact J4 (k + 1) ⟨by omega, hb⟩ (by omega)
    · rw [hq] at hc hqk
      repeat' (first | refine KO ?_ | ((with_reducible apply C1); exact rfl; exact EN; exact fun w μc hw hse => hc w μc hw hse.le) | (refine KV (b := by first | exact U1 k | exact U3 (hm.at 0 rfl)) (c := ?_)) | refine KI ?_ | ((refine KB ?_ ?_ <;> intro hp)) | refine KG ?_ | fail)
      refine ret_s rfl rfl ?_
      rw [firstT_at hqk hf]
  · repeat' (first | refine KK ?_ | ((refine KB ?_ ?_ <;> intro hp)) | refine KG ?_ | fail)
    refine ret_s rfl rfl ?_
    rw [firstT_none fun j q hq => hf j q (by have := (List.getElem?_eq_some_iff.1 hq).1; omega) hq]
end Go.Proofs.YtfabmichdhbiaaaGreatDoor
namespace Go.Proofs.YtfabmichdhbiaaaGreatDoor
open Go.RowKit Go.Vcg
theorem sh_cell {b t sz i : Nat} {cs : Slots} {v : Value} {μ : Mem} (h : Bk.sh (.inl ⟨b, t, sz, cs⟩) μ) (hv : lk cs i = some v) : MCell μ ⟨b, i, none⟩ v :=
  let ⟨arr, h1, _, h3⟩ := h
  ⟨arr, t, (0, 0), h1, rfl, h3 i v hv⟩
theorem node_cell {b ty : Nat} {t : T} {u : Value} {cs : Slots} {μ : Mem} (h : Bk.sh (.inl ⟨b, ty, 6, cs⟩) μ) (hc : LC cs 0 6 (encT t u)) : MCells μ ⟨b, 0, none⟩ (encT t u) := by
  have hS := sl_lit (enc := encTV) (sz := 6) (n := 1) (l := [(t, u)]) h rfl (by simp) (by simpa using hc)
  obtain ⟨a, e, ha⟩ := hS.2 (by omega)
  cases e
  exact ha 0 (t, u) rfl
def fewP (p : T → Bool) (a b : Int) (ks : List T) : Bool := decide (a ≤ (ks.length : Int)) && (decide (b < 0) || decide ((ks.length : Int) ≤ b)) && ks.all p
theorem any_not (p : T → Bool) (ks : List T) : (!(ks.any fun t => !p t)) = ks.all p := by
  induction ks with
  | nil => rfl
  | cons k r ih => simp [List.any_cons, List.all_cons, ← ih]
def ofT (is : List Int) (t : T) : Bool := decide (t.op ∈ is)
attribute [local irreducible] G GC GQ GA GAop Calls IntKind.wrap Int.decLt Int.decLe
theorem containsN_spec (f : FuncId) (cap : List Value) (q1 : T → Bool) (ks : List T) (A : Option Addr) (n c : Nat) (w : World) (μ : Mem) (hμ : MOk μ w) (hcal : callable Tryz.prog f = true) (hk : KR μ ks (.slice A n c)) (hkn : ks.length = n) (hf1 : ∀ (t : T) (u : Value) (w : World) (μ' : Mem), t ∈ ks → MOk μ' w → MLe μ μ' → KR μ' t.kids u → Calls Tryz.prog f ([Value.agg (encT t u).toArray] ++ cap).toArray w fun e w' => e = .returned (.bool (q1 t)) ∧ Below w.heap.size w w') (hn : n ≤ 100000) :
    Calls Tryz.prog 89 #[.slice A n c, .func (.func f) #[] cap.toArray] w fun e w' => e = .returned (.bool (ks.any q1)) ∧ Below w.heap.size w w' := by
  refine call_intro (args := [.slice A n c, .func (.func f) #[] cap.toArray]) Tryz.func89 rfl Tryz.ntmps89 (by simp) hμ ?_
  have h : decide (0 ≤ firstT (ks.map q1)) = ks.any q1 := by rw [firstT_any, List.any_map]; rfl
  rw [← h]
  repeat' (first | refine KO ?_ | ((with_reducible apply C1); exact rfl; exact EN; exact fun w μc hw hse => indexN_spec f cap q1 ks A n c w μc hw hcal (hk.mono hse.le) hkn (fun t u w μ' h1 h2 h3 h4 => hf1 t u w μ' h1 h2 (hse.le.trans h3) h4) hn) | refine KI ?_ | ((refine KB ?_ ?_ <;> intro hp)) | refine KG ?_ | fail)
  exact ret_s rfl rfl rfl
theorem containsC_spec (f : FuncId) (cap : List Value) (qs : List Bool) (vs : List Value) (A : Option Addr) (n c : Nat) (w : World) (μ : Mem) (hμ : MOk μ w) (hcal : callable Tryz.prog f = true) (hS : Sl encV 1 μ A n vs) (hone : ∀ v ∈ vs, v.oneCell' = true) (hql : qs.length = n) (hf1 : ∀ (i : Nat) (v : Value) (q : Bool) (w : World) (μ' : Mem), vs[i]? = some v → qs[i]? = some q → MOk μ' w → MLe μ μ' → Calls Tryz.prog f ([v] ++ cap).toArray w fun e w' => e = .returned (.bool q) ∧ Below w.heap.size w w') (hn : n ≤ 100000) :
    Calls Tryz.prog 92 #[.slice A n c, .func (.func f) #[] cap.toArray] w fun e w' => e = .returned (.bool (qs.any id)) ∧ Below w.heap.size w w' := by
  refine call_intro (args := [.slice A n c, .func (.func f) #[] cap.toArray]) Tryz.func92 rfl Tryz.ntmps92 (by simp) hμ ?_
  rw [← firstT_any]
  repeat' (first | refine KO ?_ | ((with_reducible apply C1); exact rfl; exact EN; exact fun w μc hw hse => indexC_spec f cap qs vs A n c w μc hw hcal (hS.mono hse.le) hone hql (fun i v q w μ' h1 h2 h3 h4 => hf1 i v q w μ' h1 h2 h3 (hse.le.trans h4)) hn) | refine KI ?_ | ((refine KB ?_ ?_ <;> intro hp)) | refine KG ?_ | fail)
  exact ret_s rfl rfl rfl
theorem few1_spec (v : Value) (p : T → Bool) (t : T) (u : Value) (bc : Nat) (w : World) (μ : Mem) (hμ : MOk μ w) (hc : Cls μ v p) (hcell : MCell μ ⟨bc, 0, none⟩ v) (hk : KR μ t.kids u) (hs : t.size ≤ 100000) (hss : t.s.size ≤ 65536) :
    Calls Tryz.prog 90 ([Value.agg (encT t u).toArray] ++ [Value.pointer (some ⟨bc, 0, none⟩)]).toArray w fun e w' => e = .returned (.bool (!p t)) ∧ Below w.heap.size w w' := by
  have ho := hk.one
  obtain ⟨f, cap, rfl, hcal, hf⟩ := hc
  refine call_intro (args := [.agg (encT t u).toArray, .pointer (some ⟨bc, 0, none⟩)]) Tryz.func90 rfl Tryz.ntmps90 (by simp) hμ ?_
  repeat' (first | refine KO ?_ | ((with_reducible apply C1); exact rfl; exact EN; exact fun w μc hw hse => hf t u w μc hw hse.le (hk.mono hse.le) hs hss) | (refine KV (b := by first | ((with_reducible apply v_load_sh); exact rfl; exact rfl; exact hcell)) (c := ?_)) | refine KI ?_ | refine NB fun b => ?_ | ((refine KB ?_ ?_ <;> intro hp)) | refine KG ?_ | fail)
  exact ret_s rfl rfl rfl
theorem few_spec' (p : T → Bool) (v : Value) (x y : Int) (ks : List T) (A : Option Addr) (n c : Nat) (w : World) (μ : Mem) (hμ : MOk μ w) (hc : Cls μ v p) (hk : KR μ ks (.slice A n c)) (hkn : ks.length = n) (hn : n ≤ 100000) (hks : ∀ k ∈ ks, T.size k ≤ 100000 ∧ k.s.size ≤ 65536) :
    Calls Tryz.prog 53 #[.slice A n c, v, .int .i64 x, .int .i64 y] w fun e w' => e = .returned (.bool (fewP p x y ks)) ∧ Below w.heap.size w w' := by
  have hc' := hc
  obtain ⟨f, cap, rfl, hcal, hf⟩ := hc'
  refine call_intro (args := [.slice A n c, .func (.func f) #[] cap.toArray, .int .i64 x, .int .i64 y]) Tryz.func53 rfl Tryz.ntmps53 (by simp) hμ ?_
  repeat' (first | refine KO ?_ | ((with_reducible apply C1); exact rfl; exact EN; exact fun w μc hw hse => containsN_spec 90 [.pointer (some ⟨b, 0, none⟩)] (fun t => !p t) ks A n c w μc hw (by kernel_rfl) (hk.mono hse.le) hkn (fun t u w μ' h1 h2 h3 h4 => few1_spec _ p t u b w μ' h2 (hc.mono (hse.le.trans h3)) ((sh_cell hse.hd rfl).mono h3) h4 (hks t h1).1 (hks t h1).2) hn) | refine KI ?_ | refine NB fun b => ?_ | ((refine KB ?_ ?_ <;> intro hp)) | refine KG ?_ | fail)
  all_goals (refine ret_s rfl rfl ?_; simp_all [fewP, any_not, ← any_not]; try omega)
end Go.Proofs.YtfabmichdhbiaaaGreatDoor
namespace Go.Proofs.YtfabmichdhbiaaaGreatDoor
open Go.RowKit Go.Vcg
def eiT (ps : List (T → Bool)) (t : T) : Bool := ps.any fun p => p t
def Clss (μ : Mem) (vs : List Value) (ps : List (T → Bool)) : Prop := vs.length = ps.length ∧ ∀ (i : Nat) (v : Value) (p : T → Bool), vs[i]? = some v → ps[i]? = some p → Cls μ v p
theorem Clss.mono {μ μ' : Mem} {vs : List Value} {ps : List (T → Bool)} (h : Clss μ vs ps) (hle : MLe μ μ') : Clss μ' vs ps := ⟨h.1, fun i v p hv hp => (h.2 i v p hv hp).mono hle⟩
theorem Clss.nil (μ : Mem) : Clss μ [] [] := ⟨rfl, fun i v p h => by simp at h⟩
theorem Clss.cons {μ : Mem} {v : Value} {p : T → Bool} {vs : List Value} {ps : List (T → Bool)} (h : Cls μ v p) (hr : Clss μ vs ps) : Clss μ (v :: vs) (p :: ps) :=
  ⟨by simp [hr.1], fun i v' p' hv hp => by
    cases i with
    | zero => simp at hv hp; subst hv; subst hp; exact h
    | succ i => exact hr.2 i v' p' (by simpa using hv) (by simpa using hp)⟩
theorem Cls.one {μ : Mem} {v : Value} {p : T → Bool} (h : Cls μ v p) : v.oneCell' = true := by
  obtain ⟨f, cap, rfl, _⟩ := h
  rfl
theorem Clss.one {μ : Mem} {vs : List Value} {ps : List (T → Bool)} (h : Clss μ vs ps) : ∀ v ∈ vs, v.oneCell' = true := fun v hv => by
  obtain ⟨i, hi⟩ := List.mem_iff_getElem?.1 hv
  have hlt := (List.getElem?_eq_some_iff.1 hi).1
  have hlt2 : i < ps.length := by rw [← h.1]; exact hlt
  exact (h.2 i v ps[i] hi (List.getElem?_eq_getElem hlt2)).one
attribute [local irreducible] G GC GQ GA GAop Calls IntKind.wrap Int.decLt Int.decLe
theorem of1_spec (is : List Int) (A : Option Addr) (n c bx : Nat) (t : T) (u : Value) (w : World) (μ : Mem) (hμ : MOk μ w) (hcell : MCell μ ⟨bx, 0, none⟩ (.slice A n c)) (hS : Sl encIn 1 μ A n is) (hn : n ≤ 100000) (hk : KR μ t.kids u) :
    Calls Tryz.prog 94 ([Value.agg (encT t u).toArray] ++ [Value.pointer (some ⟨bx, 0, none⟩)]).toArray w fun e w' => e = .returned (.bool (ofT is t)) ∧ Below w.heap.size w w' := by
  have ho := hk.one
  refine call_intro (args := [.agg (encT t u).toArray, .pointer (some ⟨bx, 0, none⟩)]) Tryz.func94 rfl Tryz.ntmps94 (by simp) hμ ?_
  repeat' (first | refine KO ?_ | ((with_reducible apply C1); exact rfl; exact EN; exact fun w μc hw hse => contains_spec t.op is A n c w μc hw (hS.mono hse.le) hn) | (refine KV (b := by first | ((with_reducible apply v_load_sh); exact rfl; exact rfl; exact hcell)) (c := ?_)) | refine KI ?_ | refine NB fun b => ?_ | ((refine KB ?_ ?_ <;> intro hp)) | refine KG ?_ | fail)
  exact ret_s rfl rfl rfl
def OfPost (p : T → Bool) (μ : Mem) (v : Value) : Prop := Cls μ v p
theorem of_spec (is : List Int) (A : Option Addr) (n c : Nat) (w : World) (μ : Mem) (hμ : MOk μ w) (hS : Sl encIn 1 μ A n is) (hn : n ≤ 100000) :
    Calls Tryz.prog 56 #[.slice A n c] w fun e w' => ∃ v μ', e = .returned v ∧ Grow w w' μ μ' ∧ OfPost (ofT is) μ' v := by
  refine call_intro (args := [.slice A n c]) Tryz.func56 rfl Tryz.ntmps56 (by simp) hμ ?_
  repeat' (first | refine KK ?_ | refine NB fun b => ?_ | ((refine KB ?_ ?_ <;> intro hp)) | refine KG ?_ | fail)
  exact ret_m1 rfl (rv_tmp rfl) (fun μ' hle' hL => ⟨94, [.pointer (some ⟨b, 0, none⟩)], rfl, by kernel_rfl, fun t u w μ2 hw hl hk hs hss => of1_spec is A n c b t u w μ2 hw ((sh_cell (hL _ (List.mem_cons_self ..)) rfl).mono hl) (hS.mono (hle'.trans hl)) hn hk⟩)
theorem either11_spec (v : Value) (p : T → Bool) (t : T) (u : Value) (bn : Nat) (w : World) (μ : Mem) (hμ : MOk μ w) (hc : Cls μ v p) (hm : MCells μ ⟨bn, 0, none⟩ (encT t u)) (hk : KR μ t.kids u) (hs : t.size ≤ 100000) (hss : t.s.size ≤ 65536) :
    Calls Tryz.prog 93 ([v] ++ [Value.pointer (some ⟨bn, 0, none⟩)]).toArray w fun e w' => e = .returned (.bool (p t)) ∧ Below w.heap.size w w' := by
  have ho := hk.one
  obtain ⟨f, cap, rfl, hcal, hf⟩ := hc
  refine call_intro (args := [.func (.func f) #[] cap.toArray, .pointer (some ⟨bn, 0, none⟩)]) Tryz.func93 rfl Tryz.ntmps93 (by simp) hμ ?_
  repeat' (first | refine KO ?_ | ((with_reducible apply C1); exact rfl; exact EN; exact fun w μc hw hse => hf t u w μc hw hse.le (hk.mono hse.le) hs hss) | (refine KV (b := by first | exact U4 hm) (c := ?_)) | refine KI ?_ | ((refine KB ?_ ?_ <;> intro hp)) | refine KG ?_ | fail)
  exact ret_s rfl rfl rfl
theorem either1_spec (vs : List Value) (ps : List (T → Bool)) (A : Option Addr) (n c bx : Nat) (t : T) (u : Value) (w : World) (μ : Mem) (hμ : MOk μ w) (hcell : MCell μ ⟨bx, 0, none⟩ (.slice A n c)) (hS : Sl encV 1 μ A n vs) (hcl : Clss μ vs ps) (hn : n ≤ 100000) (hk : KR μ t.kids u) (hs : t.size ≤ 100000) (hss : t.s.size ≤ 65536) :
    Calls Tryz.prog 91 ([Value.agg (encT t u).toArray] ++ [Value.pointer (some ⟨bx, 0, none⟩)]).toArray w fun e w' => e = .returned (.bool (eiT ps t)) ∧ Below w.heap.size w w' := by
  have ho := hk.one
  have hql : (ps.map fun p => p t).length = n := by rw [List.length_map, ← hcl.1]; exact hS.1
  have h : (ps.map fun p => p t).any id = eiT ps t := by rw [List.any_map]; rfl
  have key : ∀ (bn : Nat) (μc : Mem), MLe μ μc → MCells μc ⟨bn, 0, none⟩ (encT t u) → ∀ (i : Nat) (v : Value) (q : Bool) (w : World) (μ' : Mem), vs[i]? = some v → (ps.map fun p => p t)[i]? = some q → MOk μ' w → MLe μc μ' → Calls Tryz.prog 93 ([v] ++ [Value.pointer (some ⟨bn, 0, none⟩)]).toArray w fun e w' => e = .returned (.bool q) ∧ Below w.heap.size w w' := by
    intro bn μc hle hm i v q w μ' hv hq hw2 hle2
    rw [List.getElem?_map] at hq
    cases hp : ps[i]? with
    | none => rw [hp] at hq; cases hq
    | some p =>
      rw [hp] at hq
      cases hq
      exact either11_spec v p t u bn w μ' hw2 ((hcl.2 i v p hv hp).mono (hle.trans hle2)) (hm.mono hle2) (hk.mono (hle.trans hle2)) hs hss
  refine call_intro (args := [.agg (encT t u).toArray, .pointer (some ⟨bx, 0, none⟩)]) Tryz.func91 rfl Tryz.ntmps91 (by simp) hμ ?_
  rw [← h]
  repeat' (first | refine KO ?_ | ((with_reducible apply C1); exact rfl; exact EN; exact fun w μc hw hse => containsC_spec 93 [.pointer (some ⟨b, 0, none⟩)] (ps.map fun p => p t) vs A n c w μc hw (by kernel_rfl) (hS.mono hse.le) hcl.one hql (key b μc hse.le (node_cell hse.hd (by repeat first | exact lc_nil | refine lc_cons rfl ?_))) hn) | (refine KV (b := by first | ((with_reducible apply v_load_sh); exact rfl; exact rfl; exact hcell)) (c := ?_)) | refine KI ?_ | refine NB fun b => ?_ | ((refine KB ?_ ?_ <;> intro hp)) | refine KG ?_ | fail)
  exact ret_s rfl rfl rfl
theorem either_spec (vs : List Value) (ps : List (T → Bool)) (A : Option Addr) (n c : Nat) (w : World) (μ : Mem) (hμ : MOk μ w) (hS : Sl encV 1 μ A n vs) (hcl : Clss μ vs ps) (hn : n ≤ 100000) :
    Calls Tryz.prog 54 #[.slice A n c] w fun e w' => ∃ v μ', e = .returned v ∧ Grow w w' μ μ' ∧ OfPost (eiT ps) μ' v := by
  refine call_intro (args := [.slice A n c]) Tryz.func54 rfl Tryz.ntmps54 (by simp) hμ ?_
  repeat' (first | refine KK ?_ | refine NB fun b => ?_ | ((refine KB ?_ ?_ <;> intro hp)) | refine KG ?_ | fail)
  exact ret_m1 rfl (rv_tmp rfl) (fun μ' hle' hL => ⟨91, [.pointer (some ⟨b, 0, none⟩)], rfl, by kernel_rfl, fun t u w μ2 hw hl hk hs hss => either1_spec vs ps A n c b t u w μ2 hw ((sh_cell (hL _ (List.mem_cons_self ..)) rfl).mono hl) (hS.mono (hle'.trans hl)) (hcl.mono (hle'.trans hl)) hn hk hs hss⟩)
end Go.Proofs.YtfabmichdhbiaaaGreatDoor
namespace Go.Proofs.YtfabmichdhbiaaaGreatDoor
open Go.RowKit Go.Vcg
abbrev encP (x : Value × Int) : List Value := [x.1, .int .i64 x.2]
attribute [local irreducible] G GC GQ GA GAop Calls IntKind.wrap Int.decLt Int.decLe
theorem each_spec (vs : List Value) (A : Option Addr) (n c : Nat) (w : World) (μ : Mem) (hμ : MOk μ w) (hS : Sl encV 1 μ A n vs) (hone : ∀ v ∈ vs, ∃ (f : FuncId) (cap : List Value), v = .func (.func f) #[] cap.toArray) (hn : n ≤ 100000) :
    Calls Tryz.prog 59 #[.slice A n c] w (RowPost w 79 2 n (vs.flatMap fun v => encP (v, 0))) := by
  refine call_intro (args := [.slice A n c]) Tryz.func59 rfl Tryz.ntmps59 (by simp) hμ ?_
  repeat' (first | refine KK ?_ | refine NB fun b => ?_ | ((refine KB ?_ ?_ <;> intro hp)) | refine KG ?_ | fail)
  refine gc_loop (ι := Nat × Value) (fun i => i.1 ≤ n) (fun i => n - i.1) (fun _ => μ) (fun i => [(8, .int .i64 i.1), (7, .int .i64 n), (6, .slice A n c), (3, i.2)]) (fun i => [.inr ⟨i.2, 79, 2, i.1, (vs.take i.1).flatMap fun v => encP (v, 0)⟩]) (0, .slice none 0 0) (by simp) (fun a w hs => (hs.nilRow 79 2).sub PU (by repeat first | exact List.Sublist.refl _ | exact List.nil_sublist _ | refine List.Sublist.cons_cons _ ?_ | refine List.Sublist.cons _ ?_)) ?_
  rintro ⟨k, v⟩ hk
  have hk' : k ≤ n := hk
  dsimp only
  by_cases hlt : k < n
  · obtain ⟨ad, x, rfl, hx, hm⟩ := hS.get hlt
    obtain ⟨f, cap, rfl⟩ := hone x (List.mem_of_getElem? hx)
    have hs : ((vs.take (k + 1)).flatMap fun v => encP (v, 0)) = ((vs.take k).flatMap fun v => encP (v, 0)) ++ encP (.func (.func f) #[] cap.toArray, 0) := by
      obtain ⟨hk1, he⟩ := List.getElem?_eq_some_iff.1 hx
      rw [List.take_succ_eq_append_getElem hk1, List.flatMap_append, he]
      simp only [List.flatMap_cons, List.flatMap_nil, List.append_nil]
    repeat' (first | refine KO ?_ | (first | ((with_reducible apply g_ap); exact rfl; exact rfl; exact rfl; (repeat first | with_reducible exact rowup_hd | with_reducible apply rowup_tl); (iterate 6 exact rfl); (first | ((with_reducible apply src_in); exact rfl; (repeat first | with_reducible exact inb_hd | with_reducible apply inb_tl); exact rfl)); (first | exact rfl | omega | simp); (first | assumption | (exact ones_mem (by (repeat first | with_reducible exact ones_nil | ((with_reducible apply ones_cons); (first | exact rfl | assumption))))) | simp [Value.oneCell']); omega; omega; intro v) | ((with_reducible apply g_append0); (iterate 9 exact rfl); (first | ((with_reducible apply src_in); exact rfl; (repeat first | with_reducible exact inb_hd | with_reducible apply inb_tl); exact rfl)); (first | exact rfl | omega | simp); (first | assumption | (exact ones_mem (by (repeat first | with_reducible exact ones_nil | ((with_reducible apply ones_cons); (first | exact rfl | assumption))))) | simp [Value.oneCell']); omega; omega; intro v)) | (refine KV (b := by first | exact U1 k | exact U3 (hm.at 0 rfl)) (c := ?_)) | refine KI ?_ | refine NB fun b => ?_ | ((refine KB ?_ ?_ <;> intro hp)) | refine KG ?_ | fail)
    refine gq_back (k + 1, _) (by show k + 1 ≤ n; omega) (by show n - (k + 1) < n - k; omega) rfl PU ?_
    dsimp only
    rw [hs]
    exact (by repeat first | exact List.Sublist.refl _ | exact List.nil_sublist _ | refine List.Sublist.cons _ ?_)
  · repeat' (first | refine KK ?_ | refine NB fun b => ?_ | ((refine KB ?_ ?_ <;> intro hp)) | refine KG ?_ | fail)
    obtain rfl : k = n := by omega
    rw [List.take_of_length_le (by rw [hS.1]; omega)]
    exact ret_row 0 rfl rfl rfl
end Go.Proofs.YtfabmichdhbiaaaGreatDoor
