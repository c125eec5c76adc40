/- The reference's classes of nodes by the node itself. The reference's Is. The reference's rest. The reference's Row. The reference's one, template and chained. The reference's fn. The reference's word. The reference's Fields. The reference's prop, more and Kinds: the patterns of kinds. No statement of the seat is proved here. -/
import Derived.Test.YtllilkcocfalmaaGreatDoorMc
import Derived.Test.YtllilkcocfalmaaGreatDoorSt
import Derived.Test.YtllilkcocfalmaaGreatDoorSel
import Derived.Test.YtllilkcocfalmaaGreatDoorMd
import Derived.Test.YtllilkcocfalmaaGreatDoorMe
set_option maxRecDepth 20000
namespace Go.Proofs.YtllilkcocfalmaaGreatDoor
open Go.RowKit Go.Vcg
def bitT (t : T) (m : Int) : Bool := decide (t.op = 4) && decide (0 ≤ t.n) && decide ((IntKind.i64.wrap (t.n.tdiv m)).tmod 2 = 1)
def rStmtT (t : T) : Bool := decide (t.op = 2) || bitT t 1 || decide (6 ≤ t.op) && decide (t.op ≤ 19) || decide (t.op = 21) || decide (t.op = 23)
def rExprT (t : T) : Bool := if t.op = 4 then !bitT t 1 && !bitT t 8 && !bitT t 16 && !bitT t 32 else decide (30 ≤ t.op) && decide (t.op ≤ 38) || decide (42 ≤ t.op) && decide (t.op ≤ 54)
def loneT (t : T) : Bool := decide (t.op = 2) && decide (t.kids.length = 1) && len0 t 1
attribute [local irreducible] formB G GC GQ GA GAop Calls IntKind.wrap Int.decLt Int.decLe
theorem rBit_spec (m : Int) (hm : m ≠ 0) : ∀ (t : T) (u : Value) (w : World) (μ : Mem), MOk μ w → KR μ t.kids u →
    Calls Tryz.prog 100 #[.agg (encT t u).toArray, .int .i64 m] w fun e w' => e = .returned (.bool (bitT t m)) ∧ Below w.heap.size w w' := by
  intro t u w μ hμ hk
  have ho := hk.one
  refine call_intro (args := [.agg (encT t u).toArray, .int .i64 m]) Tryz.func100 rfl Tryz.ntmps100 (by simp) hμ ?_
  repeat' (first | (refine KO ?_) | ((with_reducible apply g_v); exact rfl; (first | ((with_reducible apply v_quo); exact rfl; exact rfl; exact hm))) | (refine KI ?_) | (refine NB fun b => ?_) | ((refine KB ?_ ?_ <;> intro hp)) | (refine KG ?_) | fail)
  all_goals (refine ret_s rfl rfl ?_; simp_all [bitT]; try omega)
theorem rSimple_spec : NodeP 105 simpleT := by
  intro t u w μ hμ hk hs hss
  have ho := hk.one
  refine call_intro (args := [.agg (encT t u).toArray]) Tryz.func105 rfl Tryz.ntmps105 (by simp) hμ ?_
  repeat' (first | (refine KK ?_) | (refine NB fun b => ?_) | ((refine KB ?_ ?_ <;> intro hp)) | (refine KG ?_) | fail)
  all_goals (refine ret_s rfl rfl ?_; simp_all [simpleT]; try omega)
theorem rTarget_spec : NodeP 104 targetT := by
  intro t u w μ hμ hk hs hss
  have ho := hk.one
  refine call_intro (args := [.agg (encT t u).toArray]) Tryz.func104 rfl Tryz.ntmps104 (by simp) hμ ?_
  repeat' (first | (refine KO ?_) | ((with_reducible apply F1 105); exact rfl; exact EN; (exact fun w μc hw hse => rSimple_spec t u w μc hw (hk.mono hse.le) hs hss)) | (refine KI ?_) | (refine NB fun b => ?_) | ((refine KB ?_ ?_ <;> intro hp)) | (refine KG ?_) | fail)
  all_goals (refine ret_s rfl rfl ?_; simp_all [targetT]; try omega)
theorem rLink_spec : NodeP 40 linkT := by
  intro t u w μ hμ hk hs hss
  have ho := hk.one
  refine call_intro (args := [.agg (encT t u).toArray]) Tryz.func40 rfl Tryz.ntmps40 (by simp) hμ ?_
  repeat' (first | (refine KK ?_) | (refine NB fun b => ?_) | ((refine KB ?_ ?_ <;> intro hp)) | (refine KG ?_) | fail)
  all_goals (refine ret_s rfl rfl ?_; simp_all [linkT]; try omega)
theorem rStmt_spec : NodeP 103 rStmtT := by
  intro t u w μ hμ hk hs hss
  have ho := hk.one
  refine call_intro (args := [.agg (encT t u).toArray]) Tryz.func103 rfl Tryz.ntmps103 (by simp) hμ ?_
  repeat' (first | (refine KO ?_) | ((with_reducible apply F1 100); exact rfl; exact EN; (exact fun w μc hw hse => rBit_spec 1 (by decide) t u w μc hw (hk.mono hse.le))) | (refine KI ?_) | (refine NB fun b => ?_) | ((refine KB ?_ ?_ <;> intro hp)) | (refine KG ?_) | fail)
  all_goals (refine ret_s rfl rfl ?_; simp_all [rStmtT]; try (intros; omega))
theorem rExpr_spec : NodeP 78 rExprT := by
  intro t u w μ hμ hk hs hss
  have ho := hk.one
  refine call_intro (args := [.agg (encT t u).toArray]) Tryz.func78 rfl Tryz.ntmps78 (by simp) hμ ?_
  repeat' (first | (refine KO ?_) | ((with_reducible apply F1 100); exact rfl; exact EN; (exact fun w μc hw hse => rBit_spec _ (by decide) t u w μc hw (hk.mono hse.le))) | (refine KI ?_) | (refine NB fun b => ?_) | ((refine KB ?_ ?_ <;> intro hp)) | (refine KG ?_) | fail)
  all_goals (refine ret_s rfl rfl ?_; simp_all [rExprT]; try (intros; omega))
theorem rLone_spec : NodeP 106 loneT := by
  intro t u w μ hμ hk hs hss
  have ho := hk.one
  obtain ⟨A, c, rfl, hlc, hkid⟩ := hk.form
  have hlen := kidsLe t
  refine call_intro (args := [.agg (encT t (.slice A t.kids.length c)).toArray]) Tryz.func106 rfl Tryz.ntmps106 (by simp) hμ ?_
  by_cases h0 : t.kids.length = 1
  · obtain ⟨k, hkr⟩ := List.length_eq_one_iff.1 h0
    obtain ⟨ad, x, rfl, hm, hox, hkx⟩ := hkid 0 k (by rw [hkr]; rfl)
    obtain ⟨A2, c2, rfl, hlc2, -⟩ := hkx.form
    have hsz := T.size_kid (t := t) (i := 0) (k := k) (by rw [hkr]; rfl)
    have hlk := kidsLe k
    have hg : loneT t = (decide (t.op = 2) && decide (k.kids.length = 1)) := by
      unfold loneT
      rw [len0_cons hkr, h0]
      simp
    rw [hg]
    repeat' (first | (refine KO ?_) | ((with_reducible apply g_v); exact rfl; (first | (exact U1 0) | (exact U4 hm))) | (refine KI ?_) | (refine NB fun b => ?_) | ((refine KB ?_ ?_ <;> intro hp)) | (refine KG ?_) | fail)
    all_goals (refine ret_s rfl rfl ?_; simp_all; try omega)
  · have hg : loneT t = false := by
      unfold loneT
      rw [decide_eq_false h0]
      simp
    rw [hg]
    repeat' (first | (refine KK ?_) | (refine NB fun b => ?_) | ((refine KB ?_ ?_ <;> intro hp)) | (refine KG ?_) | fail)
    all_goals (refine ret_s rfl rfl ?_; simp_all; try omega)
theorem rForm_spec (s : ByteArray) (hs : s.size ≤ 65536) (w : World) (μ : Mem) (hμ : MOk μ w) :
    Calls Tryz.prog 99 #[.string s] w fun e w' => e = .returned (.bool (formB s)) ∧ Below w.heap.size w w' := by
  refine call_intro (args := [.string s]) Tryz.func99 rfl Tryz.ntmps99 (by simp) hμ ?_
  repeat' (first | (refine KK ?_) | ((refine KB ?_ ?_ <;> intro hp)) | (refine KG ?_) | fail)
  refine gc_loop (ι := Nat) (fun i => i ≤ s.size ∧ ∀ (j : Nat) (c : UInt8), j < i → (bl s)[j]? = some c → okAt j c) (fun i => s.size - i) (fun _ => μ) (fun i => [(3, .int .i64 i), (0, .string s)]) (fun _ => []) 0 ⟨Nat.zero_le _, fun j _ h => absurd h (by omega)⟩ (fun a w hs => J6 hs) ?_
  rintro i ⟨hi, hok⟩
  by_cases hlt : i < s.size
  · obtain ⟨c, hc1, hc2⟩ := bl_at (s := s) (i := i) hlt
    have hcl := c.toNat_lt
    have hnext : okAt i c → ∀ (j : Nat) (d : UInt8), j < i + 1 → (bl s)[j]? = some d → okAt j d := fun h j d hj hd => by
      rcases Nat.lt_or_ge j i with h1 | h1
      · exact hok j d h1 hd
      · obtain rfl : j = i := by omega
        rw [hc1] at hd
        cases hd
        exact h
    have hbad : ¬okAt i c → formB s = false := fun h => formB_f fun hf => h (hf.2 i c hc1)
    by_cases hk : okAt i c
    · have hb := hnext hk
      unfold okAt LetP DigP at hk
      repeat' (first | (refine KO ?_) | ((with_reducible apply g_v); exact rfl; (first | (exact U2 i))) | (refine KI ?_) | ((refine KB ?_ ?_ <;> intro hp)) | (refine KG ?_) | fail)
      all_goals first
        | exact J4 (i + 1) ⟨by omega, hb⟩ (by omega)
        | (exfalso; omega)
    · rw [hbad hk]
      unfold okAt LetP DigP at hk
      repeat' (first | (refine KO ?_) | ((with_reducible apply g_v); exact rfl; (first | (exact U2 i))) | (refine KI ?_) | ((refine KB ?_ ?_ <;> intro hp)) | (refine KG ?_) | fail)
      all_goals first
        | exact ret_s rfl rfl rfl
        | (exfalso; omega)
  · obtain rfl : i = s.size := by omega
    have hall : ∀ (j : Nat) (c : UInt8), (bl s)[j]? = some c → okAt j c := fun j c hc => hok j c (by have := (List.getElem?_eq_some_iff.1 hc).1; rw [bl_len] at this; exact this) hc
    have hg : formB s = decide (s ≠ ⟨#[]⟩) := by
      by_cases h : s = ⟨#[]⟩
      · rw [formB_f fun hf => hf.1 (by rw [h]), h]
        simp
      · rw [formB_t ⟨fun e => h (bl_inj e), hall⟩]
        simp [h]
    rw [hg]
    repeat' (first | (refine KK ?_) | ((refine KB ?_ ?_ <;> intro hp)) | (refine KG ?_) | fail)
    exact ret_s rfl rfl rfl
end Go.Proofs.YtllilkcocfalmaaGreatDoor
set_option maxRecDepth 20000
namespace Go.Proofs.YtllilkcocfalmaaGreatDoor
open Go.RowKit Go.Vcg
def opsL : List (Int × Int) := [(68, 3), (80, 5), (66, 6), (75, 22), (82, 39), (81, 62), (90, 64)]
noncomputable def restT (c : Int) (t : T) : Bool :=
  if c = 70 then targetT t || decide (t.op = 63)
  else if c = 72 then targetT t || decide (t.op = 63) || decide (t.op = 40)
  else if c = 107 then decide (t.op = 31) || decide (t.op = 30)
  else if c = 119 then namedT t
  else if c = 103 then bitT t 16 && len0 t 0
  else if c = 115 then bitT t 32 && set0 t
  else if c = 109 then bitT t 8
  else match opsL.find? (fun x => decide (x.1 = c)) with | some x => decide (t.op = x.2) | none => false
noncomputable def isT (c : Int) (t : T) : Bool :=
  if c = 83 then rStmtT t
  else if c = 69 then rExprT t
  else if c = 84 then targetT t
  else if c = 116 then simpleT t
  else if c = 99 then linkT t
  else if c = 73 then decide (t.op = 2) || decide (t.op = 8) || decide (t.op = 7)
  else if c = 77 then rExprT t || decide (t.op = 7)
  else if c = 76 then targetT t || loneT t
  else if c = 89 then decide (t.op = 6) || decide (t.op = 7)
  else if c = 67 then decide (t.op = 20) || decide (t.op = 7)
  else if c = 71 then targetT t || decide (t.op = 7)
  else if c = 65 then rExprT t || decide (t.op = 40) || decide (t.op = 41)
  else if c = 97 then rExprT t || decide (t.op = 41)
  else restT c t
attribute [local irreducible] rStmtT rExprT targetT simpleT linkT loneT namedT bitT restT formB G GC GQ GA GAop Calls IntKind.wrap Int.decLt Int.decLe
theorem is_spec (hrest : ∀ (c : Int) (t : T) (u : Value) (w : World) (μ : Mem), MOk μ w → KR μ t.kids u → t.size ≤ 100000 → t.s.size ≤ 65536 → Calls Tryz.prog 107 #[.int .u8 c, .agg (encT t u).toArray] w fun e w' => e = .returned (.bool (restT c t)) ∧ Below w.heap.size w w') (c : Int) (t : T) (u : Value) (w : World) (μ : Mem) (hμ : MOk μ w) (hk : KR μ t.kids u) (hs : t.size ≤ 100000) (hss : t.s.size ≤ 65536) :
    Calls Tryz.prog 80 #[.int .u8 c, .agg (encT t u).toArray] w fun e w' => e = .returned (.bool (isT c t)) ∧ Below w.heap.size w w' := by
  have ho := hk.one
  refine call_intro (args := [.int .u8 c, .agg (encT t u).toArray]) Tryz.func80 rfl Tryz.ntmps80 (by simp) hμ ?_
  repeat' (first | (refine KO ?_) | ((with_reducible apply F1 103); exact rfl; exact EN; (exact fun w μc hw hse => rStmt_spec t u w μc hw (hk.mono hse.le) hs hss)) | ((with_reducible apply F1 78); exact rfl; exact EN; (exact fun w μc hw hse => rExpr_spec t u w μc hw (hk.mono hse.le) hs hss)) | ((with_reducible apply F1 104); exact rfl; exact EN; (exact fun w μc hw hse => rTarget_spec t u w μc hw (hk.mono hse.le) hs hss)) | ((with_reducible apply F1 105); exact rfl; exact EN; (exact fun w μc hw hse => rSimple_spec t u w μc hw (hk.mono hse.le) hs hss)) | ((with_reducible apply F1 40); exact rfl; exact EN; (exact fun w μc hw hse => rLink_spec t u w μc hw (hk.mono hse.le) hs hss)) | ((with_reducible apply F1 106); exact rfl; exact EN; (exact fun w μc hw hse => rLone_spec t u w μc hw (hk.mono hse.le) hs hss)) | ((with_reducible apply F1 107); exact rfl; exact EN; (exact fun w μc hw hse => hrest c t u w μc hw (hk.mono hse.le) hs hss)) | (refine KI ?_) | (refine NB fun b => ?_) | ((refine KB ?_ ?_ <;> intro hp)) | (refine KG ?_) | fail)
  all_goals (clear hrest hk ho hμ; refine ret_s rfl rfl ?_; simp_all [isT])
end Go.Proofs.YtllilkcocfalmaaGreatDoor
set_option maxRecDepth 20000
namespace Go.Proofs.YtllilkcocfalmaaGreatDoor
open Go.RowKit Go.Vcg
attribute [local irreducible] targetT namedT bitT formB G GC GQ GA GAop Calls IntKind.wrap Int.decLt Int.decLe
theorem re_103 (t : T) (u : Value) (w : World) (μ : Mem) (hμ : MOk μ w) (hk : KR μ t.kids u) (hs : t.size ≤ 100000) (hss : t.s.size ≤ 65536) :
    Calls Tryz.prog 107 #[.int .u8 103, .agg (encT t u).toArray] w fun e w' => e = .returned (.bool (bitT t 16 && len0 t 0)) ∧ Below w.heap.size w w' := by
  have ho := hk.one
  obtain ⟨A, c0, rfl, hlc, hkid⟩ := hk.form
  have hlen := kidsLe t
  refine call_intro (args := [.int .u8 103, .agg (encT t (.slice A t.kids.length c0)).toArray]) Tryz.func107 rfl Tryz.ntmps107 (by simp) hμ ?_
  have hh := fun (m : Int) (hm : m ≠ 0) (w : World) (μc : Mem) (hw : MOk μc w) (hle : MLe μ μc) => rBit_spec m hm t _ w μc hw (hk.mono hle)
  by_cases h0 : t.kids.length = 0
  · rw [len0_nil (List.eq_nil_of_length_eq_zero h0), Bool.and_false]
    repeat' (first | (refine KO ?_) | ((with_reducible apply F1 100); exact rfl; exact EN; (exact fun w μc hw hse => hh 16 (by decide) w μc hw hse.le)) | (refine KI ?_) | (refine NB fun b => ?_) | ((refine KB ?_ ?_ <;> intro hp)) | (refine KG ?_) | fail)
    all_goals first | (exfalso; omega) | (refine ret_s rfl rfl ?_; simp_all)
  · obtain ⟨k, r, hkr⟩ := List.exists_cons_of_ne_nil (l := t.kids) (by intro e; rw [e] at h0; exact h0 rfl)
    obtain ⟨ad, x, rfl, hm, hox, hkx⟩ := hkid 0 k (by rw [hkr]; rfl)
    obtain ⟨A2, c2, rfl, hlc2, -⟩ := hkx.form
    have hsz := T.size_kid (t := t) (i := 0) (k := k) (by rw [hkr]; rfl)
    have hlk := kidsLe k
    rw [len0_cons hkr]
    repeat' (first | (refine KO ?_) | ((with_reducible apply F1 100); exact rfl; exact EN; (exact fun w μc hw hse => hh 16 (by decide) w μc hw hse.le)) | ((with_reducible apply g_v); exact rfl; (first | (exact U1 0) | (exact U4 hm))) | (refine KI ?_) | (refine NB fun b => ?_) | ((refine KB ?_ ?_ <;> intro hp)) | (refine KG ?_) | fail)
    all_goals first | (exfalso; omega) | (refine ret_s rfl rfl ?_; simp_all)
theorem re_115 (t : T) (u : Value) (w : World) (μ : Mem) (hμ : MOk μ w) (hk : KR μ t.kids u) (hs : t.size ≤ 100000) (hss : t.s.size ≤ 65536) :
    Calls Tryz.prog 107 #[.int .u8 115, .agg (encT t u).toArray] w fun e w' => e = .returned (.bool (bitT t 32 && set0 t)) ∧ Below w.heap.size w w' := by
  have ho := hk.one
  obtain ⟨A, c0, rfl, hlc, hkid⟩ := hk.form
  have hlen := kidsLe t
  refine call_intro (args := [.int .u8 115, .agg (encT t (.slice A t.kids.length c0)).toArray]) Tryz.func107 rfl Tryz.ntmps107 (by simp) hμ ?_
  have hh := fun (m : Int) (hm : m ≠ 0) (w : World) (μc : Mem) (hw : MOk μc w) (hle : MLe μ μc) => rBit_spec m hm t _ w μc hw (hk.mono hle)
  by_cases h0 : t.kids.length = 0
  · rw [set0_nil (List.eq_nil_of_length_eq_zero h0), Bool.and_false]
    repeat' (first | (refine KO ?_) | ((with_reducible apply F1 100); exact rfl; exact EN; (exact fun w μc hw hse => hh 32 (by decide) w μc hw hse.le)) | (refine KI ?_) | (refine NB fun b => ?_) | ((refine KB ?_ ?_ <;> intro hp)) | (refine KG ?_) | fail)
    all_goals first | (exfalso; omega) | (refine ret_s rfl rfl ?_; simp_all)
  · obtain ⟨k, r, hkr⟩ := List.exists_cons_of_ne_nil (l := t.kids) (by intro e; rw [e] at h0; exact h0 rfl)
    obtain ⟨ad, x, rfl, hm, hox, hkx⟩ := hkid 0 k (by rw [hkr]; rfl)
    obtain ⟨A2, c2, rfl, hlc2, hkid2⟩ := hkx.form
    have hsz := T.size_kid (t := t) (i := 0) (k := k) (by rw [hkr]; rfl)
    have hlk := kidsLe k
    by_cases h1 : k.kids.length = 1
    · obtain ⟨y, hy⟩ := List.length_eq_one_iff.1 h1
      obtain ⟨ad2, x2, rfl, hm2, hox2, hkx2⟩ := hkid2 0 y (by rw [hy]; rfl)
      rw [set0_one hkr hy]
      repeat' (first | (refine KO ?_) | ((with_reducible apply F1 100); exact rfl; exact EN; (exact fun w μc hw hse => hh 32 (by decide) w μc hw hse.le)) | ((with_reducible apply g_v); exact rfl; (first | (exact U1 0) | (exact U4 hm) | (exact U4 hm2))) | (refine KI ?_) | (refine NB fun b => ?_) | ((refine KB ?_ ?_ <;> intro hp)) | (refine KG ?_) | fail)
      all_goals first | (exfalso; omega) | (refine ret_s rfl rfl ?_; simp_all)
    · rw [set0_ne hkr h1, Bool.and_false]
      repeat' (first | (refine KO ?_) | ((with_reducible apply F1 100); exact rfl; exact EN; (exact fun w μc hw hse => hh 32 (by decide) w μc hw hse.le)) | ((with_reducible apply g_v); exact rfl; (first | (exact U1 0) | (exact U4 hm))) | (refine KI ?_) | (refine NB fun b => ?_) | ((refine KB ?_ ?_ <;> intro hp)) | (refine KG ?_) | fail)
      all_goals first | (exfalso; omega) | (refine ret_s rfl rfl ?_; simp_all; try omega)
def clsS : ByteArray := ⟨#[68, 80, 66, 75, 82, 81, 90]⟩
theorem rest_spec (c : Int) (t : T) (u : Value) (w : World) (μ : Mem) (hμ : MOk μ w) (hk : KR μ t.kids u) (hs : t.size ≤ 100000) (hss : t.s.size ≤ 65536) :
    Calls Tryz.prog 107 #[.int .u8 c, .agg (encT t u).toArray] w fun e w' => e = .returned (.bool (restT c t)) ∧ Below w.heap.size w w' := by
  by_cases h103 : c = 103
  · subst h103
    exact re_103 t u w μ hμ hk hs hss
  by_cases h115 : c = 115
  · subst h115
    exact re_115 t u w μ hμ hk hs hss
  have ho := hk.one
  obtain ⟨A, c0, rfl, hlc, hkid⟩ := hk.form
  have hlen := kidsLe t
  refine call_intro (args := [.int .u8 c, .agg (encT t (.slice A t.kids.length c0)).toArray]) Tryz.func107 rfl Tryz.ntmps107 (by simp) hμ ?_
  have hh := fun (m : Int) (hm : m ≠ 0) (w : World) (μc : Mem) (hw : MOk μc w) (hle : MLe μ μc) => rBit_spec m hm t _ w μc hw (hk.mono hle)
  have ht := fun (w : World) (μc : Mem) (hw : MOk μc w) (hle : MLe μ μc) => rTarget_spec t _ w μc hw (hk.mono hle) hs hss
  by_cases h7 : c = 70 ∨ c = 72 ∨ c = 107 ∨ c = 119 ∨ c = 109
  · repeat' (first | (refine KO ?_) | ((with_reducible apply F1 104); exact rfl; exact EN; (exact fun w μc hw hse => ht w μc hw hse.le)) | ((with_reducible apply F1 99); exact rfl; exact EN; (exact fun w μc hw hse => rForm_spec t.s hss w μc hw)) | ((with_reducible apply F1 100); exact rfl; exact EN; (exact fun w μc hw hse => hh 8 (by decide) w μc hw hse.le)) | (refine KI ?_) | (refine NB fun b => ?_) | ((refine KB ?_ ?_ <;> intro hp)) | (refine KG ?_) | fail)
    all_goals first | (exfalso; omega) | (clear hk ho hμ hh ht hkid; refine ret_s rfl rfl ?_; simp_all [restT, namedT]; done) | skip
  · repeat' (first | ((with_reducible show GC _ _ (Code.seq (Code.region 16 _ _) _) _ _ _ _); (apply gc_stop)) | (refine KO ?_) | ((with_reducible apply F1 104); exact rfl; exact EN; fail) | (refine KI ?_) | (refine NB fun b => ?_) | ((refine KB ?_ ?_ <;> intro hp)) | (refine KG ?_) | fail)
    all_goals try (exfalso; omega)
    rename Nat => ba
    refine gcs ?_
    have hgr : ∀ r : Bool, (match opsL.find? (fun x => decide (x.1 = c)) with | some x => decide (t.op = x.2) | none => false) = r → restT c t = r := fun r h => by
      unfold restT
      rw [if_neg (by omega), if_neg (by omega), if_neg (by omega), if_neg (by omega), if_neg (by omega), if_neg (by omega), if_neg (by omega)]
      exact h
    repeat' (first | (refine KK ?_) | (refine NB fun b => ?_) | ((refine KB ?_ ?_ <;> intro hp)) | (refine KG ?_) | fail)
    refine gc_loop (ι := Nat) (fun i => i ≤ 7 ∧ (1 ≤ i → c ≠ 68) ∧ (2 ≤ i → c ≠ 80) ∧ (3 ≤ i → c ≠ 66) ∧ (4 ≤ i → c ≠ 75) ∧ (5 ≤ i → c ≠ 82) ∧ (6 ≤ i → c ≠ 81) ∧ (7 ≤ i → c ≠ 90)) (fun i => 7 - i) (fun _ => μ) (fun i => [(7, .int .i64 i), (5, .string ⟨#[68, 80, 66, 75, 82, 81, 90]⟩), (6, .slice (some ⟨b, 0, none⟩) 7 7), (0, .int .u8 c), (3, .pointer (some ⟨ba, 0, none⟩))]) (fun _ => [.inl ⟨b, 3, 7, idx 0 [.int .i64 3, .int .i64 5, .int .i64 6, .int .i64 22, .int .i64 39, .int .i64 62, .int .i64 64]⟩, .inl ⟨ba, 24, 6, idx 0 (encT t (.slice A t.kids.length c0))⟩]) 0 (by omega) (fun a w hs => J5 hs) ?_
    rintro i ⟨hi, q0, q1, q2, q3, q4, q5, q6⟩
    have e0 : bAt ⟨#[68, 80, 66, 75, 82, 81, 90]⟩ 0 = 68 := rfl
    have e1 : bAt ⟨#[68, 80, 66, 75, 82, 81, 90]⟩ 1 = 80 := rfl
    have e2 : bAt ⟨#[68, 80, 66, 75, 82, 81, 90]⟩ 2 = 66 := rfl
    have e3 : bAt ⟨#[68, 80, 66, 75, 82, 81, 90]⟩ 3 = 75 := rfl
    have e4 : bAt ⟨#[68, 80, 66, 75, 82, 81, 90]⟩ 4 = 82 := rfl
    have e5 : bAt ⟨#[68, 80, 66, 75, 82, 81, 90]⟩ 5 = 81 := rfl
    have e6 : bAt ⟨#[68, 80, 66, 75, 82, 81, 90]⟩ 6 = 90 := rfl
    have hsz7 : ByteArray.size ⟨#[68, 80, 66, 75, 82, 81, 90]⟩ = 7 := rfl
    rcases (by omega : i = 7 ∨ i = 0 ∨ i = 1 ∨ i = 2 ∨ i = 3 ∨ i = 4 ∨ i = 5 ∨ i = 6) with rfl | rfl | rfl | rfl | rfl | rfl | rfl | rfl
    · rw [hgr false (by simp [opsL, q0, q1, q2, q3, q4, q5, q6, show ¬ (68 : Int) = c from fun h => q0 (by omega) h.symm, show ¬ (80 : Int) = c from fun h => q1 (by omega) h.symm, show ¬ (66 : Int) = c from fun h => q2 (by omega) h.symm, show ¬ (75 : Int) = c from fun h => q3 (by omega) h.symm, show ¬ (82 : Int) = c from fun h => q4 (by omega) h.symm, show ¬ (81 : Int) = c from fun h => q5 (by omega) h.symm, show ¬ (90 : Int) = c from fun h => q6 (by omega) h.symm])]
      repeat' (first | (refine KK ?_) | (refine NB fun b => ?_) | ((refine KB ?_ ?_ <;> intro hp)) | (refine KG ?_) | fail)
      all_goals first | exact ret_s rfl rfl rfl | (exfalso; omega)
    · by_cases hc : c = 68
      · rw [hgr (decide (t.op = 3)) (by rw [hc]; rfl)]
        clear hgr
        repeat' (first | (refine KO ?_) | ((with_reducible apply g_v); exact rfl; (first | (exact U2 0))) | (refine KI ?_) | (refine NB fun b => ?_) | ((refine KB ?_ ?_ <;> intro hp)) | (refine KG ?_) | fail)
        all_goals try (exfalso; omega)
        refine gc_draw 8 _ (by kernel_rfl) rfl (List.Sublist.cons_cons _ (List.Sublist.cons_cons _ (List.nil_sublist _))) ?_
        all_goals (first | (refine D1 0 ?_) | ((with_reducible apply ga_v 0); exact rfl; kernel_rfl; (exact fun _ _ _ h => h); (first | (exact U1 0))) | (refine DD 0 ?_) | fail)
        all_goals (first | (refine D1 1 ?_) | ((with_reducible apply ga_v 1); exact rfl; kernel_rfl; (exact fun _ _ _ h => h); (first | (exact U1 0))) | ((with_reducible apply ga_all1 1); kernel_rfl; (with_reducible apply gaop_val); exact rfl; exact rfl; exact rfl; exact rfl; (first | (exact U1 0))) | (refine DD 1 ?_) | fail)
        all_goals refine DD 2 ?_
        all_goals refine DD 3 ?_
        all_goals (first | (refine D1 4 ?_) | ((with_reducible apply ga_v 4); exact rfl; kernel_rfl; (exact fun _ _ _ h => h); (first | (exact U1 0))) | (refine DD 4 ?_) | fail)
        all_goals (first | (refine D1 5 ?_) | ((with_reducible apply ga_v 5); exact rfl; kernel_rfl; (exact fun _ _ _ h => h); (first | (exact U1 0))) | ((with_reducible apply ga_all1 5); kernel_rfl; (with_reducible apply gaop_val); exact rfl; exact rfl; exact rfl; exact rfl; (first | (exact U1 0))) | (refine DD 5 ?_) | fail)
        all_goals (first | (refine D1 6 ?_) | ((with_reducible apply ga_v 6); exact rfl; kernel_rfl; (exact fun _ _ _ h => h); (first | (exact U1 0))) | (refine DD 6 ?_) | fail)
        all_goals refine DD 7 ?_
        all_goals refine D8 ?_
        repeat' (first | (refine KK ?_) | (refine NB fun b => ?_) | ((refine KB ?_ ?_ <;> intro hp)) | (refine KG ?_) | fail)
        all_goals first | exact ret_s rfl rfl rfl | (exfalso; omega)
      · clear hgr
        repeat' (first | (refine KO ?_) | ((with_reducible apply g_v); exact rfl; (first | (exact U2 0))) | (refine KI ?_) | (refine NB fun b => ?_) | ((refine KB ?_ ?_ <;> intro hp)) | (refine KG ?_) | fail)
        all_goals first | exact J2 1 (by omega) (by decide) | (exfalso; omega)
    · by_cases hc : c = 80
      · rw [hgr (decide (t.op = 5)) (by rw [hc]; rfl)]
        clear hgr
        repeat' (first | (refine KO ?_) | ((with_reducible apply g_v); exact rfl; (first | (exact U2 1))) | (refine KI ?_) | (refine NB fun b => ?_) | ((refine KB ?_ ?_ <;> intro hp)) | (refine KG ?_) | fail)
        all_goals try (exfalso; omega)
        refine gc_draw 8 _ (by kernel_rfl) rfl (List.Sublist.cons_cons _ (List.Sublist.cons_cons _ (List.nil_sublist _))) ?_
        all_goals (first | (refine D1 0 ?_) | ((with_reducible apply ga_v 0); exact rfl; kernel_rfl; (exact fun _ _ _ h => h); (first | (exact U1 1))) | (refine DD 0 ?_) | fail)
        all_goals (first | (refine D1 1 ?_) | ((with_reducible apply ga_v 1); exact rfl; kernel_rfl; (exact fun _ _ _ h => h); (first | (exact U1 1))) | ((with_reducible apply ga_all1 1); kernel_rfl; (with_reducible apply gaop_val); exact rfl; exact rfl; exact rfl; exact rfl; (first | (exact U1 1))) | (refine DD 1 ?_) | fail)
        all_goals refine DD 2 ?_
        all_goals refine DD 3 ?_
        all_goals (first | (refine D1 4 ?_) | ((with_reducible apply ga_v 4); exact rfl; kernel_rfl; (exact fun _ _ _ h => h); (first | (exact U1 1))) | (refine DD 4 ?_) | fail)
        all_goals (first | (refine D1 5 ?_) | ((with_reducible apply ga_v 5); exact rfl; kernel_rfl; (exact fun _ _ _ h => h); (first | (exact U1 1))) | ((with_reducible apply ga_all1 5); kernel_rfl; (with_reducible apply gaop_val); exact rfl; exact rfl; exact rfl; exact rfl; (first | (exact U1 1))) | (refine DD 5 ?_) | fail)
        all_goals (first | (refine D1 6 ?_) | ((with_reducible apply ga_v 6); exact rfl; kernel_rfl; (exact fun _ _ _ h => h); (first | (exact U1 1))) | (refine DD 6 ?_) | fail)
        all_goals refine DD 7 ?_
        all_goals refine D8 ?_
        repeat' (first | (refine KK ?_) | (refine NB fun b => ?_) | ((refine KB ?_ ?_ <;> intro hp)) | (refine KG ?_) | fail)
        all_goals first | exact ret_s rfl rfl rfl | (exfalso; omega)
      · clear hgr
        repeat' (first | (refine KO ?_) | ((with_reducible apply g_v); exact rfl; (first | (exact U2 1))) | (refine KI ?_) | (refine NB fun b => ?_) | ((refine KB ?_ ?_ <;> intro hp)) | (refine KG ?_) | fail)
        all_goals first | exact J2 2 (by omega) (by decide) | (exfalso; omega)
    · by_cases hc : c = 66
      · rw [hgr (decide (t.op = 6)) (by rw [hc]; rfl)]
        clear hgr
        repeat' (first | (refine KO ?_) | ((with_reducible apply g_v); exact rfl; (first | (exact U2 2))) | (refine KI ?_) | (refine NB fun b => ?_) | ((refine KB ?_ ?_ <;> intro hp)) | (refine KG ?_) | fail)
        all_goals try (exfalso; omega)
        refine gc_draw 8 _ (by kernel_rfl) rfl (List.Sublist.cons_cons _ (List.Sublist.cons_cons _ (List.nil_sublist _))) ?_
        all_goals (first | (refine D1 0 ?_) | ((with_reducible apply ga_v 0); exact rfl; kernel_rfl; (exact fun _ _ _ h => h); (first | (exact U1 2))) | (refine DD 0 ?_) | fail)
        all_goals (first | (refine D1 1 ?_) | ((with_reducible apply ga_v 1); exact rfl; kernel_rfl; (exact fun _ _ _ h => h); (first | (exact U1 2))) | ((with_reducible apply ga_all1 1); kernel_rfl; (with_reducible apply gaop_val); exact rfl; exact rfl; exact rfl; exact rfl; (first | (exact U1 2))) | (refine DD 1 ?_) | fail)
        all_goals refine DD 2 ?_
        all_goals refine DD 3 ?_
        all_goals (first | (refine D1 4 ?_) | ((with_reducible apply ga_v 4); exact rfl; kernel_rfl; (exact fun _ _ _ h => h); (first | (exact U1 2))) | (refine DD 4 ?_) | fail)
        all_goals (first | (refine D1 5 ?_) | ((with_reducible apply ga_v 5); exact rfl; kernel_rfl; (exact fun _ _ _ h => h); (first | (exact U1 2))) | ((with_reducible apply ga_all1 5); kernel_rfl; (with_reducible apply gaop_val); exact rfl; exact rfl; exact rfl; exact rfl; (first | (exact U1 2))) | (refine DD 5 ?_) | fail)
        all_goals (first | (refine D1 6 ?_) | ((with_reducible apply ga_v 6); exact rfl; kernel_rfl; (exact fun _ _ _ h => h); (first | (exact U1 2))) | (refine DD 6 ?_) | fail)
        all_goals refine DD 7 ?_
        all_goals refine D8 ?_
        repeat' (first | (refine KK ?_) | (refine NB fun b => ?_) | ((refine KB ?_ ?_ <;> intro hp)) | (refine KG ?_) | fail)
        all_goals first | exact ret_s rfl rfl rfl | (exfalso; omega)
      · clear hgr
        repeat' (first | (refine KO ?_) | ((with_reducible apply g_v); exact rfl; (first | (exact U2 2))) | (refine KI ?_) | (refine NB fun b => ?_) | ((refine KB ?_ ?_ <;> intro hp)) | (refine KG ?_) | fail)
        all_goals first | exact J2 3 (by omega) (by decide) | (exfalso; omega)
    · by_cases hc : c = 75
      · rw [hgr (decide (t.op = 22)) (by rw [hc]; rfl)]
        clear hgr
        repeat' (first | (refine KO ?_) | ((with_reducible apply g_v); exact rfl; (first | (exact U2 3))) | (refine KI ?_) | (refine NB fun b => ?_) | ((refine KB ?_ ?_ <;> intro hp)) | (refine KG ?_) | fail)
        all_goals try (exfalso; omega)
        refine gc_draw 8 _ (by kernel_rfl) rfl (List.Sublist.cons_cons _ (List.Sublist.cons_cons _ (List.nil_sublist _))) ?_
        all_goals (first | (refine D1 0 ?_) | ((with_reducible apply ga_v 0); exact rfl; kernel_rfl; (exact fun _ _ _ h => h); (first | (exact U1 3))) | (refine DD 0 ?_) | fail)
        all_goals (first | (refine D1 1 ?_) | ((with_reducible apply ga_v 1); exact rfl; kernel_rfl; (exact fun _ _ _ h => h); (first | (exact U1 3))) | ((with_reducible apply ga_all1 1); kernel_rfl; (with_reducible apply gaop_val); exact rfl; exact rfl; exact rfl; exact rfl; (first | (exact U1 3))) | (refine DD 1 ?_) | fail)
        all_goals refine DD 2 ?_
        all_goals refine DD 3 ?_
        all_goals (first | (refine D1 4 ?_) | ((with_reducible apply ga_v 4); exact rfl; kernel_rfl; (exact fun _ _ _ h => h); (first | (exact U1 3))) | (refine DD 4 ?_) | fail)
        all_goals (first | (refine D1 5 ?_) | ((with_reducible apply ga_v 5); exact rfl; kernel_rfl; (exact fun _ _ _ h => h); (first | (exact U1 3))) | ((with_reducible apply ga_all1 5); kernel_rfl; (with_reducible apply gaop_val); exact rfl; exact rfl; exact rfl; exact rfl; (first | (exact U1 3))) | (refine DD 5 ?_) | fail)
        all_goals (first | (refine D1 6 ?_) | ((with_reducible apply ga_v 6); exact rfl; kernel_rfl; (exact fun _ _ _ h => h); (first | (exact U1 3))) | (refine DD 6 ?_) | fail)
        all_goals refine DD 7 ?_
        all_goals refine D8 ?_
        repeat' (first | (refine KK ?_) | (refine NB fun b => ?_) | ((refine KB ?_ ?_ <;> intro hp)) | (refine KG ?_) | fail)
        all_goals first | exact ret_s rfl rfl rfl | (exfalso; omega)
      · clear hgr
        repeat' (first | (refine KO ?_) | ((with_reducible apply g_v); exact rfl; (first | (exact U2 3))) | (refine KI ?_) | (refine NB fun b => ?_) | ((refine KB ?_ ?_ <;> intro hp)) | (refine KG ?_) | fail)
        all_goals first | exact J2 4 (by omega) (by decide) | (exfalso; omega)
    · by_cases hc : c = 82
      · rw [hgr (decide (t.op = 39)) (by rw [hc]; rfl)]
        clear hgr
        repeat' (first | (refine KO ?_) | ((with_reducible apply g_v); exact rfl; (first | (exact U2 4))) | (refine KI ?_) | (refine NB fun b => ?_) | ((refine KB ?_ ?_ <;> intro hp)) | (refine KG ?_) | fail)
        all_goals try (exfalso; omega)
        refine gc_draw 8 _ (by kernel_rfl) rfl (List.Sublist.cons_cons _ (List.Sublist.cons_cons _ (List.nil_sublist _))) ?_
        all_goals (first | (refine D1 0 ?_) | ((with_reducible apply ga_v 0); exact rfl; kernel_rfl; (exact fun _ _ _ h => h); (first | (exact U1 4))) | (refine DD 0 ?_) | fail)
        all_goals (first | (refine D1 1 ?_) | ((with_reducible apply ga_v 1); exact rfl; kernel_rfl; (exact fun _ _ _ h => h); (first | (exact U1 4))) | ((with_reducible apply ga_all1 1); kernel_rfl; (with_reducible apply gaop_val); exact rfl; exact rfl; exact rfl; exact rfl; (first | (exact U1 4))) | (refine DD 1 ?_) | fail)
        all_goals refine DD 2 ?_
        all_goals refine DD 3 ?_
        all_goals (first | (refine D1 4 ?_) | ((with_reducible apply ga_v 4); exact rfl; kernel_rfl; (exact fun _ _ _ h => h); (first | (exact U1 4))) | (refine DD 4 ?_) | fail)
        all_goals (first | (refine D1 5 ?_) | ((with_reducible apply ga_v 5); exact rfl; kernel_rfl; (exact fun _ _ _ h => h); (first | (exact U1 4))) | ((with_reducible apply ga_all1 5); kernel_rfl; (with_reducible apply gaop_val); exact rfl; exact rfl; exact rfl; exact rfl; (first | (exact U1 4))) | (refine DD 5 ?_) | fail)
        all_goals (first | (refine D1 6 ?_) | ((with_reducible apply ga_v 6); exact rfl; kernel_rfl; (exact fun _ _ _ h => h); (first | (exact U1 4))) | (refine DD 6 ?_) | fail)
        all_goals refine DD 7 ?_
        all_goals refine D8 ?_
        repeat' (first | (refine KK ?_) | (refine NB fun b => ?_) | ((refine KB ?_ ?_ <;> intro hp)) | (refine KG ?_) | fail)
        all_goals first | exact ret_s rfl rfl rfl | (exfalso; omega)
      · clear hgr
        repeat' (first | (refine KO ?_) | ((with_reducible apply g_v); exact rfl; (first | (exact U2 4))) | (refine KI ?_) | (refine NB fun b => ?_) | ((refine KB ?_ ?_ <;> intro hp)) | (refine KG ?_) | fail)
        all_goals first | exact J2 5 (by omega) (by decide) | (exfalso; omega)
    · by_cases hc : c = 81
      · rw [hgr (decide (t.op = 62)) (by rw [hc]; rfl)]
        clear hgr
        repeat' (first | (refine KO ?_) | ((with_reducible apply g_v); exact rfl; (first | (exact U2 5))) | (refine KI ?_) | (refine NB fun b => ?_) | ((refine KB ?_ ?_ <;> intro hp)) | (refine KG ?_) | fail)
        all_goals try (exfalso; omega)
        refine gc_draw 8 _ (by kernel_rfl) rfl (List.Sublist.cons_cons _ (List.Sublist.cons_cons _ (List.nil_sublist _))) ?_
        all_goals (first | (refine D1 0 ?_) | ((with_reducible apply ga_v 0); exact rfl; kernel_rfl; (exact fun _ _ _ h => h); (first | (exact U1 5))) | (refine DD 0 ?_) | fail)
        all_goals (first | (refine D1 1 ?_) | ((with_reducible apply ga_v 1); exact rfl; kernel_rfl; (exact fun _ _ _ h => h); (first | (exact U1 5))) | ((with_reducible apply ga_all1 1); kernel_rfl; (with_reducible apply gaop_val); exact rfl; exact rfl; exact rfl; exact rfl; (first | (exact U1 5))) | (refine DD 1 ?_) | fail)
        all_goals refine DD 2 ?_
        all_goals refine DD 3 ?_
        all_goals (first | (refine D1 4 ?_) | ((with_reducible apply ga_v 4); exact rfl; kernel_rfl; (exact fun _ _ _ h => h); (first | (exact U1 5))) | (refine DD 4 ?_) | fail)
        all_goals (first | (refine D1 5 ?_) | ((with_reducible apply ga_v 5); exact rfl; kernel_rfl; (exact fun _ _ _ h => h); (first | (exact U1 5))) | ((with_reducible apply ga_all1 5); kernel_rfl; (with_reducible apply gaop_val); exact rfl; exact rfl; exact rfl; exact rfl; (first | (exact U1 5))) | (refine DD 5 ?_) | fail)
        all_goals (first | (refine D1 6 ?_) | ((with_reducible apply ga_v 6); exact rfl; kernel_rfl; (exact fun _ _ _ h => h); (first | (exact U1 5))) | (refine DD 6 ?_) | fail)
        all_goals refine DD 7 ?_
        all_goals refine D8 ?_
        repeat' (first | (refine KK ?_) | (refine NB fun b => ?_) | ((refine KB ?_ ?_ <;> intro hp)) | (refine KG ?_) | fail)
        all_goals first | exact ret_s rfl rfl rfl | (exfalso; omega)
      · clear hgr
        repeat' (first | (refine KO ?_) | ((with_reducible apply g_v); exact rfl; (first | (exact U2 5))) | (refine KI ?_) | (refine NB fun b => ?_) | ((refine KB ?_ ?_ <;> intro hp)) | (refine KG ?_) | fail)
        all_goals first | exact J2 6 (by omega) (by decide) | (exfalso; omega)
    · by_cases hc : c = 90
      · rw [hgr (decide (t.op = 64)) (by rw [hc]; rfl)]
        clear hgr
        repeat' (first | (refine KO ?_) | ((with_reducible apply g_v); exact rfl; (first | (exact U2 6))) | (refine KI ?_) | (refine NB fun b => ?_) | ((refine KB ?_ ?_ <;> intro hp)) | (refine KG ?_) | fail)
        all_goals try (exfalso; omega)
        refine gc_draw 8 _ (by kernel_rfl) rfl (List.Sublist.cons_cons _ (List.Sublist.cons_cons _ (List.nil_sublist _))) ?_
        all_goals (first | (refine D1 0 ?_) | ((with_reducible apply ga_v 0); exact rfl; kernel_rfl; (exact fun _ _ _ h => h); (first | (exact U1 6))) | (refine DD 0 ?_) | fail)
        all_goals (first | (refine D1 1 ?_) | ((with_reducible apply ga_v 1); exact rfl; kernel_rfl; (exact fun _ _ _ h => h); (first | (exact U1 6))) | ((with_reducible apply ga_all1 1); kernel_rfl; (with_reducible apply gaop_val); exact rfl; exact rfl; exact rfl; exact rfl; (first | (exact U1 6))) | (refine DD 1 ?_) | fail)
        all_goals refine DD 2 ?_
        all_goals refine DD 3 ?_
        all_goals (first | (refine D1 4 ?_) | ((with_reducible apply ga_v 4); exact rfl; kernel_rfl; (exact fun _ _ _ h => h); (first | (exact U1 6))) | (refine DD 4 ?_) | fail)
        all_goals (first | (refine D1 5 ?_) | ((with_reducible apply ga_v 5); exact rfl; kernel_rfl; (exact fun _ _ _ h => h); (first | (exact U1 6))) | ((with_reducible apply ga_all1 5); kernel_rfl; (with_reducible apply gaop_val); exact rfl; exact rfl; exact rfl; exact rfl; (first | (exact U1 6))) | (refine DD 5 ?_) | fail)
        all_goals (first | (refine D1 6 ?_) | ((with_reducible apply ga_v 6); exact rfl; kernel_rfl; (exact fun _ _ _ h => h); (first | (exact U1 6))) | (refine DD 6 ?_) | fail)
        all_goals refine DD 7 ?_
        all_goals refine D8 ?_
        repeat' (first | (refine KK ?_) | (refine NB fun b => ?_) | ((refine KB ?_ ?_ <;> intro hp)) | (refine KG ?_) | fail)
        all_goals first | exact ret_s rfl rfl rfl | (exfalso; omega)
      · clear hgr
        repeat' (first | (refine KO ?_) | ((with_reducible apply g_v); exact rfl; (first | (exact U2 6))) | (refine KI ?_) | (refine NB fun b => ?_) | ((refine KB ?_ ?_ <;> intro hp)) | (refine KG ?_) | fail)
        all_goals first | exact J2 7 (by omega) (by decide) | (exfalso; omega)
end Go.Proofs.YtllilkcocfalmaaGreatDoor
set_option maxRecDepth 20000
namespace Go.Proofs.YtllilkcocfalmaaGreatDoor
open Go.RowKit Go.Vcg
noncomputable def rowP : List UInt8 → List T → Bool
  | [], l => decide (l.length = 0)
  | [c], l => match l with
    | k :: r => if isT (c.toNat : Int) k = true then decide (r.length = 0) else false
    | [] => false
  | c :: d :: rr, l =>
    if d = 42 then rowP rr (l.dropWhile (isT (c.toNat : Int)))
    else match l with
      | k :: r => if isT (c.toNat : Int) k = true then (if d = 63 then rowP rr r else rowP (d :: rr) r) else (if d = 63 then rowP rr (k :: r) else false)
      | [] => if d = 63 then rowP rr [] else false
theorem rowP_star (c : UInt8) (rr : List UInt8) (l : List T) : rowP (c :: 42 :: rr) l = rowP rr (l.dropWhile (isT (c.toNat : Int))) := by
  rw [rowP.eq_def]
  simp
theorem rowP_q (c : UInt8) (rr : List UInt8) (l : List T) : rowP (c :: 63 :: rr) l = rowP rr (match l with | k :: r => if isT (c.toNat : Int) k = true then r else k :: r | [] => []) := by
  rw [rowP.eq_def]
  cases l with
  | nil => simp
  | cons k r => cases h : isT (c.toNat : Int) k <;> simp [h]
theorem rowP_d {c d : UInt8} {rr : List UInt8} {l : List T} (h1 : d ≠ 42) (h2 : d ≠ 63) : rowP (c :: d :: rr) l = match l with | k :: r => if isT (c.toNat : Int) k = true then rowP (d :: rr) r else false | [] => false := by
  rw [rowP.eq_def]
  cases l with
  | nil => simp [h1, h2]
  | cons k r => cases h : isT (c.toNat : Int) k <;> simp [h, h1, h2]
theorem rowP_nil (l : List T) : rowP [] l = decide (l.length = 0) := by rw [rowP.eq_def]
theorem rowP_1 (c : UInt8) (l : List T) : rowP [c] l = match l with | k :: r => if isT (c.toNat : Int) k = true then rowP [] r else false | [] => false := by
  rw [rowP.eq_def]
  cases l with
  | nil => simp
  | cons k r => simp [rowP_nil]
attribute [local irreducible] isT G GC GQ GA GAop Calls IntKind.wrap Int.decLt Int.decLe
theorem row_spec (s : ByteArray) (hsz : s.size ≤ 1000) (ks : List T) (A : Option Addr) (n c : Nat) (w : World) (μ : Mem) (hμ : MOk μ w) (hk : KR μ ks (.slice A n c)) (hkn : ks.length = n) (hn : n ≤ 100000) (hks : ∀ k ∈ ks, T.size k ≤ 100000 ∧ k.s.size ≤ 65536) :
    Calls Tryz.prog 43 #[.string s, .slice A n c] w fun e w' => e = .returned (.bool (rowP (bl s) ks)) ∧ Below w.heap.size w w' := by
  refine call_intro (args := [.string s, .slice A n c]) Tryz.func43 rfl Tryz.ntmps43 (by simp) hμ ?_
  have his := fun (c : Int) (t : T) (u : Value) (w : World) (μc : Mem) (hw : MOk μc w) (hk : KR μc t.kids u) (h1 : t.size ≤ 100000) (h2 : t.s.size ≤ 65536) => is_spec rest_spec c t u w μc hw hk h1 h2
  generalize hR : rowP (bl s) ks = R
  repeat' (first | (refine KK ?_) | ((refine KB ?_ ?_ <;> intro hp)) | (refine KG ?_) | fail)
  refine gc_loop (ι := Nat × Nat × Option Addr × Nat) (fun i => i.1 ≤ s.size ∧ i.2.1 ≤ n ∧ KR μ (ks.drop i.2.1) (.slice i.2.2.1 (n - i.2.1) i.2.2.2) ∧ rowP ((bl s).drop i.1) (ks.drop i.2.1) = R) (fun i => s.size - i.1) (fun _ => μ) (fun i => [(5, .int .i64 i.1), (0, .string s), (1, .slice i.2.2.1 (n - i.2.1) i.2.2.2)]) (fun _ => []) (0, 0, A, c) ⟨by simp, by simp, by simpa using hk, by simpa using hR⟩ (fun a w hs => J6 hs) ?_
  rintro ⟨i, j, Aj, cj⟩ ⟨hi, hj, hkj, hRj⟩
  dsimp only at hi hj hkj hRj ⊢
  by_cases hlt : i < s.size
  · obtain ⟨x, hx1, hx2⟩ := bl_at (s := s) (i := i) hlt
    have hxd := drop_cons hx1
    rw [hxd] at hRj
    have hkl : (ks.drop j).length = n - j := by rw [List.length_drop, hkn]
    by_cases hlt2 : i + 1 < s.size
    · obtain ⟨y, hy1, hy2⟩ := bl_at (s := s) (i := i + 1) hlt2
      have hyd := drop_cons hy1
      rw [hyd] at hRj
      have hyl := y.toNat_lt
      by_cases hst : y = 42
      · subst hst
        have hy3 : bAt s (i + 1) = 42 := hy2
        repeat' (first | (refine KO ?_) | ((with_reducible apply g_v); exact rfl; (first | (exact U2 (i + 1)))) | (refine KI ?_) | ((refine KB ?_ ?_ <;> intro hp)) | (refine KG ?_) | fail)
        rw [rowP_star, ← hx2] at hRj
        refine gc_loop (ι := Nat × Option Addr × Nat) (fun q => q.1 ≤ n ∧ KR μ (ks.drop q.1) (.slice q.2.1 (n - q.1) q.2.2) ∧ (ks.drop q.1).dropWhile (isT (bAt s i)) = (ks.drop j).dropWhile (isT (bAt s i))) (fun q => n - q.1) (fun _ => μ) (fun q => [(5, .int .i64 i), (0, .string s), (1, .slice q.2.1 (n - q.1) q.2.2)]) (fun _ => []) (j, Aj, cj) ⟨hj, hkj, rfl⟩ (fun a w hs => J5 hs) ?_
        rintro ⟨j2, A2, c2⟩ ⟨hj2, hk2, he2⟩
        dsimp only at hj2 hk2 he2 ⊢
        have hend : (ks.drop j2).dropWhile (isT (bAt s i)) = ks.drop j2 → rowP ((bl s).drop (i + 2)) (ks.drop j2) = R := fun h => by rw [← hRj, ← he2, h]
        by_cases hlt3 : j2 < n
        · have hkk : ks[j2]? = some ks[j2] := List.getElem?_eq_getElem (by omega)
          generalize ks[j2] = t at hkk
          have hdt := drop_cons' hkk
          have hkt := hk2.drop1 (by omega)
          rw [List.drop_drop] at hkt
          obtain ⟨A', c', e, hlc, hget⟩ := hk2.form
          have hkl2 : (ks.drop j2).length = n - j2 := by rw [List.length_drop, hkn]
          rw [hkl2] at e hlc
          cases e
          obtain ⟨ad2, u2, rfl, hm2, ho2, hkx⟩ := hget 0 t (by rw [hdt]; rfl)
          have hts := hks t (List.mem_of_getElem? hkk)
          have hcall := fun (w : World) (μc : Mem) (hw : MOk μc w) (hle : MLe μ μc) => his (bAt s i) t u2 w μc hw (hkx.mono hle) hts.1 hts.2
          cases hp1 : isT (bAt s i) t
          · have hE := hend (by rw [hdt, List.dropWhile_cons, if_neg (by simp [hp1])])
            rw [hp1] at hcall
            repeat' (first | (refine KK ?_) | ((refine KB ?_ ?_ <;> intro hp)) | (refine KG ?_) | fail)
            refine gc_draw 12 ([]) (by kernel_rfl) rfl (by first | exact List.Sublist.refl _ | simp) ?_
            all_goals refine DD 0 ?_
            all_goals (first | (refine D1 1 ?_) | ((with_reducible apply ga_v 1); exact rfl; kernel_rfl; (exact fun _ _ _ h => h); (first | (exact U2 i) | (exact U1 0) | (exact U4 hm2))) | (refine DD 1 ?_) | fail)
            all_goals (first | (refine D1 2 ?_) | ((with_reducible apply ga_v 2); exact rfl; kernel_rfl; (exact fun _ _ _ h => h); (first | (exact U2 i) | (exact U1 0) | (exact U4 hm2))) | (refine DD 2 ?_) | fail)
            all_goals refine DD 3 ?_
            all_goals (try (refine D7 4 ?_; (repeat' (first | refine KO ?_ | (refine KB ?_ ?_ <;> intro hp)))))
            all_goals refine DD 4 ?_
            all_goals refine DD 5 ?_
            all_goals (first | (refine D1 6 ?_) | ((with_reducible apply ga_v 6); exact rfl; kernel_rfl; (exact fun _ _ _ h => h); (first | (exact U2 i) | (exact U1 0) | (exact U4 hm2))) | (refine DD 6 ?_) | fail)
            all_goals refine DD 7 ?_
            all_goals (first | (refine D1 8 ?_) | ((with_reducible apply ga_v 8); exact rfl; kernel_rfl; (exact fun _ _ _ h => h); (first | (exact U2 i) | (exact U1 0) | (exact U4 hm2))) | (refine DD 8 ?_) | fail)
            all_goals (first | (refine D1 9 ?_) | ((with_reducible apply ga_v 9); exact rfl; kernel_rfl; (exact fun _ _ _ h => h); (first | (exact U2 i) | (exact U1 0) | (exact U4 hm2))) | ((with_reducible apply ga_all1 9); kernel_rfl; (with_reducible apply gaop_val); exact rfl; exact rfl; exact rfl; exact rfl; (first | (exact U2 i) | (exact U1 0) | (exact U4 hm2))) | (refine DD 9 ?_) | fail)
            all_goals (first | (refine D3 10 ?_; refine D5 ?_; (with_reducible apply C1); exact rfl; exact EN; exact fun w μc hw hse => hcall w μc hw hse.le; refine D9 ?_) | (refine D3 10 (D6 ?_)))
            all_goals refine DD 11 ?_
            all_goals refine D8 ?_
            all_goals
              repeat' (first | (refine KK ?_) | ((refine KB ?_ ?_ <;> intro hp)) | (refine KG ?_) | fail)
            all_goals first
              | exact J2 (i + 2, j2, _, _) ⟨by show i + 2 ≤ s.size; omega, hj2, hk2, hE⟩ (by show s.size - (i + 2) < s.size - i; omega)
              | (exfalso; omega)
          · rw [hp1] at hcall
            have hE : (ks.drop (j2 + 1)).dropWhile (isT (bAt s i)) = (ks.drop j).dropWhile (isT (bAt s i)) := by rw [← he2, hdt, List.dropWhile_cons, if_pos hp1]
            repeat' (first | (refine KK ?_) | ((refine KB ?_ ?_ <;> intro hp)) | (refine KG ?_) | fail)
            refine gc_draw 12 ([]) (by kernel_rfl) rfl (by first | exact List.Sublist.refl _ | simp) ?_
            all_goals refine DD 0 ?_
            all_goals (first | (refine D1 1 ?_) | ((with_reducible apply ga_v 1); exact rfl; kernel_rfl; (exact fun _ _ _ h => h); (first | (exact U2 i) | (exact U1 0) | (exact U4 hm2))) | (refine DD 1 ?_) | fail)
            all_goals (first | (refine D1 2 ?_) | ((with_reducible apply ga_v 2); exact rfl; kernel_rfl; (exact fun _ _ _ h => h); (first | (exact U2 i) | (exact U1 0) | (exact U4 hm2))) | (refine DD 2 ?_) | fail)
            all_goals refine DD 3 ?_
            all_goals (try (refine D7 4 ?_; (repeat' (first | refine KO ?_ | (refine KB ?_ ?_ <;> intro hp)))))
            all_goals refine DD 4 ?_
            all_goals refine DD 5 ?_
            all_goals (first | (refine D1 6 ?_) | ((with_reducible apply ga_v 6); exact rfl; kernel_rfl; (exact fun _ _ _ h => h); (first | (exact U2 i) | (exact U1 0) | (exact U4 hm2))) | (refine DD 6 ?_) | fail)
            all_goals refine DD 7 ?_
            all_goals (first | (refine D1 8 ?_) | ((with_reducible apply ga_v 8); exact rfl; kernel_rfl; (exact fun _ _ _ h => h); (first | (exact U2 i) | (exact U1 0) | (exact U4 hm2))) | (refine DD 8 ?_) | fail)
            all_goals (first | (refine D1 9 ?_) | ((with_reducible apply ga_v 9); exact rfl; kernel_rfl; (exact fun _ _ _ h => h); (first | (exact U2 i) | (exact U1 0) | (exact U4 hm2))) | ((with_reducible apply ga_all1 9); kernel_rfl; (with_reducible apply gaop_val); exact rfl; exact rfl; exact rfl; exact rfl; (first | (exact U2 i) | (exact U1 0) | (exact U4 hm2))) | (refine DD 9 ?_) | fail)
            all_goals (first | (refine D3 10 ?_; refine D5 ?_; (with_reducible apply C1); exact rfl; exact EN; exact fun w μc hw hse => hcall w μc hw hse.le; refine D9 ?_) | (refine D3 10 (D6 ?_)))
            all_goals refine DD 11 ?_
            all_goals refine D8 ?_
            all_goals
              repeat' (first | (refine KO ?_) | ((with_reducible apply g_v); exact rfl; (first | ((with_reducible apply v_slice_lo 1); exact rfl; exact rfl; exact rfl; exact rfl; exact rfl; omega))) | (refine KI ?_) | ((refine KB ?_ ?_ <;> intro hp)) | (refine KG ?_) | fail)
            all_goals first
              | exact J2 (j2 + 1, _, _) ⟨by show j2 + 1 ≤ n; omega, hkt, hE⟩ (by show n - (j2 + 1) < n - j2; omega)
              | (exfalso; omega)
        · obtain rfl : j2 = n := by omega
          have hdt : ks.drop j2 = [] := List.drop_of_length_le (by omega)
          have hE := hend (by rw [hdt]; rfl)
          repeat' (first | (refine KK ?_) | ((refine KB ?_ ?_ <;> intro hp)) | (refine KG ?_) | fail)
          refine gc_draw 12 ([]) (by kernel_rfl) rfl (by first | exact List.Sublist.refl _ | simp) ?_
          all_goals refine DD 0 ?_
          all_goals (first | (refine D1 1 ?_) | ((with_reducible apply ga_v 1); exact rfl; kernel_rfl; (exact fun _ _ _ h => h); (first | (exact U2 i) | (exact U1 0))) | (refine DD 1 ?_) | fail)
          all_goals (first | (refine D1 2 ?_) | ((with_reducible apply ga_v 2); exact rfl; kernel_rfl; (exact fun _ _ _ h => h); (first | (exact U2 i) | (exact U1 0))) | (refine DD 2 ?_) | fail)
          all_goals refine DD 3 ?_
          all_goals (try (refine D7 4 ?_; (repeat' (first | refine KO ?_ | (refine KB ?_ ?_ <;> intro hp)))))
          all_goals refine DD 4 ?_
          all_goals refine DD 5 ?_
          all_goals (first | (refine D1 6 ?_) | ((with_reducible apply ga_v 6); exact rfl; kernel_rfl; (exact fun _ _ _ h => h); (first | (exact U2 i) | (exact U1 0))) | (refine DD 6 ?_) | fail)
          all_goals refine DD 7 ?_
          all_goals (first | (refine D1 8 ?_) | ((with_reducible apply ga_v 8); exact rfl; kernel_rfl; (exact fun _ _ _ h => h); (first | (exact U2 i) | (exact U1 0))) | (refine DD 8 ?_) | fail)
          all_goals (first | (refine D1 9 ?_) | ((with_reducible apply ga_v 9); exact rfl; kernel_rfl; (exact fun _ _ _ h => h); (first | (exact U2 i) | (exact U1 0))) | ((with_reducible apply ga_all1 9); kernel_rfl; (with_reducible apply gaop_val); exact rfl; exact rfl; exact rfl; exact rfl; (first | (exact U2 i) | (exact U1 0))) | (refine DD 9 ?_) | fail)
          all_goals (first | (refine D3 10 ?_; refine D5 ?_; (with_reducible apply C1); exact rfl; exact EN; fail; refine D9 ?_) | (refine D3 10 (D6 ?_)))
          all_goals refine DD 11 ?_
          all_goals refine D8 ?_
          all_goals
            repeat' (first | (refine KK ?_) | ((refine KB ?_ ?_ <;> intro hp)) | (refine KG ?_) | fail)
          all_goals first
            | exact J2 (i + 2, j2, _, _) ⟨by show i + 2 ≤ s.size; omega, hj2, hk2, hE⟩ (by show s.size - (i + 2) < s.size - i; omega)
            | (exfalso; omega)
      · have hy42 : bAt s (i + 1) ≠ 42 := fun h => hst (UInt8.toNat_inj.1 (by rw [hy2] at h; simpa using (by omega : y.toNat = 42)))
        by_cases hqm : y = 63
        · subst hqm
          have hy3 : bAt s (i + 1) = 63 := hy2
          rw [rowP_q, ← hx2] at hRj
          by_cases hlt3 : j < n
          · have hkk : ks[j]? = some ks[j] := List.getElem?_eq_getElem (by omega)
            generalize ks[j] = t at hkk
            have hdt := drop_cons' hkk
            have hkt := hkj.drop1 (by omega)
            rw [List.drop_drop] at hkt
            obtain ⟨A', c', e, hlc, hget⟩ := hkj.form
            rw [hkl] at e hlc
            cases e
            obtain ⟨ad2, u2, rfl, hm2, ho2, hkx⟩ := hget 0 t (by rw [hdt]; rfl)
            have hts := hks t (List.mem_of_getElem? hkk)
            have hcall := fun (w : World) (μc : Mem) (hw : MOk μc w) (hle : MLe μ μc) => his (bAt s i) t u2 w μc hw (hkx.mono hle) hts.1 hts.2
            rw [hdt] at hRj
            dsimp only at hRj
            cases hp1 : isT (bAt s i) t
            · rw [hp1, if_neg (by simp)] at hRj
              rw [hp1] at hcall
              rw [← hdt] at hRj
              repeat' (first | (refine KO ?_) | ((with_reducible apply g_v); exact rfl; (first | (exact U2 i) | (exact U2 (i + 1)) | (exact U1 0))) | (refine KI ?_) | ((refine KB ?_ ?_ <;> intro hp)) | (refine KG ?_) | fail)
              refine gc_draw 13 ([]) (by kernel_rfl) rfl (by first | exact List.Sublist.refl _ | simp) ?_
              all_goals refine DD 0 ?_
              all_goals (first | (refine D1 1 ?_) | ((with_reducible apply ga_v 1); exact rfl; kernel_rfl; (exact fun _ _ _ h => h); (first | (exact U2 i) | (exact U2 (i + 1)) | (exact U1 0) | (exact U4 hm2))) | (refine DD 1 ?_) | fail)
              all_goals (first | (refine D1 2 ?_) | ((with_reducible apply ga_v 2); exact rfl; kernel_rfl; (exact fun _ _ _ h => h); (first | (exact U2 i) | (exact U2 (i + 1)) | (exact U1 0) | (exact U4 hm2))) | (refine DD 2 ?_) | fail)
              all_goals refine DD 3 ?_
              all_goals (try (refine D7 4 ?_; (repeat' (first | refine KO ?_ | (refine KB ?_ ?_ <;> intro hp)))))
              all_goals refine DD 4 ?_
              all_goals refine DD 5 ?_
              all_goals (first | (refine D1 6 ?_) | ((with_reducible apply ga_v 6); exact rfl; kernel_rfl; (exact fun _ _ _ h => h); (first | (exact U2 i) | (exact U2 (i + 1)) | (exact U1 0) | (exact U4 hm2))) | (refine DD 6 ?_) | fail)
              all_goals refine DD 7 ?_
              all_goals (first | (refine D1 8 ?_) | ((with_reducible apply ga_v 8); exact rfl; kernel_rfl; (exact fun _ _ _ h => h); (first | (exact U2 i) | (exact U2 (i + 1)) | (exact U1 0) | (exact U4 hm2))) | (refine DD 8 ?_) | fail)
              all_goals (first | (refine D1 9 ?_) | ((with_reducible apply ga_v 9); exact rfl; kernel_rfl; (exact fun _ _ _ h => h); (first | (exact U2 i) | (exact U2 (i + 1)) | (exact U1 0) | (exact U4 hm2))) | ((with_reducible apply ga_all1 9); kernel_rfl; (with_reducible apply gaop_val); exact rfl; exact rfl; exact rfl; exact rfl; (first | (exact U2 i) | (exact U2 (i + 1)) | (exact U1 0) | (exact U4 hm2))) | (refine DD 9 ?_) | fail)
              all_goals (first | (refine D3 10 ?_; refine D5 ?_; (with_reducible apply C1); exact rfl; exact EN; exact fun w μc hw hse => hcall w μc hw hse.le; refine D9 ?_) | (refine D3 10 (D6 ?_)))
              all_goals refine DD 11 ?_
              all_goals refine DD 12 ?_
              all_goals refine D8 ?_
              all_goals
                repeat' (first | (refine KO ?_) | ((with_reducible apply g_v); exact rfl; (first | ((with_reducible apply v_slice_lo 1); exact rfl; exact rfl; exact rfl; exact rfl; exact rfl; omega))) | (refine KI ?_) | ((refine KB ?_ ?_ <;> intro hp)) | (refine KG ?_) | fail)
              all_goals first | exact J2 (i + 2, j, _, _) ⟨by show i + 2 ≤ s.size; omega, hj, hkj, hRj⟩ (by show s.size - (i + 2) < s.size - i; omega) | (exfalso; omega)
            · rw [hp1, if_pos rfl] at hRj
              rw [hp1] at hcall
              repeat' (first | (refine KO ?_) | ((with_reducible apply g_v); exact rfl; (first | (exact U2 i) | (exact U2 (i + 1)) | (exact U1 0))) | (refine KI ?_) | ((refine KB ?_ ?_ <;> intro hp)) | (refine KG ?_) | fail)
              refine gc_draw 13 ([]) (by kernel_rfl) rfl (by first | exact List.Sublist.refl _ | simp) ?_
              all_goals refine DD 0 ?_
              all_goals (first | (refine D1 1 ?_) | ((with_reducible apply ga_v 1); exact rfl; kernel_rfl; (exact fun _ _ _ h => h); (first | (exact U2 i) | (exact U2 (i + 1)) | (exact U1 0) | (exact U4 hm2))) | (refine DD 1 ?_) | fail)
              all_goals (first | (refine D1 2 ?_) | ((with_reducible apply ga_v 2); exact rfl; kernel_rfl; (exact fun _ _ _ h => h); (first | (exact U2 i) | (exact U2 (i + 1)) | (exact U1 0) | (exact U4 hm2))) | (refine DD 2 ?_) | fail)
              all_goals refine DD 3 ?_
              all_goals (try (refine D7 4 ?_; (repeat' (first | refine KO ?_ | (refine KB ?_ ?_ <;> intro hp)))))
              all_goals refine DD 4 ?_
              all_goals refine DD 5 ?_
              all_goals (first | (refine D1 6 ?_) | ((with_reducible apply ga_v 6); exact rfl; kernel_rfl; (exact fun _ _ _ h => h); (first | (exact U2 i) | (exact U2 (i + 1)) | (exact U1 0) | (exact U4 hm2))) | (refine DD 6 ?_) | fail)
              all_goals refine DD 7 ?_
              all_goals (first | (refine D1 8 ?_) | ((with_reducible apply ga_v 8); exact rfl; kernel_rfl; (exact fun _ _ _ h => h); (first | (exact U2 i) | (exact U2 (i + 1)) | (exact U1 0) | (exact U4 hm2))) | (refine DD 8 ?_) | fail)
              all_goals (first | (refine D1 9 ?_) | ((with_reducible apply ga_v 9); exact rfl; kernel_rfl; (exact fun _ _ _ h => h); (first | (exact U2 i) | (exact U2 (i + 1)) | (exact U1 0) | (exact U4 hm2))) | ((with_reducible apply ga_all1 9); kernel_rfl; (with_reducible apply gaop_val); exact rfl; exact rfl; exact rfl; exact rfl; (first | (exact U2 i) | (exact U2 (i + 1)) | (exact U1 0) | (exact U4 hm2))) | (refine DD 9 ?_) | fail)
              all_goals (first | (refine D3 10 ?_; refine D5 ?_; (with_reducible apply C1); exact rfl; exact EN; exact fun w μc hw hse => hcall w μc hw hse.le; refine D9 ?_) | (refine D3 10 (D6 ?_)))
              all_goals refine DD 11 ?_
              all_goals refine DD 12 ?_
              all_goals refine D8 ?_
              all_goals
                repeat' (first | (refine KO ?_) | ((with_reducible apply g_v); exact rfl; (first | ((with_reducible apply v_slice_lo 1); exact rfl; exact rfl; exact rfl; exact rfl; exact rfl; omega))) | (refine KI ?_) | ((refine KB ?_ ?_ <;> intro hp)) | (refine KG ?_) | fail)
              all_goals first | exact J2 (i + 2, j + 1, _, _) ⟨by show i + 2 ≤ s.size; omega, by show j + 1 ≤ n; omega, hkt, hRj⟩ (by show s.size - (i + 2) < s.size - i; omega) | (exfalso; omega)
          · obtain rfl : j = n := by omega
            have hdt : ks.drop j = [] := List.drop_of_length_le (by omega)
            rw [hdt] at hRj
            dsimp only at hRj
            rw [← hdt] at hRj
            repeat' (first | (refine KO ?_) | ((with_reducible apply g_v); exact rfl; (first | (exact U2 i) | (exact U2 (i + 1)) | (exact U1 0))) | (refine KI ?_) | ((refine KB ?_ ?_ <;> intro hp)) | (refine KG ?_) | fail)
            refine gc_draw 13 ([]) (by kernel_rfl) rfl (by first | exact List.Sublist.refl _ | simp) ?_
            all_goals refine DD 0 ?_
            all_goals (first | (refine D1 1 ?_) | ((with_reducible apply ga_v 1); exact rfl; kernel_rfl; (exact fun _ _ _ h => h); (first | (exact U2 i) | (exact U2 (i + 1)) | (exact U1 0))) | (refine DD 1 ?_) | fail)
            all_goals (first | (refine D1 2 ?_) | ((with_reducible apply ga_v 2); exact rfl; kernel_rfl; (exact fun _ _ _ h => h); (first | (exact U2 i) | (exact U2 (i + 1)) | (exact U1 0))) | (refine DD 2 ?_) | fail)
            all_goals refine DD 3 ?_
            all_goals (try (refine D7 4 ?_; (repeat' (first | refine KO ?_ | (refine KB ?_ ?_ <;> intro hp)))))
            all_goals refine DD 4 ?_
            all_goals refine DD 5 ?_
            all_goals (first | (refine D1 6 ?_) | ((with_reducible apply ga_v 6); exact rfl; kernel_rfl; (exact fun _ _ _ h => h); (first | (exact U2 i) | (exact U2 (i + 1)) | (exact U1 0))) | (refine DD 6 ?_) | fail)
            all_goals refine DD 7 ?_
            all_goals (first | (refine D1 8 ?_) | ((with_reducible apply ga_v 8); exact rfl; kernel_rfl; (exact fun _ _ _ h => h); (first | (exact U2 i) | (exact U2 (i + 1)) | (exact U1 0))) | (refine DD 8 ?_) | fail)
            all_goals (first | (refine D1 9 ?_) | ((with_reducible apply ga_v 9); exact rfl; kernel_rfl; (exact fun _ _ _ h => h); (first | (exact U2 i) | (exact U2 (i + 1)) | (exact U1 0))) | ((with_reducible apply ga_all1 9); kernel_rfl; (with_reducible apply gaop_val); exact rfl; exact rfl; exact rfl; exact rfl; (first | (exact U2 i) | (exact U2 (i + 1)) | (exact U1 0))) | (refine DD 9 ?_) | fail)
            all_goals (first | (refine D3 10 ?_; refine D5 ?_; (with_reducible apply C1); exact rfl; exact EN; fail; refine D9 ?_) | (refine D3 10 (D6 ?_)))
            all_goals refine DD 11 ?_
            all_goals refine DD 12 ?_
            all_goals refine D8 ?_
            all_goals
              repeat' (first | (refine KK ?_) | ((refine KB ?_ ?_ <;> intro hp)) | (refine KG ?_) | fail)
            all_goals first | exact J2 (i + 2, j, _, _) ⟨by show i + 2 ≤ s.size; omega, hj, hkj, hRj⟩ (by show s.size - (i + 2) < s.size - i; omega) | (exfalso; omega)
        · have hy63 : bAt s (i + 1) ≠ 63 := fun h => hqm (UInt8.toNat_inj.1 (by rw [hy2] at h; simpa using (by omega : y.toNat = 63)))
          rw [rowP_d hst hqm, ← hx2, ← hyd] at hRj
          by_cases hlt3 : j < n
          · have hkk : ks[j]? = some ks[j] := List.getElem?_eq_getElem (by omega)
            generalize ks[j] = t at hkk
            have hdt := drop_cons' hkk
            have hkt := hkj.drop1 (by omega)
            rw [List.drop_drop] at hkt
            obtain ⟨A', c', e, hlc, hget⟩ := hkj.form
            rw [hkl] at e hlc
            cases e
            obtain ⟨ad2, u2, rfl, hm2, ho2, hkx⟩ := hget 0 t (by rw [hdt]; rfl)
            have hts := hks t (List.mem_of_getElem? hkk)
            have hcall := fun (w : World) (μc : Mem) (hw : MOk μc w) (hle : MLe μ μc) => his (bAt s i) t u2 w μc hw (hkx.mono hle) hts.1 hts.2
            rw [hdt] at hRj
            dsimp only at hRj
            cases hp1 : isT (bAt s i) t
            · rw [hp1, if_neg (by simp)] at hRj
              rw [hp1] at hcall
              repeat' (first | (refine KO ?_) | ((with_reducible apply g_v); exact rfl; (first | (exact U2 i) | (exact U2 (i + 1)) | (exact U1 0))) | (refine KI ?_) | ((refine KB ?_ ?_ <;> intro hp)) | (refine KG ?_) | fail)
              refine gc_draw 13 ([]) (by kernel_rfl) rfl (by first | exact List.Sublist.refl _ | simp) ?_
              all_goals refine DD 0 ?_
              all_goals (first | (refine D1 1 ?_) | ((with_reducible apply ga_v 1); exact rfl; kernel_rfl; (exact fun _ _ _ h => h); (first | (exact U2 i) | (exact U2 (i + 1)) | (exact U1 0) | (exact U4 hm2))) | (refine DD 1 ?_) | fail)
              all_goals (first | (refine D1 2 ?_) | ((with_reducible apply ga_v 2); exact rfl; kernel_rfl; (exact fun _ _ _ h => h); (first | (exact U2 i) | (exact U2 (i + 1)) | (exact U1 0) | (exact U4 hm2))) | (refine DD 2 ?_) | fail)
              all_goals refine DD 3 ?_
              all_goals (try (refine D7 4 ?_; (repeat' (first | refine KO ?_ | (refine KB ?_ ?_ <;> intro hp)))))
              all_goals refine DD 4 ?_
              all_goals refine DD 5 ?_
              all_goals (first | (refine D1 6 ?_) | ((with_reducible apply ga_v 6); exact rfl; kernel_rfl; (exact fun _ _ _ h => h); (first | (exact U2 i) | (exact U2 (i + 1)) | (exact U1 0) | (exact U4 hm2))) | (refine DD 6 ?_) | fail)
              all_goals refine DD 7 ?_
              all_goals (first | (refine D1 8 ?_) | ((with_reducible apply ga_v 8); exact rfl; kernel_rfl; (exact fun _ _ _ h => h); (first | (exact U2 i) | (exact U2 (i + 1)) | (exact U1 0) | (exact U4 hm2))) | (refine DD 8 ?_) | fail)
              all_goals (first | (refine D1 9 ?_) | ((with_reducible apply ga_v 9); exact rfl; kernel_rfl; (exact fun _ _ _ h => h); (first | (exact U2 i) | (exact U2 (i + 1)) | (exact U1 0) | (exact U4 hm2))) | ((with_reducible apply ga_all1 9); kernel_rfl; (with_reducible apply gaop_val); exact rfl; exact rfl; exact rfl; exact rfl; (first | (exact U2 i) | (exact U2 (i + 1)) | (exact U1 0) | (exact U4 hm2))) | (refine DD 9 ?_) | fail)
              all_goals (first | (refine D3 10 ?_; refine D5 ?_; (with_reducible apply C1); exact rfl; exact EN; exact fun w μc hw hse => hcall w μc hw hse.le; refine D9 ?_) | (refine D3 10 (D6 ?_)))
              all_goals refine DD 11 ?_
              all_goals refine DD 12 ?_
              all_goals refine D8 ?_
              all_goals
                repeat' (first | (refine KO ?_) | ((with_reducible apply g_v); exact rfl; (first | ((with_reducible apply v_slice_lo 1); exact rfl; exact rfl; exact rfl; exact rfl; exact rfl; omega))) | (refine KI ?_) | ((refine KB ?_ ?_ <;> intro hp)) | (refine KG ?_) | fail)
              all_goals first | exact ret_s rfl rfl (congrArg _ hRj) | (exfalso; omega)
            · rw [hp1, if_pos rfl] at hRj
              rw [hp1] at hcall
              repeat' (first | (refine KO ?_) | ((with_reducible apply g_v); exact rfl; (first | (exact U2 i) | (exact U2 (i + 1)) | (exact U1 0))) | (refine KI ?_) | ((refine KB ?_ ?_ <;> intro hp)) | (refine KG ?_) | fail)
              refine gc_draw 13 ([]) (by kernel_rfl) rfl (by first | exact List.Sublist.refl _ | simp) ?_
              all_goals refine DD 0 ?_
              all_goals (first | (refine D1 1 ?_) | ((with_reducible apply ga_v 1); exact rfl; kernel_rfl; (exact fun _ _ _ h => h); (first | (exact U2 i) | (exact U2 (i + 1)) | (exact U1 0) | (exact U4 hm2))) | (refine DD 1 ?_) | fail)
              all_goals (first | (refine D1 2 ?_) | ((with_reducible apply ga_v 2); exact rfl; kernel_rfl; (exact fun _ _ _ h => h); (first | (exact U2 i) | (exact U2 (i + 1)) | (exact U1 0) | (exact U4 hm2))) | (refine DD 2 ?_) | fail)
              all_goals refine DD 3 ?_
              all_goals (try (refine D7 4 ?_; (repeat' (first | refine KO ?_ | (refine KB ?_ ?_ <;> intro hp)))))
              all_goals refine DD 4 ?_
              all_goals refine DD 5 ?_
              all_goals (first | (refine D1 6 ?_) | ((with_reducible apply ga_v 6); exact rfl; kernel_rfl; (exact fun _ _ _ h => h); (first | (exact U2 i) | (exact U2 (i + 1)) | (exact U1 0) | (exact U4 hm2))) | (refine DD 6 ?_) | fail)
              all_goals refine DD 7 ?_
              all_goals (first | (refine D1 8 ?_) | ((with_reducible apply ga_v 8); exact rfl; kernel_rfl; (exact fun _ _ _ h => h); (first | (exact U2 i) | (exact U2 (i + 1)) | (exact U1 0) | (exact U4 hm2))) | (refine DD 8 ?_) | fail)
              all_goals (first | (refine D1 9 ?_) | ((with_reducible apply ga_v 9); exact rfl; kernel_rfl; (exact fun _ _ _ h => h); (first | (exact U2 i) | (exact U2 (i + 1)) | (exact U1 0) | (exact U4 hm2))) | ((with_reducible apply ga_all1 9); kernel_rfl; (with_reducible apply gaop_val); exact rfl; exact rfl; exact rfl; exact rfl; (first | (exact U2 i) | (exact U2 (i + 1)) | (exact U1 0) | (exact U4 hm2))) | (refine DD 9 ?_) | fail)
              all_goals (first | (refine D3 10 ?_; refine D5 ?_; (with_reducible apply C1); exact rfl; exact EN; exact fun w μc hw hse => hcall w μc hw hse.le; refine D9 ?_) | (refine D3 10 (D6 ?_)))
              all_goals refine DD 11 ?_
              all_goals refine DD 12 ?_
              all_goals refine D8 ?_
              all_goals
                repeat' (first | (refine KO ?_) | ((with_reducible apply g_v); exact rfl; (first | ((with_reducible apply v_slice_lo 1); exact rfl; exact rfl; exact rfl; exact rfl; exact rfl; omega))) | (refine KI ?_) | ((refine KB ?_ ?_ <;> intro hp)) | (refine KG ?_) | fail)
              all_goals first | exact J2 (i + 1, j + 1, _, _) ⟨by show i + 1 ≤ s.size; omega, by show j + 1 ≤ n; omega, hkt, hRj⟩ (by show s.size - (i + 1) < s.size - i; omega) | (exfalso; omega)
          · obtain rfl : j = n := by omega
            have hdt : ks.drop j = [] := List.drop_of_length_le (by omega)
            rw [hdt] at hRj
            dsimp only at hRj
            repeat' (first | (refine KO ?_) | ((with_reducible apply g_v); exact rfl; (first | (exact U2 i) | (exact U2 (i + 1)) | (exact U1 0))) | (refine KI ?_) | ((refine KB ?_ ?_ <;> intro hp)) | (refine KG ?_) | fail)
            refine gc_draw 13 ([]) (by kernel_rfl) rfl (by first | exact List.Sublist.refl _ | simp) ?_
            all_goals refine DD 0 ?_
            all_goals (first | (refine D1 1 ?_) | ((with_reducible apply ga_v 1); exact rfl; kernel_rfl; (exact fun _ _ _ h => h); (first | (exact U2 i) | (exact U2 (i + 1)) | (exact U1 0))) | (refine DD 1 ?_) | fail)
            all_goals (first | (refine D1 2 ?_) | ((with_reducible apply ga_v 2); exact rfl; kernel_rfl; (exact fun _ _ _ h => h); (first | (exact U2 i) | (exact U2 (i + 1)) | (exact U1 0))) | (refine DD 2 ?_) | fail)
            all_goals refine DD 3 ?_
            all_goals (try (refine D7 4 ?_; (repeat' (first | refine KO ?_ | (refine KB ?_ ?_ <;> intro hp)))))
            all_goals refine DD 4 ?_
            all_goals refine DD 5 ?_
            all_goals (first | (refine D1 6 ?_) | ((with_reducible apply ga_v 6); exact rfl; kernel_rfl; (exact fun _ _ _ h => h); (first | (exact U2 i) | (exact U2 (i + 1)) | (exact U1 0))) | (refine DD 6 ?_) | fail)
            all_goals refine DD 7 ?_
            all_goals (first | (refine D1 8 ?_) | ((with_reducible apply ga_v 8); exact rfl; kernel_rfl; (exact fun _ _ _ h => h); (first | (exact U2 i) | (exact U2 (i + 1)) | (exact U1 0))) | (refine DD 8 ?_) | fail)
            all_goals (first | (refine D1 9 ?_) | ((with_reducible apply ga_v 9); exact rfl; kernel_rfl; (exact fun _ _ _ h => h); (first | (exact U2 i) | (exact U2 (i + 1)) | (exact U1 0))) | ((with_reducible apply ga_all1 9); kernel_rfl; (with_reducible apply gaop_val); exact rfl; exact rfl; exact rfl; exact rfl; (first | (exact U2 i) | (exact U2 (i + 1)) | (exact U1 0))) | (refine DD 9 ?_) | fail)
            all_goals (first | (refine D3 10 ?_; refine D5 ?_; (with_reducible apply C1); exact rfl; exact EN; fail; refine D9 ?_) | (refine D3 10 (D6 ?_)))
            all_goals refine DD 11 ?_
            all_goals refine DD 12 ?_
            all_goals refine D8 ?_
            all_goals
              repeat' (first | (refine KK ?_) | ((refine KB ?_ ?_ <;> intro hp)) | (refine KG ?_) | fail)
            all_goals first | exact ret_s rfl rfl (congrArg _ hRj) | (exfalso; omega)
    · have hd1 : (bl s).drop (i + 1) = [] := List.drop_of_length_le (by rw [bl_len]; omega)
      rw [hd1, rowP_1, ← hx2, ← hd1] at hRj
      by_cases hlt3 : j < n
      · have hkk : ks[j]? = some ks[j] := List.getElem?_eq_getElem (by omega)
        generalize ks[j] = t at hkk
        have hdt := drop_cons' hkk
        have hkt := hkj.drop1 (by omega)
        rw [List.drop_drop] at hkt
        obtain ⟨A', c', e, hlc, hget⟩ := hkj.form
        rw [hkl] at e hlc
        cases e
        obtain ⟨ad2, u2, rfl, hm2, ho2, hkx⟩ := hget 0 t (by rw [hdt]; rfl)
        have hts := hks t (List.mem_of_getElem? hkk)
        have hcall := fun (w : World) (μc : Mem) (hw : MOk μc w) (hle : MLe μ μc) => his (bAt s i) t u2 w μc hw (hkx.mono hle) hts.1 hts.2
        rw [hdt] at hRj
        dsimp only at hRj
        cases hp1 : isT (bAt s i) t
        · rw [hp1, if_neg (by simp)] at hRj
          rw [hp1] at hcall
          repeat' (first | (refine KO ?_) | ((with_reducible apply g_v); exact rfl; (first | (exact U2 i) | (exact U2 (i + 1)) | (exact U1 0))) | (refine KI ?_) | ((refine KB ?_ ?_ <;> intro hp)) | (refine KG ?_) | fail)
          refine gc_draw 13 ([]) (by kernel_rfl) rfl (by first | exact List.Sublist.refl _ | simp) ?_
          all_goals refine DD 0 ?_
          all_goals (first | (refine D1 1 ?_) | ((with_reducible apply ga_v 1); exact rfl; kernel_rfl; (exact fun _ _ _ h => h); (first | (exact U2 i) | (exact U2 (i + 1)) | (exact U1 0) | (exact U4 hm2))) | (refine DD 1 ?_) | fail)
          all_goals (first | (refine D1 2 ?_) | ((with_reducible apply ga_v 2); exact rfl; kernel_rfl; (exact fun _ _ _ h => h); (first | (exact U2 i) | (exact U2 (i + 1)) | (exact U1 0) | (exact U4 hm2))) | (refine DD 2 ?_) | fail)
          all_goals refine DD 3 ?_
          all_goals (try (refine D7 4 ?_; (repeat' (first | refine KO ?_ | (refine KB ?_ ?_ <;> intro hp)))))
          all_goals refine DD 4 ?_
          all_goals refine DD 5 ?_
          all_goals (first | (refine D1 6 ?_) | ((with_reducible apply ga_v 6); exact rfl; kernel_rfl; (exact fun _ _ _ h => h); (first | (exact U2 i) | (exact U2 (i + 1)) | (exact U1 0) | (exact U4 hm2))) | (refine DD 6 ?_) | fail)
          all_goals refine DD 7 ?_
          all_goals (first | (refine D1 8 ?_) | ((with_reducible apply ga_v 8); exact rfl; kernel_rfl; (exact fun _ _ _ h => h); (first | (exact U2 i) | (exact U2 (i + 1)) | (exact U1 0) | (exact U4 hm2))) | (refine DD 8 ?_) | fail)
          all_goals (first | (refine D1 9 ?_) | ((with_reducible apply ga_v 9); exact rfl; kernel_rfl; (exact fun _ _ _ h => h); (first | (exact U2 i) | (exact U2 (i + 1)) | (exact U1 0) | (exact U4 hm2))) | ((with_reducible apply ga_all1 9); kernel_rfl; (with_reducible apply gaop_val); exact rfl; exact rfl; exact rfl; exact rfl; (first | (exact U2 i) | (exact U2 (i + 1)) | (exact U1 0) | (exact U4 hm2))) | (refine DD 9 ?_) | fail)
          all_goals (first | (refine D3 10 ?_; refine D5 ?_; (with_reducible apply C1); exact rfl; exact EN; exact fun w μc hw hse => hcall w μc hw hse.le; refine D9 ?_) | (refine D3 10 (D6 ?_)))
          all_goals refine DD 11 ?_
          all_goals refine DD 12 ?_
          all_goals refine D8 ?_
          all_goals
            repeat' (first | (refine KO ?_) | ((with_reducible apply g_v); exact rfl; (first | ((with_reducible apply v_slice_lo 1); exact rfl; exact rfl; exact rfl; exact rfl; exact rfl; omega))) | (refine KI ?_) | ((refine KB ?_ ?_ <;> intro hp)) | (refine KG ?_) | fail)
          all_goals first | exact ret_s rfl rfl (congrArg _ hRj) | (exfalso; omega)
        · rw [hp1, if_pos rfl] at hRj
          rw [hp1] at hcall
          repeat' (first | (refine KO ?_) | ((with_reducible apply g_v); exact rfl; (first | (exact U2 i) | (exact U2 (i + 1)) | (exact U1 0))) | (refine KI ?_) | ((refine KB ?_ ?_ <;> intro hp)) | (refine KG ?_) | fail)
          refine gc_draw 13 ([]) (by kernel_rfl) rfl (by first | exact List.Sublist.refl _ | simp) ?_
          all_goals refine DD 0 ?_
          all_goals (first | (refine D1 1 ?_) | ((with_reducible apply ga_v 1); exact rfl; kernel_rfl; (exact fun _ _ _ h => h); (first | (exact U2 i) | (exact U2 (i + 1)) | (exact U1 0) | (exact U4 hm2))) | (refine DD 1 ?_) | fail)
          all_goals (first | (refine D1 2 ?_) | ((with_reducible apply ga_v 2); exact rfl; kernel_rfl; (exact fun _ _ _ h => h); (first | (exact U2 i) | (exact U2 (i + 1)) | (exact U1 0) | (exact U4 hm2))) | (refine DD 2 ?_) | fail)
          all_goals refine DD 3 ?_
          all_goals (try (refine D7 4 ?_; (repeat' (first | refine KO ?_ | (refine KB ?_ ?_ <;> intro hp)))))
          all_goals refine DD 4 ?_
          all_goals refine DD 5 ?_
          all_goals (first | (refine D1 6 ?_) | ((with_reducible apply ga_v 6); exact rfl; kernel_rfl; (exact fun _ _ _ h => h); (first | (exact U2 i) | (exact U2 (i + 1)) | (exact U1 0) | (exact U4 hm2))) | (refine DD 6 ?_) | fail)
          all_goals refine DD 7 ?_
          all_goals (first | (refine D1 8 ?_) | ((with_reducible apply ga_v 8); exact rfl; kernel_rfl; (exact fun _ _ _ h => h); (first | (exact U2 i) | (exact U2 (i + 1)) | (exact U1 0) | (exact U4 hm2))) | (refine DD 8 ?_) | fail)
          all_goals (first | (refine D1 9 ?_) | ((with_reducible apply ga_v 9); exact rfl; kernel_rfl; (exact fun _ _ _ h => h); (first | (exact U2 i) | (exact U2 (i + 1)) | (exact U1 0) | (exact U4 hm2))) | ((with_reducible apply ga_all1 9); kernel_rfl; (with_reducible apply gaop_val); exact rfl; exact rfl; exact rfl; exact rfl; (first | (exact U2 i) | (exact U2 (i + 1)) | (exact U1 0) | (exact U4 hm2))) | (refine DD 9 ?_) | fail)
          all_goals (first | (refine D3 10 ?_; refine D5 ?_; (with_reducible apply C1); exact rfl; exact EN; exact fun w μc hw hse => hcall w μc hw hse.le; refine D9 ?_) | (refine D3 10 (D6 ?_)))
          all_goals refine DD 11 ?_
          all_goals refine DD 12 ?_
          all_goals refine D8 ?_
          all_goals
            repeat' (first | (refine KO ?_) | ((with_reducible apply g_v); exact rfl; (first | ((with_reducible apply v_slice_lo 1); exact rfl; exact rfl; exact rfl; exact rfl; exact rfl; omega))) | (refine KI ?_) | ((refine KB ?_ ?_ <;> intro hp)) | (refine KG ?_) | fail)
          all_goals first | exact J2 (i + 1, j + 1, _, _) ⟨by show i + 1 ≤ s.size; omega, by show j + 1 ≤ n; omega, hkt, hRj⟩ (by show s.size - (i + 1) < s.size - i; omega) | (exfalso; omega)
      · obtain rfl : j = n := by omega
        have hdt : ks.drop j = [] := List.drop_of_length_le (by omega)
        rw [hdt] at hRj
        dsimp only at hRj
        repeat' (first | (refine KO ?_) | ((with_reducible apply g_v); exact rfl; (first | (exact U2 i) | (exact U2 (i + 1)) | (exact U1 0))) | (refine KI ?_) | ((refine KB ?_ ?_ <;> intro hp)) | (refine KG ?_) | fail)
        refine gc_draw 13 ([]) (by kernel_rfl) rfl (by first | exact List.Sublist.refl _ | simp) ?_
        all_goals refine DD 0 ?_
        all_goals (first | (refine D1 1 ?_) | ((with_reducible apply ga_v 1); exact rfl; kernel_rfl; (exact fun _ _ _ h => h); (first | (exact U2 i) | (exact U2 (i + 1)) | (exact U1 0))) | (refine DD 1 ?_) | fail)
        all_goals (first | (refine D1 2 ?_) | ((with_reducible apply ga_v 2); exact rfl; kernel_rfl; (exact fun _ _ _ h => h); (first | (exact U2 i) | (exact U2 (i + 1)) | (exact U1 0))) | (refine DD 2 ?_) | fail)
        all_goals refine DD 3 ?_
        all_goals (try (refine D7 4 ?_; (repeat' (first | refine KO ?_ | (refine KB ?_ ?_ <;> intro hp)))))
        all_goals refine DD 4 ?_
        all_goals refine DD 5 ?_
        all_goals (first | (refine D1 6 ?_) | ((with_reducible apply ga_v 6); exact rfl; kernel_rfl; (exact fun _ _ _ h => h); (first | (exact U2 i) | (exact U2 (i + 1)) | (exact U1 0))) | (refine DD 6 ?_) | fail)
        all_goals refine DD 7 ?_
        all_goals (first | (refine D1 8 ?_) | ((with_reducible apply ga_v 8); exact rfl; kernel_rfl; (exact fun _ _ _ h => h); (first | (exact U2 i) | (exact U2 (i + 1)) | (exact U1 0))) | (refine DD 8 ?_) | fail)
        all_goals (first | (refine D1 9 ?_) | ((with_reducible apply ga_v 9); exact rfl; kernel_rfl; (exact fun _ _ _ h => h); (first | (exact U2 i) | (exact U2 (i + 1)) | (exact U1 0))) | ((with_reducible apply ga_all1 9); kernel_rfl; (with_reducible apply gaop_val); exact rfl; exact rfl; exact rfl; exact rfl; (first | (exact U2 i) | (exact U2 (i + 1)) | (exact U1 0))) | (refine DD 9 ?_) | fail)
        all_goals (first | (refine D3 10 ?_; refine D5 ?_; (with_reducible apply C1); exact rfl; exact EN; fail; refine D9 ?_) | (refine D3 10 (D6 ?_)))
        all_goals refine DD 11 ?_
        all_goals refine DD 12 ?_
        all_goals refine D8 ?_
        all_goals
          repeat' (first | (refine KK ?_) | ((refine KB ?_ ?_ <;> intro hp)) | (refine KG ?_) | fail)
        all_goals first | exact ret_s rfl rfl (congrArg _ hRj) | (exfalso; omega)
  · obtain rfl : i = s.size := by omega
    rw [List.drop_of_length_le (by rw [bl_len]; omega)] at hRj
    have hR2 : decide (n - j = 0) = R := by rw [← hRj, ← hkn, ← List.length_drop, rowP_nil]
    repeat' (first | (refine KK ?_) | ((refine KB ?_ ?_ <;> intro hp)) | (refine KG ?_) | fail)
    refine ret_s rfl rfl ?_
    rw [← hR2]
    congr 1
    simp
    try omega
end Go.Proofs.YtllilkcocfalmaaGreatDoor
set_option maxRecDepth 20000
namespace Go.Proofs.YtllilkcocfalmaaGreatDoor
open Go.RowKit Go.Vcg
attribute [local irreducible] templB chB rExprT linkT G GC GQ GA GAop Calls IntKind.wrap Int.decLt Int.decLe
theorem rOne_spec (s : ByteArray) (ws : List (List UInt8)) (A : Option Addr) (n c : Nat) (w : World) (μ : Mem) (hμ : MOk μ w) (hS : Sl encB 1 μ A n ws) (hn : n ≤ 100000) :
    Calls Tryz.prog 101 #[.string s, .slice A n c] w fun e w' => e = .returned (.bool (oneT s ws)) ∧ Below w.heap.size w w' := by
  refine call_intro (args := [.string s, .slice A n c]) Tryz.func101 rfl Tryz.ntmps101 (by simp) hμ ?_
  have hqn : (eqsT s ws).length = n := by unfold eqsT; rw [List.length_map]; exact hS.1
  repeat' (first | (refine KK ?_) | ((refine KB ?_ ?_ <;> intro hp)) | (refine KG ?_) | fail)
  refine gc_loop (ι := Nat) (fun k => k ≤ n ∧ ∀ (j : Nat) (q : Bool), j < k → (eqsT s ws)[j]? = some q → q = false) (fun k => n - k) (fun _ => μ) (fun k => [(5, .int .i64 k), (1, .slice A n c), (0, .string s)]) (fun _ => []) 0 ⟨by omega, fun j _ h => absurd h (by omega)⟩ (fun a w hs => J6 hs) ?_
  rintro k ⟨hk, hf⟩
  by_cases hlt : k < n
  · have hqk : (eqsT s ws)[k]? = some ((eqsT s ws)[k]'(by omega)) := List.getElem?_eq_getElem (by omega)
    generalize (eqsT s ws)[k]'(by omega) = q at hqk
    have hnext : q = false → ∀ (j : Nat) (q : Bool), j < k + 1 → (eqsT s ws)[j]? = some q → q = false := fun h j p hj hp => by
      rcases Nat.lt_or_ge j k with h1 | h1
      · exact hf j p h1 hp
      · obtain rfl : j = k := by omega
        rw [hqk] at hp
        cases hp
        exact h
    obtain ⟨ad, y, rfl, hy, hm⟩ := hS.get hlt
    have hqv : q = decide (s = ⟨y.toArray⟩) := by
      have h := hqk
      unfold eqsT at h
      rw [List.getElem?_map, hy] at h
      exact (Option.some.inj h).symm
    cases hq : q
    · have hb := hnext hq
      rw [hq] at hqv
      have hne : ¬ (⟨y.toArray⟩ : ByteArray) = s := fun h => of_decide_eq_false hqv.symm h.symm
      repeat' (first | (refine KO ?_) | ((with_reducible apply g_v); exact rfl; (first | (exact U1 k) | (exact U3 (hm.at 0 rfl)))) | (refine KI ?_) | ((refine KB ?_ ?_ <;> intro hp)) | (refine KG ?_) | fail)
      all_goals first | exact J4 (k + 1) ⟨by omega, hb⟩ (by omega) | exact absurd hp hne | exact absurd hne hp
    · rw [hq] at hqv hqk
      have he : (⟨y.toArray⟩ : ByteArray) = s := (of_decide_eq_true hqv.symm).symm
      have ht : oneT s ws = true := by
        unfold oneT
        rw [List.any_eq_true]
        exact ⟨true, List.mem_of_getElem? hqk, rfl⟩
      rw [ht]
      repeat' (first | (refine KO ?_) | ((with_reducible apply g_v); exact rfl; (first | (exact U1 k) | (exact U3 (hm.at 0 rfl)))) | (refine KI ?_) | ((refine KB ?_ ?_ <;> intro hp)) | (refine KG ?_) | fail)
      all_goals first | exact ret_s rfl rfl rfl | exact absurd he hp | exact absurd hp (fun h => h he)
  · have ht : oneT s ws = false := by
      unfold oneT
      rw [List.any_eq_false]
      intro q hq
      obtain ⟨i, hi⟩ := List.mem_iff_getElem?.1 hq
      have h1 := hf i q (by have := (List.getElem?_eq_some_iff.1 hi).1; omega) hi
      simp [h1]
    rw [ht]
    repeat' (first | (refine KK ?_) | ((refine KB ?_ ?_ <;> intro hp)) | (refine KG ?_) | fail)
    exact ret_s rfl rfl rfl
theorem rTemplate_spec (ks : List T) (A : Option Addr) (n c : Nat) (w : World) (μ : Mem) (hμ : MOk μ w) (hk : KR μ ks (.slice A n c)) (hkn : ks.length = n) (hn : n ≤ 100000) (hks : ∀ k ∈ ks, T.size k ≤ 100000 ∧ k.s.size ≤ 65536) :
    Calls Tryz.prog 41 #[.slice A n c] w fun e w' => e = .returned (.bool (templB rExprT ks)) ∧ Below w.heap.size w w' := by
  refine call_intro (args := [.slice A n c]) Tryz.func41 rfl Tryz.ntmps41 (by simp) hμ ?_
  have hget : ∀ (i : Nat) (t : T), ks[i]? = some t → ∃ a u, A = some a ∧ MCells μ (a.add (i * 6)) (encT t u) ∧ u.oneCell' = true ∧ KR μ t.kids u := by
    obtain ⟨A', c', e, _, hg⟩ := hk.form
    cases e
    exact hg
  repeat' (first | (refine KK ?_) | ((refine KB ?_ ?_ <;> intro hp)) | (refine KG ?_) | fail)
  refine gc_loop (ι := Nat) (fun i => i ≤ n ∧ ∀ (j : Nat) (t : T), j < i → ks[j]? = some t → tmOk j rExprT t) (fun i => n - i) (fun _ => μ) (fun i => [(3, .int .i64 i), (0, .slice A n c)]) (fun _ => []) 0 ⟨by omega, fun j _ h => absurd h (by omega)⟩ (fun a w hs => J6 hs) ?_
  rintro i ⟨hi, hok⟩
  by_cases hlt : i < n
  · have hkk : ks[i]? = some ks[i] := List.getElem?_eq_getElem (by omega)
    generalize ks[i] = t at hkk
    obtain ⟨ad, x, rfl, hm, ho, hkx⟩ := hget i t hkk
    have hts := hks t (List.mem_of_getElem? hkk)
    have hr : (i : Int).tmod 2 = ((i % 2 : Nat) : Int) := rfl
    have hcall := fun (w : World) (μc : Mem) (hw : MOk μc w) (hle : MLe μ μc) => rExpr_spec t x w μc hw (hkx.mono hle) hts.1 hts.2
    by_cases hp1 : tmOk i rExprT t
    · have hnext : ∀ (j : Nat) (t : T), j < i + 1 → ks[j]? = some t → tmOk j rExprT t := fun j t' hj ht => by
        rcases Nat.lt_or_ge j i with h | h
        · exact hok j t' h ht
        · obtain rfl : j = i := by omega
          rw [hkk] at ht
          cases ht
          exact hp1
      unfold tmOk at hp1
      by_cases h2 : i % 2 = 0
      · rw [if_pos h2] at hp1
        repeat' (first | (refine KO ?_) | ((with_reducible apply C1); exact rfl; exact EN; exact fun w μc hw hse => hcall w μc hw hse.le) | ((with_reducible apply g_v); exact rfl; (first | (exact U1 i) | (exact U4 hm))) | (refine KI ?_) | ((refine KB ?_ ?_ <;> intro hp)) | (refine KG ?_) | fail)
        all_goals first
          | exact J2 (i + 1) ⟨by omega, hnext⟩ (by omega)
          | (exfalso; omega)
      · rw [if_neg h2] at hp1
        rw [hp1] at hcall
        repeat' (first | (refine KO ?_) | ((with_reducible apply C1); exact rfl; exact EN; exact fun w μc hw hse => hcall w μc hw hse.le) | ((with_reducible apply g_v); exact rfl; (first | (exact U1 i) | (exact U4 hm))) | (refine KI ?_) | ((refine KB ?_ ?_ <;> intro hp)) | (refine KG ?_) | fail)
        all_goals first
          | exact J2 (i + 1) ⟨by omega, hnext⟩ (by omega)
          | (exfalso; omega)
    · rw [templB_f fun h => hp1 (h.2 i t hkk)]
      unfold tmOk at hp1
      by_cases h2 : i % 2 = 0
      · rw [if_pos h2] at hp1
        repeat' (first | (refine KO ?_) | ((with_reducible apply C1); exact rfl; exact EN; exact fun w μc hw hse => hcall w μc hw hse.le) | ((with_reducible apply g_v); exact rfl; (first | (exact U1 i) | (exact U4 hm))) | (refine KI ?_) | ((refine KB ?_ ?_ <;> intro hp)) | (refine KG ?_) | fail)
        all_goals first
          | exact ret_s rfl rfl rfl
          | (exfalso; omega)
      · rw [if_neg h2] at hp1
        rw [Bool.not_eq_true _ |>.mp hp1] at hcall
        repeat' (first | (refine KO ?_) | ((with_reducible apply C1); exact rfl; exact EN; exact fun w μc hw hse => hcall w μc hw hse.le) | ((with_reducible apply g_v); exact rfl; (first | (exact U1 i) | (exact U4 hm))) | (refine KI ?_) | ((refine KB ?_ ?_ <;> intro hp)) | (refine KG ?_) | fail)
        all_goals first
          | exact ret_s rfl rfl rfl
          | (exfalso; omega)
  · obtain rfl : i = n := by omega
    have hr : (i : Int).tmod 2 = ((i % 2 : Nat) : Int) := rfl
    have hg : templB rExprT ks = decide ((i : Int).tmod 2 = 1) := by
      by_cases h : i % 2 = 1
      · rw [templB_t ⟨by rw [hkn]; exact h, fun j t hj => hok j t (by have := (List.getElem?_eq_some_iff.1 hj).1; omega) hj⟩]
        symm
        rw [decide_eq_true_eq]
        omega
      · rw [templB_f fun hf => h (by rw [← hkn]; exact hf.1)]
        symm
        rw [decide_eq_false_iff_not]
        omega
    rw [hg]
    repeat' (first | (refine KK ?_) | ((refine KB ?_ ?_ <;> intro hp)) | (refine KG ?_) | fail)
    exact ret_s rfl rfl rfl
theorem chained_spec : ∀ (n : Nat), n ≤ 100000 → ∀ (t : T) (u : Value) (w : World) (μ : Mem), MOk μ w → KR μ t.kids u → t.size ≤ n → Sh' t →
    Calls Tryz.prog 44 #[.agg (encT t u).toArray] w fun e w' => e = .returned (.bool (chB t)) ∧ Below w.heap.size w w' := by
  intro n
  induction n with
  | zero => intro _ t u w μ hμ hk hn; exact absurd hn (by rw [T.size_eq]; omega)
  | succ n ih =>
    intro hnb t u w μ hμ hk hn hsh
    have ho := hk.one
    have hlen := kidsLe t
    obtain ⟨A, c, rfl, hlc, hkid⟩ := hk.form
    have hcall := fun (w : World) (μc : Mem) (hw : MOk μc w) (hle : MLe μ μc) => rLink_spec t _ w μc hw (hk.mono hle) (by omega) hsh.s
    refine call_intro (args := [.agg (encT t (.slice A t.kids.length c)).toArray]) Tryz.func44 rfl Tryz.ntmps44 (by simp) hμ ?_
    cases hl : linkT t
    · rw [hl] at hcall
      rw [chB_f (ch_link hl)]
      repeat' (first | (refine KO ?_) | ((with_reducible apply F1 40); exact rfl; exact EN; (exact fun w μc hw hse => hcall w μc hw hse.le)) | (refine KI ?_) | (refine NB fun b => ?_) | ((refine KB ?_ ?_ <;> intro hp)) | (refine KG ?_) | fail)
      all_goals first | exact ret_s rfl rfl rfl | (exfalso; omega)
    · rw [hl] at hcall
      by_cases hn1 : t.n = 1
      · rw [chB_t (.one hl hn1)]
        repeat' (first | (refine KO ?_) | ((with_reducible apply F1 40); exact rfl; exact EN; (exact fun w μc hw hse => hcall w μc hw hse.le)) | (refine KI ?_) | (refine NB fun b => ?_) | ((refine KB ?_ ?_ <;> intro hp)) | (refine KG ?_) | fail)
        all_goals first | exact ret_s rfl rfl rfl | (exfalso; omega)
      · by_cases h0 : t.kids.length = 0
        · rw [chB_f (ch_nil hn1 (by rw [List.getElem?_eq_none_iff]; omega))]
          repeat' (first | (refine KO ?_) | ((with_reducible apply F1 40); exact rfl; exact EN; (exact fun w μc hw hse => hcall w μc hw hse.le)) | (refine KI ?_) | (refine NB fun b => ?_) | ((refine KB ?_ ?_ <;> intro hp)) | (refine KG ?_) | fail)
          all_goals first | exact ret_s rfl rfl rfl | (exfalso; omega)
        · have hk0 : t.kids[0]? = some t.kids[0] := List.getElem?_eq_getElem (by omega)
          generalize t.kids[0] = k at hk0
          obtain ⟨ad2, x2, rfl, hm2, ho2, hkx2⟩ := hkid 0 k hk0
          have hks := T.size_kid hk0
          have hB : chB t = chB k := by
            by_cases hc : Chained k
            · rw [chB_t hc, chB_t ((ch_iff hl hn1 hk0).2 hc)]
            · rw [chB_f hc, chB_f fun h => hc ((ch_iff hl hn1 hk0).1 h)]
          have hck := fun (w : World) (μc : Mem) (hw : MOk μc w) (hle : MLe μ μc) => ih (by omega) k x2 w μc hw (hkx2.mono hle) (by omega) (hsh.kid (List.mem_of_getElem? hk0))
          rw [hB]
          repeat' (first | (refine KO ?_) | ((with_reducible apply F1 40); exact rfl; exact EN; (exact fun w μc hw hse => hcall w μc hw hse.le)) | ((with_reducible apply F1 44); exact rfl; exact EN; (exact fun w μc hw hse => hck w μc hw hse.le)) | ((with_reducible apply g_v); exact rfl; (first | (exact U1 0) | (exact U4 hm2))) | (refine KI ?_) | (refine NB fun b => ?_) | ((refine KB ?_ ?_ <;> intro hp)) | (refine KG ?_) | fail)
          all_goals first | exact ret_s rfl rfl rfl | (exfalso; omega)
end Go.Proofs.YtllilkcocfalmaaGreatDoor
set_option maxRecDepth 20000
set_option maxHeartbeats 2000000
namespace Go.Proofs.YtllilkcocfalmaaGreatDoor
open Go.RowKit Go.Vcg
noncomputable def fnT (t : T) : Bool :=
  if t.n < 0 ∨ 255 < t.n ∨ t.s ≠ ⟨#[]⟩ ∧ formB t.s = false then false
  else (if 1 < whatT (bitT t) 5 ∨ bitT t 4 = true ∧ (bitT t 2 = true ∨ bitT t 16 = true ∨ bitT t 32 = true) ∨ bitT t 128 = true ∧ bitT t 2 = false then false else if bitT t 1 = true then decide (t.s ≠ ⟨#[]⟩) else decide (whatT (bitT t) 5 = 0) || decide (t.s = ⟨#[]⟩))
attribute [local irreducible] formB bitT whatT G GC GQ GA GAop Calls IntKind.wrap Int.decLt Int.decLe
theorem fn_spec (t : T) (u : Value) (w : World) (μ : Mem) (hμ : MOk μ w) (hk : KR μ t.kids u) (hs : t.size ≤ 100000) (hss : t.s.size ≤ 65536) :
    Calls Tryz.prog 76 #[.agg (encT t u).toArray] w fun e w' => e = .returned (.bool (fnT t)) ∧ Below w.heap.size w w' := by
  have ho := hk.one
  refine call_intro (args := [.agg (encT t u).toArray]) Tryz.func76 rfl Tryz.ntmps76 (by simp) hμ ?_
  have hform := fun (w : World) (μc : Mem) (hw : MOk μc w) => rForm_spec t.s hss w μc hw
  have hhas := fun (m : Int) (hm : m ≠ 0) (w : World) (μc : Mem) (hw : MOk μc w) (hle : MLe μ μc) => rBit_spec m hm t u w μc hw (hk.mono hle)
  by_cases h1 : t.n < 0 ∨ 255 < t.n ∨ t.s ≠ ⟨#[]⟩ ∧ formB t.s = false
  · have hg : fnT t = false := by unfold fnT; rw [if_pos h1]
    rw [hg]
    repeat' (first | ((with_reducible show GC _ _ (Code.seq (Code.region 3 _ _) _) _ _ _ _); (apply gc_stop)) | (refine KO ?_) | ((with_reducible apply F1 99); exact rfl; exact EN; (exact fun w μc hw hse => hform w μc hw)) | (refine KI ?_) | (refine NB fun b => ?_) | ((refine KB ?_ ?_ <;> intro hp)) | (refine KG ?_) | fail)
    all_goals first | exact ret_s rfl rfl rfl | (exfalso; omega) | (exfalso; simp_all; try omega)
  · repeat' (first | ((with_reducible show GC _ _ (Code.seq (Code.region 3 _ _) _) _ _ _ _); (apply gc_stop)) | (refine KO ?_) | ((with_reducible apply F1 99); exact rfl; exact EN; (exact fun w μc hw hse => hform w μc hw)) | (refine KI ?_) | (refine NB fun b => ?_) | ((refine KB ?_ ?_ <;> intro hp)) | (refine KG ?_) | fail)
    rotate_left
    · exfalso
      simp_all
    rotate_left
    all_goals
      refine gcs ?_
      rename Nat => ba
      have hg : fnT t = (if 1 < whatT (bitT t) 5 ∨ bitT t 4 = true ∧ (bitT t 2 = true ∨ bitT t 16 = true ∨ bitT t 32 = true) ∨ bitT t 128 = true ∧ bitT t 2 = false then false else if bitT t 1 = true then decide (t.s ≠ ⟨#[]⟩) else decide (whatT (bitT t) 5 = 0) || decide (t.s = ⟨#[]⟩)) := by unfold fnT; rw [if_neg h1]
      have hw5 := whatT_le (bitT t) 5
      repeat' (first | (refine KK ?_) | (refine NB fun b => ?_) | ((refine KB ?_ ?_ <;> intro hp)) | (refine KG ?_) | fail)
      refine gc_loop (ι := Nat) (fun i => i ≤ 5) (fun i => 5 - i) (fun _ => μ) (fun i => [(5, .int .i64 i), (4, .slice (some ⟨b, 0, none⟩) 5 5), (3, .int .i64 (whatT (bitT t) i)), (1, .pointer (some ⟨ba, 0, none⟩))]) (fun _ => [.inl ⟨b, 3, 5, idx 0 [.int .i64 1, .int .i64 2, .int .i64 8, .int .i64 16, .int .i64 32]⟩, .inl ⟨ba, 24, 6, idx 0 (encT t u)⟩]) 0 (by decide) (fun a w hs => by rw [whatT_0]; exact J5 hs) ?_
      intro i hi
      have hwi := whatT_le (bitT t) i
      rcases (by omega : i = 5 ∨ i = 0 ∨ i = 1 ∨ i = 2 ∨ i = 3 ∨ i = 4) with rfl | rfl | rfl | rfl | rfl | rfl
      · rw [hg]
        clear hg h1
        repeat' (first | (refine KO ?_) | ((with_reducible apply F1 100); exact rfl; exact EN; (exact fun w μc hw hse => hhas _ (by decide) w μc hw hse.le)) | (refine KI ?_) | (refine NB fun b => ?_) | ((refine KB ?_ ?_ <;> intro hp)) | (refine KG ?_) | fail)
        all_goals clear hform hhas hk ho
        all_goals first | (refine ret_s rfl rfl ?_; simp_all; done) | (refine ret_s rfl rfl ?_; simp_all; omega) | (exfalso; simp_all; done)
      · have hn : whatT (bitT t) 1 = whatT (bitT t) 0 + (if bitT t 1 = true then 1 else 0) := whatT_s (k := 0) rfl
        cases hh : bitT t 1
        · rw [hh, if_neg (by simp), Nat.add_zero] at hn
          repeat' (first | (refine KK ?_) | (refine NB fun b => ?_) | ((refine KB ?_ ?_ <;> intro hp)) | (refine KG ?_) | fail)
          refine gc_draw 6 _ (by kernel_rfl) rfl (List.Sublist.cons_cons _ (List.Sublist.cons_cons _ (List.nil_sublist _))) ?_
          all_goals (first | (refine D1 0 ?_) | ((with_reducible apply ga_v 0); exact rfl; kernel_rfl; (exact fun _ _ _ h => h); (first | (exact U1 0))) | ((with_reducible apply ga_all1 0); kernel_rfl; (with_reducible apply gaop_val); exact rfl; exact rfl; exact rfl; exact rfl; (first | (exact U1 0))) | (refine DD 0 ?_) | fail)
          all_goals refine DD 1 ?_
          all_goals refine DD 2 ?_
          all_goals (first | (refine D1 3 ?_) | ((with_reducible apply ga_v 3); exact rfl; kernel_rfl; (exact fun _ _ _ h => h); (first | (exact U1 0))) | (refine DD 3 ?_) | fail)
          all_goals (first | (refine D1 4 ?_) | ((with_reducible apply ga_v 4); exact rfl; kernel_rfl; (exact fun _ _ _ h => h); (first | (exact U1 0))) | ((with_reducible apply ga_all1 4); kernel_rfl; (with_reducible apply gaop_val); exact rfl; exact rfl; exact rfl; exact rfl; (first | (exact U1 0))) | (refine DD 4 ?_) | fail)
          all_goals (first | (refine D3 5 ?_; refine D5 ?_; (with_reducible apply F1 100); exact rfl; exact EN; (exact fun w μc hw hse => hh ▸ hhas 1 (by decide) w μc hw hse.le); refine D9 ?_))
          all_goals refine D8 ?_
          repeat' (first | (refine KK ?_) | (refine NB fun b => ?_) | ((refine KB ?_ ?_ <;> intro hp)) | (refine KG ?_) | fail)
          all_goals first | (rw [← hn]; exact J2 1 (by decide) (by decide)) | (exfalso; omega)
        · rw [hh, if_pos rfl] at hn
          repeat' (first | (refine KK ?_) | (refine NB fun b => ?_) | ((refine KB ?_ ?_ <;> intro hp)) | (refine KG ?_) | fail)
          refine gc_draw 6 _ (by kernel_rfl) rfl (List.Sublist.cons_cons _ (List.Sublist.cons_cons _ (List.nil_sublist _))) ?_
          all_goals (first | (refine D1 0 ?_) | ((with_reducible apply ga_v 0); exact rfl; kernel_rfl; (exact fun _ _ _ h => h); (first | (exact U1 0))) | ((with_reducible apply ga_all1 0); kernel_rfl; (with_reducible apply gaop_val); exact rfl; exact rfl; exact rfl; exact rfl; (first | (exact U1 0))) | (refine DD 0 ?_) | fail)
          all_goals refine DD 1 ?_
          all_goals refine DD 2 ?_
          all_goals (first | (refine D1 3 ?_) | ((with_reducible apply ga_v 3); exact rfl; kernel_rfl; (exact fun _ _ _ h => h); (first | (exact U1 0))) | (refine DD 3 ?_) | fail)
          all_goals (first | (refine D1 4 ?_) | ((with_reducible apply ga_v 4); exact rfl; kernel_rfl; (exact fun _ _ _ h => h); (first | (exact U1 0))) | ((with_reducible apply ga_all1 4); kernel_rfl; (with_reducible apply gaop_val); exact rfl; exact rfl; exact rfl; exact rfl; (first | (exact U1 0))) | (refine DD 4 ?_) | fail)
          all_goals (first | (refine D3 5 ?_; refine D5 ?_; (with_reducible apply F1 100); exact rfl; exact EN; (exact fun w μc hw hse => hh ▸ hhas 1 (by decide) w μc hw hse.le); refine D9 ?_))
          all_goals refine D8 ?_
          repeat' (first | (refine KK ?_) | (refine NB fun b => ?_) | ((refine KB ?_ ?_ <;> intro hp)) | (refine KG ?_) | fail)
          all_goals first | (rw [show ((whatT (bitT t) 0 : Nat) : Int) + 1 = ((whatT (bitT t) 1 : Nat) : Int) from by omega]; exact J2 1 (by decide) (by decide)) | (exfalso; omega)
      · have hn : whatT (bitT t) 2 = whatT (bitT t) 1 + (if bitT t 2 = true then 1 else 0) := whatT_s (k := 1) rfl
        cases hh : bitT t 2
        · rw [hh, if_neg (by simp), Nat.add_zero] at hn
          repeat' (first | (refine KK ?_) | (refine NB fun b => ?_) | ((refine KB ?_ ?_ <;> intro hp)) | (refine KG ?_) | fail)
          refine gc_draw 6 _ (by kernel_rfl) rfl (List.Sublist.cons_cons _ (List.Sublist.cons_cons _ (List.nil_sublist _))) ?_
          all_goals (first | (refine D1 0 ?_) | ((with_reducible apply ga_v 0); exact rfl; kernel_rfl; (exact fun _ _ _ h => h); (first | (exact U1 1))) | ((with_reducible apply ga_all1 0); kernel_rfl; (with_reducible apply gaop_val); exact rfl; exact rfl; exact rfl; exact rfl; (first | (exact U1 1))) | (refine DD 0 ?_) | fail)
          all_goals refine DD 1 ?_
          all_goals refine DD 2 ?_
          all_goals (first | (refine D1 3 ?_) | ((with_reducible apply ga_v 3); exact rfl; kernel_rfl; (exact fun _ _ _ h => h); (first | (exact U1 1))) | (refine DD 3 ?_) | fail)
          all_goals (first | (refine D1 4 ?_) | ((with_reducible apply ga_v 4); exact rfl; kernel_rfl; (exact fun _ _ _ h => h); (first | (exact U1 1))) | ((with_reducible apply ga_all1 4); kernel_rfl; (with_reducible apply gaop_val); exact rfl; exact rfl; exact rfl; exact rfl; (first | (exact U1 1))) | (refine DD 4 ?_) | fail)
          all_goals (first | (refine D3 5 ?_; refine D5 ?_; (with_reducible apply F1 100); exact rfl; exact EN; (exact fun w μc hw hse => hh ▸ hhas 2 (by decide) w μc hw hse.le); refine D9 ?_))
          all_goals refine D8 ?_
          repeat' (first | (refine KK ?_) | (refine NB fun b => ?_) | ((refine KB ?_ ?_ <;> intro hp)) | (refine KG ?_) | fail)
          all_goals first | (rw [← hn]; exact J2 2 (by decide) (by decide)) | (exfalso; omega)
        · rw [hh, if_pos rfl] at hn
          repeat' (first | (refine KK ?_) | (refine NB fun b => ?_) | ((refine KB ?_ ?_ <;> intro hp)) | (refine KG ?_) | fail)
          refine gc_draw 6 _ (by kernel_rfl) rfl (List.Sublist.cons_cons _ (List.Sublist.cons_cons _ (List.nil_sublist _))) ?_
          all_goals (first | (refine D1 0 ?_) | ((with_reducible apply ga_v 0); exact rfl; kernel_rfl; (exact fun _ _ _ h => h); (first | (exact U1 1))) | ((with_reducible apply ga_all1 0); kernel_rfl; (with_reducible apply gaop_val); exact rfl; exact rfl; exact rfl; exact rfl; (first | (exact U1 1))) | (refine DD 0 ?_) | fail)
          all_goals refine DD 1 ?_
          all_goals refine DD 2 ?_
          all_goals (first | (refine D1 3 ?_) | ((with_reducible apply ga_v 3); exact rfl; kernel_rfl; (exact fun _ _ _ h => h); (first | (exact U1 1))) | (refine DD 3 ?_) | fail)
          all_goals (first | (refine D1 4 ?_) | ((with_reducible apply ga_v 4); exact rfl; kernel_rfl; (exact fun _ _ _ h => h); (first | (exact U1 1))) | ((with_reducible apply ga_all1 4); kernel_rfl; (with_reducible apply gaop_val); exact rfl; exact rfl; exact rfl; exact rfl; (first | (exact U1 1))) | (refine DD 4 ?_) | fail)
          all_goals (first | (refine D3 5 ?_; refine D5 ?_; (with_reducible apply F1 100); exact rfl; exact EN; (exact fun w μc hw hse => hh ▸ hhas 2 (by decide) w μc hw hse.le); refine D9 ?_))
          all_goals refine D8 ?_
          repeat' (first | (refine KK ?_) | (refine NB fun b => ?_) | ((refine KB ?_ ?_ <;> intro hp)) | (refine KG ?_) | fail)
          all_goals first | (rw [show ((whatT (bitT t) 1 : Nat) : Int) + 1 = ((whatT (bitT t) 2 : Nat) : Int) from by omega]; exact J2 2 (by decide) (by decide)) | (exfalso; omega)
      · have hn : whatT (bitT t) 3 = whatT (bitT t) 2 + (if bitT t 8 = true then 1 else 0) := whatT_s (k := 2) rfl
        cases hh : bitT t 8
        · rw [hh, if_neg (by simp), Nat.add_zero] at hn
          repeat' (first | (refine KK ?_) | (refine NB fun b => ?_) | ((refine KB ?_ ?_ <;> intro hp)) | (refine KG ?_) | fail)
          refine gc_draw 6 _ (by kernel_rfl) rfl (List.Sublist.cons_cons _ (List.Sublist.cons_cons _ (List.nil_sublist _))) ?_
          all_goals (first | (refine D1 0 ?_) | ((with_reducible apply ga_v 0); exact rfl; kernel_rfl; (exact fun _ _ _ h => h); (first | (exact U1 2))) | ((with_reducible apply ga_all1 0); kernel_rfl; (with_reducible apply gaop_val); exact rfl; exact rfl; exact rfl; exact rfl; (first | (exact U1 2))) | (refine DD 0 ?_) | fail)
          all_goals refine DD 1 ?_
          all_goals refine DD 2 ?_
          all_goals (first | (refine D1 3 ?_) | ((with_reducible apply ga_v 3); exact rfl; kernel_rfl; (exact fun _ _ _ h => h); (first | (exact U1 2))) | (refine DD 3 ?_) | fail)
          all_goals (first | (refine D1 4 ?_) | ((with_reducible apply ga_v 4); exact rfl; kernel_rfl; (exact fun _ _ _ h => h); (first | (exact U1 2))) | ((with_reducible apply ga_all1 4); kernel_rfl; (with_reducible apply gaop_val); exact rfl; exact rfl; exact rfl; exact rfl; (first | (exact U1 2))) | (refine DD 4 ?_) | fail)
          all_goals (first | (refine D3 5 ?_; refine D5 ?_; (with_reducible apply F1 100); exact rfl; exact EN; (exact fun w μc hw hse => hh ▸ hhas 8 (by decide) w μc hw hse.le); refine D9 ?_))
          all_goals refine D8 ?_
          repeat' (first | (refine KK ?_) | (refine NB fun b => ?_) | ((refine KB ?_ ?_ <;> intro hp)) | (refine KG ?_) | fail)
          all_goals first | (rw [← hn]; exact J2 3 (by decide) (by decide)) | (exfalso; omega)
        · rw [hh, if_pos rfl] at hn
          repeat' (first | (refine KK ?_) | (refine NB fun b => ?_) | ((refine KB ?_ ?_ <;> intro hp)) | (refine KG ?_) | fail)
          refine gc_draw 6 _ (by kernel_rfl) rfl (List.Sublist.cons_cons _ (List.Sublist.cons_cons _ (List.nil_sublist _))) ?_
          all_goals (first | (refine D1 0 ?_) | ((with_reducible apply ga_v 0); exact rfl; kernel_rfl; (exact fun _ _ _ h => h); (first | (exact U1 2))) | ((with_reducible apply ga_all1 0); kernel_rfl; (with_reducible apply gaop_val); exact rfl; exact rfl; exact rfl; exact rfl; (first | (exact U1 2))) | (refine DD 0 ?_) | fail)
          all_goals refine DD 1 ?_
          all_goals refine DD 2 ?_
          all_goals (first | (refine D1 3 ?_) | ((with_reducible apply ga_v 3); exact rfl; kernel_rfl; (exact fun _ _ _ h => h); (first | (exact U1 2))) | (refine DD 3 ?_) | fail)
          all_goals (first | (refine D1 4 ?_) | ((with_reducible apply ga_v 4); exact rfl; kernel_rfl; (exact fun _ _ _ h => h); (first | (exact U1 2))) | ((with_reducible apply ga_all1 4); kernel_rfl; (with_reducible apply gaop_val); exact rfl; exact rfl; exact rfl; exact rfl; (first | (exact U1 2))) | (refine DD 4 ?_) | fail)
          all_goals (first | (refine D3 5 ?_; refine D5 ?_; (with_reducible apply F1 100); exact rfl; exact EN; (exact fun w μc hw hse => hh ▸ hhas 8 (by decide) w μc hw hse.le); refine D9 ?_))
          all_goals refine D8 ?_
          repeat' (first | (refine KK ?_) | (refine NB fun b => ?_) | ((refine KB ?_ ?_ <;> intro hp)) | (refine KG ?_) | fail)
          all_goals first | (rw [show ((whatT (bitT t) 2 : Nat) : Int) + 1 = ((whatT (bitT t) 3 : Nat) : Int) from by omega]; exact J2 3 (by decide) (by decide)) | (exfalso; omega)
      · have hn : whatT (bitT t) 4 = whatT (bitT t) 3 + (if bitT t 16 = true then 1 else 0) := whatT_s (k := 3) rfl
        cases hh : bitT t 16
        · rw [hh, if_neg (by simp), Nat.add_zero] at hn
          repeat' (first | (refine KK ?_) | (refine NB fun b => ?_) | ((refine KB ?_ ?_ <;> intro hp)) | (refine KG ?_) | fail)
          refine gc_draw 6 _ (by kernel_rfl) rfl (List.Sublist.cons_cons _ (List.Sublist.cons_cons _ (List.nil_sublist _))) ?_
          all_goals (first | (refine D1 0 ?_) | ((with_reducible apply ga_v 0); exact rfl; kernel_rfl; (exact fun _ _ _ h => h); (first | (exact U1 3))) | ((with_reducible apply ga_all1 0); kernel_rfl; (with_reducible apply gaop_val); exact rfl; exact rfl; exact rfl; exact rfl; (first | (exact U1 3))) | (refine DD 0 ?_) | fail)
          all_goals refine DD 1 ?_
          all_goals refine DD 2 ?_
          all_goals (first | (refine D1 3 ?_) | ((with_reducible apply ga_v 3); exact rfl; kernel_rfl; (exact fun _ _ _ h => h); (first | (exact U1 3))) | (refine DD 3 ?_) | fail)
          all_goals (first | (refine D1 4 ?_) | ((with_reducible apply ga_v 4); exact rfl; kernel_rfl; (exact fun _ _ _ h => h); (first | (exact U1 3))) | ((with_reducible apply ga_all1 4); kernel_rfl; (with_reducible apply gaop_val); exact rfl; exact rfl; exact rfl; exact rfl; (first | (exact U1 3))) | (refine DD 4 ?_) | fail)
          all_goals (first | (refine D3 5 ?_; refine D5 ?_; (with_reducible apply F1 100); exact rfl; exact EN; (exact fun w μc hw hse => hh ▸ hhas 16 (by decide) w μc hw hse.le); refine D9 ?_))
          all_goals refine D8 ?_
          repeat' (first | (refine KK ?_) | (refine NB fun b => ?_) | ((refine KB ?_ ?_ <;> intro hp)) | (refine KG ?_) | fail)
          all_goals first | (rw [← hn]; exact J2 4 (by decide) (by decide)) | (exfalso; omega)
        · rw [hh, if_pos rfl] at hn
          repeat' (first | (refine KK ?_) | (refine NB fun b => ?_) | ((refine KB ?_ ?_ <;> intro hp)) | (refine KG ?_) | fail)
          refine gc_draw 6 _ (by kernel_rfl) rfl (List.Sublist.cons_cons _ (List.Sublist.cons_cons _ (List.nil_sublist _))) ?_
          all_goals (first | (refine D1 0 ?_) | ((with_reducible apply ga_v 0); exact rfl; kernel_rfl; (exact fun _ _ _ h => h); (first | (exact U1 3))) | ((with_reducible apply ga_all1 0); kernel_rfl; (with_reducible apply gaop_val); exact rfl; exact rfl; exact rfl; exact rfl; (first | (exact U1 3))) | (refine DD 0 ?_) | fail)
          all_goals refine DD 1 ?_
          all_goals refine DD 2 ?_
          all_goals (first | (refine D1 3 ?_) | ((with_reducible apply ga_v 3); exact rfl; kernel_rfl; (exact fun _ _ _ h => h); (first | (exact U1 3))) | (refine DD 3 ?_) | fail)
          all_goals (first | (refine D1 4 ?_) | ((with_reducible apply ga_v 4); exact rfl; kernel_rfl; (exact fun _ _ _ h => h); (first | (exact U1 3))) | ((with_reducible apply ga_all1 4); kernel_rfl; (with_reducible apply gaop_val); exact rfl; exact rfl; exact rfl; exact rfl; (first | (exact U1 3))) | (refine DD 4 ?_) | fail)
          all_goals (first | (refine D3 5 ?_; refine D5 ?_; (with_reducible apply F1 100); exact rfl; exact EN; (exact fun w μc hw hse => hh ▸ hhas 16 (by decide) w μc hw hse.le); refine D9 ?_))
          all_goals refine D8 ?_
          repeat' (first | (refine KK ?_) | (refine NB fun b => ?_) | ((refine KB ?_ ?_ <;> intro hp)) | (refine KG ?_) | fail)
          all_goals first | (rw [show ((whatT (bitT t) 3 : Nat) : Int) + 1 = ((whatT (bitT t) 4 : Nat) : Int) from by omega]; exact J2 4 (by decide) (by decide)) | (exfalso; omega)
      · have hn : whatT (bitT t) 5 = whatT (bitT t) 4 + (if bitT t 32 = true then 1 else 0) := whatT_s (k := 4) rfl
        cases hh : bitT t 32
        · rw [hh, if_neg (by simp), Nat.add_zero] at hn
          repeat' (first | (refine KK ?_) | (refine NB fun b => ?_) | ((refine KB ?_ ?_ <;> intro hp)) | (refine KG ?_) | fail)
          refine gc_draw 6 _ (by kernel_rfl) rfl (List.Sublist.cons_cons _ (List.Sublist.cons_cons _ (List.nil_sublist _))) ?_
          all_goals (first | (refine D1 0 ?_) | ((with_reducible apply ga_v 0); exact rfl; kernel_rfl; (exact fun _ _ _ h => h); (first | (exact U1 4))) | ((with_reducible apply ga_all1 0); kernel_rfl; (with_reducible apply gaop_val); exact rfl; exact rfl; exact rfl; exact rfl; (first | (exact U1 4))) | (refine DD 0 ?_) | fail)
          all_goals refine DD 1 ?_
          all_goals refine DD 2 ?_
          all_goals (first | (refine D1 3 ?_) | ((with_reducible apply ga_v 3); exact rfl; kernel_rfl; (exact fun _ _ _ h => h); (first | (exact U1 4))) | (refine DD 3 ?_) | fail)
          all_goals (first | (refine D1 4 ?_) | ((with_reducible apply ga_v 4); exact rfl; kernel_rfl; (exact fun _ _ _ h => h); (first | (exact U1 4))) | ((with_reducible apply ga_all1 4); kernel_rfl; (with_reducible apply gaop_val); exact rfl; exact rfl; exact rfl; exact rfl; (first | (exact U1 4))) | (refine DD 4 ?_) | fail)
          all_goals (first | (refine D3 5 ?_; refine D5 ?_; (with_reducible apply F1 100); exact rfl; exact EN; (exact fun w μc hw hse => hh ▸ hhas 32 (by decide) w μc hw hse.le); refine D9 ?_))
          all_goals refine D8 ?_
          repeat' (first | (refine KK ?_) | (refine NB fun b => ?_) | ((refine KB ?_ ?_ <;> intro hp)) | (refine KG ?_) | fail)
          all_goals first | (rw [← hn]; exact J2 5 (by decide) (by decide)) | (exfalso; omega)
        · rw [hh, if_pos rfl] at hn
          repeat' (first | (refine KK ?_) | (refine NB fun b => ?_) | ((refine KB ?_ ?_ <;> intro hp)) | (refine KG ?_) | fail)
          refine gc_draw 6 _ (by kernel_rfl) rfl (List.Sublist.cons_cons _ (List.Sublist.cons_cons _ (List.nil_sublist _))) ?_
          all_goals (first | (refine D1 0 ?_) | ((with_reducible apply ga_v 0); exact rfl; kernel_rfl; (exact fun _ _ _ h => h); (first | (exact U1 4))) | ((with_reducible apply ga_all1 0); kernel_rfl; (with_reducible apply gaop_val); exact rfl; exact rfl; exact rfl; exact rfl; (first | (exact U1 4))) | (refine DD 0 ?_) | fail)
          all_goals refine DD 1 ?_
          all_goals refine DD 2 ?_
          all_goals (first | (refine D1 3 ?_) | ((with_reducible apply ga_v 3); exact rfl; kernel_rfl; (exact fun _ _ _ h => h); (first | (exact U1 4))) | (refine DD 3 ?_) | fail)
          all_goals (first | (refine D1 4 ?_) | ((with_reducible apply ga_v 4); exact rfl; kernel_rfl; (exact fun _ _ _ h => h); (first | (exact U1 4))) | ((with_reducible apply ga_all1 4); kernel_rfl; (with_reducible apply gaop_val); exact rfl; exact rfl; exact rfl; exact rfl; (first | (exact U1 4))) | (refine DD 4 ?_) | fail)
          all_goals (first | (refine D3 5 ?_; refine D5 ?_; (with_reducible apply F1 100); exact rfl; exact EN; (exact fun w μc hw hse => hh ▸ hhas 32 (by decide) w μc hw hse.le); refine D9 ?_))
          all_goals refine D8 ?_
          repeat' (first | (refine KK ?_) | (refine NB fun b => ?_) | ((refine KB ?_ ?_ <;> intro hp)) | (refine KG ?_) | fail)
          all_goals first | (rw [show ((whatT (bitT t) 4 : Nat) : Int) + 1 = ((whatT (bitT t) 5 : Nat) : Int) from by omega]; exact J2 5 (by decide) (by decide)) | (exfalso; omega)
end Go.Proofs.YtllilkcocfalmaaGreatDoor
set_option maxRecDepth 20000
set_option maxHeartbeats 2000000
namespace Go.Proofs.YtllilkcocfalmaaGreatDoor
open Go.RowKit Go.Vcg
theorem one43 (s : ByteArray) : oneT s words43 = (decide (s = ⟨#[43, 43]⟩) || decide (s = ⟨#[45, 45]⟩)) := by
  unfold oneT eqsT words43
  simp only [List.map_cons, List.map_nil, List.any_cons, List.any_nil, Bool.or_false, id_eq]
theorem one45 (s : ByteArray) : oneT s words45 = (decide (s = ⟨#[38, 38]⟩) || (decide (s = ⟨#[124, 124]⟩) || decide (s = ⟨#[63, 63]⟩))) := by
  unfold oneT eqsT words45
  simp only [List.map_cons, List.map_nil, List.any_cons, List.any_nil, Bool.or_false, id_eq]
attribute [local irreducible] formB oneT G GC GQ GA GAop Calls IntKind.wrap Int.decLt Int.decLe
theorem rwd_42 (t : T) (u : Value) (w : World) (μ : Mem) (hμ : MOk μ w) (hk : KR μ t.kids u) (hop : t.op = 42) :
    Calls Tryz.prog 77 #[.agg (encT t u).toArray] w fun e w' => e = .returned (.bool (oneT t.s words42)) ∧ Below w.heap.size w w' := by
  have ho := hk.one
  refine call_intro (args := [.agg (encT t u).toArray]) Tryz.func77 rfl Tryz.ntmps77 (by simp) hμ ?_
  repeat' (first | (refine KO ?_) | ((with_reducible apply F1 101); exact rfl; exact EN; (exact fun w μc hw hse => rOne_spec t.s words42 _ _ _ w μc hw (sl_lit hse.hd rfl (by simp) (by repeat first | exact lc_nil | refine lc_cons rfl ?_)) (by decide))) | (refine KI ?_) | (refine NB fun b => ?_) | ((refine KB ?_ ?_ <;> intro hp)) | (refine KG ?_) | fail)
  all_goals first | exact ret_s rfl rfl rfl | (exfalso; omega)
theorem rwd_44 (t : T) (u : Value) (w : World) (μ : Mem) (hμ : MOk μ w) (hk : KR μ t.kids u) (hop : t.op = 44) :
    Calls Tryz.prog 77 #[.agg (encT t u).toArray] w fun e w' => e = .returned (.bool (oneT t.s words44)) ∧ Below w.heap.size w w' := by
  have ho := hk.one
  refine call_intro (args := [.agg (encT t u).toArray]) Tryz.func77 rfl Tryz.ntmps77 (by simp) hμ ?_
  repeat' (first | (refine KO ?_) | ((with_reducible apply F1 101); exact rfl; exact EN; (exact fun w μc hw hse => rOne_spec t.s words44 _ _ _ w μc hw (sl_lit hse.hd rfl (by simp) (by repeat first | exact lc_nil | refine lc_cons rfl ?_)) (by decide))) | (refine KI ?_) | (refine NB fun b => ?_) | ((refine KB ?_ ?_ <;> intro hp)) | (refine KG ?_) | fail)
  all_goals first | exact ret_s rfl rfl rfl | (exfalso; omega)
theorem rwd_46 (t : T) (u : Value) (w : World) (μ : Mem) (hμ : MOk μ w) (hk : KR μ t.kids u) (hop : t.op = 46) :
    Calls Tryz.prog 77 #[.agg (encT t u).toArray] w fun e w' => e = .returned (.bool (oneT t.s words46)) ∧ Below w.heap.size w w' := by
  have ho := hk.one
  refine call_intro (args := [.agg (encT t u).toArray]) Tryz.func77 rfl Tryz.ntmps77 (by simp) hμ ?_
  repeat' (first | (refine KO ?_) | ((with_reducible apply F1 101); exact rfl; exact EN; (exact fun w μc hw hse => rOne_spec t.s words46 _ _ _ w μc hw (sl_lit hse.hd rfl (by simp) (by repeat first | exact lc_nil | refine lc_cons rfl ?_)) (by decide))) | (refine KI ?_) | (refine NB fun b => ?_) | ((refine KB ?_ ?_ <;> intro hp)) | (refine KG ?_) | fail)
  all_goals first | exact ret_s rfl rfl rfl | (exfalso; omega)
theorem rwd_43 (t : T) (u : Value) (w : World) (μ : Mem) (hμ : MOk μ w) (hk : KR μ t.kids u) (hop : t.op = 43) :
    Calls Tryz.prog 77 #[.agg (encT t u).toArray] w fun e w' => e = .returned (.bool (oneT t.s words43)) ∧ Below w.heap.size w w' := by
  have ho := hk.one
  refine call_intro (args := [.agg (encT t u).toArray]) Tryz.func77 rfl Tryz.ntmps77 (by simp) hμ ?_
  rw [one43]
  repeat' (first | (refine KO ?_) | ((with_reducible apply F1 101); exact rfl; exact EN; fail) | (refine KI ?_) | (refine NB fun b => ?_) | ((refine KB ?_ ?_ <;> intro hp)) | (refine KG ?_) | fail)
  all_goals first | (exfalso; omega) | (refine ret_s rfl rfl ?_; simp_all; done)
theorem rwd_45 (t : T) (u : Value) (w : World) (μ : Mem) (hμ : MOk μ w) (hk : KR μ t.kids u) (hop : t.op = 45) :
    Calls Tryz.prog 77 #[.agg (encT t u).toArray] w fun e w' => e = .returned (.bool (oneT t.s words45)) ∧ Below w.heap.size w w' := by
  have ho := hk.one
  refine call_intro (args := [.agg (encT t u).toArray]) Tryz.func77 rfl Tryz.ntmps77 (by simp) hμ ?_
  rw [one45]
  repeat' (first | (refine KO ?_) | ((with_reducible apply F1 101); exact rfl; exact EN; fail) | (refine KI ?_) | (refine NB fun b => ?_) | ((refine KB ?_ ?_ <;> intro hp)) | (refine KG ?_) | fail)
  all_goals first | (exfalso; omega) | (refine ret_s rfl rfl ?_; simp_all; done)
theorem rWord_spec (t : T) (u : Value) (w : World) (μ : Mem) (hμ : MOk μ w) (hk : KR μ t.kids u) (hss : t.s.size ≤ 65536) :
    Calls Tryz.prog 77 #[.agg (encT t u).toArray] w fun e w' => e = .returned (.bool (wordT t)) ∧ Below w.heap.size w w' := by
  by_cases h42 : t.op = 42
  · simpa [wordT, h42] using rwd_42 t u w μ hμ hk h42
  by_cases h43 : t.op = 43
  · simpa [wordT, h43] using rwd_43 t u w μ hμ hk h43
  by_cases h44 : t.op = 44
  · simpa [wordT, h44] using rwd_44 t u w μ hμ hk h44
  by_cases h45 : t.op = 45
  · simpa [wordT, h45] using rwd_45 t u w μ hμ hk h45
  by_cases h46 : t.op = 46
  · simpa [wordT, h46] using rwd_46 t u w μ hμ hk h46
  have ho := hk.one
  refine call_intro (args := [.agg (encT t u).toArray]) Tryz.func77 rfl Tryz.ntmps77 (by simp) hμ ?_
  repeat' (first | (refine KO ?_) | ((with_reducible apply F1 99); exact rfl; exact EN; (exact fun w μc hw hse => rForm_spec t.s hss w μc hw)) | ((with_reducible apply F1 101); exact rfl; exact EN; fail) | (refine KI ?_) | (refine NB fun b => ?_) | ((refine KB ?_ ?_ <;> intro hp)) | (refine KG ?_) | fail)
  all_goals first | (exfalso; omega) | (refine ret_s rfl rfl ?_; simp_all [wordT])
end Go.Proofs.YtllilkcocfalmaaGreatDoor
set_option maxRecDepth 20000
set_option maxHeartbeats 2000000
namespace Go.Proofs.YtllilkcocfalmaaGreatDoor
open Go.RowKit Go.Vcg
noncomputable def rFieldsT (t : T) : Bool :=
  if badT t = true then false else if t.op = 4 then fnT t else decide (0 ≤ t.n) && decide (t.n ≤ mostT t.op) && wordT t
attribute [local irreducible] fnT wordT mostT G GC GQ GA GAop Calls IntKind.wrap Int.decLt Int.decLe
theorem rFields_spec (t : T) (u : Value) (w : World) (μ : Mem) (hμ : MOk μ w) (hk : KR μ t.kids u) (hs : t.size ≤ 100000) (hss : t.s.size ≤ 65536) :
    Calls Tryz.prog 39 #[.agg (encT t u).toArray] w fun e w' => e = .returned (.bool (rFieldsT t)) ∧ Below w.heap.size w w' := by
  have ho := hk.one
  refine call_intro (args := [.agg (encT t u).toArray]) Tryz.func39 rfl Tryz.ntmps39 (by simp) hμ ?_
  have hbd : badT t = (decide (t.at' < 0) || (decide (t.m ≠ 0) && (decide (t.m ≠ 1) || !compT t))) := rfl
  repeat' (first | ((with_reducible show GC _ _ (Code.seq (Code.region 1 _ _) _) _ _ _ _); (apply gc_stop)) | (refine KK ?_) | (refine NB fun b => ?_) | ((refine KB ?_ ?_ <;> intro hp)) | (refine KG ?_) | fail)
  refine gcs (gc_join (ι := Unit) (fun _ => True) (fun _ => μ) (fun _ => [(3, .bool (compT t)), (1, .pointer (some ⟨b, 0, none⟩))]) (fun _ => [.inl ⟨b, 24, 6, idx 0 (encT t u)⟩]) ?_ ?_)
  · by_cases h62 : t.op = 62
    · have hc : compT t = true := by unfold compT; rw [decide_eq_true h62, Bool.true_or]
      rw [hc]
      repeat' (first | (refine KK ?_) | (refine NB fun b => ?_) | ((refine KB ?_ ?_ <;> intro hp)) | (refine KG ?_) | fail)
      all_goals first | (exfalso; omega) | skip
      all_goals try rw [decide_eq_true h62]
      all_goals exact J1 () trivial
    · by_cases h39 : t.op = 39 ∧ t.n ≠ 3 ∧ t.n ≠ 4
      · have hc : compT t = true := by unfold compT; rw [decide_eq_true h39.1, decide_eq_true h39.2.1, decide_eq_true h39.2.2]; simp
        rw [hc]
        repeat' (first | (refine KK ?_) | (refine NB fun b => ?_) | ((refine KB ?_ ?_ <;> intro hp)) | (refine KG ?_) | fail)
        all_goals first | (exfalso; omega) | exact J1 () trivial
      · have hc : compT t = false := by
          unfold compT
          rw [decide_eq_false h62, Bool.false_or, Bool.eq_false_iff]
          intro h
          simp only [Bool.and_eq_true, decide_eq_true_eq] at h
          exact h39 ⟨h.1.1, h.1.2, h.2⟩
        rw [hc]
        repeat' (first | (refine KK ?_) | (refine NB fun b => ?_) | ((refine KB ?_ ?_ <;> intro hp)) | (refine KG ?_) | fail)
        all_goals first | (exfalso; omega) | skip
        all_goals try rw [decide_eq_false h62]
        all_goals exact J1 () trivial
  · intro _ _
    generalize compT t = m at hbd
    cases hb : badT t
    · rw [hb] at hbd
      by_cases h4 : t.op = 4
      · have hg : rFieldsT t = fnT t := by unfold rFieldsT; rw [if_neg (by simp [hb]), if_pos h4]
        rw [hg]
        clear hg
        cases m
        all_goals
          simp at hbd
          repeat' (first | (refine KO ?_) | ((with_reducible apply F1 76); exact rfl; exact EN; (exact fun w μc hw hse => fn_spec t u w μc hw (hk.mono hse.le) hs hss)) | ((with_reducible apply F1 77); exact rfl; exact EN; fail) | (refine KI ?_) | (refine NB fun b => ?_) | ((refine KB ?_ ?_ <;> intro hp)) | (refine KG ?_) | fail)
          all_goals first | exact ret_s rfl rfl rfl | (exfalso; omega)
      · have hg : rFieldsT t = (decide (0 ≤ t.n) && decide (t.n ≤ mostT t.op) && wordT t) := by unfold rFieldsT; rw [if_neg (by simp [hb]), if_neg h4]
        rw [hg]
        clear hg
        cases m
        all_goals
          simp at hbd
          repeat' (first | ((with_reducible show GC _ _ (Code.seq (Code.region 4 _ _) _) _ _ _ _); (apply gc_stop)) | (refine KK ?_) | (refine NB fun b => ?_) | ((refine KB ?_ ?_ <;> intro hp)) | (refine KG ?_) | fail)
          all_goals first | (exfalso; omega) | skip
        all_goals
          refine gcs ?_
          repeat' (first | ((with_reducible show GC _ _ (Code.seq (Code.seq (Code.region 5 _ _) _) _) _ _ _ _); (apply gc_stop)) | (refine KK ?_) | (refine NB fun b => ?_) | ((refine KB ?_ ?_ <;> intro hp)) | (refine KG ?_) | fail)
          refine gcs (gc_join (ι := Unit) (fun _ => True) (fun _ => μ) (fun _ => [(4, .int .i64 (mostT t.op)), (1, .pointer (some ⟨b, 0, none⟩))]) (fun _ => [.inl ⟨b, 24, 6, idx 0 (encT t u)⟩]) ?_ ?_)
          rotate_left
          · intro _ _
            repeat' (first | (refine KO ?_) | ((with_reducible apply F1 77); exact rfl; exact EN; (exact fun w μc hw hse => rWord_spec t u w μc hw (hk.mono hse.le) hss)) | (refine KI ?_) | (refine NB fun b => ?_) | ((refine KB ?_ ?_ <;> intro hp)) | (refine KG ?_) | fail)
            all_goals (clear hk hμ ho; refine ret_s rfl rfl ?_; simp_all; try (intros; omega))
          by_cases hc1 : t.op = 1 ∨ t.op = 22 ∨ t.op = 32 ∨ t.op = 43 ∨ t.op = 49 ∨ t.op = 51 ∨ t.op = 52 ∨ t.op = 54
          · have hm : mostT t.op = 1 := by unfold mostT; (repeat first | rw [if_pos (by omega)] | rw [if_neg (by omega)])
            rw [hm]
            repeat' (first | (refine KO ?_) | ((with_reducible apply F1 76); exact rfl; exact EN; fail) | (refine KI ?_) | (refine NB fun b => ?_) | ((refine KB ?_ ?_ <;> intro hp)) | (refine KG ?_) | fail)
            all_goals first | (exfalso; omega) | exact J1 () trivial
          by_cases hc2 : t.op = 2
          · have hm : mostT t.op = 2 := by unfold mostT; (repeat first | rw [if_pos (by omega)] | rw [if_neg (by omega)])
            rw [hm]
            repeat' (first | (refine KO ?_) | ((with_reducible apply F1 76); exact rfl; exact EN; fail) | (refine KI ?_) | (refine NB fun b => ?_) | ((refine KB ?_ ?_ <;> intro hp)) | (refine KG ?_) | fail)
            all_goals first | (exfalso; omega) | exact J1 () trivial
          by_cases hc9007199254740992 : t.op = 30
          · have hm : mostT t.op = 9007199254740992 := by unfold mostT; (repeat first | rw [if_pos (by omega)] | rw [if_neg (by omega)])
            rw [hm]
            repeat' (first | (refine KO ?_) | ((with_reducible apply F1 76); exact rfl; exact EN; fail) | (refine KI ?_) | (refine NB fun b => ?_) | ((refine KB ?_ ?_ <;> intro hp)) | (refine KG ?_) | fail)
            all_goals first | (exfalso; omega) | exact J1 () trivial
          by_cases hc5 : t.op = 39
          · have hm : mostT t.op = 5 := by unfold mostT; (repeat first | rw [if_pos (by omega)] | rw [if_neg (by omega)])
            rw [hm]
            repeat' (first | (refine KO ?_) | ((with_reducible apply F1 76); exact rfl; exact EN; fail) | (refine KI ?_) | (refine NB fun b => ?_) | ((refine KB ?_ ?_ <;> intro hp)) | (refine KG ?_) | fail)
            all_goals first | (exfalso; omega) | exact J1 () trivial
          have hm : mostT t.op = 0 := by unfold mostT; (repeat first | rw [if_neg (by omega)] | rw [if_pos (by omega)])
          rw [hm]
          repeat' (first | (refine KO ?_) | ((with_reducible apply F1 76); exact rfl; exact EN; fail) | (refine KI ?_) | (refine NB fun b => ?_) | ((refine KB ?_ ?_ <;> intro hp)) | (refine KG ?_) | fail)
          all_goals first | (exfalso; omega) | exact J1 () trivial
    · have hg : rFieldsT t = false := by unfold rFieldsT; rw [if_pos hb]
      rw [hg]
      clear hg
      rw [hb] at hbd
      cases m
      all_goals
        simp at hbd
        repeat' (first | ((with_reducible show GC _ _ (Code.seq (Code.region 4 _ _) _) _ _ _ _); (apply gc_stop)) | (refine KK ?_) | (refine NB fun b => ?_) | ((refine KB ?_ ?_ <;> intro hp)) | (refine KG ?_) | fail)
        all_goals first | exact ret_s rfl rfl rfl | (exfalso; omega)
end Go.Proofs.YtllilkcocfalmaaGreatDoor
set_option maxRecDepth 20000
set_option maxHeartbeats 2000000
namespace Go.Proofs.YtllilkcocfalmaaGreatDoor
open Go.RowKit Go.Vcg
def keyS (t : T) : ByteArray := if t.m = 1 then ⟨#[69]⟩ else ⟨#[107]⟩
def propS (t : T) : ByteArray :=
  if t.n = 0 then keyS t ++ ⟨#[69]⟩ else if t.n = 1 then keyS t ++ ⟨#[103]⟩ else if t.n = 2 then keyS t ++ ⟨#[115]⟩ else if t.n = 3 then ⟨#[119]⟩ else if t.n = 4 then ⟨#[69]⟩ else if t.n = 5 then keyS t ++ ⟨#[109]⟩ else ⟨#[33]⟩
def moreS (t : T) : ByteArray :=
  if t.op = 21 then ⟨#[69, 75, 42]⟩
  else if t.op = 22 then (if t.n = 1 then ⟨#[83, 42]⟩ else ⟨#[69, 83, 42]⟩)
  else if t.op = 23 then ⟨#[83]⟩
  else if t.op = 37 then ⟨#[65, 42]⟩
  else if t.op = 38 then ⟨#[82, 42]⟩
  else if t.op = 39 then (propS t)
  else if t.op = 43 then ⟨#[116]⟩
  else if t.op = 44 ∨ t.op = 45 ∨ t.op = 52 then ⟨#[69, 69]⟩
  else if t.op = 46 then (if t.s = ⟨#[61]⟩ then ⟨#[84, 69]⟩ else ⟨#[116, 69]⟩)
  else if t.op = 47 then ⟨#[69, 69, 69]⟩
  else if t.op = 48 then ⟨#[69, 69, 69, 42]⟩
  else if t.op = 49 ∨ t.op = 50 then ⟨#[69, 97, 42]⟩
  else if t.op = 51 then ⟨#[69]⟩
  else if t.op = 53 then ⟨#[99]⟩
  else if t.op = 54 then (if t.n = 1 then ⟨#[69]⟩ else ⟨#[69, 63]⟩)
  else if t.op = 60 then ⟨#[72, 42, 90, 63]⟩
  else if t.op = 61 then ⟨#[81, 42, 90, 63]⟩
  else if t.op = 62 then (if t.m = 1 then ⟨#[69, 70]⟩ else ⟨#[107, 70]⟩)
  else if t.op = 63 then ⟨#[84, 69]⟩
  else if t.op = 64 then ⟨#[84]⟩
  else ⟨#[33]⟩
def kindsS (t : T) : ByteArray :=
  if t.op = 1 ∨ t.op = 6 then ⟨#[83, 42]⟩
  else if t.op = 2 then ⟨#[68, 68, 42]⟩
  else if t.op = 3 then ⟨#[84, 69, 63]⟩
  else if t.op = 4 then (if (IntKind.i64.wrap (t.n.tdiv 128)).tmod 2 = 1 then ⟨#[80, 69]⟩ else ⟨#[80, 66]⟩)
  else if t.op = 5 then ⟨#[70, 42, 90, 63]⟩
  else if t.op = 7 ∨ t.op = 15 ∨ t.op = 16 ∨ t.op = 30 ∨ t.op = 31 ∨ t.op = 32 ∨ t.op = 33 ∨ t.op = 34 ∨ t.op = 35 ∨ t.op = 40 then ⟨#[]⟩
  else if t.op = 8 ∨ t.op = 18 ∨ t.op = 41 ∨ t.op = 42 then ⟨#[69]⟩
  else if t.op = 9 then ⟨#[69, 83, 83, 63]⟩
  else if t.op = 10 then ⟨#[73, 77, 77, 83]⟩
  else if t.op = 11 ∨ t.op = 12 then ⟨#[76, 69, 83]⟩
  else if t.op = 13 then ⟨#[69, 83]⟩
  else if t.op = 14 then ⟨#[83, 69]⟩
  else if t.op = 17 then ⟨#[69, 63]⟩
  else if t.op = 19 then ⟨#[66, 67, 89]⟩
  else if t.op = 20 then ⟨#[71, 66]⟩
  else moreS t
theorem keyS_size (t : T) : (keyS t).size = 1 := by unfold keyS; split <;> rfl
attribute [local irreducible] keyS G GC GQ GA GAop Calls IntKind.wrap Int.decLt Int.decLe
theorem rProp_spec (t : T) (u : Value) (w : World) (μ : Mem) (hμ : MOk μ w) (hk : KR μ t.kids u) :
    Calls Tryz.prog 102 #[.agg (encT t u).toArray] w fun e w' => e = .returned (.string (propS t)) ∧ Below w.heap.size w w' := by
  have ho := hk.one
  refine call_intro (args := [.agg (encT t u).toArray]) Tryz.func102 rfl Tryz.ntmps102 (by simp) hμ ?_
  by_cases hm : t.m = 1
  · have hg : keyS t = ⟨#[69]⟩ := by unfold keyS; rw [if_pos hm]
    unfold propS
    rw [hg]
    repeat' (first | (refine KO ?_) | ((with_reducible apply g_v); exact rfl; (first | ((with_reducible apply v_sadd); exact rfl; exact rfl; decide))) | (refine KI ?_) | (refine NB fun b => ?_) | ((refine KB ?_ ?_ <;> intro hp)) | (refine KG ?_) | fail)
    all_goals first | (exfalso; omega) | (refine ret_s rfl rfl ?_; (repeat first | rw [if_pos (by omega)] | rw [if_neg (by omega)]); done)
  · have hg : keyS t = ⟨#[107]⟩ := by unfold keyS; rw [if_neg hm]
    unfold propS
    rw [hg]
    repeat' (first | (refine KO ?_) | ((with_reducible apply g_v); exact rfl; (first | ((with_reducible apply v_sadd); exact rfl; exact rfl; decide))) | (refine KI ?_) | (refine NB fun b => ?_) | ((refine KB ?_ ?_ <;> intro hp)) | (refine KG ?_) | fail)
    all_goals first | (exfalso; omega) | (refine ret_s rfl rfl ?_; (repeat first | rw [if_pos (by omega)] | rw [if_neg (by omega)]); done)
theorem more_spec (t : T) (u : Value) (w : World) (μ : Mem) (hμ : MOk μ w) (hk : KR μ t.kids u) :
    Calls Tryz.prog 79 #[.agg (encT t u).toArray] w fun e w' => e = .returned (.string (moreS t)) ∧ Below w.heap.size w w' := by
  have ho := hk.one
  refine call_intro (args := [.agg (encT t u).toArray]) Tryz.func79 rfl Tryz.ntmps79 (by simp) hμ ?_
  unfold moreS
  by_cases h21 : t.op = 21
  · rw [if_pos h21]
    repeat' (first | (refine KO ?_) | ((with_reducible apply F1 102); exact rfl; exact EN; (exact fun w μc hw hse => rProp_spec t u w μc hw (hk.mono hse.le))) | (refine KI ?_) | (refine NB fun b => ?_) | ((refine KB ?_ ?_ <;> intro hp)) | (refine KG ?_) | fail)
    all_goals first | exact ret_s rfl rfl rfl | (exfalso; omega)
  rw [if_neg h21]
  by_cases h22 : t.op = 22
  · rw [if_pos h22]
    by_cases hs22 : t.n = 1
    · rw [if_pos hs22]
      repeat' (first | (refine KO ?_) | ((with_reducible apply F1 102); exact rfl; exact EN; (exact fun w μc hw hse => rProp_spec t u w μc hw (hk.mono hse.le))) | (refine KI ?_) | (refine NB fun b => ?_) | ((refine KB ?_ ?_ <;> intro hp)) | (refine KG ?_) | fail)
      all_goals first | exact ret_s rfl rfl rfl | (exfalso; omega) | exact absurd ‹_› hs22 | exact absurd hs22 ‹_›
    · rw [if_neg hs22]
      repeat' (first | (refine KO ?_) | ((with_reducible apply F1 102); exact rfl; exact EN; (exact fun w μc hw hse => rProp_spec t u w μc hw (hk.mono hse.le))) | (refine KI ?_) | (refine NB fun b => ?_) | ((refine KB ?_ ?_ <;> intro hp)) | (refine KG ?_) | fail)
      all_goals first | exact ret_s rfl rfl rfl | (exfalso; omega) | exact absurd ‹_› hs22 | exact absurd hs22 ‹_›
  rw [if_neg h22]
  by_cases h23 : t.op = 23
  · rw [if_pos h23]
    repeat' (first | (refine KO ?_) | ((with_reducible apply F1 102); exact rfl; exact EN; (exact fun w μc hw hse => rProp_spec t u w μc hw (hk.mono hse.le))) | (refine KI ?_) | (refine NB fun b => ?_) | ((refine KB ?_ ?_ <;> intro hp)) | (refine KG ?_) | fail)
    all_goals first | exact ret_s rfl rfl rfl | (exfalso; omega)
  rw [if_neg h23]
  by_cases h37 : t.op = 37
  · rw [if_pos h37]
    repeat' (first | (refine KO ?_) | ((with_reducible apply F1 102); exact rfl; exact EN; (exact fun w μc hw hse => rProp_spec t u w μc hw (hk.mono hse.le))) | (refine KI ?_) | (refine NB fun b => ?_) | ((refine KB ?_ ?_ <;> intro hp)) | (refine KG ?_) | fail)
    all_goals first | exact ret_s rfl rfl rfl | (exfalso; omega)
  rw [if_neg h37]
  by_cases h38 : t.op = 38
  · rw [if_pos h38]
    repeat' (first | (refine KO ?_) | ((with_reducible apply F1 102); exact rfl; exact EN; (exact fun w μc hw hse => rProp_spec t u w μc hw (hk.mono hse.le))) | (refine KI ?_) | (refine NB fun b => ?_) | ((refine KB ?_ ?_ <;> intro hp)) | (refine KG ?_) | fail)
    all_goals first | exact ret_s rfl rfl rfl | (exfalso; omega)
  rw [if_neg h38]
  by_cases h39 : t.op = 39
  · rw [if_pos h39]
    repeat' (first | (refine KO ?_) | ((with_reducible apply F1 102); exact rfl; exact EN; (exact fun w μc hw hse => rProp_spec t u w μc hw (hk.mono hse.le))) | (refine KI ?_) | (refine NB fun b => ?_) | ((refine KB ?_ ?_ <;> intro hp)) | (refine KG ?_) | fail)
    all_goals first | exact ret_s rfl rfl rfl | (exfalso; omega)
  rw [if_neg h39]
  by_cases h43 : t.op = 43
  · rw [if_pos h43]
    repeat' (first | (refine KO ?_) | ((with_reducible apply F1 102); exact rfl; exact EN; (exact fun w μc hw hse => rProp_spec t u w μc hw (hk.mono hse.le))) | (refine KI ?_) | (refine NB fun b => ?_) | ((refine KB ?_ ?_ <;> intro hp)) | (refine KG ?_) | fail)
    all_goals first | exact ret_s rfl rfl rfl | (exfalso; omega)
  rw [if_neg h43]
  by_cases h44 : t.op = 44 ∨ t.op = 45 ∨ t.op = 52
  · rw [if_pos h44]
    repeat' (first | (refine KO ?_) | ((with_reducible apply F1 102); exact rfl; exact EN; (exact fun w μc hw hse => rProp_spec t u w μc hw (hk.mono hse.le))) | (refine KI ?_) | (refine NB fun b => ?_) | ((refine KB ?_ ?_ <;> intro hp)) | (refine KG ?_) | fail)
    all_goals first | exact ret_s rfl rfl rfl | (exfalso; omega)
  rw [if_neg h44]
  by_cases h46 : t.op = 46
  · rw [if_pos h46]
    by_cases hs46 : t.s = ⟨#[61]⟩
    · rw [if_pos hs46]
      repeat' (first | (refine KO ?_) | ((with_reducible apply F1 102); exact rfl; exact EN; (exact fun w μc hw hse => rProp_spec t u w μc hw (hk.mono hse.le))) | (refine KI ?_) | (refine NB fun b => ?_) | ((refine KB ?_ ?_ <;> intro hp)) | (refine KG ?_) | fail)
      all_goals first | exact ret_s rfl rfl rfl | (exfalso; omega) | exact absurd ‹_› hs46 | exact absurd hs46 ‹_›
    · rw [if_neg hs46]
      repeat' (first | (refine KO ?_) | ((with_reducible apply F1 102); exact rfl; exact EN; (exact fun w μc hw hse => rProp_spec t u w μc hw (hk.mono hse.le))) | (refine KI ?_) | (refine NB fun b => ?_) | ((refine KB ?_ ?_ <;> intro hp)) | (refine KG ?_) | fail)
      all_goals first | exact ret_s rfl rfl rfl | (exfalso; omega) | exact absurd ‹_› hs46 | exact absurd hs46 ‹_›
  rw [if_neg h46]
  by_cases h47 : t.op = 47
  · rw [if_pos h47]
    repeat' (first | (refine KO ?_) | ((with_reducible apply F1 102); exact rfl; exact EN; (exact fun w μc hw hse => rProp_spec t u w μc hw (hk.mono hse.le))) | (refine KI ?_) | (refine NB fun b => ?_) | ((refine KB ?_ ?_ <;> intro hp)) | (refine KG ?_) | fail)
    all_goals first | exact ret_s rfl rfl rfl | (exfalso; omega)
  rw [if_neg h47]
  by_cases h48 : t.op = 48
  · rw [if_pos h48]
    repeat' (first | (refine KO ?_) | ((with_reducible apply F1 102); exact rfl; exact EN; (exact fun w μc hw hse => rProp_spec t u w μc hw (hk.mono hse.le))) | (refine KI ?_) | (refine NB fun b => ?_) | ((refine KB ?_ ?_ <;> intro hp)) | (refine KG ?_) | fail)
    all_goals first | exact ret_s rfl rfl rfl | (exfalso; omega)
  rw [if_neg h48]
  by_cases h49 : t.op = 49 ∨ t.op = 50
  · rw [if_pos h49]
    repeat' (first | (refine KO ?_) | ((with_reducible apply F1 102); exact rfl; exact EN; (exact fun w μc hw hse => rProp_spec t u w μc hw (hk.mono hse.le))) | (refine KI ?_) | (refine NB fun b => ?_) | ((refine KB ?_ ?_ <;> intro hp)) | (refine KG ?_) | fail)
    all_goals first | exact ret_s rfl rfl rfl | (exfalso; omega)
  rw [if_neg h49]
  by_cases h51 : t.op = 51
  · rw [if_pos h51]
    repeat' (first | (refine KO ?_) | ((with_reducible apply F1 102); exact rfl; exact EN; (exact fun w μc hw hse => rProp_spec t u w μc hw (hk.mono hse.le))) | (refine KI ?_) | (refine NB fun b => ?_) | ((refine KB ?_ ?_ <;> intro hp)) | (refine KG ?_) | fail)
    all_goals first | exact ret_s rfl rfl rfl | (exfalso; omega)
  rw [if_neg h51]
  by_cases h53 : t.op = 53
  · rw [if_pos h53]
    repeat' (first | (refine KO ?_) | ((with_reducible apply F1 102); exact rfl; exact EN; (exact fun w μc hw hse => rProp_spec t u w μc hw (hk.mono hse.le))) | (refine KI ?_) | (refine NB fun b => ?_) | ((refine KB ?_ ?_ <;> intro hp)) | (refine KG ?_) | fail)
    all_goals first | exact ret_s rfl rfl rfl | (exfalso; omega)
  rw [if_neg h53]
  by_cases h54 : t.op = 54
  · rw [if_pos h54]
    by_cases hs54 : t.n = 1
    · rw [if_pos hs54]
      repeat' (first | (refine KO ?_) | ((with_reducible apply F1 102); exact rfl; exact EN; (exact fun w μc hw hse => rProp_spec t u w μc hw (hk.mono hse.le))) | (refine KI ?_) | (refine NB fun b => ?_) | ((refine KB ?_ ?_ <;> intro hp)) | (refine KG ?_) | fail)
      all_goals first | exact ret_s rfl rfl rfl | (exfalso; omega) | exact absurd ‹_› hs54 | exact absurd hs54 ‹_›
    · rw [if_neg hs54]
      repeat' (first | (refine KO ?_) | ((with_reducible apply F1 102); exact rfl; exact EN; (exact fun w μc hw hse => rProp_spec t u w μc hw (hk.mono hse.le))) | (refine KI ?_) | (refine NB fun b => ?_) | ((refine KB ?_ ?_ <;> intro hp)) | (refine KG ?_) | fail)
      all_goals first | exact ret_s rfl rfl rfl | (exfalso; omega) | exact absurd ‹_› hs54 | exact absurd hs54 ‹_›
  rw [if_neg h54]
  by_cases h60 : t.op = 60
  · rw [if_pos h60]
    repeat' (first | (refine KO ?_) | ((with_reducible apply F1 102); exact rfl; exact EN; (exact fun w μc hw hse => rProp_spec t u w μc hw (hk.mono hse.le))) | (refine KI ?_) | (refine NB fun b => ?_) | ((refine KB ?_ ?_ <;> intro hp)) | (refine KG ?_) | fail)
    all_goals first | exact ret_s rfl rfl rfl | (exfalso; omega)
  rw [if_neg h60]
  by_cases h61 : t.op = 61
  · rw [if_pos h61]
    repeat' (first | (refine KO ?_) | ((with_reducible apply F1 102); exact rfl; exact EN; (exact fun w μc hw hse => rProp_spec t u w μc hw (hk.mono hse.le))) | (refine KI ?_) | (refine NB fun b => ?_) | ((refine KB ?_ ?_ <;> intro hp)) | (refine KG ?_) | fail)
    all_goals first | exact ret_s rfl rfl rfl | (exfalso; omega)
  rw [if_neg h61]
  by_cases h62 : t.op = 62
  · rw [if_pos h62]
    by_cases hs62 : t.m = 1
    · rw [if_pos hs62]
      repeat' (first | (refine KO ?_) | ((with_reducible apply F1 102); exact rfl; exact EN; (exact fun w μc hw hse => rProp_spec t u w μc hw (hk.mono hse.le))) | (refine KI ?_) | (refine NB fun b => ?_) | ((refine KB ?_ ?_ <;> intro hp)) | (refine KG ?_) | fail)
      all_goals first | exact ret_s rfl rfl rfl | (exfalso; omega) | exact absurd ‹_› hs62 | exact absurd hs62 ‹_›
    · rw [if_neg hs62]
      repeat' (first | (refine KO ?_) | ((with_reducible apply F1 102); exact rfl; exact EN; (exact fun w μc hw hse => rProp_spec t u w μc hw (hk.mono hse.le))) | (refine KI ?_) | (refine NB fun b => ?_) | ((refine KB ?_ ?_ <;> intro hp)) | (refine KG ?_) | fail)
      all_goals first | exact ret_s rfl rfl rfl | (exfalso; omega) | exact absurd ‹_› hs62 | exact absurd hs62 ‹_›
  rw [if_neg h62]
  by_cases h63 : t.op = 63
  · rw [if_pos h63]
    repeat' (first | (refine KO ?_) | ((with_reducible apply F1 102); exact rfl; exact EN; (exact fun w μc hw hse => rProp_spec t u w μc hw (hk.mono hse.le))) | (refine KI ?_) | (refine NB fun b => ?_) | ((refine KB ?_ ?_ <;> intro hp)) | (refine KG ?_) | fail)
    all_goals first | exact ret_s rfl rfl rfl | (exfalso; omega)
  rw [if_neg h63]
  by_cases h64 : t.op = 64
  · rw [if_pos h64]
    repeat' (first | (refine KO ?_) | ((with_reducible apply F1 102); exact rfl; exact EN; (exact fun w μc hw hse => rProp_spec t u w μc hw (hk.mono hse.le))) | (refine KI ?_) | (refine NB fun b => ?_) | ((refine KB ?_ ?_ <;> intro hp)) | (refine KG ?_) | fail)
    all_goals first | exact ret_s rfl rfl rfl | (exfalso; omega)
  rw [if_neg h64]
  repeat' (first | (refine KO ?_) | ((with_reducible apply F1 102); exact rfl; exact EN; (exact fun w μc hw hse => rProp_spec t u w μc hw (hk.mono hse.le))) | (refine KI ?_) | (refine NB fun b => ?_) | ((refine KB ?_ ?_ <;> intro hp)) | (refine KG ?_) | fail)
  all_goals first | exact ret_s rfl rfl rfl | (exfalso; omega)
theorem kinds_spec (t : T) (u : Value) (w : World) (μ : Mem) (hμ : MOk μ w) (hk : KR μ t.kids u) :
    Calls Tryz.prog 42 #[.agg (encT t u).toArray] w fun e w' => e = .returned (.string (kindsS t)) ∧ Below w.heap.size w w' := by
  have ho := hk.one
  refine call_intro (args := [.agg (encT t u).toArray]) Tryz.func42 rfl Tryz.ntmps42 (by simp) hμ ?_
  unfold kindsS
  by_cases h1 : t.op = 1 ∨ t.op = 6
  · rw [if_pos h1]
    repeat' (first | (refine KO ?_) | ((with_reducible apply F1 79); exact rfl; exact EN; (exact fun w μc hw hse => more_spec t u w μc hw (hk.mono hse.le))) | ((with_reducible apply g_v); exact rfl; (first | ((with_reducible apply v_quo); exact rfl; exact rfl; decide))) | (refine KI ?_) | (refine NB fun b => ?_) | ((refine KB ?_ ?_ <;> intro hp)) | (refine KG ?_) | fail)
    all_goals first | exact ret_s rfl rfl rfl | (exfalso; omega)
  rw [if_neg h1]
  by_cases h2 : t.op = 2
  · rw [if_pos h2]
    repeat' (first | (refine KO ?_) | ((with_reducible apply F1 79); exact rfl; exact EN; (exact fun w μc hw hse => more_spec t u w μc hw (hk.mono hse.le))) | ((with_reducible apply g_v); exact rfl; (first | ((with_reducible apply v_quo); exact rfl; exact rfl; decide))) | (refine KI ?_) | (refine NB fun b => ?_) | ((refine KB ?_ ?_ <;> intro hp)) | (refine KG ?_) | fail)
    all_goals first | exact ret_s rfl rfl rfl | (exfalso; omega)
  rw [if_neg h2]
  by_cases h3 : t.op = 3
  · rw [if_pos h3]
    repeat' (first | (refine KO ?_) | ((with_reducible apply F1 79); exact rfl; exact EN; (exact fun w μc hw hse => more_spec t u w μc hw (hk.mono hse.le))) | ((with_reducible apply g_v); exact rfl; (first | ((with_reducible apply v_quo); exact rfl; exact rfl; decide))) | (refine KI ?_) | (refine NB fun b => ?_) | ((refine KB ?_ ?_ <;> intro hp)) | (refine KG ?_) | fail)
    all_goals first | exact ret_s rfl rfl rfl | (exfalso; omega)
  rw [if_neg h3]
  by_cases h4 : t.op = 4
  · rw [if_pos h4]
    by_cases hs4 : (IntKind.i64.wrap (t.n.tdiv 128)).tmod 2 = 1
    · rw [if_pos hs4]
      repeat' (first | (refine KO ?_) | ((with_reducible apply F1 79); exact rfl; exact EN; (exact fun w μc hw hse => more_spec t u w μc hw (hk.mono hse.le))) | ((with_reducible apply g_v); exact rfl; (first | ((with_reducible apply v_quo); exact rfl; exact rfl; decide))) | (refine KI ?_) | (refine NB fun b => ?_) | ((refine KB ?_ ?_ <;> intro hp)) | (refine KG ?_) | fail)
      all_goals first | exact ret_s rfl rfl rfl | (exfalso; omega) | exact absurd ‹_› hs4 | exact absurd hs4 ‹_›
    · rw [if_neg hs4]
      repeat' (first | (refine KO ?_) | ((with_reducible apply F1 79); exact rfl; exact EN; (exact fun w μc hw hse => more_spec t u w μc hw (hk.mono hse.le))) | ((with_reducible apply g_v); exact rfl; (first | ((with_reducible apply v_quo); exact rfl; exact rfl; decide))) | (refine KI ?_) | (refine NB fun b => ?_) | ((refine KB ?_ ?_ <;> intro hp)) | (refine KG ?_) | fail)
      all_goals first | exact ret_s rfl rfl rfl | (exfalso; omega) | exact absurd ‹_› hs4 | exact absurd hs4 ‹_›
  rw [if_neg h4]
  by_cases h5 : t.op = 5
  · rw [if_pos h5]
    repeat' (first | (refine KO ?_) | ((with_reducible apply F1 79); exact rfl; exact EN; (exact fun w μc hw hse => more_spec t u w μc hw (hk.mono hse.le))) | ((with_reducible apply g_v); exact rfl; (first | ((with_reducible apply v_quo); exact rfl; exact rfl; decide))) | (refine KI ?_) | (refine NB fun b => ?_) | ((refine KB ?_ ?_ <;> intro hp)) | (refine KG ?_) | fail)
    all_goals first | exact ret_s rfl rfl rfl | (exfalso; omega)
  rw [if_neg h5]
  by_cases h7 : t.op = 7 ∨ t.op = 15 ∨ t.op = 16 ∨ t.op = 30 ∨ t.op = 31 ∨ t.op = 32 ∨ t.op = 33 ∨ t.op = 34 ∨ t.op = 35 ∨ t.op = 40
  · rw [if_pos h7]
    repeat' (first | (refine KO ?_) | ((with_reducible apply F1 79); exact rfl; exact EN; (exact fun w μc hw hse => more_spec t u w μc hw (hk.mono hse.le))) | ((with_reducible apply g_v); exact rfl; (first | ((with_reducible apply v_quo); exact rfl; exact rfl; decide))) | (refine KI ?_) | (refine NB fun b => ?_) | ((refine KB ?_ ?_ <;> intro hp)) | (refine KG ?_) | fail)
    all_goals first | exact ret_s rfl rfl rfl | (exfalso; omega)
  rw [if_neg h7]
  by_cases h8 : t.op = 8 ∨ t.op = 18 ∨ t.op = 41 ∨ t.op = 42
  · rw [if_pos h8]
    repeat' (first | (refine KO ?_) | ((with_reducible apply F1 79); exact rfl; exact EN; (exact fun w μc hw hse => more_spec t u w μc hw (hk.mono hse.le))) | ((with_reducible apply g_v); exact rfl; (first | ((with_reducible apply v_quo); exact rfl; exact rfl; decide))) | (refine KI ?_) | (refine NB fun b => ?_) | ((refine KB ?_ ?_ <;> intro hp)) | (refine KG ?_) | fail)
    all_goals first | exact ret_s rfl rfl rfl | (exfalso; omega)
  rw [if_neg h8]
  by_cases h9 : t.op = 9
  · rw [if_pos h9]
    repeat' (first | (refine KO ?_) | ((with_reducible apply F1 79); exact rfl; exact EN; (exact fun w μc hw hse => more_spec t u w μc hw (hk.mono hse.le))) | ((with_reducible apply g_v); exact rfl; (first | ((with_reducible apply v_quo); exact rfl; exact rfl; decide))) | (refine KI ?_) | (refine NB fun b => ?_) | ((refine KB ?_ ?_ <;> intro hp)) | (refine KG ?_) | fail)
    all_goals first | exact ret_s rfl rfl rfl | (exfalso; omega)
  rw [if_neg h9]
  by_cases h10 : t.op = 10
  · rw [if_pos h10]
    repeat' (first | (refine KO ?_) | ((with_reducible apply F1 79); exact rfl; exact EN; (exact fun w μc hw hse => more_spec t u w μc hw (hk.mono hse.le))) | ((with_reducible apply g_v); exact rfl; (first | ((with_reducible apply v_quo); exact rfl; exact rfl; decide))) | (refine KI ?_) | (refine NB fun b => ?_) | ((refine KB ?_ ?_ <;> intro hp)) | (refine KG ?_) | fail)
    all_goals first | exact ret_s rfl rfl rfl | (exfalso; omega)
  rw [if_neg h10]
  by_cases h11 : t.op = 11 ∨ t.op = 12
  · rw [if_pos h11]
    repeat' (first | (refine KO ?_) | ((with_reducible apply F1 79); exact rfl; exact EN; (exact fun w μc hw hse => more_spec t u w μc hw (hk.mono hse.le))) | ((with_reducible apply g_v); exact rfl; (first | ((with_reducible apply v_quo); exact rfl; exact rfl; decide))) | (refine KI ?_) | (refine NB fun b => ?_) | ((refine KB ?_ ?_ <;> intro hp)) | (refine KG ?_) | fail)
    all_goals first | exact ret_s rfl rfl rfl | (exfalso; omega)
  rw [if_neg h11]
  by_cases h13 : t.op = 13
  · rw [if_pos h13]
    repeat' (first | (refine KO ?_) | ((with_reducible apply F1 79); exact rfl; exact EN; (exact fun w μc hw hse => more_spec t u w μc hw (hk.mono hse.le))) | ((with_reducible apply g_v); exact rfl; (first | ((with_reducible apply v_quo); exact rfl; exact rfl; decide))) | (refine KI ?_) | (refine NB fun b => ?_) | ((refine KB ?_ ?_ <;> intro hp)) | (refine KG ?_) | fail)
    all_goals first | exact ret_s rfl rfl rfl | (exfalso; omega)
  rw [if_neg h13]
  by_cases h14 : t.op = 14
  · rw [if_pos h14]
    repeat' (first | (refine KO ?_) | ((with_reducible apply F1 79); exact rfl; exact EN; (exact fun w μc hw hse => more_spec t u w μc hw (hk.mono hse.le))) | ((with_reducible apply g_v); exact rfl; (first | ((with_reducible apply v_quo); exact rfl; exact rfl; decide))) | (refine KI ?_) | (refine NB fun b => ?_) | ((refine KB ?_ ?_ <;> intro hp)) | (refine KG ?_) | fail)
    all_goals first | exact ret_s rfl rfl rfl | (exfalso; omega)
  rw [if_neg h14]
  by_cases h17 : t.op = 17
  · rw [if_pos h17]
    repeat' (first | (refine KO ?_) | ((with_reducible apply F1 79); exact rfl; exact EN; (exact fun w μc hw hse => more_spec t u w μc hw (hk.mono hse.le))) | ((with_reducible apply g_v); exact rfl; (first | ((with_reducible apply v_quo); exact rfl; exact rfl; decide))) | (refine KI ?_) | (refine NB fun b => ?_) | ((refine KB ?_ ?_ <;> intro hp)) | (refine KG ?_) | fail)
    all_goals first | exact ret_s rfl rfl rfl | (exfalso; omega)
  rw [if_neg h17]
  by_cases h19 : t.op = 19
  · rw [if_pos h19]
    repeat' (first | (refine KO ?_) | ((with_reducible apply F1 79); exact rfl; exact EN; (exact fun w μc hw hse => more_spec t u w μc hw (hk.mono hse.le))) | ((with_reducible apply g_v); exact rfl; (first | ((with_reducible apply v_quo); exact rfl; exact rfl; decide))) | (refine KI ?_) | (refine NB fun b => ?_) | ((refine KB ?_ ?_ <;> intro hp)) | (refine KG ?_) | fail)
    all_goals first | exact ret_s rfl rfl rfl | (exfalso; omega)
  rw [if_neg h19]
  by_cases h20 : t.op = 20
  · rw [if_pos h20]
    repeat' (first | (refine KO ?_) | ((with_reducible apply F1 79); exact rfl; exact EN; (exact fun w μc hw hse => more_spec t u w μc hw (hk.mono hse.le))) | ((with_reducible apply g_v); exact rfl; (first | ((with_reducible apply v_quo); exact rfl; exact rfl; decide))) | (refine KI ?_) | (refine NB fun b => ?_) | ((refine KB ?_ ?_ <;> intro hp)) | (refine KG ?_) | fail)
    all_goals first | exact ret_s rfl rfl rfl | (exfalso; omega)
  rw [if_neg h20]
  repeat' (first | (refine KO ?_) | ((with_reducible apply F1 79); exact rfl; exact EN; (exact fun w μc hw hse => more_spec t u w μc hw (hk.mono hse.le))) | ((with_reducible apply g_v); exact rfl; (first | ((with_reducible apply v_quo); exact rfl; exact rfl; decide))) | (refine KI ?_) | (refine NB fun b => ?_) | ((refine KB ?_ ?_ <;> intro hp)) | (refine KG ?_) | fail)
  all_goals first | exact ret_s rfl rfl rfl | (exfalso; omega)
end Go.Proofs.YtllilkcocfalmaaGreatDoor
