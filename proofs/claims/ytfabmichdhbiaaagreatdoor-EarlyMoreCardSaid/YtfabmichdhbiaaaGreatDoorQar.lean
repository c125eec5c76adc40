/- tree.fields. (and what leans on it). No statement of the seat is proved here. -/
import Derived.Test.YtfabmichdhbiaaaGreatDoorQaq
import Derived.Test.YtfabmichdhbiaaaGreatDoorQae
import Derived.Test.YtfabmichdhbiaaaGreatDoorQad
import Derived.Test.YtfabmichdhbiaaaGreatDoorQac
import Derived.Test.YtfabmichdhbiaaaGreatDoorQaf
set_option maxRecDepth 20000
set_option maxHeartbeats 2000000
namespace Go.Proofs.YtfabmichdhbiaaaGreatDoor
open Go.RowKit Go.Vcg
def compT (t : T) : Bool := decide (t.op = 62) || (decide (t.op = 39) && decide (t.n ≠ 3) && decide (t.n ≠ 4))
def badT (t : T) : Bool := decide (t.at' < 0) || (decide (t.m ≠ 0) && (decide (t.m ≠ 1) || !compT t))
noncomputable def fieldsT (t : T) : Bool :=
  if badT t = true then false else if t.op = 4 then bitsT t else decide (0 ≤ t.n) && decide (t.n ≤ mostT t.op) && wordT t
attribute [local irreducible] bitsT wordT mostT G GC GQ GA GAop Calls IntKind.wrap Int.decLt Int.decLe
theorem fields_spec' (t : T) (u : Value) (w : World) (μ : Mem) (hμ : MOk μ w) (hk : KR μ t.kids u) (hs : t.size ≤ 100000) (hss : t.s.size ≤ 65536) (hT : TabA μ) :
    Calls Tryz.prog 27 #[.agg (encT t u).toArray] w fun e w' => e = .returned (.bool (fieldsT t)) ∧ Below w.heap.size w w' := by
  have ho := hk.one
  refine call_intro (args := [.agg (encT t u).toArray]) Tryz.func27 rfl Tryz.ntmps27 (by simp) hμ ?_
  cases hb : badT t
  · by_cases h4 : t.op = 4
    · have hg : fieldsT t = bitsT t := by unfold fieldsT; rw [if_neg (by simp [hb]), if_pos h4]
      rw [hg]
      clear hg
      repeat' (first | refine KO ?_ | ((with_reducible apply F1 49); exact rfl; exact EN; (exact fun w μc hw hse => bits_spec t u w μc hw (hk.mono hse.le) hs hss)) | refine KI ?_ | refine NB fun b => ?_ | ((refine KB ?_ ?_ <;> intro hp)) | refine KG ?_ | fail)
      all_goals first | exact ret_s rfl rfl rfl | (exfalso; simp_all [badT, compT]; done) | (exfalso; simp_all [badT, compT]; omega) | (exfalso; omega)
    · have hg : fieldsT t = (decide (0 ≤ t.n) && decide (t.n ≤ mostT t.op) && wordT t) := by unfold fieldsT; rw [if_neg (by simp [hb]), if_neg h4]
      rw [hg]
      clear hg
      repeat' (first | refine KO ?_ | ((with_reducible apply F1 49); exact rfl; exact EN; fail) | refine KI ?_ | refine NB fun b => ?_ | ((refine KB ?_ ?_ <;> intro hp)) | refine KG ?_ | fail)
      all_goals first | (exfalso; omega) | (exfalso; clear hk hT hμ; simp_all [badT, compT]; done) | (exfalso; clear hk hT hμ; simp_all [badT, compT]; omega) | skip
      all_goals
        refine gc_draw 16 _ (by kernel_rfl) rfl (List.Sublist.cons_cons _ (List.nil_sublist _)) ?_
        all_goals refine DD 0 ?_
        all_goals refine DD 1 ?_
        all_goals refine DD 2 ?_
        all_goals refine DD 3 ?_
        all_goals (try (refine D7 4 ?_; (repeat' (first | refine KO ?_ | (refine KB ?_ ?_ <;> intro hp)))))
        all_goals refine DD 4 ?_
        all_goals refine DD 5 ?_
        all_goals refine DD 6 ?_
        all_goals refine DD 7 ?_
        all_goals (first | (refine D3 8 ?_; refine D5 ?_; (first | ((with_reducible apply F1 50); exact rfl; exact EN; (exact fun w μc hw hse => most_spec t.op w μc hw)) | ((with_reducible apply F1 51); exact rfl; exact EN; (exact fun w μc hw hse => word_spec t u w μc hw (hk.mono hse.le) hss (hT.mono hse.le)))); refine D9 ?_) | refine D3 8 (D6 ?_))
        all_goals refine DD 9 ?_
        all_goals refine DD 10 ?_
        all_goals refine DD 11 ?_
        all_goals (try (refine D7 12 ?_; (repeat' (first | refine KO ?_ | (refine KB ?_ ?_ <;> intro hp)))))
        all_goals refine DD 12 ?_
        all_goals (first | (refine D3 13 ?_; refine D5 ?_; (first | ((with_reducible apply F1 50); exact rfl; exact EN; (exact fun w μc hw hse => most_spec t.op w μc hw)) | ((with_reducible apply F1 51); exact rfl; exact EN; (exact fun w μc hw hse => word_spec t u w μc hw (hk.mono hse.le) hss (hT.mono hse.le)))); refine D9 ?_) | refine D3 13 (D6 ?_))
        all_goals refine DD 14 ?_
        all_goals refine DD 15 ?_
        all_goals refine D8 ?_
        repeat' (first | refine KK ?_ | refine NB fun b => ?_ | ((refine KB ?_ ?_ <;> intro hp)) | refine KG ?_ | fail)
        all_goals (refine ret_s rfl rfl ?_; simp_all; try (intros; omega))
  · have hg : fieldsT t = false := by unfold fieldsT; rw [if_pos hb]
    rw [hg]
    clear hg
    repeat' (first | refine KO ?_ | ((with_reducible apply F1 49); exact rfl; exact EN; fail) | refine KI ?_ | refine NB fun b => ?_ | ((refine KB ?_ ?_ <;> intro hp)) | refine KG ?_ | fail)
    all_goals first | exact ret_s rfl rfl rfl | (exfalso; clear hk hT hμ; simp_all [badT, compT]; done) | (exfalso; clear hk hT hμ; simp_all [badT, compT]; omega) | (exfalso; omega)
end Go.Proofs.YtfabmichdhbiaaaGreatDoor
namespace Go.Proofs.YtfabmichdhbiaaaGreatDoor
open Go.RowKit Go.Vcg
noncomputable def rFieldsT (t : T) : Bool :=
  if badT t = true then false else if t.op = 4 then fnT t else decide (0 ≤ t.n) && decide (t.n ≤ mostT t.op) && wordT t
attribute [local irreducible] fnT wordT mostT G GC GQ GA GAop Calls IntKind.wrap Int.decLt Int.decLe
end Go.Proofs.YtfabmichdhbiaaaGreatDoor
namespace Go.Proofs.YtfabmichdhbiaaaGreatDoor
open Go.RowKit Go.Vcg
def keyS (t : T) : ByteArray := if t.m = 1 then ⟨#[69]⟩ else ⟨#[107]⟩
def propS (t : T) : ByteArray :=
  if t.n = 0 then keyS t ++ ⟨#[69]⟩ else if t.n = 1 then keyS t ++ ⟨#[103]⟩ else if t.n = 2 then keyS t ++ ⟨#[115]⟩ else if t.n = 3 then ⟨#[119]⟩ else if t.n = 4 then ⟨#[69]⟩ else if t.n = 5 then keyS t ++ ⟨#[109]⟩ else ⟨#[33]⟩
def moreS (t : T) : ByteArray :=
  if t.op = 21 then ⟨#[69, 75, 42]⟩
  else if t.op = 22 then (if t.n = 1 then ⟨#[83, 42]⟩ else ⟨#[69, 83, 42]⟩)
  else if t.op = 23 then ⟨#[83]⟩
  else if t.op = 37 then ⟨#[65, 42]⟩
  else if t.op = 38 then ⟨#[82, 42]⟩
  else if t.op = 39 then (propS t)
  else if t.op = 43 then ⟨#[116]⟩
  else if t.op = 44 ∨ t.op = 45 ∨ t.op = 52 then ⟨#[69, 69]⟩
  else if t.op = 46 then (if t.s = ⟨#[61]⟩ then ⟨#[84, 69]⟩ else ⟨#[116, 69]⟩)
  else if t.op = 47 then ⟨#[69, 69, 69]⟩
  else if t.op = 48 then ⟨#[69, 69, 69, 42]⟩
  else if t.op = 49 ∨ t.op = 50 then ⟨#[69, 97, 42]⟩
  else if t.op = 51 then ⟨#[69]⟩
  else if t.op = 53 then ⟨#[99]⟩
  else if t.op = 54 then (if t.n = 1 then ⟨#[69]⟩ else ⟨#[69, 63]⟩)
  else if t.op = 60 then ⟨#[72, 42, 90, 63]⟩
  else if t.op = 61 then ⟨#[81, 42, 90, 63]⟩
  else if t.op = 62 then (if t.m = 1 then ⟨#[69, 70]⟩ else ⟨#[107, 70]⟩)
  else if t.op = 63 then ⟨#[84, 69]⟩
  else if t.op = 64 then ⟨#[84]⟩
  else ⟨#[33]⟩
def kindsS (t : T) : ByteArray :=
  if t.op = 1 ∨ t.op = 6 then ⟨#[83, 42]⟩
  else if t.op = 2 then ⟨#[68, 68, 42]⟩
  else if t.op = 3 then ⟨#[84, 69, 63]⟩
  else if t.op = 4 then (if (IntKind.i64.wrap (t.n.tdiv 128)).tmod 2 = 1 then ⟨#[80, 69]⟩ else ⟨#[80, 66]⟩)
  else if t.op = 5 then ⟨#[70, 42, 90, 63]⟩
  else if t.op = 7 ∨ t.op = 15 ∨ t.op = 16 ∨ t.op = 30 ∨ t.op = 31 ∨ t.op = 32 ∨ t.op = 33 ∨ t.op = 34 ∨ t.op = 35 ∨ t.op = 40 then ⟨#[]⟩
  else if t.op = 8 ∨ t.op = 18 ∨ t.op = 41 ∨ t.op = 42 then ⟨#[69]⟩
  else if t.op = 9 then ⟨#[69, 83, 83, 63]⟩
  else if t.op = 10 then ⟨#[73, 77, 77, 83]⟩
  else if t.op = 11 ∨ t.op = 12 then ⟨#[76, 69, 83]⟩
  else if t.op = 13 then ⟨#[69, 83]⟩
  else if t.op = 14 then ⟨#[83, 69]⟩
  else if t.op = 17 then ⟨#[69, 63]⟩
  else if t.op = 19 then ⟨#[66, 67, 89]⟩
  else if t.op = 20 then ⟨#[71, 66]⟩
  else moreS t
attribute [local irreducible] keyS G GC GQ GA GAop Calls IntKind.wrap Int.decLt Int.decLe
end Go.Proofs.YtfabmichdhbiaaaGreatDoor
namespace Go.Proofs.YtfabmichdhbiaaaGreatDoor
open Go.RowKit Go.Vcg
noncomputable def stB (t : T) : Bool :=
  if t.op = 1 ∨ t.op = 6 then fewP stmtT 0 (-1) t.kids
  else if t.op = 2 then fewP (ofT [3]) 1 (-1) t.kids
  else if t.op = 3 then fitP [(targetT, 0), (exprT, 1)] t.kids
  else if t.op = 4 then fitP (eachP [ofT [5], bodyT t]) t.kids
  else if t.op = 5 then fitP [(eiT [targetT, ofT [63]], 2), (ofT [64], 1)] t.kids
  else if t.op = 7 ∨ t.op = 15 ∨ t.op = 16 then decide (t.kids.length = 0)
  else if t.op = 8 ∨ t.op = 18 then fitP (eachP [exprT]) t.kids
  else if t.op = 9 then fitP [(exprT, 0), (stmtT, 0), (stmtT, 1)] t.kids
  else if t.op = 10 then fitP (eachP [ofT [2, 8, 7], eiT [exprT, ofT [7]], eiT [exprT, ofT [7]], stmtT]) t.kids
  else if t.op = 11 ∨ t.op = 12 then fitP (eachP [leftT, exprT, stmtT]) t.kids
  else if t.op = 13 then fitP (eachP [exprT, stmtT]) t.kids
  else if t.op = 14 then fitP (eachP [stmtT, exprT]) t.kids
  else if t.op = 17 then fewP exprT 0 1 t.kids
  else if t.op = 20 then fitP (eachP [eiT [targetT, ofT [7]], ofT [6]]) t.kids
  else if t.op = 21 then fitP [(exprT, 0), (ofT [22], 2)] t.kids
  else if t.op = 22 then (if t.n = 1 then fewP stmtT 0 (-1) t.kids else fitP [(exprT, 0), (stmtT, 2)] t.kids)
  else if t.op = 19 then tryT t.kids
  else fitP (eachP [stmtT]) t.kids
noncomputable def exB (t : T) : Bool :=
  if t.op = 30 ∨ t.op = 31 ∨ t.op = 32 ∨ t.op = 33 ∨ t.op = 34 ∨ t.op = 35 ∨ t.op = 40 then decide (t.kids.length = 0)
  else if t.op = 36 then templB exprT t.kids
  else if t.op = 37 then fewP (eiT [exprT, ofT [40, 41]]) 0 (-1) t.kids
  else if t.op = 38 then fewP (ofT [39]) 0 (-1) t.kids
  else if t.op = 39 then propT t
  else if t.op = 41 ∨ t.op = 42 then fitP (eachP [exprT]) t.kids
  else if t.op = 43 then fitP (eachP [simpleT]) t.kids
  else if t.op = 44 ∨ t.op = 45 ∨ t.op = 52 then fewP exprT 2 2 t.kids
  else if t.op = 46 then (if t.s = ⟨#[61]⟩ then fitP (eachP [targetT, exprT]) t.kids else fitP (eachP [simpleT, exprT]) t.kids)
  else if t.op = 47 then fewP exprT 3 3 t.kids
  else if t.op = 48 then fewP exprT 2 (-1) t.kids
  else if t.op = 49 ∨ t.op = 50 then fitP [(exprT, 0), (argsT, 2)] t.kids
  else if t.op = 51 then fewP exprT 1 1 t.kids
  else if t.op = 53 then chainT t.kids
  else if t.op = 54 then fewP exprT t.n 1 t.kids
  else patternsT t
theorem statements_spec (t : T) (u : Value) (w : World) (μ : Mem) (hμ : MOk μ w) (hk : KR μ t.kids u) (hs : t.size ≤ 100000) (hks : ∀ k ∈ t.kids, T.size k ≤ 100000 ∧ k.s.size ≤ 65536) :
    Calls Tryz.prog 30 #[.agg (encT t u).toArray] w fun e w' => e = .returned (.bool (stB t)) ∧ Below w.heap.size w w' := by
  unfold stB
  by_cases h_prog : t.op = 1 ∨ t.op = 6
  · rw [if_pos h_prog]
    exact st_prog t u w μ hμ hk hs hks h_prog
  rw [if_neg h_prog]
  by_cases h_var : t.op = 2
  · rw [if_pos h_var]
    exact st_var t u w μ hμ hk hs hks h_var
  rw [if_neg h_var]
  by_cases h_decl : t.op = 3
  · rw [if_pos h_decl]
    exact st_decl t u w μ hμ hk hs hks h_decl
  rw [if_neg h_decl]
  by_cases h_func : t.op = 4
  · rw [if_pos h_func]
    exact st_func t u w μ hμ hk hs hks h_func
  rw [if_neg h_func]
  by_cases h_params : t.op = 5
  · rw [if_pos h_params]
    exact st_params t u w μ hμ hk hs hks h_params
  rw [if_neg h_params]
  by_cases h_none : t.op = 7 ∨ t.op = 15 ∨ t.op = 16
  · rw [if_pos h_none]
    exact st_none t u w μ hμ hk hs hks h_none
  rw [if_neg h_none]
  by_cases h_expr : t.op = 8 ∨ t.op = 18
  · rw [if_pos h_expr]
    exact st_expr t u w μ hμ hk hs hks h_expr
  rw [if_neg h_expr]
  by_cases h_if : t.op = 9
  · rw [if_pos h_if]
    exact st_if t u w μ hμ hk hs hks h_if
  rw [if_neg h_if]
  by_cases h_for : t.op = 10
  · rw [if_pos h_for]
    exact st_for t u w μ hμ hk hs hks h_for
  rw [if_neg h_for]
  by_cases h_forin : t.op = 11 ∨ t.op = 12
  · rw [if_pos h_forin]
    exact st_forin t u w μ hμ hk hs hks h_forin
  rw [if_neg h_forin]
  by_cases h_while : t.op = 13
  · rw [if_pos h_while]
    exact st_while t u w μ hμ hk hs hks h_while
  rw [if_neg h_while]
  by_cases h_do : t.op = 14
  · rw [if_pos h_do]
    exact st_do t u w μ hμ hk hs hks h_do
  rw [if_neg h_do]
  by_cases h_ret : t.op = 17
  · rw [if_pos h_ret]
    exact st_ret t u w μ hμ hk hs hks h_ret
  rw [if_neg h_ret]
  by_cases h_catch : t.op = 20
  · rw [if_pos h_catch]
    exact st_catch t u w μ hμ hk hs hks h_catch
  rw [if_neg h_catch]
  by_cases h_switch : t.op = 21
  · rw [if_pos h_switch]
    exact st_switch t u w μ hμ hk hs hks h_switch
  rw [if_neg h_switch]
  by_cases h_case : t.op = 22
  · rw [if_pos h_case]
    exact st_case t u w μ hμ hk hs hks h_case
  rw [if_neg h_case]
  by_cases h_try : t.op = 19
  · rw [if_pos h_try]
    exact st_try t u w μ hμ hk hs hks h_try
  rw [if_neg h_try]
  exact st_rest t u w μ hμ hk hs hks (by omega)
theorem expressions_spec (t : T) (u : Value) (w : World) (μ : Mem) (hμ : MOk μ w) (hk : KR μ t.kids u) (hs : t.size ≤ 100000) (hks : ∀ k ∈ t.kids, T.size k ≤ 100000 ∧ k.s.size ≤ 65536) (hsh : ∀ k ∈ t.kids, Sh' k) :
    Calls Tryz.prog 29 #[.agg (encT t u).toArray] w fun e w' => e = .returned (.bool (exB t)) ∧ Below w.heap.size w w' := by
  unfold exB
  by_cases h_none : t.op = 30 ∨ t.op = 31 ∨ t.op = 32 ∨ t.op = 33 ∨ t.op = 34 ∨ t.op = 35 ∨ t.op = 40
  · rw [if_pos h_none]
    exact ex_none t u w μ hμ hk hs hks h_none
  rw [if_neg h_none]
  by_cases h_tmpl : t.op = 36
  · rw [if_pos h_tmpl]
    exact ex_tmpl t u w μ hμ hk hs hks h_tmpl
  rw [if_neg h_tmpl]
  by_cases h_array : t.op = 37
  · rw [if_pos h_array]
    exact ex_array t u w μ hμ hk hs hks h_array
  rw [if_neg h_array]
  by_cases h_object : t.op = 38
  · rw [if_pos h_object]
    exact ex_object t u w μ hμ hk hs hks h_object
  rw [if_neg h_object]
  by_cases h_prop : t.op = 39
  · rw [if_pos h_prop]
    exact ex_prop t u w μ hμ hk hs hks h_prop
  rw [if_neg h_prop]
  by_cases h_spread : t.op = 41 ∨ t.op = 42
  · rw [if_pos h_spread]
    exact ex_spread t u w μ hμ hk hs hks h_spread
  rw [if_neg h_spread]
  by_cases h_update : t.op = 43
  · rw [if_pos h_update]
    exact ex_update t u w μ hμ hk hs hks h_update
  rw [if_neg h_update]
  by_cases h_bin : t.op = 44 ∨ t.op = 45 ∨ t.op = 52
  · rw [if_pos h_bin]
    exact ex_bin t u w μ hμ hk hs hks h_bin
  rw [if_neg h_bin]
  by_cases h_assignT : t.op = 46
  · rw [if_pos h_assignT]
    by_cases hss : t.s = ⟨#[61]⟩
    · rw [if_pos hss]
      exact ex_assignT t u w μ hμ hk hs hks h_assignT hss
    · rw [if_neg hss]
      exact ex_assignS t u w μ hμ hk hs hks h_assignT hss
  rw [if_neg h_assignT]
  by_cases h_cond : t.op = 47
  · rw [if_pos h_cond]
    exact ex_cond t u w μ hμ hk hs hks h_cond
  rw [if_neg h_cond]
  by_cases h_seq : t.op = 48
  · rw [if_pos h_seq]
    exact ex_seq t u w μ hμ hk hs hks h_seq
  rw [if_neg h_seq]
  by_cases h_call : t.op = 49 ∨ t.op = 50
  · rw [if_pos h_call]
    exact ex_call t u w μ hμ hk hs hks h_call
  rw [if_neg h_call]
  by_cases h_dot : t.op = 51
  · rw [if_pos h_dot]
    exact ex_dot t u w μ hμ hk hs hks h_dot
  rw [if_neg h_dot]
  by_cases h_chain : t.op = 53
  · rw [if_pos h_chain]
    exact ex_chain t u w μ hμ hk hs hks h_chain hsh
  rw [if_neg h_chain]
  by_cases h_yield : t.op = 54
  · rw [if_pos h_yield]
    exact ex_yield t u w μ hμ hk hs hks h_yield
  rw [if_neg h_yield]
  exact ex_rest t u w μ hμ hk hs hks (by omega)
end Go.Proofs.YtfabmichdhbiaaaGreatDoor
namespace Go.Vcg
open Go.RowKit
def IntAt (B : Nat) (t : TypeId) (k : Int) (w : World) : Prop := w.heap[B]? = some (.cells #[.int .i64 k] t (0, 0))
section
variable {P : Program} {X : Ctx} {ops : Array Oper} {Q : Exit → Act → World → Prop} {rest : List Oper} {μ : Mem} {l : Slots} {L : List Bk} {a : Act} {w : World} {o : Oper} {d : Nat}
theorem IntAt.of {B : Nat} {t : TypeId} {cs : Slots} {k : Int} (h : Bk.at (.inl ⟨B, t, 1, cs⟩) w) (hk : lk cs 0 = some (.int .i64 k)) : IntAt B t k w := by
  obtain ⟨arr, h1, h2, h3⟩ := h
  have h2 : arr.size = 1 := h2
  have h4 := h3 0 _ hk
  have : arr = #[.int .i64 k] := by
    apply Array.ext_getElem?
    intro i
    cases i with
    | zero => rw [h4]; rfl
    | succ i => rw [Array.getElem?_eq_none (by omega), Array.getElem?_eq_none (by simp)]
  subst this
  exact h1
theorem IntAt.at {B : Nat} {t : TypeId} {k : Int} (h : IntAt B t k w) : Bk.at (.inl ⟨B, t, 1, [(0, .int .i64 k)]⟩) w := by
  refine ⟨_, h, rfl, fun i v hv => ?_⟩
  cases i with
  | zero => simp [lk] at hv; simp [hv]
  | succ i => simp [lk, beq_ne (show (0 : Nat) ≠ i + 1 by omega)] at hv
end
end Go.Vcg
namespace Go.Proofs.YtfabmichdhbiaaaGreatDoor
open Go.RowKit Go.Vcg
attribute [local irreducible] G GC GQ GA GAop Calls IntKind.wrap Int.decLt Int.decLe
theorem encTV_len (p : T × Value) : (encTV p).length = 6 := rfl
def sizes (ps : List (T × Value)) : Nat := (ps.map fun p => p.1.size).sum
def Kids (μ : Mem) (ps : List (T × Value)) : Prop := ∀ p ∈ ps, KR μ p.1.kids p.2
theorem Kids.mono {μ μ' : Mem} {ps : List (T × Value)} (h : Kids μ ps) (hle : MLe μ μ') : Kids μ' ps := fun p hp => (h p hp).mono hle
theorem Kids.one {μ : Mem} {ps : List (T × Value)} (h : Kids μ ps) : ∀ u ∈ ps.flatMap encTV, u.oneCell' = true := by
  intro u hu
  obtain ⟨p, hp, hu⟩ := List.mem_flatMap.1 hu
  simp at hu
  rcases hu with rfl | rfl | rfl | rfl | rfl | rfl
  all_goals first | rfl | exact (h p hp).one
theorem KR.of_pairs {μ : Mem} {A : Option Addr} {n c : Nat} {ps : List (T × Value)} (h : Sl encTV 6 μ A n ps) (hc : n ≤ c) (hk : Kids μ ps) : KR μ (ps.map (·.1)) (.slice A n c) := by
  have hn := h.1
  subst hn
  have : KR μ (ps.map (·.1)) (.slice A (ps.map (·.1)).length c) := by
    refine .mk _ A c (fun i => match ps[i]? with | some p => p.2 | none => undef) (by simpa using hc) (fun i t hi => ?_) (fun i t hi => ?_) (fun i t hi => ?_)
    all_goals
      rw [List.getElem?_map] at hi
      cases hp : ps[i]? with
      | none => simp [hp] at hi
      | some p =>
        simp [hp] at hi
        subst hi
        first
          | (obtain ⟨a, e, ha⟩ := h.2 (by have := (List.getElem?_eq_some_iff.1 hp).1; omega); exact ⟨a, e, ha i p hp⟩)
          | exact (hk p (List.mem_of_getElem? hp)).one
          | exact hk p (List.mem_of_getElem? hp)
  simpa using this
theorem sizes_append (a b : List (T × Value)) : sizes (a ++ b) = sizes a + sizes b := by simp [sizes]
def In64 (x : Int) : Prop := -9223372036854775808 ≤ x ∧ x ≤ 9223372036854775807
inductive Ri : T → Prop
  | mk {t : T} (h1 : In64 t.op) (h3 : In64 t.n) (h4 : In64 t.m) (hk : ∀ k ∈ t.kids, Ri k) : Ri t
inductive Sh : T → Prop
  | mk {t : T} (h : t.s.size ≤ 4000) (h1 : In64 t.op) (h3 : In64 t.n) (h4 : In64 t.m) (hk : ∀ k ∈ t.kids, Sh k) : Sh t
theorem Ri.kid {t k : T} (h : Ri t) (hk : k ∈ t.kids) : Ri k := by
  cases h with
  | mk _ _ _ h => exact h k hk
end Go.Proofs.YtfabmichdhbiaaaGreatDoor
namespace Go.Proofs.YtfabmichdhbiaaaGreatDoor
open Go.RowKit Go.Vcg
noncomputable def kidsB (t : T) : Bool := if t.op ≤ 23 then stB t else exB t
def onT (t : T) (i : Nat) (k : T) (spine : Bool) : Bool := decide (i = 0) && linkT k && (decide (t.op = 53) || spine && linkT t)
def Nd (t : T) (spine : Bool) : Prop := knownT t.op = true ∧ fieldsT t = true ∧ ¬(linkT t = true ∧ t.n = 1 ∧ spine = false)
inductive Rt : T → Nat → Bool → Prop
  | mk {t : T} {deep : Nat} {spine : Bool} (hd : deep ≤ 200) (hn : Nd t spine) (hk : kidsB t = true) (hr : ∀ (i : Nat) (k : T), t.kids[i]? = some k → Rt k (deep + 1) (onT t i k spine)) : Rt t deep spine
noncomputable def rtB (t : T) (deep : Nat) (spine : Bool) : Bool := dB (Rt t deep spine)
theorem rtB_t {t : T} {d : Nat} {s : Bool} (h : Rt t d s) : rtB t d s = true := by unfold rtB; exact dB_t h
theorem rtB_f {t : T} {d : Nat} {s : Bool} (h : ¬Rt t d s) : rtB t d s = false := by unfold rtB; exact dB_f h
theorem rtB_true {t : T} {d : Nat} {s : Bool} (h : rtB t d s = true) : Rt t d s := by unfold rtB at h; exact dB_true h
theorem rtB_false {t : T} {d : Nat} {s : Bool} (h : rtB t d s = false) : ¬Rt t d s := by unfold rtB at h; exact dB_false h
theorem sh_kid {t k : T} (h : Sh t) (hk : k ∈ t.kids) : Sh k := by
  cases h with
  | mk _ _ _ _ h => exact h k hk
theorem sh_op {t : T} (h : Sh t) : In64 t.op := by cases h; assumption
theorem sh_s {t : T} (h : Sh t) : t.s.size ≤ 4000 := by cases h; assumption
theorem sh_sh' : ∀ {t : T}, Sh t → Sh' t := fun {t} => T.ind2 (p := fun t => Sh t → Sh' t) (fun t ih h => .mk (by have := sh_s h; omega) fun k hk => ih k hk (sh_kid h hk)) t
attribute [local irreducible] knownT fieldsT stB exB rtB G GC GQ GA GAop Calls IntKind.wrap Int.decLt Int.decLe
theorem right_spec : ∀ (n : Nat), n ≤ 100000 → ∀ (t : T) (u : Value) (deep : Nat) (spine : Bool) (w : World) (μ : Mem), MOk μ w → KR μ t.kids u → t.size ≤ n → deep ≤ 201 → Sh t → TabA μ →
    Calls Tryz.prog 17 #[.agg (encT t u).toArray, .int .i64 deep, .bool spine] w fun e w' => e = .returned (.bool (rtB t deep spine)) ∧ Below w.heap.size w w' := by
  intro n
  induction n with
  | zero => intro _ t u d s w μ hμ hk hn; exact absurd hn (by rw [T.size_eq]; omega)
  | succ n ih =>
    intro hnb t u deep spine w μ hμ hk hn hdp hsh hT
    have ho := hk.one
    have hop := sh_op hsh
    unfold In64 at hop
    have hss := sh_s hsh
    have hks : ∀ k ∈ t.kids, T.size k ≤ 100000 ∧ k.s.size ≤ 65536 := fun k hk => by
      obtain ⟨i, hi⟩ := List.mem_iff_getElem?.1 hk
      have h1 := T.size_kid hi
      have h2 := sh_s (sh_kid hsh hk)
      exact ⟨by omega, by omega⟩
    have hks' : ∀ k ∈ t.kids, Sh' k := fun k hk => sh_sh' (sh_kid hsh hk)
    have hlen := kidsLe t
    obtain ⟨A, c, rfl, hlc, hkid⟩ := hk.form
    have c1 := fun (w : World) (μc : Mem) (hw : MOk μc w) (hle : MLe μ μc) => known_spec t.op hop w μc hw (hT.mono hle)
    have c2 := fun (w : World) (μc : Mem) (hw : MOk μc w) (hle : MLe μ μc) => fields_spec' t _ w μc hw (hk.mono hle) (by omega) (by omega) (hT.mono hle)
    have c3 := fun (w : World) (μc : Mem) (hw : MOk μc w) (hle : MLe μ μc) => link_spec t _ w μc hw (hk.mono hle) (by omega) (by omega)
    have c4 := fun (w : World) (μc : Mem) (hw : MOk μc w) (hle : MLe μ μc) => statements_spec t _ w μc hw (hk.mono hle) (by omega) hks
    have c5 := fun (w : World) (μc : Mem) (hw : MOk μc w) (hle : MLe μ μc) => expressions_spec t _ w μc hw (hk.mono hle) (by omega) hks hks'
    refine call_intro (args := [.agg (encT t (.slice A t.kids.length c)).toArray, .int .i64 deep, .bool spine]) Tryz.func17 rfl Tryz.ntmps17 (by simp) hμ ?_
    by_cases h1 : deep ≤ 200 ∧ Nd t spine
    · obtain ⟨hd, hnd⟩ := h1
      obtain ⟨hkn, hf, hl⟩ := id hnd
      rw [hkn] at c1
      rw [hf] at c2
      cases hkb : kidsB t
      · have hR : rtB t deep spine = false := rtB_f fun h => by
          cases h with
          | mk _ _ h2 _ => rw [hkb] at h2; cases h2
        rw [hR]
        unfold kidsB at hkb
        repeat' (first | ((with_reducible show GC _ _ (Code.seq (Code.region 3 _ _) _) _ _ _ _); (apply gc_stop)) | refine KO ?_ | ((with_reducible apply F1 26); exact rfl; exact EN; (exact fun w μc hw hse => c1 w μc hw hse.le)) | ((with_reducible apply F1 27); exact rfl; exact EN; (exact fun w μc hw hse => c2 w μc hw hse.le)) | ((with_reducible apply F1 28); exact rfl; exact EN; (exact fun w μc hw hse => c3 w μc hw hse.le)) | refine KI ?_ | refine NB fun b => ?_ | ((refine KB ?_ ?_ <;> intro hp)) | refine KG ?_ | fail)
        all_goals try (exfalso; apply hl; refine ⟨?_, ?_, ?_⟩ <;> assumption)
        all_goals
          refine gcs ?_
          by_cases h23 : t.op ≤ 23
          · rw [if_pos h23] at hkb
            rw [hkb] at c4
            repeat' (first | refine KO ?_ | ((with_reducible apply C1); exact rfl; exact EN; exact fun w μc hw hse => c4 w μc hw hse.le) | refine KI ?_ | refine NB fun b => ?_ | ((refine KB ?_ ?_ <;> intro hp)) | refine KG ?_ | fail)
            all_goals first | exact ret_s rfl rfl rfl | (exfalso; omega)
          · rw [if_neg h23] at hkb
            rw [hkb] at c5
            repeat' (first | refine KO ?_ | ((with_reducible apply C1); exact rfl; exact EN; exact fun w μc hw hse => c5 w μc hw hse.le) | refine KI ?_ | refine NB fun b => ?_ | ((refine KB ?_ ?_ <;> intro hp)) | refine KG ?_ | fail)
            all_goals first | exact ret_s rfl rfl rfl | (exfalso; omega)
      · have hkb' := hkb
        unfold kidsB at hkb'
        repeat' (first | ((with_reducible show GC _ _ (Code.seq (Code.seq (Code.region 1 _ _) _) _) _ _ _ _); (apply gc_stop)) | refine KK ?_ | refine NB fun b => ?_ | ((refine KB ?_ ?_ <;> intro hp)) | refine KG ?_ | fail)
        refine gcs (gc_join (ι := Unit) (fun _ => True) (fun _ => μ) (fun _ => [(1, .int .i64 deep), (2, .bool spine), (3, .pointer (some ⟨b, 0, none⟩))]) (fun _ => [.inl ⟨b, 27, 6, idx 0 (encT t (.slice A t.kids.length c))⟩]) ?_ ?_)
        · repeat' (first | refine KO ?_ | ((with_reducible apply F1 26); exact rfl; exact EN; (exact fun w μc hw hse => c1 w μc hw hse.le)) | ((with_reducible apply F1 27); exact rfl; exact EN; (exact fun w μc hw hse => c2 w μc hw hse.le)) | ((with_reducible apply F1 28); exact rfl; exact EN; (exact fun w μc hw hse => c3 w μc hw hse.le)) | refine KI ?_ | refine NB fun b => ?_ | ((refine KB ?_ ?_ <;> intro hp)) | refine KG ?_ | fail)
          all_goals try (exfalso; apply hl; refine ⟨?_, ?_, ?_⟩ <;> assumption)
          all_goals first | exact J1 () trivial | (exfalso; omega)
        intro _ _
        by_cases h23 : t.op ≤ 23
        · rw [if_pos h23] at hkb'
          rw [hkb'] at c4
          repeat' (first | refine KO ?_ | ((with_reducible apply C1); exact rfl; exact EN; exact fun w μc hw hse => c4 w μc hw hse.le) | refine KI ?_ | refine NB fun b => ?_ | ((refine KB ?_ ?_ <;> intro hp)) | refine KG ?_ | fail)
          all_goals try (exfalso; omega)
          refine gc_loop (ι := Nat) (fun i => i ≤ t.kids.length ∧ ∀ (j : Nat) (k : T), j < i → t.kids[j]? = some k → Rt k (deep + 1) (onT t j k spine)) (fun i => t.kids.length - i) (fun _ => μ) (fun i => [(47, .int .i64 i), (46, .int .i64 t.kids.length), (45, .slice A t.kids.length c), (1, .int .i64 deep), (2, .bool spine), (3, .pointer (some ⟨b, 0, none⟩))]) (fun _ => [.inl ⟨b, 27, 6, idx 0 (encT t (.slice A t.kids.length c))⟩]) 0 ⟨by omega, fun j _ h => absurd h (by omega)⟩ (fun a w hs => J5 hs) ?_
          rintro i ⟨hi, hok⟩
          by_cases hlt : i < t.kids.length
          · have hkk : t.kids[i]? = some t.kids[i] := List.getElem?_eq_getElem hlt
            generalize t.kids[i] = k at hkk
            obtain ⟨ad, x, rfl, hm, hox, hkx⟩ := hkid i k hkk
            have hsz := T.size_kid hkk
            have hshk := sh_kid hsh (List.mem_of_getElem? hkk)
            have hskk := sh_s hshk
            have ck := fun (w : World) (μc : Mem) (hw : MOk μc w) (hle : MLe μ μc) => link_spec k _ w μc hw (hkx.mono hle) (by omega) (by omega)
            have hnext : Rt k (deep + 1) (onT t i k spine) → ∀ (j : Nat) (k : T), j < i + 1 → t.kids[j]? = some k → Rt k (deep + 1) (onT t j k spine) := fun h j k' hj hk' => by
              rcases Nat.lt_or_ge j i with h1 | h1
              · exact hok j k' h1 hk'
              · obtain rfl : j = i := by omega
                rw [hkk] at hk'
                cases hk'
                exact h
            by_cases hi0 : i = 0
            · subst hi0
              cases hlk : linkT k
              · rw [hlk] at ck
                have hon : onT t 0 k spine = false := by simp [onT, hlk]
                cases hq : rtB k (deep + 1) false
                · have hR : rtB t deep spine = false := rtB_f fun h => rtB_false hq (by cases h with | mk _ _ _ h4 => exact hon ▸ h4 0 k hkk)
                  rw [hR]
                  have hcall := fun (w : World) (μc : Mem) (hw : MOk μc w) (hle : MLe μ μc) => hq ▸ ih (by omega) k x (deep + 1) false w μc hw (hkx.mono hle) (by omega) (by omega) hshk (hT.mono hle)
                  repeat' (first | refine KO ?_ | ((with_reducible apply F1 28); exact rfl; exact EN; first | (exact fun w μc hw hse => ck w μc hw hse.le) | (exact fun w μc hw hse => c3 w μc hw hse.le)) | ((with_reducible apply F1 17); exact rfl; exact EN; (exact fun w μc hw hse => hcall w μc hw hse.le)) | (refine KV (b := by first | exact U1 0 | exact U4 hm) (c := ?_)) | refine KI ?_ | refine NB fun b => ?_ | ((refine KB ?_ ?_ <;> intro hp)) | refine KG ?_ | fail)
                  all_goals first | exact ret_s rfl rfl rfl | (exfalso; omega)
                · have hnx := hnext (by rw [hon]; exact rtB_true hq)
                  have hcall := fun (w : World) (μc : Mem) (hw : MOk μc w) (hle : MLe μ μc) => hq ▸ ih (by omega) k x (deep + 1) false w μc hw (hkx.mono hle) (by omega) (by omega) hshk (hT.mono hle)
                  repeat' (first | refine KO ?_ | ((with_reducible apply F1 28); exact rfl; exact EN; first | (exact fun w μc hw hse => ck w μc hw hse.le) | (exact fun w μc hw hse => c3 w μc hw hse.le)) | ((with_reducible apply F1 17); exact rfl; exact EN; (exact fun w μc hw hse => hcall w μc hw hse.le)) | (refine KV (b := by first | exact U1 0 | exact U4 hm) (c := ?_)) | refine KI ?_ | refine NB fun b => ?_ | ((refine KB ?_ ?_ <;> intro hp)) | refine KG ?_ | fail)
                  all_goals first | exact J2 (0 + 1) ⟨by omega, hnx⟩ (by omega) | (exfalso; omega)
              · rw [hlk] at ck
                by_cases h53 : t.op = 53
                · have hon : onT t 0 k spine = true := by simp [onT, hlk, h53]
                  cases hq : rtB k (deep + 1) true
                  · have hR : rtB t deep spine = false := rtB_f fun h => rtB_false hq (by cases h with | mk _ _ _ h4 => exact hon ▸ h4 0 k hkk)
                    rw [hR]
                    have hcall := fun (w : World) (μc : Mem) (hw : MOk μc w) (hle : MLe μ μc) => hq ▸ ih (by omega) k x (deep + 1) true w μc hw (hkx.mono hle) (by omega) (by omega) hshk (hT.mono hle)
                    repeat' (first | refine KO ?_ | ((with_reducible apply F1 28); exact rfl; exact EN; first | (exact fun w μc hw hse => ck w μc hw hse.le) | (exact fun w μc hw hse => c3 w μc hw hse.le)) | ((with_reducible apply F1 17); exact rfl; exact EN; (exact fun w μc hw hse => hcall w μc hw hse.le)) | (refine KV (b := by first | exact U1 0 | exact U4 hm) (c := ?_)) | refine KI ?_ | refine NB fun b => ?_ | ((refine KB ?_ ?_ <;> intro hp)) | refine KG ?_ | fail)
                    all_goals first | exact ret_s rfl rfl rfl | (exfalso; omega)
                  · have hnx := hnext (by rw [hon]; exact rtB_true hq)
                    have hcall := fun (w : World) (μc : Mem) (hw : MOk μc w) (hle : MLe μ μc) => hq ▸ ih (by omega) k x (deep + 1) true w μc hw (hkx.mono hle) (by omega) (by omega) hshk (hT.mono hle)
                    repeat' (first | refine KO ?_ | ((with_reducible apply F1 28); exact rfl; exact EN; first | (exact fun w μc hw hse => ck w μc hw hse.le) | (exact fun w μc hw hse => c3 w μc hw hse.le)) | ((with_reducible apply F1 17); exact rfl; exact EN; (exact fun w μc hw hse => hcall w μc hw hse.le)) | (refine KV (b := by first | exact U1 0 | exact U4 hm) (c := ?_)) | refine KI ?_ | refine NB fun b => ?_ | ((refine KB ?_ ?_ <;> intro hp)) | refine KG ?_ | fail)
                    all_goals first | exact J2 (0 + 1) ⟨by omega, hnx⟩ (by omega) | (exfalso; omega)
                · cases spine
                  · skip
                    have hon : onT t 0 k false = false := by simp [onT, hlk, h53]
                    cases hq : rtB k (deep + 1) false
                    · have hR : rtB t deep false = false := rtB_f fun h => rtB_false hq (by cases h with | mk _ _ _ h4 => exact hon ▸ h4 0 k hkk)
                      rw [hR]
                      have hcall := fun (w : World) (μc : Mem) (hw : MOk μc w) (hle : MLe μ μc) => hq ▸ ih (by omega) k x (deep + 1) false w μc hw (hkx.mono hle) (by omega) (by omega) hshk (hT.mono hle)
                      repeat' (first | refine KO ?_ | ((with_reducible apply F1 28); exact rfl; exact EN; first | (exact fun w μc hw hse => ck w μc hw hse.le) | (exact fun w μc hw hse => c3 w μc hw hse.le)) | ((with_reducible apply F1 17); exact rfl; exact EN; (exact fun w μc hw hse => hcall w μc hw hse.le)) | (refine KV (b := by first | exact U1 0 | exact U4 hm) (c := ?_)) | refine KI ?_ | refine NB fun b => ?_ | ((refine KB ?_ ?_ <;> intro hp)) | refine KG ?_ | fail)
                      all_goals first | exact ret_s rfl rfl rfl | (exfalso; omega)
                    · have hnx := hnext (by rw [hon]; exact rtB_true hq)
                      have hcall := fun (w : World) (μc : Mem) (hw : MOk μc w) (hle : MLe μ μc) => hq ▸ ih (by omega) k x (deep + 1) false w μc hw (hkx.mono hle) (by omega) (by omega) hshk (hT.mono hle)
                      repeat' (first | refine KO ?_ | ((with_reducible apply F1 28); exact rfl; exact EN; first | (exact fun w μc hw hse => ck w μc hw hse.le) | (exact fun w μc hw hse => c3 w μc hw hse.le)) | ((with_reducible apply F1 17); exact rfl; exact EN; (exact fun w μc hw hse => hcall w μc hw hse.le)) | (refine KV (b := by first | exact U1 0 | exact U4 hm) (c := ?_)) | refine KI ?_ | refine NB fun b => ?_ | ((refine KB ?_ ?_ <;> intro hp)) | refine KG ?_ | fail)
                      all_goals first | exact J2 (0 + 1) ⟨by omega, hnx⟩ (by omega) | (exfalso; omega)
                  · cases hlt2 : linkT t
                    · rw [hlt2] at c3
                      have hon : onT t 0 k true = false := by simp [onT, hlk, h53, hlt2]
                      cases hq : rtB k (deep + 1) false
                      · have hR : rtB t deep true = false := rtB_f fun h => rtB_false hq (by cases h with | mk _ _ _ h4 => exact hon ▸ h4 0 k hkk)
                        rw [hR]
                        have hcall := fun (w : World) (μc : Mem) (hw : MOk μc w) (hle : MLe μ μc) => hq ▸ ih (by omega) k x (deep + 1) false w μc hw (hkx.mono hle) (by omega) (by omega) hshk (hT.mono hle)
                        repeat' (first | refine KO ?_ | ((with_reducible apply F1 28); exact rfl; exact EN; first | (exact fun w μc hw hse => ck w μc hw hse.le) | (exact fun w μc hw hse => c3 w μc hw hse.le)) | ((with_reducible apply F1 17); exact rfl; exact EN; (exact fun w μc hw hse => hcall w μc hw hse.le)) | (refine KV (b := by first | exact U1 0 | exact U4 hm) (c := ?_)) | refine KI ?_ | refine NB fun b => ?_ | ((refine KB ?_ ?_ <;> intro hp)) | refine KG ?_ | fail)
                        all_goals first | exact ret_s rfl rfl rfl | (exfalso; omega)
                      · have hnx := hnext (by rw [hon]; exact rtB_true hq)
                        have hcall := fun (w : World) (μc : Mem) (hw : MOk μc w) (hle : MLe μ μc) => hq ▸ ih (by omega) k x (deep + 1) false w μc hw (hkx.mono hle) (by omega) (by omega) hshk (hT.mono hle)
                        repeat' (first | refine KO ?_ | ((with_reducible apply F1 28); exact rfl; exact EN; first | (exact fun w μc hw hse => ck w μc hw hse.le) | (exact fun w μc hw hse => c3 w μc hw hse.le)) | ((with_reducible apply F1 17); exact rfl; exact EN; (exact fun w μc hw hse => hcall w μc hw hse.le)) | (refine KV (b := by first | exact U1 0 | exact U4 hm) (c := ?_)) | refine KI ?_ | refine NB fun b => ?_ | ((refine KB ?_ ?_ <;> intro hp)) | refine KG ?_ | fail)
                        all_goals first | exact J2 (0 + 1) ⟨by omega, hnx⟩ (by omega) | (exfalso; omega)
                    · rw [hlt2] at c3
                      have hon : onT t 0 k true = true := by simp [onT, hlk, h53, hlt2]
                      cases hq : rtB k (deep + 1) true
                      · have hR : rtB t deep true = false := rtB_f fun h => rtB_false hq (by cases h with | mk _ _ _ h4 => exact hon ▸ h4 0 k hkk)
                        rw [hR]
                        have hcall := fun (w : World) (μc : Mem) (hw : MOk μc w) (hle : MLe μ μc) => hq ▸ ih (by omega) k x (deep + 1) true w μc hw (hkx.mono hle) (by omega) (by omega) hshk (hT.mono hle)
                        repeat' (first | refine KO ?_ | ((with_reducible apply F1 28); exact rfl; exact EN; first | (exact fun w μc hw hse => ck w μc hw hse.le) | (exact fun w μc hw hse => c3 w μc hw hse.le)) | ((with_reducible apply F1 17); exact rfl; exact EN; (exact fun w μc hw hse => hcall w μc hw hse.le)) | (refine KV (b := by first | exact U1 0 | exact U4 hm) (c := ?_)) | refine KI ?_ | refine NB fun b => ?_ | ((refine KB ?_ ?_ <;> intro hp)) | refine KG ?_ | fail)
                        all_goals first | exact ret_s rfl rfl rfl | (exfalso; omega)
                      · have hnx := hnext (by rw [hon]; exact rtB_true hq)
                        have hcall := fun (w : World) (μc : Mem) (hw : MOk μc w) (hle : MLe μ μc) => hq ▸ ih (by omega) k x (deep + 1) true w μc hw (hkx.mono hle) (by omega) (by omega) hshk (hT.mono hle)
                        repeat' (first | refine KO ?_ | ((with_reducible apply F1 28); exact rfl; exact EN; first | (exact fun w μc hw hse => ck w μc hw hse.le) | (exact fun w μc hw hse => c3 w μc hw hse.le)) | ((with_reducible apply F1 17); exact rfl; exact EN; (exact fun w μc hw hse => hcall w μc hw hse.le)) | (refine KV (b := by first | exact U1 0 | exact U4 hm) (c := ?_)) | refine KI ?_ | refine NB fun b => ?_ | ((refine KB ?_ ?_ <;> intro hp)) | refine KG ?_ | fail)
                        all_goals first | exact J2 (0 + 1) ⟨by omega, hnx⟩ (by omega) | (exfalso; omega)
            · skip
              have hon : onT t i k spine = false := by simp [onT, hi0]
              cases hq : rtB k (deep + 1) false
              · have hR : rtB t deep spine = false := rtB_f fun h => rtB_false hq (by cases h with | mk _ _ _ h4 => exact hon ▸ h4 i k hkk)
                rw [hR]
                have hcall := fun (w : World) (μc : Mem) (hw : MOk μc w) (hle : MLe μ μc) => hq ▸ ih (by omega) k x (deep + 1) false w μc hw (hkx.mono hle) (by omega) (by omega) hshk (hT.mono hle)
                repeat' (first | refine KO ?_ | ((with_reducible apply F1 28); exact rfl; exact EN; first | (exact fun w μc hw hse => ck w μc hw hse.le) | (exact fun w μc hw hse => c3 w μc hw hse.le)) | ((with_reducible apply F1 17); exact rfl; exact EN; (exact fun w μc hw hse => hcall w μc hw hse.le)) | (refine KV (b := by first | exact U1 i | exact U4 hm) (c := ?_)) | refine KI ?_ | refine NB fun b => ?_ | ((refine KB ?_ ?_ <;> intro hp)) | refine KG ?_ | fail)
                all_goals first | exact ret_s rfl rfl rfl | (exfalso; omega)
              · have hnx := hnext (by rw [hon]; exact rtB_true hq)
                have hcall := fun (w : World) (μc : Mem) (hw : MOk μc w) (hle : MLe μ μc) => hq ▸ ih (by omega) k x (deep + 1) false w μc hw (hkx.mono hle) (by omega) (by omega) hshk (hT.mono hle)
                repeat' (first | refine KO ?_ | ((with_reducible apply F1 28); exact rfl; exact EN; first | (exact fun w μc hw hse => ck w μc hw hse.le) | (exact fun w μc hw hse => c3 w μc hw hse.le)) | ((with_reducible apply F1 17); exact rfl; exact EN; (exact fun w μc hw hse => hcall w μc hw hse.le)) | (refine KV (b := by first | exact U1 i | exact U4 hm) (c := ?_)) | refine KI ?_ | refine NB fun b => ?_ | ((refine KB ?_ ?_ <;> intro hp)) | refine KG ?_ | fail)
                all_goals first | exact J2 (i + 1) ⟨by omega, hnx⟩ (by omega) | (exfalso; omega)
          · have hR : rtB t deep spine = true := rtB_t (.mk hd hnd hkb fun j k hj => hok j k (by have := (List.getElem?_eq_some_iff.1 hj).1; omega) hj)
            rw [hR]
            repeat' (first | refine KK ?_ | refine NB fun b => ?_ | ((refine KB ?_ ?_ <;> intro hp)) | refine KG ?_ | fail)
            all_goals first | exact ret_s rfl rfl rfl | (exfalso; omega)
        · rw [if_neg h23] at hkb'
          rw [hkb'] at c5
          repeat' (first | refine KO ?_ | ((with_reducible apply C1); exact rfl; exact EN; exact fun w μc hw hse => c5 w μc hw hse.le) | refine KI ?_ | refine NB fun b => ?_ | ((refine KB ?_ ?_ <;> intro hp)) | refine KG ?_ | fail)
          all_goals try (exfalso; omega)
          refine gc_loop (ι := Nat) (fun i => i ≤ t.kids.length ∧ ∀ (j : Nat) (k : T), j < i → t.kids[j]? = some k → Rt k (deep + 1) (onT t j k spine)) (fun i => t.kids.length - i) (fun _ => μ) (fun i => [(47, .int .i64 i), (46, .int .i64 t.kids.length), (45, .slice A t.kids.length c), (1, .int .i64 deep), (2, .bool spine), (3, .pointer (some ⟨b, 0, none⟩))]) (fun _ => [.inl ⟨b, 27, 6, idx 0 (encT t (.slice A t.kids.length c))⟩]) 0 ⟨by omega, fun j _ h => absurd h (by omega)⟩ (fun a w hs => J5 hs) ?_
          rintro i ⟨hi, hok⟩
          by_cases hlt : i < t.kids.length
          · have hkk : t.kids[i]? = some t.kids[i] := List.getElem?_eq_getElem hlt
            generalize t.kids[i] = k at hkk
            obtain ⟨ad, x, rfl, hm, hox, hkx⟩ := hkid i k hkk
            have hsz := T.size_kid hkk
            have hshk := sh_kid hsh (List.mem_of_getElem? hkk)
            have hskk := sh_s hshk
            have ck := fun (w : World) (μc : Mem) (hw : MOk μc w) (hle : MLe μ μc) => link_spec k _ w μc hw (hkx.mono hle) (by omega) (by omega)
            have hnext : Rt k (deep + 1) (onT t i k spine) → ∀ (j : Nat) (k : T), j < i + 1 → t.kids[j]? = some k → Rt k (deep + 1) (onT t j k spine) := fun h j k' hj hk' => by
              rcases Nat.lt_or_ge j i with h1 | h1
              · exact hok j k' h1 hk'
              · obtain rfl : j = i := by omega
                rw [hkk] at hk'
                cases hk'
                exact h
            by_cases hi0 : i = 0
            · subst hi0
              cases hlk : linkT k
              · rw [hlk] at ck
                have hon : onT t 0 k spine = false := by simp [onT, hlk]
                cases hq : rtB k (deep + 1) false
                · have hR : rtB t deep spine = false := rtB_f fun h => rtB_false hq (by cases h with | mk _ _ _ h4 => exact hon ▸ h4 0 k hkk)
                  rw [hR]
                  have hcall := fun (w : World) (μc : Mem) (hw : MOk μc w) (hle : MLe μ μc) => hq ▸ ih (by omega) k x (deep + 1) false w μc hw (hkx.mono hle) (by omega) (by omega) hshk (hT.mono hle)
                  repeat' (first | refine KO ?_ | ((with_reducible apply F1 28); exact rfl; exact EN; first | (exact fun w μc hw hse => ck w μc hw hse.le) | (exact fun w μc hw hse => c3 w μc hw hse.le)) | ((with_reducible apply F1 17); exact rfl; exact EN; (exact fun w μc hw hse => hcall w μc hw hse.le)) | (refine KV (b := by first | exact U1 0 | exact U4 hm) (c := ?_)) | refine KI ?_ | refine NB fun b => ?_ | ((refine KB ?_ ?_ <;> intro hp)) | refine KG ?_ | fail)
                  all_goals first | exact ret_s rfl rfl rfl | (exfalso; omega)
                · have hnx := hnext (by rw [hon]; exact rtB_true hq)
                  have hcall := fun (w : World) (μc : Mem) (hw : MOk μc w) (hle : MLe μ μc) => hq ▸ ih (by omega) k x (deep + 1) false w μc hw (hkx.mono hle) (by omega) (by omega) hshk (hT.mono hle)
                  repeat' (first | refine KO ?_ | ((with_reducible apply F1 28); exact rfl; exact EN; first | (exact fun w μc hw hse => ck w μc hw hse.le) | (exact fun w μc hw hse => c3 w μc hw hse.le)) | ((with_reducible apply F1 17); exact rfl; exact EN; (exact fun w μc hw hse => hcall w μc hw hse.le)) | (refine KV (b := by first | exact U1 0 | exact U4 hm) (c := ?_)) | refine KI ?_ | refine NB fun b => ?_ | ((refine KB ?_ ?_ <;> intro hp)) | refine KG ?_ | fail)
                  all_goals first | exact J2 (0 + 1) ⟨by omega, hnx⟩ (by omega) | (exfalso; omega)
              · rw [hlk] at ck
                by_cases h53 : t.op = 53
                · have hon : onT t 0 k spine = true := by simp [onT, hlk, h53]
                  cases hq : rtB k (deep + 1) true
                  · have hR : rtB t deep spine = false := rtB_f fun h => rtB_false hq (by cases h with | mk _ _ _ h4 => exact hon ▸ h4 0 k hkk)
                    rw [hR]
                    have hcall := fun (w : World) (μc : Mem) (hw : MOk μc w) (hle : MLe μ μc) => hq ▸ ih (by omega) k x (deep + 1) true w μc hw (hkx.mono hle) (by omega) (by omega) hshk (hT.mono hle)
                    repeat' (first | refine KO ?_ | ((with_reducible apply F1 28); exact rfl; exact EN; first | (exact fun w μc hw hse => ck w μc hw hse.le) | (exact fun w μc hw hse => c3 w μc hw hse.le)) | ((with_reducible apply F1 17); exact rfl; exact EN; (exact fun w μc hw hse => hcall w μc hw hse.le)) | (refine KV (b := by first | exact U1 0 | exact U4 hm) (c := ?_)) | refine KI ?_ | refine NB fun b => ?_ | ((refine KB ?_ ?_ <;> intro hp)) | refine KG ?_ | fail)
                    all_goals first | exact ret_s rfl rfl rfl | (exfalso; omega)
                  · have hnx := hnext (by rw [hon]; exact rtB_true hq)
                    have hcall := fun (w : World) (μc : Mem) (hw : MOk μc w) (hle : MLe μ μc) => hq ▸ ih (by omega) k x (deep + 1) true w μc hw (hkx.mono hle) (by omega) (by omega) hshk (hT.mono hle)
                    repeat' (first | refine KO ?_ | ((with_reducible apply F1 28); exact rfl; exact EN; first | (exact fun w μc hw hse => ck w μc hw hse.le) | (exact fun w μc hw hse => c3 w μc hw hse.le)) | ((with_reducible apply F1 17); exact rfl; exact EN; (exact fun w μc hw hse => hcall w μc hw hse.le)) | (refine KV (b := by first | exact U1 0 | exact U4 hm) (c := ?_)) | refine KI ?_ | refine NB fun b => ?_ | ((refine KB ?_ ?_ <;> intro hp)) | refine KG ?_ | fail)
                    all_goals first | exact J2 (0 + 1) ⟨by omega, hnx⟩ (by omega) | (exfalso; omega)
                · cases spine
                  · skip
                    have hon : onT t 0 k false = false := by simp [onT, hlk, h53]
                    cases hq : rtB k (deep + 1) false
                    · have hR : rtB t deep false = false := rtB_f fun h => rtB_false hq (by cases h with | mk _ _ _ h4 => exact hon ▸ h4 0 k hkk)
                      rw [hR]
                      have hcall := fun (w : World) (μc : Mem) (hw : MOk μc w) (hle : MLe μ μc) => hq ▸ ih (by omega) k x (deep + 1) false w μc hw (hkx.mono hle) (by omega) (by omega) hshk (hT.mono hle)
                      repeat' (first | refine KO ?_ | ((with_reducible apply F1 28); exact rfl; exact EN; first | (exact fun w μc hw hse => ck w μc hw hse.le) | (exact fun w μc hw hse => c3 w μc hw hse.le)) | ((with_reducible apply F1 17); exact rfl; exact EN; (exact fun w μc hw hse => hcall w μc hw hse.le)) | (refine KV (b := by first | exact U1 0 | exact U4 hm) (c := ?_)) | refine KI ?_ | refine NB fun b => ?_ | ((refine KB ?_ ?_ <;> intro hp)) | refine KG ?_ | fail)
                      all_goals first | exact ret_s rfl rfl rfl | (exfalso; omega)
                    · have hnx := hnext (by rw [hon]; exact rtB_true hq)
                      have hcall := fun (w : World) (μc : Mem) (hw : MOk μc w) (hle : MLe μ μc) => hq ▸ ih (by omega) k x (deep + 1) false w μc hw (hkx.mono hle) (by omega) (by omega) hshk (hT.mono hle)
                      repeat' (first | refine KO ?_ | ((with_reducible apply F1 28); exact rfl; exact EN; first | (exact fun w μc hw hse => ck w μc hw hse.le) | (exact fun w μc hw hse => c3 w μc hw hse.le)) | ((with_reducible apply F1 17); exact rfl; exact EN; (exact fun w μc hw hse => hcall w μc hw hse.le)) | (refine KV (b := by first | exact U1 0 | exact U4 hm) (c := ?_)) | refine KI ?_ | refine NB fun b => ?_ | ((refine KB ?_ ?_ <;> intro hp)) | refine KG ?_ | fail)
                      all_goals first | exact J2 (0 + 1) ⟨by omega, hnx⟩ (by omega) | (exfalso; omega)
                  · cases hlt2 : linkT t
                    · rw [hlt2] at c3
                      have hon : onT t 0 k true = false := by simp [onT, hlk, h53, hlt2]
                      cases hq : rtB k (deep + 1) false
                      · have hR : rtB t deep true = false := rtB_f fun h => rtB_false hq (by cases h with | mk _ _ _ h4 => exact hon ▸ h4 0 k hkk)
                        rw [hR]
                        have hcall := fun (w : World) (μc : Mem) (hw : MOk μc w) (hle : MLe μ μc) => hq ▸ ih (by omega) k x (deep + 1) false w μc hw (hkx.mono hle) (by omega) (by omega) hshk (hT.mono hle)
                        repeat' (first | refine KO ?_ | ((with_reducible apply F1 28); exact rfl; exact EN; first | (exact fun w μc hw hse => ck w μc hw hse.le) | (exact fun w μc hw hse => c3 w μc hw hse.le)) | ((with_reducible apply F1 17); exact rfl; exact EN; (exact fun w μc hw hse => hcall w μc hw hse.le)) | (refine KV (b := by first | exact U1 0 | exact U4 hm) (c := ?_)) | refine KI ?_ | refine NB fun b => ?_ | ((refine KB ?_ ?_ <;> intro hp)) | refine KG ?_ | fail)
                        all_goals first | exact ret_s rfl rfl rfl | (exfalso; omega)
                      · have hnx := hnext (by rw [hon]; exact rtB_true hq)
                        have hcall := fun (w : World) (μc : Mem) (hw : MOk μc w) (hle : MLe μ μc) => hq ▸ ih (by omega) k x (deep + 1) false w μc hw (hkx.mono hle) (by omega) (by omega) hshk (hT.mono hle)
                        repeat' (first | refine KO ?_ | ((with_reducible apply F1 28); exact rfl; exact EN; first | (exact fun w μc hw hse => ck w μc hw hse.le) | (exact fun w μc hw hse => c3 w μc hw hse.le)) | ((with_reducible apply F1 17); exact rfl; exact EN; (exact fun w μc hw hse => hcall w μc hw hse.le)) | (refine KV (b := by first | exact U1 0 | exact U4 hm) (c := ?_)) | refine KI ?_ | refine NB fun b => ?_ | ((refine KB ?_ ?_ <;> intro hp)) | refine KG ?_ | fail)
                        all_goals first | exact J2 (0 + 1) ⟨by omega, hnx⟩ (by omega) | (exfalso; omega)
                    · rw [hlt2] at c3
                      have hon : onT t 0 k true = true := by simp [onT, hlk, h53, hlt2]
                      cases hq : rtB k (deep + 1) true
                      · have hR : rtB t deep true = false := rtB_f fun h => rtB_false hq (by cases h with | mk _ _ _ h4 => exact hon ▸ h4 0 k hkk)
                        rw [hR]
                        have hcall := fun (w : World) (μc : Mem) (hw : MOk μc w) (hle : MLe μ μc) => hq ▸ ih (by omega) k x (deep + 1) true w μc hw (hkx.mono hle) (by omega) (by omega) hshk (hT.mono hle)
                        repeat' (first | refine KO ?_ | ((with_reducible apply F1 28); exact rfl; exact EN; first | (exact fun w μc hw hse => ck w μc hw hse.le) | (exact fun w μc hw hse => c3 w μc hw hse.le)) | ((with_reducible apply F1 17); exact rfl; exact EN; (exact fun w μc hw hse => hcall w μc hw hse.le)) | (refine KV (b := by first | exact U1 0 | exact U4 hm) (c := ?_)) | refine KI ?_ | refine NB fun b => ?_ | ((refine KB ?_ ?_ <;> intro hp)) | refine KG ?_ | fail)
                        all_goals first | exact ret_s rfl rfl rfl | (exfalso; omega)
                      · have hnx := hnext (by rw [hon]; exact rtB_true hq)
                        have hcall := fun (w : World) (μc : Mem) (hw : MOk μc w) (hle : MLe μ μc) => hq ▸ ih (by omega) k x (deep + 1) true w μc hw (hkx.mono hle) (by omega) (by omega) hshk (hT.mono hle)
                        repeat' (first | refine KO ?_ | ((with_reducible apply F1 28); exact rfl; exact EN; first | (exact fun w μc hw hse => ck w μc hw hse.le) | (exact fun w μc hw hse => c3 w μc hw hse.le)) | ((with_reducible apply F1 17); exact rfl; exact EN; (exact fun w μc hw hse => hcall w μc hw hse.le)) | (refine KV (b := by first | exact U1 0 | exact U4 hm) (c := ?_)) | refine KI ?_ | refine NB fun b => ?_ | ((refine KB ?_ ?_ <;> intro hp)) | refine KG ?_ | fail)
                        all_goals first | exact J2 (0 + 1) ⟨by omega, hnx⟩ (by omega) | (exfalso; omega)
            · skip
              have hon : onT t i k spine = false := by simp [onT, hi0]
              cases hq : rtB k (deep + 1) false
              · have hR : rtB t deep spine = false := rtB_f fun h => rtB_false hq (by cases h with | mk _ _ _ h4 => exact hon ▸ h4 i k hkk)
                rw [hR]
                have hcall := fun (w : World) (μc : Mem) (hw : MOk μc w) (hle : MLe μ μc) => hq ▸ ih (by omega) k x (deep + 1) false w μc hw (hkx.mono hle) (by omega) (by omega) hshk (hT.mono hle)
                repeat' (first | refine KO ?_ | ((with_reducible apply F1 28); exact rfl; exact EN; first | (exact fun w μc hw hse => ck w μc hw hse.le) | (exact fun w μc hw hse => c3 w μc hw hse.le)) | ((with_reducible apply F1 17); exact rfl; exact EN; (exact fun w μc hw hse => hcall w μc hw hse.le)) | (refine KV (b := by first | exact U1 i | exact U4 hm) (c := ?_)) | refine KI ?_ | refine NB fun b => ?_ | ((refine KB ?_ ?_ <;> intro hp)) | refine KG ?_ | fail)
                all_goals first | exact ret_s rfl rfl rfl | (exfalso; omega)
              · have hnx := hnext (by rw [hon]; exact rtB_true hq)
                have hcall := fun (w : World) (μc : Mem) (hw : MOk μc w) (hle : MLe μ μc) => hq ▸ ih (by omega) k x (deep + 1) false w μc hw (hkx.mono hle) (by omega) (by omega) hshk (hT.mono hle)
                repeat' (first | refine KO ?_ | ((with_reducible apply F1 28); exact rfl; exact EN; first | (exact fun w μc hw hse => ck w μc hw hse.le) | (exact fun w μc hw hse => c3 w μc hw hse.le)) | ((with_reducible apply F1 17); exact rfl; exact EN; (exact fun w μc hw hse => hcall w μc hw hse.le)) | (refine KV (b := by first | exact U1 i | exact U4 hm) (c := ?_)) | refine KI ?_ | refine NB fun b => ?_ | ((refine KB ?_ ?_ <;> intro hp)) | refine KG ?_ | fail)
                all_goals first | exact J2 (i + 1) ⟨by omega, hnx⟩ (by omega) | (exfalso; omega)
          · have hR : rtB t deep spine = true := rtB_t (.mk hd hnd hkb fun j k hj => hok j k (by have := (List.getElem?_eq_some_iff.1 hj).1; omega) hj)
            rw [hR]
            repeat' (first | refine KK ?_ | refine NB fun b => ?_ | ((refine KB ?_ ?_ <;> intro hp)) | refine KG ?_ | fail)
            all_goals first | exact ret_s rfl rfl rfl | (exfalso; omega)
    · have hR : rtB t deep spine = false := rtB_f fun h => by
        cases h with
        | mk h2 h3 _ _ => exact h1 ⟨h2, h3⟩
      rw [hR]
      unfold Nd at h1
      repeat' (first | ((with_reducible show GC _ _ (Code.seq (Code.region 3 _ _) _) _ _ _ _); (apply gc_stop)) | refine KO ?_ | ((with_reducible apply F1 26); exact rfl; exact EN; (exact fun w μc hw hse => c1 w μc hw hse.le)) | ((with_reducible apply F1 27); exact rfl; exact EN; (exact fun w μc hw hse => c2 w μc hw hse.le)) | ((with_reducible apply F1 28); exact rfl; exact EN; (exact fun w μc hw hse => c3 w μc hw hse.le)) | refine KI ?_ | refine NB fun b => ?_ | ((refine KB ?_ ?_ <;> intro hp)) | refine KG ?_ | fail)
      all_goals first | exact ret_s rfl rfl rfl | (exfalso; clear c1 c2 c3 c4 c5 hk hkid hμ hT hks hks' hsh ih; simp_all; done) | (exfalso; clear c1 c2 c3 c4 c5 hk hkid hμ hT hks hks' hsh ih; simp_all; omega) | (exfalso; omega)
end Go.Proofs.YtfabmichdhbiaaaGreatDoor
namespace Go.Proofs.YtfabmichdhbiaaaGreatDoor
open Go.RowKit Go.Vcg
attribute [local irreducible] hasT bitT
attribute [local irreducible] stmtT rStmtT exprT rExprT targetT simpleT linkT namedT len0 set0
attribute [local irreducible] isT
theorem eat_one (p : T → Bool) (m : Int) (hm : m ≠ 2) (l : List T) : eatF p m 1 l = (1, l) := by
  cases l with
  | nil => rfl
  | cons k r => rw [eatF, if_neg (by simp [hm])]
theorem fitP_nil' (l : List T) : fitP [] l = decide (l.length = 0) := rfl
theorem fitP_1 (p : T → Bool) (r : List ((T → Bool) × Int)) (l : List T) : fitP ((p, 1) :: r) l = fitP r (match l with | k :: r => if p k = true then r else k :: r | [] => []) := by
  rw [fitP, if_neg (by simp)]
  cases l with
  | nil => rfl
  | cons k t =>
    cases h : p k
    · rw [eatF, if_neg (by simp [h])]; simp [h]
    · rw [eatF, if_pos ⟨h, .inl rfl⟩, eat_one p 1 (by decide)]; simp [h]
theorem fitP_0 (p : T → Bool) (r : List ((T → Bool) × Int)) (l : List T) : fitP ((p, 0) :: r) l = match l with | k :: t => if p k = true then fitP r t else false | [] => false := by
  rw [fitP]
  cases l with
  | nil => simp [eatF]
  | cons k t =>
    cases h : p k
    · have e : eatF p 0 0 (k :: t) = (0, k :: t) := by rw [eatF, if_neg (by simp [h])]
      rw [e]; simp [h]
    · have e : eatF p 0 0 (k :: t) = (1, t) := by rw [eatF, if_pos ⟨h, .inl rfl⟩, eat_one p 0 (by decide)]
      rw [e]; simp [h]
noncomputable def krowB (t : T) : Bool := if t.op = 36 then templB rExprT t.kids else decide (kindsS t ≠ ⟨#[33]⟩) && rowP (bl (kindsS t)) t.kids
noncomputable def extraB (t : T) : Bool := (if t.op = 19 then (match t.kids with | [_, y, z] => decide (y.op ≠ 7) || decide (z.op ≠ 7) | _ => false) else true) && (if t.op = 53 then (match t.kids with | [k] => chB k | _ => false) else true)
noncomputable def rKidsB (t : T) : Bool := krowB t && extraB t
attribute [local irreducible] fitP rowP fewP templB chB
end Go.Proofs.YtfabmichdhbiaaaGreatDoor
namespace Go.Vcg
open Go.RowKit
section
variable {P : Program} {X : Ctx} {Q : Exit → Act → World → Prop} {μ : Mem} {l : Slots} {L : List Bk} {a : Act} {w : World}
theorem St.base {a' : Act} {l' : Slots} {w' : World} (h : St X μ l L a w) (hsz : a'.tmps.size = X.n) (hd : a'.defers = []) (hsl : ∀ t v, lk l' t = some v → a'.tmps[t]? = some v) (hmem : MOk μ w') (hown : ∀ x ∈ L, Bk.at x w') : St ⟨w', μ, idsOf L, X.n⟩ μ l' L a' w' :=
  ⟨hsz, by rw [hd]; exact Marks.nil, hsl, Keep.refl _ _, hmem, MLe.refl _, fun _ _ _ h => h, hown, h.priv, fun x hx b hb => .inl (mem_idsOf.2 ⟨x, hx, hb⟩), h.diff⟩
end
end Go.Vcg
namespace Go.Vcg
open Go.RowKit
section
variable {P : Program} {X : Ctx} {Q : Exit → Act → World → Prop} {μ : Mem} {l : Slots} {L : List Bk} {a : Act} {w : World}
end
end Go.Vcg
namespace Go.Proofs.YtfabmichdhbiaaaGreatDoor
open Go.RowKit Go.Vcg
namespace T
def dmax (l : List Nat) : Nat := l.foldr max 0
def depth : T → Nat | mk _ _ _ _ _ ks => 1 + dmax (ks.attach.map fun ⟨k, _⟩ => k.depth)
end T
attribute [local irreducible] G GC GQ GA GAop GI Calls IntKind.wrap Int.decLt Int.decLe
end Go.Proofs.YtfabmichdhbiaaaGreatDoor
