/- TreeRight, plainly: the program's and the reference's answers agree at every tree. (and what leans on it). No statement of the seat is proved here. -/
import Derived.Test.YtfabmichdhbiaaaGreatDoorQav
import Derived.Test.YtfabmichdhbiaaaGreatDoorQat
import Derived.Test.YtfabmichdhbiaaaGreatDoorQad
import Derived.Test.YtfabmichdhbiaaaGreatDoorQae
import Derived.Test.YtfabmichdhbiaaaGreatDoorQaq
set_option maxRecDepth 20000
set_option maxHeartbeats 2000000
namespace Go.Proofs.YtfabmichdhbiaaaGreatDoor
open Go.RowKit Go.Vcg
attribute [local irreducible] hasT bitT stmtT rStmtT exprT rExprT targetT simpleT linkT namedT len0 set0 isT fitP rowP fewP templB chB formB whatT
theorem kr_func (t : T) (hop : t.op = 4) (hf : OkF t) (hk : ∀ k ∈ t.kids, OkF k) : kidsB t = rKidsB t := by
  obtain ⟨h0, h1⟩ := hf hop
  have hb : hasT t 128 = decide ((IntKind.i64.wrap (t.n.tdiv 128)).tmod 2 = 1) := by rw [has_bit hf (by simp), bit_quo hop h0]; rfl
  have e1 : kidsB t = fitP (eachP [ofT [5], bodyT t]) t.kids := by
    unfold kidsB
    rw [if_pos (by omega)]
    unfold stB
    (repeat first | rw [if_pos (by omega)] | rw [if_neg (by omega)])
  rw [e1]
  by_cases hq : (IntKind.i64.wrap (t.n.tdiv 128)).tmod 2 = 1
  · have e2 : kindsS t = ⟨#[80, 69]⟩ := by
      unfold kindsS
      (repeat first | rw [if_pos (by omega)] | rw [if_neg (by omega)])
    rw [rk_row (by omega) (by omega) (by omega) e2 (by decide), show bl ⟨#[80, 69]⟩ = [80, 69] from rfl, rf_d 80 (by decide) (by decide) (rf_one 69 rf_nil)]
    unfold bodyT
    rw [hb, decide_eq_true hq, if_pos rfl]
    exact fit_congr (.cons ceP (.cons ceE .nil)) _ hk
  · have e2 : kindsS t = ⟨#[80, 66]⟩ := by
      unfold kindsS
      (repeat first | rw [if_pos (by omega)] | rw [if_neg (by omega)])
    rw [rk_row (by omega) (by omega) (by omega) e2 (by decide), show bl ⟨#[80, 66]⟩ = [80, 66] from rfl, rf_d 80 (by decide) (by decide) (rf_one 66 rf_nil)]
    unfold bodyT
    rw [hb, decide_eq_false hq, if_neg (by simp)]
    exact fit_congr (.cons ceP (.cons ceB .nil)) _ hk
theorem kr_try (t : T) (hop : t.op = 19) (hk : ∀ k ∈ t.kids, OkF k) : kidsB t = rKidsB t := by
  have e1 : kidsB t = tryT t.kids := by
    unfold kidsB
    rw [if_pos (by omega)]
    unfold stB
    (repeat first | rw [if_pos (by omega)] | rw [if_neg (by omega)])
  have e2 : kindsS t = ⟨#[66, 67, 89]⟩ := by
    unfold kindsS
    (repeat first | rw [if_pos (by omega)] | rw [if_neg (by omega)])
  have e3 : fitP (eachP [ofT [6], ofT [20, 7], ofT [6, 7]]) t.kids = rowP [66, 67, 89] t.kids := by
    rw [rf_d 66 (by decide) (by decide) (rf_d 67 (by decide) (by decide) (rf_one 89 rf_nil))]
    exact fit_congr (.cons ceB (.cons ceC (.cons ceY .nil))) _ hk
  rw [e1]
  unfold tryT rKidsB krowB extraB
  rw [e2, e3, if_neg (by omega), if_pos hop, if_neg (by omega), decide_eq_true (by decide), Bool.true_and, Bool.and_true]
  rfl
theorem ch_lk {k : T} (h : chB k = true) : linkT k = true := by
  cases hl : linkT k
  · rw [chB_f (ch_link hl)] at h
    cases h
  · rfl
theorem kr_chain (t : T) (hop : t.op = 53) : kidsB t = rKidsB t := by
  have e1 : kidsB t = chainT t.kids := by
    unfold kidsB
    rw [if_neg (by omega)]
    unfold exB
    (repeat first | rw [if_pos (by omega)] | rw [if_neg (by omega)])
  have e2 : kindsS t = ⟨#[99]⟩ := by
    unfold kindsS
    (repeat first | rw [if_pos (by omega)] | rw [if_neg (by omega)])
    unfold moreS
    (repeat first | rw [if_pos (by omega)] | rw [if_neg (by omega)])
  rw [e1]
  unfold rKidsB krowB extraB chainT
  rw [e2, if_neg (by omega), if_neg (by omega), if_pos hop, decide_eq_true (by decide), Bool.true_and, Bool.true_and, show bl ⟨#[99]⟩ = [99] from rfl]
  match t.kids with
  | [] => simp
  | [k] =>
    rw [rf_one 99 rf_nil, fitP_0]
    simp only [fitP_nil', show ((99 : UInt8).toNat : Int) = 99 from rfl, is99]
    cases hc : chB k
    · simp
    · simp [ch_lk hc]
  | _ :: _ :: _ => simp
theorem kr_templ (t : T) (hop : t.op = 36) (hk : ∀ k ∈ t.kids, OkF k) : kidsB t = rKidsB t := by
  have e1 : kidsB t = templB exprT t.kids := by
    unfold kidsB
    rw [if_neg (by omega)]
    unfold exB
    (repeat first | rw [if_pos (by omega)] | rw [if_neg (by omega)])
  rw [e1]
  unfold rKidsB krowB
  rw [extra_true (by omega) (by omega), if_pos hop, Bool.and_true]
  have hiff : templP exprT t.kids ↔ templP rExprT t.kids := by
    unfold templP
    refine and_congr Iff.rfl (forall_congr' fun i => forall_congr' fun k => forall_congr' fun hi => ?_)
    unfold tmOk
    rw [expr_eq (hk k (List.mem_of_getElem? hi))]
  by_cases h : templP exprT t.kids
  · rw [templB_t h, templB_t (hiff.1 h)]
  · rw [templB_f h, templB_f fun h2 => h (hiff.2 h2)]
def knR (op : Int) : Prop := 1 ≤ op ∧ op ≤ 23 ∨ 30 ≤ op ∧ op ≤ 54 ∨ 60 ≤ op ∧ op ≤ 64
theorem known_ne {op : Int} (h : nameB op ≠ []) : knownT op = true := by
  unfold knownT
  rw [decide_eq_true_eq]
  intro e
  apply h
  have := congrArg (fun x : ByteArray => x.data.toList) e
  simpa using this
theorem known_nil {op : Int} (h : nameB op = []) : knownT op = false := by
  unfold knownT
  rw [h]
  simp
theorem nm_ck : ((List.range 65).all fun k => (nameL.getD k []).isEmpty == !(decide (1 ≤ k ∧ k ≤ 23) || decide (30 ≤ k ∧ k ≤ 54) || decide (60 ≤ k ∧ k ≤ 64))) = true := by decide +kernel
theorem nm_at {k : Nat} (h : k < 65) : (nameL.getD k []).isEmpty = !(decide (1 ≤ k ∧ k ≤ 23) || decide (30 ≤ k ∧ k ≤ 54) || decide (60 ≤ k ∧ k ≤ 64)) := eq_of_beq (List.all_eq_true.1 nm_ck k (List.mem_range.2 h))
theorem known_iff (op : Int) : knownT op = true ↔ knR op := by
  by_cases hr : op < 0 ∨ 65 ≤ op
  · rw [known_nil (nameB_none hr)]
    unfold knR
    constructor
    · intro h; cases h
    · intro h; omega
  · obtain ⟨k, rfl⟩ := Int.eq_ofNat_of_zero_le (by omega : 0 ≤ op)
    have h := nm_at (k := k) (by omega)
    have hn : nameB (k : Int) = nameL.getD k [] := by unfold nameB; rw [if_pos (by omega), Int.toNat_natCast]
    unfold knR
    constructor
    · intro hk
      by_cases he : nameB (k : Int) = []
      · rw [known_nil he] at hk
        cases hk
      · rw [← hn, List.isEmpty_eq_false_iff.2 he] at h
        simp at h
        omega
    · intro hk
      refine known_ne fun he => ?_
      rw [← hn, he] at h
      simp at h
      omega
theorem kinds_un {t : T} (h : ¬knR t.op) : kindsS t = ⟨#[33]⟩ := by
  unfold knR at h
  unfold kindsS
  (repeat first | rw [if_neg (by omega)])
  unfold moreS
  (repeat first | rw [if_neg (by omega)])
theorem row_known {t : T} (h : krowB t = true) : knownT t.op = true := by
  rw [known_iff]
  refine Classical.byContradiction fun hn => ?_
  unfold krowB at h
  rw [kinds_un hn] at h
  have : ¬t.op = 36 := fun e => hn (by unfold knR; omega)
  rw [if_neg this] at h
  simp at h
theorem kids_eq {t : T} (hf : OkF t) (hk : ∀ k ∈ t.kids, OkF k) (hkn : knownT t.op = true) (hy : t.op = 54 → t.n = 0 ∨ t.n = 1) (hp : t.op = 39 → 0 ≤ t.n ∧ t.n ≤ 5) : kidsB t = rKidsB t := by
  rw [known_iff] at hkn
  unfold knR at hkn
  rcases (by omega : (t.op = 1 ∨ t.op = 6) ∨ t.op = 2 ∨ t.op = 3 ∨ t.op = 4 ∨ t.op = 5 ∨ (t.op = 7 ∨ t.op = 15 ∨ t.op = 16) ∨ (t.op = 8 ∨ t.op = 18) ∨ t.op = 9 ∨ t.op = 10 ∨ (t.op = 11 ∨ t.op = 12) ∨ t.op = 13 ∨ t.op = 14 ∨ t.op = 17 ∨ t.op = 19 ∨ t.op = 20 ∨ t.op = 21 ∨ t.op = 22 ∨ t.op = 23 ∨ 30 ≤ t.op) with h | h | h | h | h | h | h | h | h | h | h | h | h | h | h | h | h | h | h
  · exact kr_prog t h hk
  · exact kr_var t h hk
  · exact kr_decl t h hk
  · exact kr_func t h hf hk
  · exact kr_params t h hk
  · exact kr_none t h hk
  · exact kr_expr t h hk
  · exact kr_if t h hk
  · exact kr_for t h hk
  · exact kr_forin t h hk
  · exact kr_while t h hk
  · exact kr_do t h hk
  · exact kr_ret t h hk
  · exact kr_try t h hk
  · exact kr_catch t h hk
  · exact kr_switch t h hk
  · by_cases hn : t.n = 1
    · exact kr_case1 t h hn hk
    · exact kr_case2 t h hn hk
  · exact kr_label t h hk
  · rcases (by omega : (t.op = 30 ∨ t.op = 31 ∨ t.op = 32 ∨ t.op = 33 ∨ t.op = 34 ∨ t.op = 35 ∨ t.op = 40) ∨ t.op = 36 ∨ t.op = 37 ∨ t.op = 38 ∨ t.op = 39 ∨ (t.op = 41 ∨ t.op = 42) ∨ t.op = 43 ∨ (t.op = 44 ∨ t.op = 45 ∨ t.op = 52) ∨ t.op = 46 ∨ t.op = 47 ∨ t.op = 48 ∨ (t.op = 49 ∨ t.op = 50) ∨ t.op = 51 ∨ t.op = 53 ∨ t.op = 54 ∨ 60 ≤ t.op) with h | h | h | h | h | h | h | h | h | h | h | h | h | h | h | h
    · exact kr_lit t h hk
    · exact kr_templ t h hk
    · exact kr_array t h hk
    · exact kr_object t h hk
    · have hp := hp h
      by_cases hm : t.m = 1
      · rcases (by omega : t.n = 0 ∨ t.n = 1 ∨ t.n = 2 ∨ t.n = 3 ∨ t.n = 4 ∨ t.n = 5) with hn | hn | hn | hn | hn | hn
        · exact kr_prop0e t h hn hm hk
        · exact kr_prop1e t h hn hm hk
        · exact kr_prop2e t h hn hm hk
        · exact kr_prop3 t h hn hk
        · exact kr_prop4 t h hn hk
        · exact kr_prop5e t h hn hm hk
      · rcases (by omega : t.n = 0 ∨ t.n = 1 ∨ t.n = 2 ∨ t.n = 3 ∨ t.n = 4 ∨ t.n = 5) with hn | hn | hn | hn | hn | hn
        · exact kr_prop0k t h hn hm hk
        · exact kr_prop1k t h hn hm hk
        · exact kr_prop2k t h hn hm hk
        · exact kr_prop3 t h hn hk
        · exact kr_prop4 t h hn hk
        · exact kr_prop5k t h hn hm hk
    · exact kr_spread t h hk
    · exact kr_update t h hk
    · exact kr_bin t h hk
    · by_cases hs : t.s = ⟨#[61]⟩
      · exact kr_asg1 t h hs hk
      · exact kr_asg2 t h hs hk
    · exact kr_cond t h hk
    · exact kr_seq t h hk
    · exact kr_call t h hk
    · exact kr_dot t h hk
    · exact kr_chain t h
    · rcases hy h with hn | hn
      · exact kr_yield0 t h hn hk
      · exact kr_yield1 t h hn hk
    · rcases (by omega : t.op = 60 ∨ t.op = 61 ∨ t.op = 62 ∨ t.op = 63 ∨ t.op = 64) with h | h | h | h | h
      · exact kr_arrpat t h hk
      · exact kr_objpat t h hk
      · by_cases hm : t.m = 1
        · exact kr_patprop1 t h hm hk
        · exact kr_patprop0 t h hm hk
      · exact kr_default t h hk
      · exact kr_rest t h hk
theorem what_eq {t : T} (h : OkF t) : whatT (hasT t) 5 = whatT (bitT t) 5 := by
  unfold whatT
  congr 1
  apply List.filter_congr
  intro m hm
  refine has_bit h ?_
  have := List.mem_of_mem_take hm
  unfold bitL at this
  simp at this ⊢
  omega
theorem fields_eq (t : T) : fieldsT t = rFieldsT t := by
  unfold fieldsT rFieldsT
  by_cases h4 : t.op = 4
  · rw [if_pos h4, if_pos h4]
    congr 1
    unfold bitsT fnT
    by_cases h1 : t.n < 0 ∨ 255 < t.n ∨ t.s ≠ ⟨#[]⟩ ∧ formB t.s = false
    · rw [if_pos h1, if_pos h1]
    · have hf : OkF t := fun _ => by omega
      rw [if_neg h1, if_neg h1, what_eq hf, has50 hf, has_bit hf (by simp), has_bit hf (by simp), has_bit hf (by simp), has_bit hf (by simp)]
      cases bitT t 4 <;> cases bitT t 2 <;> cases bitT t 16 <;> cases bitT t 32 <;> simp
  · rw [if_neg h4, if_neg h4]
theorem fields_okF {t : T} (h : rFieldsT t = true) : OkF t := fun h4 => by
  unfold rFieldsT at h
  split at h
  · cases h
  · unfold fnT at h
    split at h
    · cases h
    · omega
theorem fields_n {t : T} (h : rFieldsT t = true) (h4 : t.op ≠ 4) : 0 ≤ t.n ∧ t.n ≤ mostT t.op := by
  unfold rFieldsT at h
  split at h
  · cases h
  · rw [Bool.and_eq_true, Bool.and_eq_true, decide_eq_true_eq, decide_eq_true_eq] at h
    exact h.1
def ronT (t : T) (i : Nat) (k : T) (spine : Bool) : Bool := decide (i = 0) && (decide (t.op = 53) || spine && (linkT t && linkT k))
inductive RA : T → Bool → Prop
  | mk {t : T} {spine : Bool} (hf : rFieldsT t = true) (hl : ¬(linkT t = true ∧ t.n = 1 ∧ spine = false)) (hk : rKidsB t = true) (hr : ∀ (i : Nat) (k : T), t.kids[i]? = some k → RA k (ronT t i k spine)) : RA t spine
noncomputable def raB (t : T) (spine : Bool) : Bool := dB (RA t spine)
theorem raB_t {t : T} {s : Bool} (h : RA t s) : raB t s = true := by unfold raB; exact dB_t h
theorem raB_f {t : T} {s : Bool} (h : ¬RA t s) : raB t s = false := by unfold raB; exact dB_f h
theorem raB_true {t : T} {s : Bool} (h : raB t s = true) : RA t s := by unfold raB at h; exact dB_true h
theorem raB_false {t : T} {s : Bool} (h : raB t s = false) : ¬RA t s := by unfold raB at h; exact dB_false h
theorem RA.okF {t : T} {s : Bool} (h : RA t s) : OkF t := by
  cases h with
  | mk hf _ _ _ => exact fields_okF hf
theorem kids_eq' {t : T} (hf : rFieldsT t = true) (hk : ∀ k ∈ t.kids, OkF k) (hkn : knownT t.op = true) : kidsB t = rKidsB t := by
  refine kids_eq (fields_okF hf) hk hkn (fun h => ?_) (fun h => ?_)
  · have h2 := fields_n hf (by omega)
    have : mostT t.op = 1 := by unfold mostT; rw [if_pos (by omega)]
    omega
  · have h2 := fields_n hf (by omega)
    have : mostT t.op = 5 := by unfold mostT; (repeat first | rw [if_pos (by omega)] | rw [if_neg (by omega)])
    omega
theorem on_eq {t k : T} {i : Nat} {s : Bool} (hk : rKidsB t = true) (hi : t.kids[i]? = some k) : onT t i k s = ronT t i k s := by
  unfold onT ronT
  by_cases h0 : i = 0
  · subst h0
    by_cases h53 : t.op = 53
    · have hl : linkT k = true := by
        rw [← kr_chain t h53] at hk
        have e1 : kidsB t = chainT t.kids := by
          unfold kidsB
          rw [if_neg (by omega)]
          unfold exB
          (repeat first | rw [if_pos (by omega)] | rw [if_neg (by omega)])
        rw [e1] at hk
        unfold chainT at hk
        split at hk
        · rename_i k0 hks
          rw [hks] at hi
          cases hi
          exact ch_lk hk
        · cases hk
      rw [hl, decide_eq_true h53]
      rfl
    · rw [decide_eq_false h53]
      cases linkT k <;> cases linkT t <;> cases s <;> rfl
  · rw [decide_eq_false h0]
    rfl
theorem le_dmax {l : List Nat} {x : Nat} (h : x ∈ l) : x ≤ T.dmax l := by
  induction l with
  | nil => cases h
  | cons y l ih =>
    show x ≤ max y (T.dmax l)
    rcases List.mem_cons.1 h with rfl | h
    · omega
    · have := ih h
      omega
theorem right_iff : ∀ (t : T) (d : Nat) (s : Bool), Rt t d s ↔ d + t.depth ≤ 201 ∧ RA t s := fun t => T.ind2 (p := fun t => ∀ (d : Nat) (s : Bool), Rt t d s ↔ d + t.depth ≤ 201 ∧ RA t s) (fun t ih d s => by
  have hde := T.depth_eq t
  constructor
  · intro h
    cases h with
    | mk hd hn hk hr =>
      obtain ⟨hkn, hf, hl⟩ := hn
      rw [fields_eq] at hf
      have hkid : ∀ (i : Nat) (k : T), t.kids[i]? = some k → d + 1 + k.depth ≤ 201 ∧ RA k (onT t i k s) := fun i k hi => (ih k (List.mem_of_getElem? hi) _ _).1 (hr i k hi)
      have hok : ∀ k ∈ t.kids, OkF k := fun k hk => by
        obtain ⟨i, hi⟩ := List.mem_iff_getElem?.1 hk
        exact (hkid i k hi).2.okF
      have hk2 : rKidsB t = true := by rw [← kids_eq' hf hok hkn]; exact hk
      have hdm : T.dmax (t.kids.map T.depth) ≤ 200 - d := T.dmax_le fun x hx => by
        obtain ⟨k, hk, rfl⟩ := List.mem_map.1 hx
        obtain ⟨i, hi⟩ := List.mem_iff_getElem?.1 hk
        have := (hkid i k hi).1
        omega
      exact ⟨by omega, .mk hf hl hk2 fun i k hi => by rw [← on_eq hk2 hi]; exact (hkid i k hi).2⟩
  · rintro ⟨hd, h⟩
    cases h with
    | mk hf hl hk hr =>
      have hkn : knownT t.op = true := by
        unfold rKidsB at hk
        rw [Bool.and_eq_true] at hk
        exact row_known hk.1
      have hok : ∀ k ∈ t.kids, OkF k := fun k hk => by
        obtain ⟨i, hi⟩ := List.mem_iff_getElem?.1 hk
        exact (hr i k hi).okF
      refine .mk (by omega) ⟨hkn, by rw [fields_eq]; exact hf, hl⟩ (by rw [kids_eq' hf hok hkn]; exact hk) fun i k hi => (ih k (List.mem_of_getElem? hi) _ _).2 ⟨?_, by rw [on_eq hk hi]; exact hr i k hi⟩
      have := le_dmax (List.mem_map_of_mem (f := T.depth) (List.mem_of_getElem? hi))
      omega) t
theorem right_law (t : T) : rtB t 1 false = (decide (t.depth ≤ 200) && raB t false) := by
  have h := right_iff t 1 false
  by_cases h1 : Rt t 1 false
  · obtain ⟨h2, h3⟩ := h.1 h1
    rw [rtB_t h1, raB_t h3, decide_eq_true (by omega)]
    rfl
  · rw [rtB_f h1]
    by_cases h2 : t.depth ≤ 200
    · rw [decide_eq_true h2, Bool.true_and, raB_f fun h3 => h1 (h.2 ⟨by omega, h3⟩)]
    · rw [decide_eq_false h2]
      rfl
end Go.Proofs.YtfabmichdhbiaaaGreatDoor
namespace Go.Proofs.YtfabmichdhbiaaaGreatDoor
open Go.RowKit Go.Vcg
attribute [local irreducible] G GC GQ GA GAop Calls IntKind.wrap Int.decLt Int.decLe
theorem dmax_snoc (l : List Nat) (x : Nat) : T.dmax (l ++ [x]) = max (T.dmax l) x := by
  induction l with
  | nil => simp [T.dmax]
  | cons y l ih =>
    show max y (T.dmax (l ++ [x])) = max (max y (T.dmax l)) x
    rw [ih]
    omega
theorem rDepth_spec : ∀ (n : Nat), n ≤ 100000 → ∀ (t : T) (v : Value) (w : World) (μ : Mem), MOk μ w → t.size ≤ n → TV μ t v →
    Calls Tryz.prog 15 #[v] w fun e w' => e = .returned (.int .i64 t.depth) ∧ Below w.heap.size w w' := by
  intro n
  induction n with
  | zero => intro _ t v w μ hμ hn _; exact absurd hn (by rw [T.size_eq]; omega)
  | succ n ih =>
    intro hnb t v w μ hμ hn ht
    have hlen := T.len_size t
    have hd1 := T.depth_eq t
    have hd2 := T.depth_size _ t hn
    obtain ⟨u, rfl, hk⟩ := ht
    obtain ⟨A, c, rfl, hlc, hkid⟩ := hk.form
    refine call_intro (args := [.agg (encT t (.slice A t.kids.length c)).toArray]) Tryz.func15 rfl Tryz.ntmps15 (by simp) hμ ?_
    repeat' (first | refine KK ?_ | refine NB fun b => ?_ | ((refine KB ?_ ?_ <;> intro hp)) | refine KG ?_ | fail)
    refine gc_loop (ι := Nat) (fun i => i ≤ t.kids.length) (fun i => t.kids.length - i) (fun _ => μ) (fun i => [(3, .int .i64 ((T.dmax ((t.kids.take i).map T.depth) : Nat) : Int)), (4, .int .i64 i), (1, .pointer (some ⟨b, 0, none⟩))]) (fun _ => [.inl ⟨b, 27, 6, idx 0 (encT t (.slice A t.kids.length c))⟩]) 0 (by simp) (fun a w hs => J6 hs) ?_
    intro i hil
    by_cases hlt : i < t.kids.length
    · obtain ⟨ad, x, rfl, hm, ho, hkx⟩ := hkid i _ (List.getElem?_eq_getElem hlt)
      have hsz := T.size_kid (List.getElem?_eq_getElem hlt)
      repeat' (first | refine KO ?_ | ((with_reducible apply C1); exact rfl; exact EN; exact fun w μc hw hse => ih (by omega) _ _ w μc hw (by omega) ⟨x, rfl, hkx.mono hse.le⟩) | (refine KV (b := by first | exact U1 i | exact U4 hm) (c := ?_)) | refine KI ?_ | refine NB fun b => ?_ | ((refine KB ?_ ?_ <;> intro hp)) | refine KG ?_ | fail)
      have e : (if ((T.dmax ((t.kids.take i).map T.depth) : Nat) : Int) < (t.kids[i].depth : Int) then (t.kids[i].depth : Int) else ((T.dmax ((t.kids.take i).map T.depth) : Nat) : Int)) = ((T.dmax ((t.kids.take (i + 1)).map T.depth) : Nat) : Int) := by
        rw [List.take_succ_eq_append_getElem hlt, List.map_append, List.map_cons, List.map_nil, dmax_snoc]
        split <;> omega
      rw [e]
      refine J4 (i + 1) (by omega) (by omega)
    · have hi : i = t.kids.length := by omega
      subst hi
      rw [List.take_length]
      repeat' (first | refine KK ?_ | refine NB fun b => ?_ | ((refine KB ?_ ?_ <;> intro hp)) | refine KG ?_ | fail)
      exact ret_v1 rfl (by first | exact rv_tmp rfl | exact (rv_agg 0 rfl rfl rfl rfl rfl (by repeat first | exact lc_nil | refine lc_cons rfl ?_)) | exact (rv_agg 1 rfl rfl rfl rfl rfl (by repeat first | exact lc_nil | refine lc_cons rfl ?_)) | exact (rv_agg 2 rfl rfl rfl rfl rfl (by repeat first | exact lc_nil | refine lc_cons rfl ?_)) | exact (rv_agg 3 rfl rfl rfl rfl rfl (by repeat first | exact lc_nil | refine lc_cons rfl ?_))) (by rw [hd1]; congr 1; omega)
end Go.Proofs.YtfabmichdhbiaaaGreatDoor
namespace Go.Proofs.YtfabmichdhbiaaaGreatDoor
open Go.RowKit Go.Vcg
theorem row3 {t : T} (h19 : t.op = 19) (h : krowB t = true) : ∃ x y z, t.kids = [x, y, z] := by
  have e2 : kindsS t = ⟨#[66, 67, 89]⟩ := by
    unfold kindsS
    (repeat first | rw [if_pos (by omega)] | rw [if_neg (by omega)])
  unfold krowB at h
  rw [if_neg (by omega), e2, decide_eq_true (by decide), Bool.true_and, show bl ⟨#[66, 67, 89]⟩ = [66, 67, 89] from rfl, rf_d 66 (by decide) (by decide) (rf_d 67 (by decide) (by decide) (rf_one 89 rf_nil))] at h
  exact fit3 (a := isT 66) (b := isT 67) (c := isT 89) h
theorem row1 {t : T} (h53 : t.op = 53) (h : krowB t = true) : ∃ x, t.kids = [x] := by
  have e2 : kindsS t = ⟨#[99]⟩ := by
    unfold kindsS
    (repeat first | rw [if_pos (by omega)] | rw [if_neg (by omega)])
    unfold moreS
    (repeat first | rw [if_pos (by omega)] | rw [if_neg (by omega)])
  unfold krowB at h
  rw [if_neg (by omega), e2, decide_eq_true (by decide), Bool.true_and, show bl ⟨#[99]⟩ = [99] from rfl, rf_one 99 rf_nil, fitP_0] at h
  match hk : t.kids with
  | [] => rw [hk] at h; simp at h
  | [x] => exact ⟨x, rfl⟩
  | x :: y :: r =>
    rw [hk] at h
    simp only [fitP_nil'] at h
    split at h
    · simp at h
    · cases h
theorem extra19 {t x y z : T} (h : t.op = 19) (hk : t.kids = [x, y, z]) : extraB t = (decide (y.op ≠ 7) || decide (z.op ≠ 7)) := by
  unfold extraB
  rw [if_pos h, if_neg (by omega), hk, Bool.and_true]
theorem extra53 {t x : T} (h : t.op = 53) (hk : t.kids = [x]) : extraB t = chB x := by
  unfold extraB
  rw [if_neg (by omega), if_pos h, hk, Bool.true_and]
theorem size_ite {c : Prop} [Decidable c] {a b : ByteArray} (ha : a.size ≤ 1000) (hb : b.size ≤ 1000) : (if c then a else b).size ≤ 1000 := by split <;> assumption
theorem key_app (t : T) (c : UInt8) : (keyS t ++ ⟨#[c]⟩).size ≤ 1000 := by
  rw [ByteArray.size_append, keyS_size]
  show 1 + 1 ≤ 1000
  decide
theorem kinds_size (t : T) : (kindsS t).size ≤ 1000 := by
  have h2 : (propS t).size ≤ 1000 := by
    unfold propS
    (repeat' first | exact key_app t _ | apply size_ite | decide)
  have h3 : (moreS t).size ≤ 1000 := by
    unfold moreS
    (repeat' first | exact h2 | apply size_ite | decide)
  unfold kindsS
  (repeat' first | exact h3 | apply size_ite | decide)
attribute [local irreducible] rFieldsT kindsS linkT krowB extraB raB rowP templB chB rtB G GC GQ GA GAop Calls IntKind.wrap Int.decLt Int.decLe
theorem rAll_spec : ∀ (n : Nat), n ≤ 100000 → ∀ (t : T) (u : Value) (spine : Bool) (w : World) (μ : Mem), MOk μ w → KR μ t.kids u → t.size ≤ n → Sh t →
    Calls Tryz.prog 16 #[.agg (encT t u).toArray, .bool spine] w fun e w' => e = .returned (.bool (raB t spine)) ∧ Below w.heap.size w w' := by
  intro n
  induction n with
  | zero => intro _ t u spine w μ hμ hk hn; exact absurd hn (by rw [T.size_eq]; omega)
  | succ n ih =>
    intro hnb t u spine w μ hμ hk hn hsh
    have ho := hk.one
    have hop := sh_op hsh
    unfold In64 at hop
    have hss := sh_s hsh
    have hks : ∀ k ∈ t.kids, T.size k ≤ 100000 ∧ k.s.size ≤ 65536 := fun k hk => by
      obtain ⟨i, hi⟩ := List.mem_iff_getElem?.1 hk
      have h1 := T.size_kid hi
      have h2 := sh_s (sh_kid hsh hk)
      exact ⟨by omega, by omega⟩
    have hks' : ∀ k ∈ t.kids, Sh' k := fun k hk => sh_sh' (sh_kid hsh hk)
    have hlen := kidsLe t
    have hksz := kinds_size t
    obtain ⟨A, c, rfl, hlc, hkid⟩ := hk.form
    have c2 := fun (w : World) (μc : Mem) (hw : MOk μc w) (hle : MLe μ μc) => rFields_spec t _ w μc hw (hk.mono hle) (by omega) (by omega)
    have c3 := fun (w : World) (μc : Mem) (hw : MOk μc w) (hle : MLe μ μc) => rLink_spec t _ w μc hw (hk.mono hle) (by omega) (by omega)
    have c4 := fun (w : World) (μc : Mem) (hw : MOk μc w) (hle : MLe μ μc) => kinds_spec t _ w μc hw (hk.mono hle)
    have c5 := fun (w : World) (μc : Mem) (hw : MOk μc w) (hle : MLe μ μc) => row_spec (kindsS t) hksz t.kids A t.kids.length c w μc hw (hk.mono hle) rfl (by omega) hks
    have c6 := fun (w : World) (μc : Mem) (hw : MOk μc w) (hle : MLe μ μc) => rTemplate_spec t.kids A t.kids.length c w μc hw (hk.mono hle) rfl (by omega) hks
    refine call_intro (args := [.agg (encT t (.slice A t.kids.length c)).toArray, .bool spine]) Tryz.func16 rfl Tryz.ntmps16 (by simp) hμ ?_
    by_cases h1 : rFieldsT t = true ∧ ¬(linkT t = true ∧ t.n = 1 ∧ spine = false)
    · obtain ⟨hf, hl⟩ := h1
      rw [hf] at c2
      repeat' (first | ((with_reducible show GC _ _ (Code.seq (Code.seq (Code.region 1 _ _) _) _) _ _ _ _); (apply gc_stop)) | refine KK ?_ | refine NB fun b => ?_ | ((refine KB ?_ ?_ <;> intro hp)) | refine KG ?_ | fail)
      refine gcs (gc_join (ι := Unit) (fun _ => True) (fun _ => μ) (fun _ => [(1, .bool spine), (2, .pointer (some ⟨b, 0, none⟩))]) (fun _ => [.inl ⟨b, 27, 6, idx 0 (encT t (.slice A t.kids.length c))⟩]) ?_ ?_)
      · repeat' (first | refine KO ?_ | ((with_reducible apply F1 20); exact rfl; exact EN; (exact fun w μc hw hse => c2 w μc hw hse.le)) | ((with_reducible apply F1 21); exact rfl; exact EN; (exact fun w μc hw hse => c3 w μc hw hse.le)) | refine KI ?_ | refine NB fun b => ?_ | ((refine KB ?_ ?_ <;> intro hp)) | refine KG ?_ | fail)
        all_goals try (exfalso; apply hl; refine ⟨?_, ?_, ?_⟩ <;> assumption)
        all_goals first | exact J1 () trivial | (exfalso; omega)
      intro _ _
      repeat' (first | ((with_reducible show GC _ _ (Code.seq (Code.seq (Code.region 4 _ _) _) _) _ _ _ _); (apply gc_stop)) | refine KK ?_ | refine NB fun b => ?_ | ((refine KB ?_ ?_ <;> intro hp)) | refine KG ?_ | fail)
      refine gcs (gc_join (ι := Unit) (fun _ => True) (fun _ => μ) (fun _ => [(5, .bool (krowB t)), (1, .bool spine), (2, .pointer (some ⟨b, 0, none⟩))]) (fun _ => [.inl ⟨b, 27, 6, idx 0 (encT t (.slice A t.kids.length c))⟩]) ?_ ?_)
      · by_cases h36 : t.op = 36
        · have hg : krowB t = templB rExprT t.kids := by unfold krowB; rw [if_pos h36]
          rw [hg]
          repeat' (first | refine KO ?_ | ((with_reducible apply F1 22); exact rfl; exact EN; (exact fun w μc hw hse => c6 w μc hw hse.le)) | refine KI ?_ | refine NB fun b => ?_ | ((refine KB ?_ ?_ <;> intro hp)) | refine KG ?_ | fail)
          all_goals first | exact J1 () trivial | (exfalso; omega)
        · have hg : krowB t = (decide (kindsS t ≠ ⟨#[33]⟩) && rowP (bl (kindsS t)) t.kids) := by unfold krowB; rw [if_neg h36]
          generalize hB : krowB t = rb at hg ⊢
          generalize hR : rowP (bl (kindsS t)) t.kids = rp at hg c5
          by_cases hK : kindsS t = ⟨#[33]⟩
          · rw [hK] at c4 hg
            simp at hg
            subst hg
            repeat' (first | refine KO ?_ | ((with_reducible apply F1 23); exact rfl; exact EN; (exact fun w μc hw hse => c4 w μc hw hse.le)) | refine KI ?_ | refine NB fun b => ?_ | ((refine KB ?_ ?_ <;> intro hp)) | refine KG ?_ | fail)
            all_goals first | exact J1 () trivial | (exfalso; omega)
          · rw [decide_eq_true hK, Bool.true_and] at hg
            subst hg
            generalize kindsS t = ks at hK c4 c5
            repeat' (first | refine KO ?_ | ((with_reducible apply F1 23); exact rfl; exact EN; (exact fun w μc hw hse => c4 w μc hw hse.le)) | ((with_reducible apply F1 24); exact rfl; exact EN; (exact fun w μc hw hse => c5 w μc hw hse.le)) | refine KI ?_ | refine NB fun b => ?_ | ((refine KB ?_ ?_ <;> intro hp)) | refine KG ?_ | fail)
            all_goals first | exact J1 () trivial | (exfalso; omega) | exact absurd ‹_› hK
      intro _ _
      cases hrow : krowB t
      · have hR : raB t spine = false := raB_f fun h => by
          cases h with
          | mk _ _ h2 _ => unfold rKidsB at h2; rw [hrow] at h2; cases h2
        rw [hR]
        repeat' (first | refine KK ?_ | refine NB fun b => ?_ | ((refine KB ?_ ?_ <;> intro hp)) | refine KG ?_ | fail)
        all_goals first | exact ret_s rfl rfl rfl | (exfalso; omega)
      cases hex : extraB t
      · have hR : raB t spine = false := raB_f fun h => by
          cases h with
          | mk _ _ h2 _ => unfold rKidsB at h2; rw [hex, Bool.and_false] at h2; cases h2
        rw [hR]
        by_cases h19 : t.op = 19
        · obtain ⟨x, y, z, hxyz⟩ := row3 h19 hrow
          obtain ⟨ad1, x1, rfl, hm1, hox1, hkx1⟩ := hkid 1 y (by rw [hxyz]; rfl)
          obtain ⟨ad2, x2, e2, hm2, hox2, hkx2⟩ := hkid 2 z (by rw [hxyz]; rfl)
          cases e2
          rw [extra19 h19 hxyz] at hex
          have h3 : t.kids.length = 3 := by rw [hxyz]; rfl
          simp at hex
          repeat' (first | refine KO ?_ | (refine KV (b := by first | exact U1 1 | exact U1 2 | exact U4 hm1 | exact U4 hm2) (c := ?_)) | refine KI ?_ | refine NB fun b => ?_ | ((refine KB ?_ ?_ <;> intro hp)) | refine KG ?_ | fail)
          all_goals first | exact ret_s rfl rfl rfl | (exfalso; omega)
        · by_cases h53 : t.op = 53
          · obtain ⟨x, hx⟩ := row1 h53 hrow
            obtain ⟨ad1, x1, rfl, hm1, hox1, hkx1⟩ := hkid 0 x (by rw [hx]; rfl)
            rw [extra53 h53 hx] at hex
            have h3 : t.kids.length = 1 := by rw [hx]; rfl
            have hsz := T.size_kid (t := t) (i := 0) (k := x) (by rw [hx]; rfl)
            have c7 := fun (w : World) (μc : Mem) (hw : MOk μc w) (hle : MLe μ μc) => chained_spec 100000 (Nat.le_refl _) x _ w μc hw (hkx1.mono hle) (by omega) (hks' x (by rw [hx]; exact .head _))
            rw [hex] at c7
            repeat' (first | refine KO ?_ | ((with_reducible apply C1); exact rfl; exact EN; exact fun w μc hw hse => c7 w μc hw hse.le) | (refine KV (b := by first | exact U1 0 | exact U4 hm1) (c := ?_)) | refine KI ?_ | refine NB fun b => ?_ | ((refine KB ?_ ?_ <;> intro hp)) | refine KG ?_ | fail)
            all_goals first | exact ret_s rfl rfl rfl | (exfalso; omega)
          · rw [extra_true h19 h53] at hex
            cases hex
      have hKB : rKidsB t = true := by unfold rKidsB; rw [hrow, hex]; rfl
      refine gc_join (ι := Unit) (fun _ => True) (fun _ => μ) (fun _ => [(1, .bool spine), (2, .pointer (some ⟨b, 0, none⟩))]) (fun _ => [.inl ⟨b, 27, 6, idx 0 (encT t (.slice A t.kids.length c))⟩]) ?_ ?_
      · by_cases h19 : t.op = 19
        · obtain ⟨x, y, z, hxyz⟩ := row3 h19 hrow
          obtain ⟨ad1, x1, rfl, hm1, hox1, hkx1⟩ := hkid 1 y (by rw [hxyz]; rfl)
          obtain ⟨ad2, x2, e2, hm2, hox2, hkx2⟩ := hkid 2 z (by rw [hxyz]; rfl)
          cases e2
          rw [extra19 h19 hxyz] at hex
          have h3 : t.kids.length = 3 := by rw [hxyz]; rfl
          simp at hex
          repeat' (first | refine KO ?_ | (refine KV (b := by first | exact U1 1 | exact U1 2 | exact U4 hm1 | exact U4 hm2) (c := ?_)) | refine KI ?_ | refine NB fun b => ?_ | ((refine KB ?_ ?_ <;> intro hp)) | refine KG ?_ | fail)
          all_goals first | exact J1 () trivial | (exfalso; omega)
        · by_cases h53 : t.op = 53
          · obtain ⟨x, hx⟩ := row1 h53 hrow
            obtain ⟨ad1, x1, rfl, hm1, hox1, hkx1⟩ := hkid 0 x (by rw [hx]; rfl)
            rw [extra53 h53 hx] at hex
            have h3 : t.kids.length = 1 := by rw [hx]; rfl
            have hsz := T.size_kid (t := t) (i := 0) (k := x) (by rw [hx]; rfl)
            have c7 := fun (w : World) (μc : Mem) (hw : MOk μc w) (hle : MLe μ μc) => chained_spec 100000 (Nat.le_refl _) x _ w μc hw (hkx1.mono hle) (by omega) (hks' x (by rw [hx]; exact .head _))
            rw [hex] at c7
            repeat' (first | refine KO ?_ | ((with_reducible apply C1); exact rfl; exact EN; exact fun w μc hw hse => c7 w μc hw hse.le) | (refine KV (b := by first | exact U1 0 | exact U4 hm1) (c := ?_)) | refine KI ?_ | refine NB fun b => ?_ | ((refine KB ?_ ?_ <;> intro hp)) | refine KG ?_ | fail)
            all_goals first | exact J1 () trivial | (exfalso; omega)
          · repeat' (first | refine KK ?_ | refine NB fun b => ?_ | ((refine KB ?_ ?_ <;> intro hp)) | refine KG ?_ | fail)
            all_goals first | exact J1 () trivial | (exfalso; omega)
      intro _ _
      repeat' (first | refine KK ?_ | refine NB fun b => ?_ | ((refine KB ?_ ?_ <;> intro hp)) | refine KG ?_ | fail)
      refine gc_loop (ι := Nat) (fun i => i ≤ t.kids.length ∧ ∀ (j : Nat) (k : T), j < i → t.kids[j]? = some k → RA k (ronT t j k spine)) (fun i => t.kids.length - i) (fun _ => μ) (fun i => [(7, .int .i64 i), (1, .bool spine), (2, .pointer (some ⟨b, 0, none⟩))]) (fun _ => [.inl ⟨b, 27, 6, idx 0 (encT t (.slice A t.kids.length c))⟩]) 0 ⟨by omega, fun j _ h => absurd h (by omega)⟩ (fun a w hs => J5 hs) ?_
      rintro i ⟨hi, hok⟩
      by_cases hlt : i < t.kids.length
      · have hkk : t.kids[i]? = some t.kids[i] := List.getElem?_eq_getElem hlt
        generalize t.kids[i] = k at hkk
        obtain ⟨ad, x, rfl, hm, hox, hkx⟩ := hkid i k hkk
        have hsz := T.size_kid hkk
        have hshk := sh_kid hsh (List.mem_of_getElem? hkk)
        have hskk := sh_s hshk
        have ck := fun (w : World) (μc : Mem) (hw : MOk μc w) (hle : MLe μ μc) => rLink_spec k _ w μc hw (hkx.mono hle) (by omega) (by omega)
        have hnext : RA k (ronT t i k spine) → ∀ (j : Nat) (k : T), j < i + 1 → t.kids[j]? = some k → RA k (ronT t j k spine) := fun h j k' hj hk' => by
          rcases Nat.lt_or_ge j i with h1 | h1
          · exact hok j k' h1 hk'
          · obtain rfl : j = i := by omega
            rw [hkk] at hk'
            cases hk'
            exact h
        by_cases hi0 : i = 0
        · subst hi0
          by_cases h53 : t.op = 53
          · skip
            have hon : ronT t 0 k spine = true := by simp [ronT, h53]
            have hcall := fun (w : World) (μc : Mem) (hw : MOk μc w) (hle : MLe μ μc) => ih (by omega) k x true w μc hw (hkx.mono hle) (by omega) hshk
            cases hq : raB k true
            · have hR : raB t spine = false := raB_f fun h => raB_false hq (by cases h with | mk _ _ _ h4 => exact hon ▸ h4 0 k hkk)
              rw [hR]
              rw [hq] at hcall
              repeat' (first | refine KO ?_ | ((with_reducible apply F1 21); exact rfl; exact EN; first | (exact fun w μc hw hse => ck w μc hw hse.le) | (exact fun w μc hw hse => c3 w μc hw hse.le)) | ((with_reducible apply F1 16); exact rfl; exact EN; (exact fun w μc hw hse => hcall w μc hw hse.le)) | (refine KV (b := by first | exact U1 0 | exact U4 hm) (c := ?_)) | refine KI ?_ | refine NB fun b => ?_ | ((refine KB ?_ ?_ <;> intro hp)) | refine KG ?_ | fail)
              all_goals first | exact ret_s rfl rfl rfl | (exfalso; omega)
            · have hnx := hnext (by rw [hon]; exact raB_true hq)
              rw [hq] at hcall
              repeat' (first | refine KO ?_ | ((with_reducible apply F1 21); exact rfl; exact EN; first | (exact fun w μc hw hse => ck w μc hw hse.le) | (exact fun w μc hw hse => c3 w μc hw hse.le)) | ((with_reducible apply F1 16); exact rfl; exact EN; (exact fun w μc hw hse => hcall w μc hw hse.le)) | (refine KV (b := by first | exact U1 0 | exact U4 hm) (c := ?_)) | refine KI ?_ | refine NB fun b => ?_ | ((refine KB ?_ ?_ <;> intro hp)) | refine KG ?_ | fail)
              all_goals first | exact J2 (0 + 1) ⟨by omega, hnx⟩ (by omega) | (exfalso; omega)
          · cases spine
            · skip
              have hon : ronT t 0 k false = false := by simp [ronT, h53]
              have hcall := fun (w : World) (μc : Mem) (hw : MOk μc w) (hle : MLe μ μc) => ih (by omega) k x false w μc hw (hkx.mono hle) (by omega) hshk
              cases hq : raB k false
              · have hR : raB t false = false := raB_f fun h => raB_false hq (by cases h with | mk _ _ _ h4 => exact hon ▸ h4 0 k hkk)
                rw [hR]
                rw [hq] at hcall
                repeat' (first | refine KO ?_ | ((with_reducible apply F1 21); exact rfl; exact EN; first | (exact fun w μc hw hse => ck w μc hw hse.le) | (exact fun w μc hw hse => c3 w μc hw hse.le)) | ((with_reducible apply F1 16); exact rfl; exact EN; (exact fun w μc hw hse => hcall w μc hw hse.le)) | (refine KV (b := by first | exact U1 0 | exact U4 hm) (c := ?_)) | refine KI ?_ | refine NB fun b => ?_ | ((refine KB ?_ ?_ <;> intro hp)) | refine KG ?_ | fail)
                all_goals first | exact ret_s rfl rfl rfl | (exfalso; omega)
              · have hnx := hnext (by rw [hon]; exact raB_true hq)
                rw [hq] at hcall
                repeat' (first | refine KO ?_ | ((with_reducible apply F1 21); exact rfl; exact EN; first | (exact fun w μc hw hse => ck w μc hw hse.le) | (exact fun w μc hw hse => c3 w μc hw hse.le)) | ((with_reducible apply F1 16); exact rfl; exact EN; (exact fun w μc hw hse => hcall w μc hw hse.le)) | (refine KV (b := by first | exact U1 0 | exact U4 hm) (c := ?_)) | refine KI ?_ | refine NB fun b => ?_ | ((refine KB ?_ ?_ <;> intro hp)) | refine KG ?_ | fail)
                all_goals first | exact J2 (0 + 1) ⟨by omega, hnx⟩ (by omega) | (exfalso; omega)
            · cases hlt2 : linkT t
              · rw [hlt2] at c3
                have hon : ronT t 0 k true = false := by simp [ronT, h53, hlt2]
                have hcall := fun (w : World) (μc : Mem) (hw : MOk μc w) (hle : MLe μ μc) => ih (by omega) k x false w μc hw (hkx.mono hle) (by omega) hshk
                cases hq : raB k false
                · have hR : raB t true = false := raB_f fun h => raB_false hq (by cases h with | mk _ _ _ h4 => exact hon ▸ h4 0 k hkk)
                  rw [hR]
                  rw [hq] at hcall
                  repeat' (first | refine KO ?_ | ((with_reducible apply F1 21); exact rfl; exact EN; first | (exact fun w μc hw hse => ck w μc hw hse.le) | (exact fun w μc hw hse => c3 w μc hw hse.le)) | ((with_reducible apply F1 16); exact rfl; exact EN; (exact fun w μc hw hse => hcall w μc hw hse.le)) | (refine KV (b := by first | exact U1 0 | exact U4 hm) (c := ?_)) | refine KI ?_ | refine NB fun b => ?_ | ((refine KB ?_ ?_ <;> intro hp)) | refine KG ?_ | fail)
                  all_goals first | exact ret_s rfl rfl rfl | (exfalso; omega)
                · have hnx := hnext (by rw [hon]; exact raB_true hq)
                  rw [hq] at hcall
                  repeat' (first | refine KO ?_ | ((with_reducible apply F1 21); exact rfl; exact EN; first | (exact fun w μc hw hse => ck w μc hw hse.le) | (exact fun w μc hw hse => c3 w μc hw hse.le)) | ((with_reducible apply F1 16); exact rfl; exact EN; (exact fun w μc hw hse => hcall w μc hw hse.le)) | (refine KV (b := by first | exact U1 0 | exact U4 hm) (c := ?_)) | refine KI ?_ | refine NB fun b => ?_ | ((refine KB ?_ ?_ <;> intro hp)) | refine KG ?_ | fail)
                  all_goals first | exact J2 (0 + 1) ⟨by omega, hnx⟩ (by omega) | (exfalso; omega)
              · rw [hlt2] at c3
                cases hlk : linkT k
                · rw [hlk] at ck
                  have hon : ronT t 0 k true = false := by simp [ronT, h53, hlt2, hlk]
                  have hcall := fun (w : World) (μc : Mem) (hw : MOk μc w) (hle : MLe μ μc) => ih (by omega) k x false w μc hw (hkx.mono hle) (by omega) hshk
                  cases hq : raB k false
                  · have hR : raB t true = false := raB_f fun h => raB_false hq (by cases h with | mk _ _ _ h4 => exact hon ▸ h4 0 k hkk)
                    rw [hR]
                    rw [hq] at hcall
                    repeat' (first | refine KO ?_ | ((with_reducible apply F1 21); exact rfl; exact EN; first | (exact fun w μc hw hse => ck w μc hw hse.le) | (exact fun w μc hw hse => c3 w μc hw hse.le)) | ((with_reducible apply F1 16); exact rfl; exact EN; (exact fun w μc hw hse => hcall w μc hw hse.le)) | (refine KV (b := by first | exact U1 0 | exact U4 hm) (c := ?_)) | refine KI ?_ | refine NB fun b => ?_ | ((refine KB ?_ ?_ <;> intro hp)) | refine KG ?_ | fail)
                    all_goals first | exact ret_s rfl rfl rfl | (exfalso; omega)
                  · have hnx := hnext (by rw [hon]; exact raB_true hq)
                    rw [hq] at hcall
                    repeat' (first | refine KO ?_ | ((with_reducible apply F1 21); exact rfl; exact EN; first | (exact fun w μc hw hse => ck w μc hw hse.le) | (exact fun w μc hw hse => c3 w μc hw hse.le)) | ((with_reducible apply F1 16); exact rfl; exact EN; (exact fun w μc hw hse => hcall w μc hw hse.le)) | (refine KV (b := by first | exact U1 0 | exact U4 hm) (c := ?_)) | refine KI ?_ | refine NB fun b => ?_ | ((refine KB ?_ ?_ <;> intro hp)) | refine KG ?_ | fail)
                    all_goals first | exact J2 (0 + 1) ⟨by omega, hnx⟩ (by omega) | (exfalso; omega)
                · rw [hlk] at ck
                  have hon : ronT t 0 k true = true := by simp [ronT, h53, hlt2, hlk]
                  have hcall := fun (w : World) (μc : Mem) (hw : MOk μc w) (hle : MLe μ μc) => ih (by omega) k x true w μc hw (hkx.mono hle) (by omega) hshk
                  cases hq : raB k true
                  · have hR : raB t true = false := raB_f fun h => raB_false hq (by cases h with | mk _ _ _ h4 => exact hon ▸ h4 0 k hkk)
                    rw [hR]
                    rw [hq] at hcall
                    repeat' (first | refine KO ?_ | ((with_reducible apply F1 21); exact rfl; exact EN; first | (exact fun w μc hw hse => ck w μc hw hse.le) | (exact fun w μc hw hse => c3 w μc hw hse.le)) | ((with_reducible apply F1 16); exact rfl; exact EN; (exact fun w μc hw hse => hcall w μc hw hse.le)) | (refine KV (b := by first | exact U1 0 | exact U4 hm) (c := ?_)) | refine KI ?_ | refine NB fun b => ?_ | ((refine KB ?_ ?_ <;> intro hp)) | refine KG ?_ | fail)
                    all_goals first | exact ret_s rfl rfl rfl | (exfalso; omega)
                  · have hnx := hnext (by rw [hon]; exact raB_true hq)
                    rw [hq] at hcall
                    repeat' (first | refine KO ?_ | ((with_reducible apply F1 21); exact rfl; exact EN; first | (exact fun w μc hw hse => ck w μc hw hse.le) | (exact fun w μc hw hse => c3 w μc hw hse.le)) | ((with_reducible apply F1 16); exact rfl; exact EN; (exact fun w μc hw hse => hcall w μc hw hse.le)) | (refine KV (b := by first | exact U1 0 | exact U4 hm) (c := ?_)) | refine KI ?_ | refine NB fun b => ?_ | ((refine KB ?_ ?_ <;> intro hp)) | refine KG ?_ | fail)
                    all_goals first | exact J2 (0 + 1) ⟨by omega, hnx⟩ (by omega) | (exfalso; omega)
        · skip
          have hon : ronT t i k spine = false := by simp [ronT, hi0]
          have hcall := fun (w : World) (μc : Mem) (hw : MOk μc w) (hle : MLe μ μc) => ih (by omega) k x false w μc hw (hkx.mono hle) (by omega) hshk
          cases hq : raB k false
          · have hR : raB t spine = false := raB_f fun h => raB_false hq (by cases h with | mk _ _ _ h4 => exact hon ▸ h4 i k hkk)
            rw [hR]
            rw [hq] at hcall
            repeat' (first | refine KO ?_ | ((with_reducible apply F1 21); exact rfl; exact EN; first | (exact fun w μc hw hse => ck w μc hw hse.le) | (exact fun w μc hw hse => c3 w μc hw hse.le)) | ((with_reducible apply F1 16); exact rfl; exact EN; (exact fun w μc hw hse => hcall w μc hw hse.le)) | (refine KV (b := by first | exact U1 i | exact U4 hm) (c := ?_)) | refine KI ?_ | refine NB fun b => ?_ | ((refine KB ?_ ?_ <;> intro hp)) | refine KG ?_ | fail)
            all_goals first | exact ret_s rfl rfl rfl | (exfalso; omega)
          · have hnx := hnext (by rw [hon]; exact raB_true hq)
            rw [hq] at hcall
            repeat' (first | refine KO ?_ | ((with_reducible apply F1 21); exact rfl; exact EN; first | (exact fun w μc hw hse => ck w μc hw hse.le) | (exact fun w μc hw hse => c3 w μc hw hse.le)) | ((with_reducible apply F1 16); exact rfl; exact EN; (exact fun w μc hw hse => hcall w μc hw hse.le)) | (refine KV (b := by first | exact U1 i | exact U4 hm) (c := ?_)) | refine KI ?_ | refine NB fun b => ?_ | ((refine KB ?_ ?_ <;> intro hp)) | refine KG ?_ | fail)
            all_goals first | exact J2 (i + 1) ⟨by omega, hnx⟩ (by omega) | (exfalso; omega)
      · have hR : raB t spine = true := raB_t (.mk hf hl hKB fun j k hj => hok j k (by have := (List.getElem?_eq_some_iff.1 hj).1; omega) hj)
        rw [hR]
        repeat' (first | refine KK ?_ | refine NB fun b => ?_ | ((refine KB ?_ ?_ <;> intro hp)) | refine KG ?_ | fail)
        all_goals first | exact ret_s rfl rfl rfl | (exfalso; omega)
    · have hR : raB t spine = false := raB_f fun h => by
        cases h with
        | mk h2 h3 _ _ => exact h1 ⟨h2, h3⟩
      rw [hR]
      repeat' (first | ((with_reducible show GC _ _ (Code.seq (Code.region 3 _ _) _) _ _ _ _); (apply gc_stop)) | refine KO ?_ | ((with_reducible apply F1 20); exact rfl; exact EN; (exact fun w μc hw hse => c2 w μc hw hse.le)) | ((with_reducible apply F1 21); exact rfl; exact EN; (exact fun w μc hw hse => c3 w μc hw hse.le)) | refine KI ?_ | refine NB fun b => ?_ | ((refine KB ?_ ?_ <;> intro hp)) | refine KG ?_ | fail)
      all_goals first | exact ret_s rfl rfl rfl | (exfalso; clear c2 c3 c4 c5 c6 hk hkid hμ hks hks' hsh ih; simp_all; done) | (exfalso; clear c2 c3 c4 c5 c6 hk hkid hμ hks hks' hsh ih; simp_all; omega) | (exfalso; omega)
theorem rRight_spec (t : T) (u : Value) (w : World) (μ : Mem) (hμ : MOk μ w) (hk : KR μ t.kids u) (hs : t.size ≤ 100000) (hsh : Sh t) :
    Calls Tryz.prog 10 #[.agg (encT t u).toArray] w fun e w' => e = .returned (.bool (rtB t 1 false)) ∧ Below w.heap.size w w' := by
  have ho := hk.one
  rw [right_law]
  refine call_intro (args := [.agg (encT t u).toArray]) Tryz.func10 rfl Tryz.ntmps10 (by simp) hμ ?_
  repeat' (first | refine KO ?_ | ((with_reducible apply F1 15); exact rfl; exact EN; (exact fun w μc hw hse => rDepth_spec 100000 (Nat.le_refl _) t _ w μc hw hs ⟨u, rfl, hk.mono hse.le⟩)) | ((with_reducible apply F1 16); exact rfl; exact EN; (exact fun w μc hw hse => rAll_spec 100000 (Nat.le_refl _) t u false w μc hw (hk.mono hse.le) hs hsh)) | refine KI ?_ | refine NB fun b => ?_ | ((refine KB ?_ ?_ <;> intro hp)) | refine KG ?_ | fail)
  all_goals (refine ret_s rfl rfl ?_; simp_all; try omega)
theorem tRight_spec (t : T) (u : Value) (w : World) (μ : Mem) (hμ : MOk μ w) (hk : KR μ t.kids u) (hs : t.size ≤ 100000) (hsh : Sh t) (hT : TabA μ) :
    Calls Tryz.prog 12 #[.agg (encT t u).toArray] w fun e w' => e = .returned (.bool (rtB t 1 false)) ∧ Below w.heap.size w w' := by
  have ho := hk.one
  refine call_intro (args := [.agg (encT t u).toArray]) Tryz.func12 rfl Tryz.ntmps12 (by simp) hμ ?_
  repeat' (first | refine KO ?_ | ((with_reducible apply C1); exact rfl; exact EN; exact fun w μc hw hse => right_spec 100000 (Nat.le_refl _) t u 1 false w μc hw (hk.mono hse.le) hs (by decide) hsh (hT.mono hse.le)) | refine KI ?_ | refine NB fun b => ?_ | ((refine KB ?_ ?_ <;> intro hp)) | refine KG ?_ | fail)
  exact ret_s rfl rfl rfl
end Go.Proofs.YtfabmichdhbiaaaGreatDoor
namespace Go.Proofs.YtfabmichdhbiaaaGreatDoor
open Go.RowKit Go.Vcg Ou
theorem fit_cons {p : T → Bool} {r : List ((T → Bool) × Int)} {l : List T} (h : fitP ((p, 0) :: r) l = true) : ∃ k l', l = k :: l' ∧ fitP r l' = true := by
  rw [fitP_0] at h
  cases l with
  | nil => cases h
  | cons k l' =>
    dsimp only at h
    split at h
    · exact ⟨k, l', rfl, h⟩
    · cases h
theorem fit_one {p : T → Bool} {r : List ((T → Bool) × Int)} {l : List T} (h : fitP ((p, 0) :: r) l = true) : 1 ≤ l.length := by
  obtain ⟨k, l', rfl, -⟩ := fit_cons h
  simp
theorem fit_two {p q : T → Bool} {r : List ((T → Bool) × Int)} {l : List T} (h : fitP ((p, 0) :: (q, 0) :: r) l = true) : 2 ≤ l.length := by
  obtain ⟨k, l', rfl, h2⟩ := fit_cons h
  have := fit_one h2
  simp
  omega
theorem kc_of {t : T} {d : Nat} {s : Bool} (h : Rt t d s) : Kc t := by
  cases h with
  | mk hd hn hk hr =>
    refine ⟨fun h => ?_, fun h => ?_, fun h k hkm => ?_⟩
    · rcases h with h | h | h | h | h | h
      all_goals (unfold kidsB stB exB patternsT at hk; simp [h] at hk)
      all_goals exact fit_two hk
    · rcases h with h | h | h | h | h | h | h | ⟨h, h'⟩
      all_goals (unfold kidsB stB exB propT at hk; simp [h] at hk)
      all_goals first | exact fit_one hk | (simp [h'] at hk; exact fit_one hk)
    · unfold kidsB stB at hk
      simp [h] at hk
      unfold fewP at hk
      have h3 : ofT [3] k = true := List.all_eq_true.1 (Bool.and_eq_true_iff.1 hk).2 k hkm
      have h3' : k.op = 3 := by simpa [ofT] using h3
      obtain ⟨i, hi⟩ := List.mem_iff_getElem?.1 hkm
      have hrk := hr i k hi
      cases hrk with
      | mk _ _ hk2 _ =>
        unfold kidsB stB at hk2
        simp [h3'] at hk2
        exact fit_one hk2
theorem alln_of (t : T) : ∀ (d : Nat) (s : Bool), Rt t d s → Sh t → AllN qE t := T.ind2 (p := fun t => ∀ (d : Nat) (s : Bool), Rt t d s → Sh t → AllN qE t) (fun t ih d s h hs => by
  refine .mk ⟨kc_of h, by have := sh_s hs; omega⟩ fun k hk => ?_
  obtain ⟨i, hi⟩ := List.mem_iff_getElem?.1 hk
  cases h with
  | mk _ _ _ hr => exact ih k hk _ _ (hr i k hi) (sh_kid hs hk)) t
theorem nb_all : ∀ (f : Nat) (t : T), AllN qE t → t.size ≤ f → t.size ≤ 80000 → NCk (nbE wdF f).1 t ∧ BCk (nbE wdF f).2 t := by
  intro f
  induction f with
  | zero =>
    intro t _ h0
    have := size_szs t
    omega
  | succ f ih =>
    intro t hq hf hts
    have hgr := fun (k : T) (hk : AllN qE k) => gr_nb (F := FF) (wd := wdF) (q := qE) (fun t h => ⟨h.1, fun x => x⟩) f k hk
    have hN : ∀ k, AllN qE k → k.size < t.size → NCk (nbE wdF f).1 k ∧ NG (nbE wdF f).1 k := fun k hk h => ⟨(ih k hk (by omega) (by omega)).1, (hgr k hk).1⟩
    have hB : ∀ k, AllN qE k → k.size < t.size → BCk (nbE wdF f).2 k ∧ BG (nbE wdF f).2 k := fun k hk h => ⟨(ih k hk (by omega) (by omega)).2, (hgr k hk).2⟩
    have hlek : ∀ k ∈ t.kids, k.size < t.size := fun k hk => by
      have : k.size ≤ szs t.kids := T.sum_mem (List.mem_map.2 ⟨k, hk, rfl⟩)
      have := size_szs t
      omega
    exact ⟨enode_spec _ _ t hq hts hN hB, ebind_spec _ _ t hq.here.1 hq.here.2 (by omega) (fun k hk => hN k (hq.kid hk) (hlek k hk)) (fun k hk => hB k (hq.kid hk) (hlek k hk))⟩
noncomputable def checkR (f : Nat) (t : T) : Int × Int := if t.op = 1 ∧ rtB t 1 false = true then ((checkE wdF f t).at', (checkE wdF f t).e) else (0, 1)
theorem mkD_nil : mkD [] 0 = [] := rfl
theorem famD_nil : famD [] = [] := rfl
theorem IsV.of_blk {μ : Mem} {b t : Nat} {cs : Slots} {x : Int} (h : Bk.sh (.inl ⟨b, t, 1, cs⟩) μ) (hc : lk cs 0 = some (.int .i64 x)) : IsV μ (.slice (some ⟨b, 0, none⟩) 1 1) [x] := by
  obtain ⟨arr, h1, h2, h3⟩ := h
  refine ⟨_, _, rfl, ⟨rfl, fun _ => ⟨_, rfl, fun i y hy j v hv => ?_⟩⟩, Nat.le_refl _⟩
  cases i with
  | succ i => simp at hy
  | zero =>
    cases hy
    cases j with
    | succ j => simp at hv
    | zero =>
      cases hv
      exact ⟨arr, t, (0, 0), h1, rfl, h3 0 _ hc⟩
attribute [local irreducible] wdL anI famD mkD rtB checkE G GC GQ GA GAop Calls IntKind.wrap Int.decLt Int.decLe
theorem echeck_spec (f : Nat) (t : T) (u : Value) (w : World) (μ : Mem) (hμ : MOk μ w) (hk : KR μ t.kids u) (hts : t.size ≤ 80000) (hf : t.size ≤ f) (hsh : Sh t) (hT : TabA μ) (hm : MaxQ μ) :
    Calls Tryz.prog 9 #[.agg (encT t u).toArray] w fun e w' => e = .returned (.tuple #[.int .i64 (checkR f t).1, .int .i64 (checkR f t).2]) ∧ Below w.heap.size w w' := by
  have ou := hk.one
  have hri := fun (w : World) (μc : Mem) (hw : MOk μc w) (hle : MLe μ μc) => tRight_spec t _ w μc hw (hk.mono hle) (by omega) hsh (hT.mono hle)
  have hstr := fun (w : World) (μc : Mem) (hw : MOk μc w) (hle : MLe μ μc) => estrict_spec t _ w μc hw (hk.mono hle) (by omega)
  unfold checkR
  obtain ⟨A, c, rfl, hcap, hget⟩ := hk.form
  refine call_intro (args := [.agg (encT t (.slice A t.kids.length c)).toArray]) Tryz.func9 rfl Tryz.ntmps9 (by simp) hμ ?_
  by_cases hop : t.op = 1
  rotate_left
  · rw [if_neg (fun h => hop h.1)]
    repeat' (first | refine KK ?_ | refine NB fun b => ?_ | ((with_reducible apply g_mkmap); exact rfl; exact rfl; intro b) | ((refine KB ?_ ?_ <;> intro hp)) | refine KG ?_ | fail)
    all_goals try (exfalso; first | omega | contradiction)
    all_goals exact ret_v2 rfl (rv_tmp rfl) (rv_tmp rfl) rfl rfl
  cases hrt : rtB t 1 false with
  | false =>
    rw [if_neg (fun h => by cases h.2)]
    rw [hrt] at hri
    repeat' (first | refine KO ?_ | ((with_reducible apply C1); exact rfl; exact EN; (exact fun w μc hw hse => hri w μc hw hse.le)) | refine KI ?_ | refine NB fun b => ?_ | ((with_reducible apply g_mkmap); exact rfl; exact rfl; intro b) | ((refine KB ?_ ?_ <;> intro hp)) | refine KG ?_ | fail)
    all_goals try (exfalso; first | omega | contradiction)
    all_goals exact ret_v2 rfl (rv_tmp rfl) (rv_tmp rfl) rfl rfl
  | true =>
    rw [if_pos ⟨hop, rfl⟩]
    rw [hrt] at hri
    have hq := alln_of t 1 false (rtB_true hrt) hsh
    have hsz := size_szs t
    have hlen := len_szs t.kids
    have hlek : ∀ k ∈ t.kids, k.size < t.size := fun k hk => by
      have : k.size ≤ szs t.kids := T.sum_mem (List.mem_map.2 ⟨k, hk, rfl⟩)
      omega
    have hN : ∀ k ∈ t.kids, NCk (nbE wdF f).1 k ∧ NG (nbE wdF f).1 k := fun k hk => ⟨(nb_all f k (hq.kid hk) (by have := hlek k hk; omega) (by have := hlek k hk; omega)).1, (gr_nb (F := FF) (wd := wdF) (q := qE) (fun t h => ⟨h.1, fun x => x⟩) f k (hq.kid hk)).1⟩
    have hce : checkE wdF f t = allE (nbE wdF f).1 t.kids (startP t) ⟨[], 1, 0, 0⟩ := by unfold checkE; rfl
    rw [hce]
    have hst : startP t = ⟨strictE t, false, false, false, [1], [], [], false, false, [], true, false⟩ := rfl
    rw [hst]
    generalize strictE t = stc at hstr ⊢
    repeat' (first | ((with_reducible show GC _ _ (Code.seq (Code.region 4 _ _) _) _ _ _ _); (apply gc_stop)) | refine KO ?_ | ((with_reducible apply C1); exact rfl; exact EN; (exact fun w μc hw hse => hri w μc hw hse.le)) | refine KI ?_ | refine NB fun b => ?_ | ((with_reducible apply g_mkmap); exact rfl; exact rfl; intro b) | ((refine KB ?_ ?_ <;> intro hp)) | refine KG ?_ | fail)
    all_goals try (exfalso; first | omega | contradiction)
    rename_i bn bm
    obtain ⟨bx, hbx⟩ : ∃ y, y = b := ⟨_, rfl⟩
    rw [← hbx]
    clear hbx
    refine gcs (gc_sel (l' := [(1, .pointer (some ⟨bn, 0, none⟩)), (4, .pointer (some ⟨bx, 0, none⟩))]) (L' := .inl ⟨bn, 27, 6, idx 0 (encT t (.slice A t.kids.length c))⟩ :: EB bx bm ⟨[], 1, 0, 0⟩ []) PU (by rw [EB_eq, mkD_nil, famD_nil]; exact sel_2 (.refl _) (sel_0 (.cells PU) (sel_0 (.refl _) (.nil _)))) ?_)
    have hER : ∀ μ', ER μ' [] ⟨[], 1, 0, 0⟩ := fun μ' => ⟨rfl, fun f hf => by simp at hf⟩
    have hSB : SB ⟨[], 1, 0, 0⟩ (szs t.kids) := by
      show 1 + 0 + 2 * szs t.kids ≤ 900000
      omega
    have hPB : ∀ k ∈ t.kids, PB ⟨stc, false, false, false, [1], [], [], false, false, [], true, false⟩ k.size := fun k hk => ⟨Nat.succ_pos _, by show 1 + k.size ≤ 90000; have := hlek k hk; omega, by show 0 + k.size ≤ 90000; have := hlek k hk; omega, Nat.le_refl _⟩
    repeat' (first | refine KK ?_ | refine NB fun b => ?_ | ((with_reducible apply g_mkmap); exact rfl; exact rfl; intro b) | ((refine KB ?_ ?_ <;> intro hp)) | refine KG ?_ | fail)
    refine gc_draw 9 _ (by kernel_rfl) rfl (List.Sublist.cons_cons _ (List.nil_sublist _)) ?_
    all_goals refine DD 0 ?_
    all_goals refine DD 1 ?_
    all_goals refine DD 2 ?_
    all_goals refine DD 3 ?_
    refine ga_all2 4 5 (by kernel_rfl) ?dr1_4 ?dr1_5
    case' dr1_4 =>
      (first | (refine D5 ?_; (first | ((with_reducible apply F1 14); exact rfl; exact EN; (exact fun w μc hw hse => hstr w μc hw hse.le)) | (refine CF 13 ?_; (refine g_share_0 rfl ?_); (intro μ4 hle4 hsh4); (have hv := IsV.of_blk (x := 1) hsh4 rfl); (with_reducible apply g_ce 1); exact rfl; exact rfl; exact rfl; ((with_reducible apply e_call3); kernel_rfl; exact rfl; exact rfl; exact rfl); exact rfl; (exact hER _); (exact eall_spec (nbE wdF f).1 t.kids _ _ ⟨stc, false, false, false, [1], [], [], false, false, [], true, false⟩ ⟨[], 1, 0, 0⟩ _ bx bm hN (hk.mono hle4) ⟨_, _, _, _, rfl, hv, SsV.nil _, SsV.nil _, SsV.nil _⟩ hPB hSB (by omega) (hm.mono hle4)); (intro v1 μ1 i1 hle1 hR); (dsimp only [List.cons_append, List.nil_append]))); refine D9 ?_))
      all_goals (first | (refine D3 5 ?_; refine D5 ?_; refine NB fun b => ?_; refine D9 ?_))
      all_goals refine DD 6 ?_
      all_goals refine DD 7 ?_
      all_goals (first | (refine D3 8 ?_; refine D5 ?_; (first | ((with_reducible apply F1 14); exact rfl; exact EN; (exact fun w μc hw hse => hstr w μc hw hse.le)) | (refine CF 13 ?_; (refine g_share_0 rfl ?_); (intro μ4 hle4 hsh4); (have hv := IsV.of_blk (x := 1) hsh4 rfl); (with_reducible apply g_ce 1); exact rfl; exact rfl; exact rfl; ((with_reducible apply e_call3); kernel_rfl; exact rfl; exact rfl; exact rfl); exact rfl; (exact hER _); (exact eall_spec (nbE wdF f).1 t.kids _ _ ⟨stc, false, false, false, [1], [], [], false, false, [], true, false⟩ ⟨[], 1, 0, 0⟩ _ bx bm hN (hk.mono hle4) ⟨_, _, _, _, rfl, hv, SsV.nil _, SsV.nil _, SsV.nil _⟩ hPB hSB (by omega) (hm.mono hle4)); (intro v1 μ1 i1 hle1 hR); (dsimp only [List.cons_append, List.nil_append]))); refine D9 ?_))
      all_goals refine D8 ?_
    case' dr1_5 =>
      (first | (refine D5 ?_; refine NB fun b => ?_; refine D9 ?_))
      all_goals (first | (refine D3 4 ?_; refine D5 ?_; (first | ((with_reducible apply F1 14); exact rfl; exact EN; (exact fun w μc hw hse => hstr w μc hw hse.le)) | (refine CF 13 ?_; (refine g_share_0 rfl ?_); (intro μ4 hle4 hsh4); (have hv := IsV.of_blk (x := 1) hsh4 rfl); (with_reducible apply g_ce 1); exact rfl; exact rfl; exact rfl; ((with_reducible apply e_call3); kernel_rfl; exact rfl; exact rfl; exact rfl); exact rfl; (exact hER _); (exact eall_spec (nbE wdF f).1 t.kids _ _ ⟨stc, false, false, false, [1], [], [], false, false, [], true, false⟩ ⟨[], 1, 0, 0⟩ _ bx bm hN (hk.mono hle4) ⟨_, _, _, _, rfl, hv, SsV.nil _, SsV.nil _, SsV.nil _⟩ hPB hSB (by omega) (hm.mono hle4)); (intro v1 μ1 i1 hle1 hR); (dsimp only [List.cons_append, List.nil_append]))); refine D9 ?_))
      all_goals refine DD 6 ?_
      all_goals refine DD 7 ?_
      all_goals (first | (refine D3 8 ?_; refine D5 ?_; (first | ((with_reducible apply F1 14); exact rfl; exact EN; (exact fun w μc hw hse => hstr w μc hw hse.le)) | (refine CF 13 ?_; (refine g_share_0 rfl ?_); (intro μ4 hle4 hsh4); (have hv := IsV.of_blk (x := 1) hsh4 rfl); (with_reducible apply g_ce 1); exact rfl; exact rfl; exact rfl; ((with_reducible apply e_call3); kernel_rfl; exact rfl; exact rfl; exact rfl); exact rfl; (exact hER _); (exact eall_spec (nbE wdF f).1 t.kids _ _ ⟨stc, false, false, false, [1], [], [], false, false, [], true, false⟩ ⟨[], 1, 0, 0⟩ _ bx bm hN (hk.mono hle4) ⟨_, _, _, _, rfl, hv, SsV.nil _, SsV.nil _, SsV.nil _⟩ hPB hSB (by omega) (hm.mono hle4)); (intro v1 μ1 i1 hle1 hR); (dsimp only [List.cons_append, List.nil_append]))); refine D9 ?_))
      all_goals refine D8 ?_
    all_goals generalize allE (nbE wdF f).1 t.kids ⟨stc, false, false, false, [1], [], [], false, false, [], true, false⟩ ⟨[], 1, 0, 0⟩ = s' at hR ⊢
    all_goals repeat' (first | refine KK ?_ | refine NB fun b => ?_ | ((with_reducible apply g_mkmap); exact rfl; exact rfl; intro b) | ((refine KB ?_ ?_ <;> intro hp)) | refine KG ?_ | fail)
    all_goals refine gc_LEq (show _ = _ :: Bk.inl ⟨bx, 40, 4, [(0, .map (some bm)), (1, .int .i64 (s'.regs : Int)), (2, .int .i64 s'.at'), (3, .int .i64 s'.e)]⟩ :: .mp ⟨bm, mkD i1 0, i1.length⟩ :: famD i1 from rfl) ?_
    all_goals
      refine gc_draw 10 _ (by kernel_rfl) rfl (List.Sublist.cons _ (List.Sublist.cons_cons _ (List.nil_sublist _))) ?_
      all_goals refine DD 0 ?_
      all_goals refine DD 1 ?_
      all_goals refine DD 2 ?_
      all_goals refine DD 3 ?_
      all_goals refine DD 4 ?_
      all_goals refine DD 5 ?_
      all_goals refine DD 6 ?_
      all_goals refine DD 7 ?_
      all_goals refine DD 8 ?_
      all_goals refine DD 9 ?_
      all_goals refine D8 ?_
    all_goals repeat' (first | refine KK ?_ | refine NB fun b => ?_ | ((with_reducible apply g_mkmap); exact rfl; exact rfl; intro b) | ((refine KB ?_ ?_ <;> intro hp)) | refine KG ?_ | fail)
    all_goals exact ret_v2 rfl (rv_tmp rfl) (rv_tmp rfl) rfl rfl
end Go.Proofs.YtfabmichdhbiaaaGreatDoor
