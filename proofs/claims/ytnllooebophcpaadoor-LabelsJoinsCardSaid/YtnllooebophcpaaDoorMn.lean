/- tree.Walk: the iterator's contract. (and what leans on it). No statement of the seat is proved here. -/
import Derived.Test.YtnllooebophcpaaDoorRng3
import Derived.Test.YtnllooebophcpaaDoorTree
import Derived.Test.YtnllooebophcpaaDoorVi
import Derived.Test.YtnllooebophcpaaDoorSt
import Derived.Test.YtnllooebophcpaaDoorMm
import Derived.Test.YtnllooebophcpaaDoorVs
import Derived.Test.YtnllooebophcpaaDoorMh
set_option maxRecDepth 20000
set_option maxHeartbeats 2000000
namespace Go.Proofs.YtnllooebophcpaaDoor
open Go.RowKit Go.Vcg
namespace T
def dmax (l : List Nat) : Nat := l.foldr max 0
def depth : T → Nat | mk _ _ _ _ _ ks => 1 + dmax (ks.attach.map fun ⟨k, _⟩ => k.depth)
theorem depth_eq (t : T) : t.depth = 1 + dmax (t.kids.map depth) := by
  cases t with
  | mk o a n m s ks => rw [depth]; simp [kids]
theorem dmax_le {l : List Nat} {n : Nat} (h : ∀ x ∈ l, x ≤ n) : dmax l ≤ n := by
  induction l with
  | nil => exact Nat.zero_le _
  | cons y l ih =>
    show max y (dmax l) ≤ n
    have h1 := h y (List.mem_cons_self ..)
    have h2 := ih fun x hx => h x (List.mem_cons_of_mem _ hx)
    omega
theorem depth_size : ∀ (n : Nat) (t : T), t.size ≤ n → t.depth ≤ t.size
  | 0, t, h => by rw [size_eq] at h; omega
  | n + 1, t, h => by
    rw [depth_eq]
    have : dmax (t.kids.map depth) ≤ (t.kids.map size).sum := dmax_le fun x hx => by
      obtain ⟨k, hk, rfl⟩ := List.mem_map.1 hx
      obtain ⟨i, hi⟩ := List.mem_iff_getElem?.1 hk
      have h1 := size_kid hi
      have h2 := depth_size n k (by omega)
      have := sum_mem (List.mem_map.2 ⟨k, hk, rfl⟩ : k.size ∈ t.kids.map size)
      omega
    rw [size_eq]
    omega
def mx (m : Nat) (xs : List (Nat × T)) : Nat := xs.foldl (fun m x => max m (x.1 + 1)) m
end T
theorem T.len_size (t : T) : t.kids.length < t.size := by
  rw [T.size_eq]
  have : ∀ l : List T, l.length ≤ (l.map T.size).sum := fun l => by
    induction l with
    | nil => simp
    | cons a r ih =>
      have : 1 ≤ a.size := by rw [T.size_eq]; omega
      simp; omega
  have := this t.kids
  omega
attribute [local irreducible] G GC GQ GA GAop GI Calls IntKind.wrap Int.decLt Int.decLe
end Go.Proofs.YtnllooebophcpaaDoor
namespace Go.Proofs.YtnllooebophcpaaDoor
open Go.RowKit Go.Vcg
attribute [local irreducible] hasT bitT stmtT rStmtT exprT rExprT targetT simpleT linkT namedT len0 set0 isT fitP rowP fewP templB chB formB whatT
theorem kr_func (t : T) (hop : t.op = 4) (hf : OkF t) (hk : ∀ k ∈ t.kids, OkF k) : kidsB t = rKidsB t := by
  obtain ⟨h0, h1⟩ := hf hop
  have hb : hasT t 128 = decide ((IntKind.i64.wrap (t.n.tdiv 128)).tmod 2 = 1) := by rw [has_bit hf (by simp), bit_quo hop h0]; rfl
  have e1 : kidsB t = fitP (eachP [ofT [5], bodyT t]) t.kids := by
    unfold kidsB
    rw [if_pos (by omega)]
    unfold stB
    (repeat first | rw [if_pos (by omega)] | rw [if_neg (by omega)])
  rw [e1]
  by_cases hq : (IntKind.i64.wrap (t.n.tdiv 128)).tmod 2 = 1
  · have e2 : kindsS t = ⟨#[80, 69]⟩ := by
      unfold kindsS
      (repeat first | rw [if_pos (by omega)] | rw [if_neg (by omega)])
    rw [rk_row (by omega) (by omega) (by omega) e2 (by decide), show bl ⟨#[80, 69]⟩ = [80, 69] from rfl, rf_d 80 (by decide) (by decide) (rf_one 69 rf_nil)]
    unfold bodyT
    rw [hb, decide_eq_true hq, if_pos rfl]
    exact fit_congr (.cons ceP (.cons ceE .nil)) _ hk
  · have e2 : kindsS t = ⟨#[80, 66]⟩ := by
      unfold kindsS
      (repeat first | rw [if_pos (by omega)] | rw [if_neg (by omega)])
    rw [rk_row (by omega) (by omega) (by omega) e2 (by decide), show bl ⟨#[80, 66]⟩ = [80, 66] from rfl, rf_d 80 (by decide) (by decide) (rf_one 66 rf_nil)]
    unfold bodyT
    rw [hb, decide_eq_false hq, if_neg (by simp)]
    exact fit_congr (.cons ceP (.cons ceB .nil)) _ hk
theorem kr_try (t : T) (hop : t.op = 19) (hk : ∀ k ∈ t.kids, OkF k) : kidsB t = rKidsB t := by
  have e1 : kidsB t = tryT t.kids := by
    unfold kidsB
    rw [if_pos (by omega)]
    unfold stB
    (repeat first | rw [if_pos (by omega)] | rw [if_neg (by omega)])
  have e2 : kindsS t = ⟨#[66, 67, 89]⟩ := by
    unfold kindsS
    (repeat first | rw [if_pos (by omega)] | rw [if_neg (by omega)])
  have e3 : fitP (eachP [ofT [6], ofT [20, 7], ofT [6, 7]]) t.kids = rowP [66, 67, 89] t.kids := by
    rw [rf_d 66 (by decide) (by decide) (rf_d 67 (by decide) (by decide) (rf_one 89 rf_nil))]
    exact fit_congr (.cons ceB (.cons ceC (.cons ceY .nil))) _ hk
  rw [e1]
  unfold tryT rKidsB krowB extraB
  rw [e2, e3, if_neg (by omega), if_pos hop, if_neg (by omega), decide_eq_true (by decide), Bool.true_and, Bool.and_true]
  rfl
theorem ch_lk {k : T} (h : chB k = true) : linkT k = true := by
  cases hl : linkT k
  · rw [chB_f (ch_link hl)] at h
    cases h
  · rfl
theorem kr_chain (t : T) (hop : t.op = 53) : kidsB t = rKidsB t := by
  have e1 : kidsB t = chainT t.kids := by
    unfold kidsB
    rw [if_neg (by omega)]
    unfold exB
    (repeat first | rw [if_pos (by omega)] | rw [if_neg (by omega)])
  have e2 : kindsS t = ⟨#[99]⟩ := by
    unfold kindsS
    (repeat first | rw [if_pos (by omega)] | rw [if_neg (by omega)])
    unfold moreS
    (repeat first | rw [if_pos (by omega)] | rw [if_neg (by omega)])
  rw [e1]
  unfold rKidsB krowB extraB chainT
  rw [e2, if_neg (by omega), if_neg (by omega), if_pos hop, decide_eq_true (by decide), Bool.true_and, Bool.true_and, show bl ⟨#[99]⟩ = [99] from rfl]
  match t.kids with
  | [] => simp
  | [k] =>
    rw [rf_one 99 rf_nil, fitP_0]
    simp only [fitP_nil', show ((99 : UInt8).toNat : Int) = 99 from rfl, is99]
    cases hc : chB k
    · simp
    · simp [ch_lk hc]
  | _ :: _ :: _ => simp
theorem kr_templ (t : T) (hop : t.op = 36) (hk : ∀ k ∈ t.kids, OkF k) : kidsB t = rKidsB t := by
  have e1 : kidsB t = templB exprT t.kids := by
    unfold kidsB
    rw [if_neg (by omega)]
    unfold exB
    (repeat first | rw [if_pos (by omega)] | rw [if_neg (by omega)])
  rw [e1]
  unfold rKidsB krowB
  rw [extra_true (by omega) (by omega), if_pos hop, Bool.and_true]
  have hiff : templP exprT t.kids ↔ templP rExprT t.kids := by
    unfold templP
    refine and_congr Iff.rfl (forall_congr' fun i => forall_congr' fun k => forall_congr' fun hi => ?_)
    unfold tmOk
    rw [expr_eq (hk k (List.mem_of_getElem? hi))]
  by_cases h : templP exprT t.kids
  · rw [templB_t h, templB_t (hiff.1 h)]
  · rw [templB_f h, templB_f fun h2 => h (hiff.2 h2)]
def knR (op : Int) : Prop := 1 ≤ op ∧ op ≤ 23 ∨ 30 ≤ op ∧ op ≤ 54 ∨ 60 ≤ op ∧ op ≤ 64
theorem known_ne {op : Int} (h : nameB op ≠ []) : knownT op = true := by
  unfold knownT
  rw [decide_eq_true_eq]
  intro e
  apply h
  have := congrArg (fun x : ByteArray => x.data.toList) e
  simpa using this
theorem known_nil {op : Int} (h : nameB op = []) : knownT op = false := by
  unfold knownT
  rw [h]
  simp
theorem nm_ck : ((List.range 65).all fun k => (nameL.getD k []).isEmpty == !(decide (1 ≤ k ∧ k ≤ 23) || decide (30 ≤ k ∧ k ≤ 54) || decide (60 ≤ k ∧ k ≤ 64))) = true := by decide +kernel
theorem nm_at {k : Nat} (h : k < 65) : (nameL.getD k []).isEmpty = !(decide (1 ≤ k ∧ k ≤ 23) || decide (30 ≤ k ∧ k ≤ 54) || decide (60 ≤ k ∧ k ≤ 64)) := eq_of_beq (List.all_eq_true.1 nm_ck k (List.mem_range.2 h))
theorem known_iff (op : Int) : knownT op = true ↔ knR op := by
  by_cases hr : op < 0 ∨ 65 ≤ op
  · rw [known_nil (nameB_none hr)]
    unfold knR
    constructor
    · intro h; cases h
    · intro h; omega
  · obtain ⟨k, rfl⟩ := Int.eq_ofNat_of_zero_le (by omega : 0 ≤ op)
    have h := nm_at (k := k) (by omega)
    have hn : nameB (k : Int) = nameL.getD k [] := by unfold nameB; rw [if_pos (by omega), Int.toNat_natCast]
    unfold knR
    constructor
    · intro hk
      by_cases he : nameB (k : Int) = []
      · rw [known_nil he] at hk
        cases hk
      · rw [← hn, List.isEmpty_eq_false_iff.2 he] at h
        simp at h
        omega
    · intro hk
      refine known_ne fun he => ?_
      rw [← hn, he] at h
      simp at h
      omega
theorem kinds_un {t : T} (h : ¬knR t.op) : kindsS t = ⟨#[33]⟩ := by
  unfold knR at h
  unfold kindsS
  (repeat first | rw [if_neg (by omega)])
  unfold moreS
  (repeat first | rw [if_neg (by omega)])
theorem row_known {t : T} (h : krowB t = true) : knownT t.op = true := by
  rw [known_iff]
  refine Classical.byContradiction fun hn => ?_
  unfold krowB at h
  rw [kinds_un hn] at h
  have : ¬t.op = 36 := fun e => hn (by unfold knR; omega)
  rw [if_neg this] at h
  simp at h
theorem kids_eq {t : T} (hf : OkF t) (hk : ∀ k ∈ t.kids, OkF k) (hkn : knownT t.op = true) (hy : t.op = 54 → t.n = 0 ∨ t.n = 1) (hp : t.op = 39 → 0 ≤ t.n ∧ t.n ≤ 5) : kidsB t = rKidsB t := by
  rw [known_iff] at hkn
  unfold knR at hkn
  rcases (by omega : (t.op = 1 ∨ t.op = 6) ∨ t.op = 2 ∨ t.op = 3 ∨ t.op = 4 ∨ t.op = 5 ∨ (t.op = 7 ∨ t.op = 15 ∨ t.op = 16) ∨ (t.op = 8 ∨ t.op = 18) ∨ t.op = 9 ∨ t.op = 10 ∨ (t.op = 11 ∨ t.op = 12) ∨ t.op = 13 ∨ t.op = 14 ∨ t.op = 17 ∨ t.op = 19 ∨ t.op = 20 ∨ t.op = 21 ∨ t.op = 22 ∨ t.op = 23 ∨ 30 ≤ t.op) with h | h | h | h | h | h | h | h | h | h | h | h | h | h | h | h | h | h | h
  · exact kr_prog t h hk
  · exact kr_var t h hk
  · exact kr_decl t h hk
  · exact kr_func t h hf hk
  · exact kr_params t h hk
  · exact kr_none t h hk
  · exact kr_expr t h hk
  · exact kr_if t h hk
  · exact kr_for t h hk
  · exact kr_forin t h hk
  · exact kr_while t h hk
  · exact kr_do t h hk
  · exact kr_ret t h hk
  · exact kr_try t h hk
  · exact kr_catch t h hk
  · exact kr_switch t h hk
  · by_cases hn : t.n = 1
    · exact kr_case1 t h hn hk
    · exact kr_case2 t h hn hk
  · exact kr_label t h hk
  · rcases (by omega : (t.op = 30 ∨ t.op = 31 ∨ t.op = 32 ∨ t.op = 33 ∨ t.op = 34 ∨ t.op = 35 ∨ t.op = 40) ∨ t.op = 36 ∨ t.op = 37 ∨ t.op = 38 ∨ t.op = 39 ∨ (t.op = 41 ∨ t.op = 42) ∨ t.op = 43 ∨ (t.op = 44 ∨ t.op = 45 ∨ t.op = 52) ∨ t.op = 46 ∨ t.op = 47 ∨ t.op = 48 ∨ (t.op = 49 ∨ t.op = 50) ∨ t.op = 51 ∨ t.op = 53 ∨ t.op = 54 ∨ 60 ≤ t.op) with h | h | h | h | h | h | h | h | h | h | h | h | h | h | h | h
    · exact kr_lit t h hk
    · exact kr_templ t h hk
    · exact kr_array t h hk
    · exact kr_object t h hk
    · have hp := hp h
      by_cases hm : t.m = 1
      · rcases (by omega : t.n = 0 ∨ t.n = 1 ∨ t.n = 2 ∨ t.n = 3 ∨ t.n = 4 ∨ t.n = 5) with hn | hn | hn | hn | hn | hn
        · exact kr_prop0e t h hn hm hk
        · exact kr_prop1e t h hn hm hk
        · exact kr_prop2e t h hn hm hk
        · exact kr_prop3 t h hn hk
        · exact kr_prop4 t h hn hk
        · exact kr_prop5e t h hn hm hk
      · rcases (by omega : t.n = 0 ∨ t.n = 1 ∨ t.n = 2 ∨ t.n = 3 ∨ t.n = 4 ∨ t.n = 5) with hn | hn | hn | hn | hn | hn
        · exact kr_prop0k t h hn hm hk
        · exact kr_prop1k t h hn hm hk
        · exact kr_prop2k t h hn hm hk
        · exact kr_prop3 t h hn hk
        · exact kr_prop4 t h hn hk
        · exact kr_prop5k t h hn hm hk
    · exact kr_spread t h hk
    · exact kr_update t h hk
    · exact kr_bin t h hk
    · by_cases hs : t.s = ⟨#[61]⟩
      · exact kr_asg1 t h hs hk
      · exact kr_asg2 t h hs hk
    · exact kr_cond t h hk
    · exact kr_seq t h hk
    · exact kr_call t h hk
    · exact kr_dot t h hk
    · exact kr_chain t h
    · rcases hy h with hn | hn
      · exact kr_yield0 t h hn hk
      · exact kr_yield1 t h hn hk
    · rcases (by omega : t.op = 60 ∨ t.op = 61 ∨ t.op = 62 ∨ t.op = 63 ∨ t.op = 64) with h | h | h | h | h
      · exact kr_arrpat t h hk
      · exact kr_objpat t h hk
      · by_cases hm : t.m = 1
        · exact kr_patprop1 t h hm hk
        · exact kr_patprop0 t h hm hk
      · exact kr_default t h hk
      · exact kr_rest t h hk
theorem what_eq {t : T} (h : OkF t) : whatT (hasT t) 5 = whatT (bitT t) 5 := by
  unfold whatT
  congr 1
  apply List.filter_congr
  intro m hm
  refine has_bit h ?_
  have := List.mem_of_mem_take hm
  unfold bitL at this
  simp at this ⊢
  omega
theorem fields_eq (t : T) : fieldsT t = rFieldsT t := by
  unfold fieldsT rFieldsT
  by_cases h4 : t.op = 4
  · rw [if_pos h4, if_pos h4]
    congr 1
    unfold bitsT fnT
    by_cases h1 : t.n < 0 ∨ 255 < t.n ∨ t.s ≠ ⟨#[]⟩ ∧ formB t.s = false
    · rw [if_pos h1, if_pos h1]
    · have hf : OkF t := fun _ => by omega
      rw [if_neg h1, if_neg h1, what_eq hf, has50 hf, has_bit hf (by simp), has_bit hf (by simp), has_bit hf (by simp), has_bit hf (by simp)]
      cases bitT t 4 <;> cases bitT t 2 <;> cases bitT t 16 <;> cases bitT t 32 <;> simp
  · rw [if_neg h4, if_neg h4]
theorem fields_okF {t : T} (h : rFieldsT t = true) : OkF t := fun h4 => by
  unfold rFieldsT at h
  split at h
  · cases h
  · unfold fnT at h
    split at h
    · cases h
    · omega
theorem fields_n {t : T} (h : rFieldsT t = true) (h4 : t.op ≠ 4) : 0 ≤ t.n ∧ t.n ≤ mostT t.op := by
  unfold rFieldsT at h
  split at h
  · cases h
  · rw [Bool.and_eq_true, Bool.and_eq_true, decide_eq_true_eq, decide_eq_true_eq] at h
    exact h.1
def ronT (t : T) (i : Nat) (k : T) (spine : Bool) : Bool := decide (i = 0) && (decide (t.op = 53) || spine && (linkT t && linkT k))
inductive RA : T → Bool → Prop
  | mk {t : T} {spine : Bool} (hf : rFieldsT t = true) (hl : ¬(linkT t = true ∧ t.n = 1 ∧ spine = false)) (hk : rKidsB t = true) (hr : ∀ (i : Nat) (k : T), t.kids[i]? = some k → RA k (ronT t i k spine)) : RA t spine
noncomputable def raB (t : T) (spine : Bool) : Bool := dB (RA t spine)
theorem raB_t {t : T} {s : Bool} (h : RA t s) : raB t s = true := by unfold raB; exact dB_t h
theorem raB_f {t : T} {s : Bool} (h : ¬RA t s) : raB t s = false := by unfold raB; exact dB_f h
theorem raB_true {t : T} {s : Bool} (h : raB t s = true) : RA t s := by unfold raB at h; exact dB_true h
theorem raB_false {t : T} {s : Bool} (h : raB t s = false) : ¬RA t s := by unfold raB at h; exact dB_false h
theorem RA.okF {t : T} {s : Bool} (h : RA t s) : OkF t := by
  cases h with
  | mk hf _ _ _ => exact fields_okF hf
theorem kids_eq' {t : T} (hf : rFieldsT t = true) (hk : ∀ k ∈ t.kids, OkF k) (hkn : knownT t.op = true) : kidsB t = rKidsB t := by
  refine kids_eq (fields_okF hf) hk hkn (fun h => ?_) (fun h => ?_)
  · have h2 := fields_n hf (by omega)
    have : mostT t.op = 1 := by unfold mostT; rw [if_pos (by omega)]
    omega
  · have h2 := fields_n hf (by omega)
    have : mostT t.op = 5 := by unfold mostT; (repeat first | rw [if_pos (by omega)] | rw [if_neg (by omega)])
    omega
theorem on_eq {t k : T} {i : Nat} {s : Bool} (hk : rKidsB t = true) (hi : t.kids[i]? = some k) : onT t i k s = ronT t i k s := by
  unfold onT ronT
  by_cases h0 : i = 0
  · subst h0
    by_cases h53 : t.op = 53
    · have hl : linkT k = true := by
        rw [← kr_chain t h53] at hk
        have e1 : kidsB t = chainT t.kids := by
          unfold kidsB
          rw [if_neg (by omega)]
          unfold exB
          (repeat first | rw [if_pos (by omega)] | rw [if_neg (by omega)])
        rw [e1] at hk
        unfold chainT at hk
        split at hk
        · rename_i k0 hks
          rw [hks] at hi
          cases hi
          exact ch_lk hk
        · cases hk
      rw [hl, decide_eq_true h53]
      rfl
    · rw [decide_eq_false h53]
      cases linkT k <;> cases linkT t <;> cases s <;> rfl
  · rw [decide_eq_false h0]
    rfl
theorem le_dmax {l : List Nat} {x : Nat} (h : x ∈ l) : x ≤ T.dmax l := by
  induction l with
  | nil => cases h
  | cons y l ih =>
    show x ≤ max y (T.dmax l)
    rcases List.mem_cons.1 h with rfl | h
    · omega
    · have := ih h
      omega
theorem right_iff : ∀ (t : T) (d : Nat) (s : Bool), Rt t d s ↔ d + t.depth ≤ 201 ∧ RA t s := fun t => T.ind2 (p := fun t => ∀ (d : Nat) (s : Bool), Rt t d s ↔ d + t.depth ≤ 201 ∧ RA t s) (fun t ih d s => by
  have hde := T.depth_eq t
  constructor
  · intro h
    cases h with
    | mk hd hn hk hr =>
      obtain ⟨hkn, hf, hl⟩ := hn
      rw [fields_eq] at hf
      have hkid : ∀ (i : Nat) (k : T), t.kids[i]? = some k → d + 1 + k.depth ≤ 201 ∧ RA k (onT t i k s) := fun i k hi => (ih k (List.mem_of_getElem? hi) _ _).1 (hr i k hi)
      have hok : ∀ k ∈ t.kids, OkF k := fun k hk => by
        obtain ⟨i, hi⟩ := List.mem_iff_getElem?.1 hk
        exact (hkid i k hi).2.okF
      have hk2 : rKidsB t = true := by rw [← kids_eq' hf hok hkn]; exact hk
      have hdm : T.dmax (t.kids.map T.depth) ≤ 200 - d := T.dmax_le fun x hx => by
        obtain ⟨k, hk, rfl⟩ := List.mem_map.1 hx
        obtain ⟨i, hi⟩ := List.mem_iff_getElem?.1 hk
        have := (hkid i k hi).1
        omega
      exact ⟨by omega, .mk hf hl hk2 fun i k hi => by rw [← on_eq hk2 hi]; exact (hkid i k hi).2⟩
  · rintro ⟨hd, h⟩
    cases h with
    | mk hf hl hk hr =>
      have hkn : knownT t.op = true := by
        unfold rKidsB at hk
        rw [Bool.and_eq_true] at hk
        exact row_known hk.1
      have hok : ∀ k ∈ t.kids, OkF k := fun k hk => by
        obtain ⟨i, hi⟩ := List.mem_iff_getElem?.1 hk
        exact (hr i k hi).okF
      refine .mk (by omega) ⟨hkn, by rw [fields_eq]; exact hf, hl⟩ (by rw [kids_eq' hf hok hkn]; exact hk) fun i k hi => (ih k (List.mem_of_getElem? hi) _ _).2 ⟨?_, by rw [on_eq hk hi]; exact hr i k hi⟩
      have := le_dmax (List.mem_map_of_mem (f := T.depth) (List.mem_of_getElem? hi))
      omega) t
theorem right_law (t : T) : rtB t 1 false = (decide (t.depth ≤ 200) && raB t false) := by
  have h := right_iff t 1 false
  by_cases h1 : Rt t 1 false
  · obtain ⟨h2, h3⟩ := h.1 h1
    rw [rtB_t h1, raB_t h3, decide_eq_true (by omega)]
    rfl
  · rw [rtB_f h1]
    by_cases h2 : t.depth ≤ 200
    · rw [decide_eq_true h2, Bool.true_and, raB_f fun h3 => h1 (h.2 ⟨by omega, h3⟩)]
    · rw [decide_eq_false h2]
      rfl
end Go.Proofs.YtnllooebophcpaaDoor
namespace Go.Proofs.YtnllooebophcpaaDoor
open Go.RowKit Go.Vcg
attribute [local irreducible] G GC GQ GA GAop Calls IntKind.wrap Int.decLt Int.decLe
theorem dmax_snoc (l : List Nat) (x : Nat) : T.dmax (l ++ [x]) = max (T.dmax l) x := by
  induction l with
  | nil => simp [T.dmax]
  | cons y l ih =>
    show max y (T.dmax (l ++ [x])) = max (max y (T.dmax l)) x
    rw [ih]
    omega
theorem rDepth_spec : ∀ (n : Nat), n ≤ 100000 → ∀ (t : T) (v : Value) (w : World) (μ : Mem), MOk μ w → t.size ≤ n → TV μ t v →
    Calls Tryd.prog 16 #[v] w fun e w' => e = .returned (.int .i64 t.depth) ∧ Below w.heap.size w w' := by
  intro n
  induction n with
  | zero => intro _ t v w μ hμ hn _; exact absurd hn (by rw [T.size_eq]; omega)
  | succ n ih =>
    intro hnb t v w μ hμ hn ht
    have hlen := T.len_size t
    have hd1 := T.depth_eq t
    have hd2 := T.depth_size _ t hn
    obtain ⟨u, rfl, hk⟩ := ht
    obtain ⟨A, c, rfl, hlc, hkid⟩ := hk.form
    refine call_intro (args := [.agg (encT t (.slice A t.kids.length c)).toArray]) Tryd.func16 rfl Tryd.ntmps16 (by simp) hμ ?_
    repeat' (first | refine KK ?_ | refine NB fun b => ?_ | ((refine KB ?_ ?_ <;> intro hp)) | refine KG ?_ | fail)
    refine gc_loop (ι := Nat) (fun i => i ≤ t.kids.length) (fun i => t.kids.length - i) (fun _ => μ) (fun i => [(3, .int .i64 ((T.dmax ((t.kids.take i).map T.depth) : Nat) : Int)), (4, .int .i64 i), (1, .pointer (some ⟨b, 0, none⟩))]) (fun _ => [.inl ⟨b, 24, 6, idx 0 (encT t (.slice A t.kids.length c))⟩]) 0 (by simp) (fun a w hs => J6 hs) ?_
    intro i hil
    by_cases hlt : i < t.kids.length
    · obtain ⟨ad, x, rfl, hm, ho, hkx⟩ := hkid i _ (List.getElem?_eq_getElem hlt)
      have hsz := T.size_kid (List.getElem?_eq_getElem hlt)
      repeat' (first | refine KO ?_ | ((with_reducible apply C1); exact rfl; exact EN; exact fun w μc hw hse => ih (by omega) _ _ w μc hw (by omega) ⟨x, rfl, hkx.mono hse.le⟩) | (refine KV (b := by first | exact U1 i | exact U4 hm) (c := ?_)) | refine KI ?_ | refine NB fun b => ?_ | ((refine KB ?_ ?_ <;> intro hp)) | refine KG ?_ | fail)
      have e : (if ((T.dmax ((t.kids.take i).map T.depth) : Nat) : Int) < (t.kids[i].depth : Int) then (t.kids[i].depth : Int) else ((T.dmax ((t.kids.take i).map T.depth) : Nat) : Int)) = ((T.dmax ((t.kids.take (i + 1)).map T.depth) : Nat) : Int) := by
        rw [List.take_succ_eq_append_getElem hlt, List.map_append, List.map_cons, List.map_nil, dmax_snoc]
        split <;> omega
      rw [e]
      refine J4 (i + 1) (by omega) (by omega)
    · have hi : i = t.kids.length := by omega
      subst hi
      rw [List.take_length]
      repeat' (first | refine KK ?_ | refine NB fun b => ?_ | ((refine KB ?_ ?_ <;> intro hp)) | refine KG ?_ | fail)
      exact ret_v1 rfl (by first | exact rv_tmp rfl | exact (rv_agg 0 rfl rfl rfl rfl rfl (by repeat first | exact lc_nil | refine lc_cons rfl ?_)) | exact (rv_agg 1 rfl rfl rfl rfl rfl (by repeat first | exact lc_nil | refine lc_cons rfl ?_)) | exact (rv_agg 2 rfl rfl rfl rfl rfl (by repeat first | exact lc_nil | refine lc_cons rfl ?_)) | exact (rv_agg 3 rfl rfl rfl rfl rfl (by repeat first | exact lc_nil | refine lc_cons rfl ?_))) (by rw [hd1]; congr 1; omega)
end Go.Proofs.YtnllooebophcpaaDoor
namespace Go.Proofs.YtnllooebophcpaaDoor
open Go.RowKit Go.Vcg
theorem row3 {t : T} (h19 : t.op = 19) (h : krowB t = true) : ∃ x y z, t.kids = [x, y, z] := by
  have e2 : kindsS t = ⟨#[66, 67, 89]⟩ := by
    unfold kindsS
    (repeat first | rw [if_pos (by omega)] | rw [if_neg (by omega)])
  unfold krowB at h
  rw [if_neg (by omega), e2, decide_eq_true (by decide), Bool.true_and, show bl ⟨#[66, 67, 89]⟩ = [66, 67, 89] from rfl, rf_d 66 (by decide) (by decide) (rf_d 67 (by decide) (by decide) (rf_one 89 rf_nil))] at h
  exact fit3 (a := isT 66) (b := isT 67) (c := isT 89) h
theorem row1 {t : T} (h53 : t.op = 53) (h : krowB t = true) : ∃ x, t.kids = [x] := by
  have e2 : kindsS t = ⟨#[99]⟩ := by
    unfold kindsS
    (repeat first | rw [if_pos (by omega)] | rw [if_neg (by omega)])
    unfold moreS
    (repeat first | rw [if_pos (by omega)] | rw [if_neg (by omega)])
  unfold krowB at h
  rw [if_neg (by omega), e2, decide_eq_true (by decide), Bool.true_and, show bl ⟨#[99]⟩ = [99] from rfl, rf_one 99 rf_nil, fitP_0] at h
  match hk : t.kids with
  | [] => rw [hk] at h; simp at h
  | [x] => exact ⟨x, rfl⟩
  | x :: y :: r =>
    rw [hk] at h
    simp only [fitP_nil'] at h
    split at h
    · simp at h
    · cases h
theorem extra19 {t x y z : T} (h : t.op = 19) (hk : t.kids = [x, y, z]) : extraB t = (decide (y.op ≠ 7) || decide (z.op ≠ 7)) := by
  unfold extraB
  rw [if_pos h, if_neg (by omega), hk, Bool.and_true]
theorem extra53 {t x : T} (h : t.op = 53) (hk : t.kids = [x]) : extraB t = chB x := by
  unfold extraB
  rw [if_neg (by omega), if_pos h, hk, Bool.true_and]
theorem size_ite {c : Prop} [Decidable c] {a b : ByteArray} (ha : a.size ≤ 1000) (hb : b.size ≤ 1000) : (if c then a else b).size ≤ 1000 := by split <;> assumption
theorem key_app (t : T) (c : UInt8) : (keyS t ++ ⟨#[c]⟩).size ≤ 1000 := by
  rw [ByteArray.size_append, keyS_size]
  show 1 + 1 ≤ 1000
  decide
theorem kinds_size (t : T) : (kindsS t).size ≤ 1000 := by
  have h2 : (propS t).size ≤ 1000 := by
    unfold propS
    (repeat' first | exact key_app t _ | apply size_ite | decide)
  have h3 : (moreS t).size ≤ 1000 := by
    unfold moreS
    (repeat' first | exact h2 | apply size_ite | decide)
  unfold kindsS
  (repeat' first | exact h3 | apply size_ite | decide)
attribute [local irreducible] rFieldsT kindsS linkT krowB extraB raB rowP templB chB rtB G GC GQ GA GAop Calls IntKind.wrap Int.decLt Int.decLe
theorem rAll_spec : ∀ (n : Nat), n ≤ 100000 → ∀ (t : T) (u : Value) (spine : Bool) (w : World) (μ : Mem), MOk μ w → KR μ t.kids u → t.size ≤ n → Sh t →
    Calls Tryd.prog 17 #[.agg (encT t u).toArray, .bool spine] w fun e w' => e = .returned (.bool (raB t spine)) ∧ Below w.heap.size w w' := by
  intro n
  induction n with
  | zero => intro _ t u spine w μ hμ hk hn; exact absurd hn (by rw [T.size_eq]; omega)
  | succ n ih =>
    intro hnb t u spine w μ hμ hk hn hsh
    have ho := hk.one
    have hop := sh_op hsh
    unfold In64 at hop
    have hss := sh_s hsh
    have hks : ∀ k ∈ t.kids, T.size k ≤ 100000 ∧ k.s.size ≤ 65536 := fun k hk => by
      obtain ⟨i, hi⟩ := List.mem_iff_getElem?.1 hk
      have h1 := T.size_kid hi
      have h2 := sh_s (sh_kid hsh hk)
      exact ⟨by omega, by omega⟩
    have hks' : ∀ k ∈ t.kids, Sh' k := fun k hk => sh_sh' (sh_kid hsh hk)
    have hlen := kidsLe t
    have hksz := kinds_size t
    obtain ⟨A, c, rfl, hlc, hkid⟩ := hk.form
    have c2 := fun (w : World) (μc : Mem) (hw : MOk μc w) (hle : MLe μ μc) => rFields_spec t _ w μc hw (hk.mono hle) (by omega) (by omega)
    have c3 := fun (w : World) (μc : Mem) (hw : MOk μc w) (hle : MLe μ μc) => rLink_spec t _ w μc hw (hk.mono hle) (by omega) (by omega)
    have c4 := fun (w : World) (μc : Mem) (hw : MOk μc w) (hle : MLe μ μc) => kinds_spec t _ w μc hw (hk.mono hle)
    have c5 := fun (w : World) (μc : Mem) (hw : MOk μc w) (hle : MLe μ μc) => row_spec (kindsS t) hksz t.kids A t.kids.length c w μc hw (hk.mono hle) rfl (by omega) hks
    have c6 := fun (w : World) (μc : Mem) (hw : MOk μc w) (hle : MLe μ μc) => rTemplate_spec t.kids A t.kids.length c w μc hw (hk.mono hle) rfl (by omega) hks
    refine call_intro (args := [.agg (encT t (.slice A t.kids.length c)).toArray, .bool spine]) Tryd.func17 rfl Tryd.ntmps17 (by simp) hμ ?_
    by_cases h1 : rFieldsT t = true ∧ ¬(linkT t = true ∧ t.n = 1 ∧ spine = false)
    · obtain ⟨hf, hl⟩ := h1
      rw [hf] at c2
      repeat' (first | ((with_reducible show GC _ _ (Code.seq (Code.seq (Code.region 1 _ _) _) _) _ _ _ _); (apply gc_stop)) | refine KK ?_ | refine NB fun b => ?_ | ((refine KB ?_ ?_ <;> intro hp)) | refine KG ?_ | fail)
      refine gcs (gc_join (ι := Unit) (fun _ => True) (fun _ => μ) (fun _ => [(1, .bool spine), (2, .pointer (some ⟨b, 0, none⟩))]) (fun _ => [.inl ⟨b, 24, 6, idx 0 (encT t (.slice A t.kids.length c))⟩]) ?_ ?_)
      · repeat' (first | refine KO ?_ | ((with_reducible apply F1 22); exact rfl; exact EN; (exact fun w μc hw hse => c2 w μc hw hse.le)) | ((with_reducible apply F1 23); exact rfl; exact EN; (exact fun w μc hw hse => c3 w μc hw hse.le)) | refine KI ?_ | refine NB fun b => ?_ | ((refine KB ?_ ?_ <;> intro hp)) | refine KG ?_ | fail)
        all_goals try (exfalso; apply hl; refine ⟨?_, ?_, ?_⟩ <;> assumption)
        all_goals first | exact J1 () trivial | (exfalso; omega)
      intro _ _
      repeat' (first | ((with_reducible show GC _ _ (Code.seq (Code.seq (Code.region 4 _ _) _) _) _ _ _ _); (apply gc_stop)) | refine KK ?_ | refine NB fun b => ?_ | ((refine KB ?_ ?_ <;> intro hp)) | refine KG ?_ | fail)
      refine gcs (gc_join (ι := Unit) (fun _ => True) (fun _ => μ) (fun _ => [(5, .bool (krowB t)), (1, .bool spine), (2, .pointer (some ⟨b, 0, none⟩))]) (fun _ => [.inl ⟨b, 24, 6, idx 0 (encT t (.slice A t.kids.length c))⟩]) ?_ ?_)
      · by_cases h36 : t.op = 36
        · have hg : krowB t = templB rExprT t.kids := by unfold krowB; rw [if_pos h36]
          rw [hg]
          repeat' (first | refine KO ?_ | ((with_reducible apply F1 24); exact rfl; exact EN; (exact fun w μc hw hse => c6 w μc hw hse.le)) | refine KI ?_ | refine NB fun b => ?_ | ((refine KB ?_ ?_ <;> intro hp)) | refine KG ?_ | fail)
          all_goals first | exact J1 () trivial | (exfalso; omega)
        · have hg : krowB t = (decide (kindsS t ≠ ⟨#[33]⟩) && rowP (bl (kindsS t)) t.kids) := by unfold krowB; rw [if_neg h36]
          generalize hB : krowB t = rb at hg ⊢
          generalize hR : rowP (bl (kindsS t)) t.kids = rp at hg c5
          by_cases hK : kindsS t = ⟨#[33]⟩
          · rw [hK] at c4 hg
            simp at hg
            subst hg
            repeat' (first | refine KO ?_ | ((with_reducible apply F1 25); exact rfl; exact EN; (exact fun w μc hw hse => c4 w μc hw hse.le)) | refine KI ?_ | refine NB fun b => ?_ | ((refine KB ?_ ?_ <;> intro hp)) | refine KG ?_ | fail)
            all_goals first | exact J1 () trivial | (exfalso; omega)
          · rw [decide_eq_true hK, Bool.true_and] at hg
            subst hg
            generalize kindsS t = ks at hK c4 c5
            repeat' (first | refine KO ?_ | ((with_reducible apply F1 25); exact rfl; exact EN; (exact fun w μc hw hse => c4 w μc hw hse.le)) | ((with_reducible apply F1 26); exact rfl; exact EN; (exact fun w μc hw hse => c5 w μc hw hse.le)) | refine KI ?_ | refine NB fun b => ?_ | ((refine KB ?_ ?_ <;> intro hp)) | refine KG ?_ | fail)
            all_goals first | exact J1 () trivial | (exfalso; omega) | exact absurd ‹_› hK
      intro _ _
      cases hrow : krowB t
      · have hR : raB t spine = false := raB_f fun h => by
          cases h with
          | mk _ _ h2 _ => unfold rKidsB at h2; rw [hrow] at h2; cases h2
        rw [hR]
        repeat' (first | refine KK ?_ | refine NB fun b => ?_ | ((refine KB ?_ ?_ <;> intro hp)) | refine KG ?_ | fail)
        all_goals first | exact ret_s rfl rfl rfl | (exfalso; omega)
      cases hex : extraB t
      · have hR : raB t spine = false := raB_f fun h => by
          cases h with
          | mk _ _ h2 _ => unfold rKidsB at h2; rw [hex, Bool.and_false] at h2; cases h2
        rw [hR]
        by_cases h19 : t.op = 19
        · obtain ⟨x, y, z, hxyz⟩ := row3 h19 hrow
          obtain ⟨ad1, x1, rfl, hm1, hox1, hkx1⟩ := hkid 1 y (by rw [hxyz]; rfl)
          obtain ⟨ad2, x2, e2, hm2, hox2, hkx2⟩ := hkid 2 z (by rw [hxyz]; rfl)
          cases e2
          rw [extra19 h19 hxyz] at hex
          have h3 : t.kids.length = 3 := by rw [hxyz]; rfl
          simp at hex
          repeat' (first | refine KO ?_ | (refine KV (b := by first | exact U1 1 | exact U1 2 | exact U4 hm1 | exact U4 hm2) (c := ?_)) | refine KI ?_ | refine NB fun b => ?_ | ((refine KB ?_ ?_ <;> intro hp)) | refine KG ?_ | fail)
          all_goals first | exact ret_s rfl rfl rfl | (exfalso; omega)
        · by_cases h53 : t.op = 53
          · obtain ⟨x, hx⟩ := row1 h53 hrow
            obtain ⟨ad1, x1, rfl, hm1, hox1, hkx1⟩ := hkid 0 x (by rw [hx]; rfl)
            rw [extra53 h53 hx] at hex
            have h3 : t.kids.length = 1 := by rw [hx]; rfl
            have hsz := T.size_kid (t := t) (i := 0) (k := x) (by rw [hx]; rfl)
            have c7 := fun (w : World) (μc : Mem) (hw : MOk μc w) (hle : MLe μ μc) => chained_spec 100000 (Nat.le_refl _) x _ w μc hw (hkx1.mono hle) (by omega) (hks' x (by rw [hx]; exact .head _))
            rw [hex] at c7
            repeat' (first | refine KO ?_ | ((with_reducible apply C1); exact rfl; exact EN; exact fun w μc hw hse => c7 w μc hw hse.le) | (refine KV (b := by first | exact U1 0 | exact U4 hm1) (c := ?_)) | refine KI ?_ | refine NB fun b => ?_ | ((refine KB ?_ ?_ <;> intro hp)) | refine KG ?_ | fail)
            all_goals first | exact ret_s rfl rfl rfl | (exfalso; omega)
          · rw [extra_true h19 h53] at hex
            cases hex
      have hKB : rKidsB t = true := by unfold rKidsB; rw [hrow, hex]; rfl
      refine gc_join (ι := Unit) (fun _ => True) (fun _ => μ) (fun _ => [(1, .bool spine), (2, .pointer (some ⟨b, 0, none⟩))]) (fun _ => [.inl ⟨b, 24, 6, idx 0 (encT t (.slice A t.kids.length c))⟩]) ?_ ?_
      · by_cases h19 : t.op = 19
        · obtain ⟨x, y, z, hxyz⟩ := row3 h19 hrow
          obtain ⟨ad1, x1, rfl, hm1, hox1, hkx1⟩ := hkid 1 y (by rw [hxyz]; rfl)
          obtain ⟨ad2, x2, e2, hm2, hox2, hkx2⟩ := hkid 2 z (by rw [hxyz]; rfl)
          cases e2
          rw [extra19 h19 hxyz] at hex
          have h3 : t.kids.length = 3 := by rw [hxyz]; rfl
          simp at hex
          repeat' (first | refine KO ?_ | (refine KV (b := by first | exact U1 1 | exact U1 2 | exact U4 hm1 | exact U4 hm2) (c := ?_)) | refine KI ?_ | refine NB fun b => ?_ | ((refine KB ?_ ?_ <;> intro hp)) | refine KG ?_ | fail)
          all_goals first | exact J1 () trivial | (exfalso; omega)
        · by_cases h53 : t.op = 53
          · obtain ⟨x, hx⟩ := row1 h53 hrow
            obtain ⟨ad1, x1, rfl, hm1, hox1, hkx1⟩ := hkid 0 x (by rw [hx]; rfl)
            rw [extra53 h53 hx] at hex
            have h3 : t.kids.length = 1 := by rw [hx]; rfl
            have hsz := T.size_kid (t := t) (i := 0) (k := x) (by rw [hx]; rfl)
            have c7 := fun (w : World) (μc : Mem) (hw : MOk μc w) (hle : MLe μ μc) => chained_spec 100000 (Nat.le_refl _) x _ w μc hw (hkx1.mono hle) (by omega) (hks' x (by rw [hx]; exact .head _))
            rw [hex] at c7
            repeat' (first | refine KO ?_ | ((with_reducible apply C1); exact rfl; exact EN; exact fun w μc hw hse => c7 w μc hw hse.le) | (refine KV (b := by first | exact U1 0 | exact U4 hm1) (c := ?_)) | refine KI ?_ | refine NB fun b => ?_ | ((refine KB ?_ ?_ <;> intro hp)) | refine KG ?_ | fail)
            all_goals first | exact J1 () trivial | (exfalso; omega)
          · repeat' (first | refine KK ?_ | refine NB fun b => ?_ | ((refine KB ?_ ?_ <;> intro hp)) | refine KG ?_ | fail)
            all_goals first | exact J1 () trivial | (exfalso; omega)
      intro _ _
      repeat' (first | refine KK ?_ | refine NB fun b => ?_ | ((refine KB ?_ ?_ <;> intro hp)) | refine KG ?_ | fail)
      refine gc_loop (ι := Nat) (fun i => i ≤ t.kids.length ∧ ∀ (j : Nat) (k : T), j < i → t.kids[j]? = some k → RA k (ronT t j k spine)) (fun i => t.kids.length - i) (fun _ => μ) (fun i => [(7, .int .i64 i), (1, .bool spine), (2, .pointer (some ⟨b, 0, none⟩))]) (fun _ => [.inl ⟨b, 24, 6, idx 0 (encT t (.slice A t.kids.length c))⟩]) 0 ⟨by omega, fun j _ h => absurd h (by omega)⟩ (fun a w hs => J5 hs) ?_
      rintro i ⟨hi, hok⟩
      by_cases hlt : i < t.kids.length
      · have hkk : t.kids[i]? = some t.kids[i] := List.getElem?_eq_getElem hlt
        generalize t.kids[i] = k at hkk
        obtain ⟨ad, x, rfl, hm, hox, hkx⟩ := hkid i k hkk
        have hsz := T.size_kid hkk
        have hshk := sh_kid hsh (List.mem_of_getElem? hkk)
        have hskk := sh_s hshk
        have ck := fun (w : World) (μc : Mem) (hw : MOk μc w) (hle : MLe μ μc) => rLink_spec k _ w μc hw (hkx.mono hle) (by omega) (by omega)
        have hnext : RA k (ronT t i k spine) → ∀ (j : Nat) (k : T), j < i + 1 → t.kids[j]? = some k → RA k (ronT t j k spine) := fun h j k' hj hk' => by
          rcases Nat.lt_or_ge j i with h1 | h1
          · exact hok j k' h1 hk'
          · obtain rfl : j = i := by omega
            rw [hkk] at hk'
            cases hk'
            exact h
        by_cases hi0 : i = 0
        · subst hi0
          by_cases h53 : t.op = 53
          · skip
            have hon : ronT t 0 k spine = true := by simp [ronT, h53]
            have hcall := fun (w : World) (μc : Mem) (hw : MOk μc w) (hle : MLe μ μc) => ih (by omega) k x true w μc hw (hkx.mono hle) (by omega) hshk
            cases hq : raB k true
            · have hR : raB t spine = false := raB_f fun h => raB_false hq (by cases h with | mk _ _ _ h4 => exact hon ▸ h4 0 k hkk)
              rw [hR]
              rw [hq] at hcall
              repeat' (first | refine KO ?_ | ((with_reducible apply F1 23); exact rfl; exact EN; first | (exact fun w μc hw hse => ck w μc hw hse.le) | (exact fun w μc hw hse => c3 w μc hw hse.le)) | ((with_reducible apply F1 17); exact rfl; exact EN; (exact fun w μc hw hse => hcall w μc hw hse.le)) | (refine KV (b := by first | exact U1 0 | exact U4 hm) (c := ?_)) | refine KI ?_ | refine NB fun b => ?_ | ((refine KB ?_ ?_ <;> intro hp)) | refine KG ?_ | fail)
              all_goals first | exact ret_s rfl rfl rfl | (exfalso; omega)
            · have hnx := hnext (by rw [hon]; exact raB_true hq)
              rw [hq] at hcall
              repeat' (first | refine KO ?_ | ((with_reducible apply F1 23); exact rfl; exact EN; first | (exact fun w μc hw hse => ck w μc hw hse.le) | (exact fun w μc hw hse => c3 w μc hw hse.le)) | ((with_reducible apply F1 17); exact rfl; exact EN; (exact fun w μc hw hse => hcall w μc hw hse.le)) | (refine KV (b := by first | exact U1 0 | exact U4 hm) (c := ?_)) | refine KI ?_ | refine NB fun b => ?_ | ((refine KB ?_ ?_ <;> intro hp)) | refine KG ?_ | fail)
              all_goals first | exact J2 (0 + 1) ⟨by omega, hnx⟩ (by omega) | (exfalso; omega)
          · cases spine
            · skip
              have hon : ronT t 0 k false = false := by simp [ronT, h53]
              have hcall := fun (w : World) (μc : Mem) (hw : MOk μc w) (hle : MLe μ μc) => ih (by omega) k x false w μc hw (hkx.mono hle) (by omega) hshk
              cases hq : raB k false
              · have hR : raB t false = false := raB_f fun h => raB_false hq (by cases h with | mk _ _ _ h4 => exact hon ▸ h4 0 k hkk)
                rw [hR]
                rw [hq] at hcall
                repeat' (first | refine KO ?_ | ((with_reducible apply F1 23); exact rfl; exact EN; first | (exact fun w μc hw hse => ck w μc hw hse.le) | (exact fun w μc hw hse => c3 w μc hw hse.le)) | ((with_reducible apply F1 17); exact rfl; exact EN; (exact fun w μc hw hse => hcall w μc hw hse.le)) | (refine KV (b := by first | exact U1 0 | exact U4 hm) (c := ?_)) | refine KI ?_ | refine NB fun b => ?_ | ((refine KB ?_ ?_ <;> intro hp)) | refine KG ?_ | fail)
                all_goals first | exact ret_s rfl rfl rfl | (exfalso; omega)
              · have hnx := hnext (by rw [hon]; exact raB_true hq)
                rw [hq] at hcall
                repeat' (first | refine KO ?_ | ((with_reducible apply F1 23); exact rfl; exact EN; first | (exact fun w μc hw hse => ck w μc hw hse.le) | (exact fun w μc hw hse => c3 w μc hw hse.le)) | ((with_reducible apply F1 17); exact rfl; exact EN; (exact fun w μc hw hse => hcall w μc hw hse.le)) | (refine KV (b := by first | exact U1 0 | exact U4 hm) (c := ?_)) | refine KI ?_ | refine NB fun b => ?_ | ((refine KB ?_ ?_ <;> intro hp)) | refine KG ?_ | fail)
                all_goals first | exact J2 (0 + 1) ⟨by omega, hnx⟩ (by omega) | (exfalso; omega)
            · cases hlt2 : linkT t
              · rw [hlt2] at c3
                have hon : ronT t 0 k true = false := by simp [ronT, h53, hlt2]
                have hcall := fun (w : World) (μc : Mem) (hw : MOk μc w) (hle : MLe μ μc) => ih (by omega) k x false w μc hw (hkx.mono hle) (by omega) hshk
                cases hq : raB k false
                · have hR : raB t true = false := raB_f fun h => raB_false hq (by cases h with | mk _ _ _ h4 => exact hon ▸ h4 0 k hkk)
                  rw [hR]
                  rw [hq] at hcall
                  repeat' (first | refine KO ?_ | ((with_reducible apply F1 23); exact rfl; exact EN; first | (exact fun w μc hw hse => ck w μc hw hse.le) | (exact fun w μc hw hse => c3 w μc hw hse.le)) | ((with_reducible apply F1 17); exact rfl; exact EN; (exact fun w μc hw hse => hcall w μc hw hse.le)) | (refine KV (b := by first | exact U1 0 | exact U4 hm) (c := ?_)) | refine KI ?_ | refine NB fun b => ?_ | ((refine KB ?_ ?_ <;> intro hp)) | refine KG ?_ | fail)
                  all_goals first | exact ret_s rfl rfl rfl | (exfalso; omega)
                · have hnx := hnext (by rw [hon]; exact raB_true hq)
                  rw [hq] at hcall
                  repeat' (first | refine KO ?_ | ((with_reducible apply F1 23); exact rfl; exact EN; first | (exact fun w μc hw hse => ck w μc hw hse.le) | (exact fun w μc hw hse => c3 w μc hw hse.le)) | ((with_reducible apply F1 17); exact rfl; exact EN; (exact fun w μc hw hse => hcall w μc hw hse.le)) | (refine KV (b := by first | exact U1 0 | exact U4 hm) (c := ?_)) | refine KI ?_ | refine NB fun b => ?_ | ((refine KB ?_ ?_ <;> intro hp)) | refine KG ?_ | fail)
                  all_goals first | exact J2 (0 + 1) ⟨by omega, hnx⟩ (by omega) | (exfalso; omega)
              · rw [hlt2] at c3
                cases hlk : linkT k
                · rw [hlk] at ck
                  have hon : ronT t 0 k true = false := by simp [ronT, h53, hlt2, hlk]
                  have hcall := fun (w : World) (μc : Mem) (hw : MOk μc w) (hle : MLe μ μc) => ih (by omega) k x false w μc hw (hkx.mono hle) (by omega) hshk
                  cases hq : raB k false
                  · have hR : raB t true = false := raB_f fun h => raB_false hq (by cases h with | mk _ _ _ h4 => exact hon ▸ h4 0 k hkk)
                    rw [hR]
                    rw [hq] at hcall
                    repeat' (first | refine KO ?_ | ((with_reducible apply F1 23); exact rfl; exact EN; first | (exact fun w μc hw hse => ck w μc hw hse.le) | (exact fun w μc hw hse => c3 w μc hw hse.le)) | ((with_reducible apply F1 17); exact rfl; exact EN; (exact fun w μc hw hse => hcall w μc hw hse.le)) | (refine KV (b := by first | exact U1 0 | exact U4 hm) (c := ?_)) | refine KI ?_ | refine NB fun b => ?_ | ((refine KB ?_ ?_ <;> intro hp)) | refine KG ?_ | fail)
                    all_goals first | exact ret_s rfl rfl rfl | (exfalso; omega)
                  · have hnx := hnext (by rw [hon]; exact raB_true hq)
                    rw [hq] at hcall
                    repeat' (first | refine KO ?_ | ((with_reducible apply F1 23); exact rfl; exact EN; first | (exact fun w μc hw hse => ck w μc hw hse.le) | (exact fun w μc hw hse => c3 w μc hw hse.le)) | ((with_reducible apply F1 17); exact rfl; exact EN; (exact fun w μc hw hse => hcall w μc hw hse.le)) | (refine KV (b := by first | exact U1 0 | exact U4 hm) (c := ?_)) | refine KI ?_ | refine NB fun b => ?_ | ((refine KB ?_ ?_ <;> intro hp)) | refine KG ?_ | fail)
                    all_goals first | exact J2 (0 + 1) ⟨by omega, hnx⟩ (by omega) | (exfalso; omega)
                · rw [hlk] at ck
                  have hon : ronT t 0 k true = true := by simp [ronT, h53, hlt2, hlk]
                  have hcall := fun (w : World) (μc : Mem) (hw : MOk μc w) (hle : MLe μ μc) => ih (by omega) k x true w μc hw (hkx.mono hle) (by omega) hshk
                  cases hq : raB k true
                  · have hR : raB t true = false := raB_f fun h => raB_false hq (by cases h with | mk _ _ _ h4 => exact hon ▸ h4 0 k hkk)
                    rw [hR]
                    rw [hq] at hcall
                    repeat' (first | refine KO ?_ | ((with_reducible apply F1 23); exact rfl; exact EN; first | (exact fun w μc hw hse => ck w μc hw hse.le) | (exact fun w μc hw hse => c3 w μc hw hse.le)) | ((with_reducible apply F1 17); exact rfl; exact EN; (exact fun w μc hw hse => hcall w μc hw hse.le)) | (refine KV (b := by first | exact U1 0 | exact U4 hm) (c := ?_)) | refine KI ?_ | refine NB fun b => ?_ | ((refine KB ?_ ?_ <;> intro hp)) | refine KG ?_ | fail)
                    all_goals first | exact ret_s rfl rfl rfl | (exfalso; omega)
                  · have hnx := hnext (by rw [hon]; exact raB_true hq)
                    rw [hq] at hcall
                    repeat' (first | refine KO ?_ | ((with_reducible apply F1 23); exact rfl; exact EN; first | (exact fun w μc hw hse => ck w μc hw hse.le) | (exact fun w μc hw hse => c3 w μc hw hse.le)) | ((with_reducible apply F1 17); exact rfl; exact EN; (exact fun w μc hw hse => hcall w μc hw hse.le)) | (refine KV (b := by first | exact U1 0 | exact U4 hm) (c := ?_)) | refine KI ?_ | refine NB fun b => ?_ | ((refine KB ?_ ?_ <;> intro hp)) | refine KG ?_ | fail)
                    all_goals first | exact J2 (0 + 1) ⟨by omega, hnx⟩ (by omega) | (exfalso; omega)
        · skip
          have hon : ronT t i k spine = false := by simp [ronT, hi0]
          have hcall := fun (w : World) (μc : Mem) (hw : MOk μc w) (hle : MLe μ μc) => ih (by omega) k x false w μc hw (hkx.mono hle) (by omega) hshk
          cases hq : raB k false
          · have hR : raB t spine = false := raB_f fun h => raB_false hq (by cases h with | mk _ _ _ h4 => exact hon ▸ h4 i k hkk)
            rw [hR]
            rw [hq] at hcall
            repeat' (first | refine KO ?_ | ((with_reducible apply F1 23); exact rfl; exact EN; first | (exact fun w μc hw hse => ck w μc hw hse.le) | (exact fun w μc hw hse => c3 w μc hw hse.le)) | ((with_reducible apply F1 17); exact rfl; exact EN; (exact fun w μc hw hse => hcall w μc hw hse.le)) | (refine KV (b := by first | exact U1 i | exact U4 hm) (c := ?_)) | refine KI ?_ | refine NB fun b => ?_ | ((refine KB ?_ ?_ <;> intro hp)) | refine KG ?_ | fail)
            all_goals first | exact ret_s rfl rfl rfl | (exfalso; omega)
          · have hnx := hnext (by rw [hon]; exact raB_true hq)
            rw [hq] at hcall
            repeat' (first | refine KO ?_ | ((with_reducible apply F1 23); exact rfl; exact EN; first | (exact fun w μc hw hse => ck w μc hw hse.le) | (exact fun w μc hw hse => c3 w μc hw hse.le)) | ((with_reducible apply F1 17); exact rfl; exact EN; (exact fun w μc hw hse => hcall w μc hw hse.le)) | (refine KV (b := by first | exact U1 i | exact U4 hm) (c := ?_)) | refine KI ?_ | refine NB fun b => ?_ | ((refine KB ?_ ?_ <;> intro hp)) | refine KG ?_ | fail)
            all_goals first | exact J2 (i + 1) ⟨by omega, hnx⟩ (by omega) | (exfalso; omega)
      · have hR : raB t spine = true := raB_t (.mk hf hl hKB fun j k hj => hok j k (by have := (List.getElem?_eq_some_iff.1 hj).1; omega) hj)
        rw [hR]
        repeat' (first | refine KK ?_ | refine NB fun b => ?_ | ((refine KB ?_ ?_ <;> intro hp)) | refine KG ?_ | fail)
        all_goals first | exact ret_s rfl rfl rfl | (exfalso; omega)
    · have hR : raB t spine = false := raB_f fun h => by
        cases h with
        | mk h2 h3 _ _ => exact h1 ⟨h2, h3⟩
      rw [hR]
      repeat' (first | ((with_reducible show GC _ _ (Code.seq (Code.region 3 _ _) _) _ _ _ _); (apply gc_stop)) | refine KO ?_ | ((with_reducible apply F1 22); exact rfl; exact EN; (exact fun w μc hw hse => c2 w μc hw hse.le)) | ((with_reducible apply F1 23); exact rfl; exact EN; (exact fun w μc hw hse => c3 w μc hw hse.le)) | refine KI ?_ | refine NB fun b => ?_ | ((refine KB ?_ ?_ <;> intro hp)) | refine KG ?_ | fail)
      all_goals first | exact ret_s rfl rfl rfl | (exfalso; clear c2 c3 c4 c5 c6 hk hkid hμ hks hks' hsh ih; simp_all; done) | (exfalso; clear c2 c3 c4 c5 c6 hk hkid hμ hks hks' hsh ih; simp_all; omega) | (exfalso; omega)
theorem rRight_spec (t : T) (u : Value) (w : World) (μ : Mem) (hμ : MOk μ w) (hk : KR μ t.kids u) (hs : t.size ≤ 100000) (hsh : Sh t) :
    Calls Tryd.prog 9 #[.agg (encT t u).toArray] w fun e w' => e = .returned (.bool (rtB t 1 false)) ∧ Below w.heap.size w w' := by
  have ho := hk.one
  rw [right_law]
  refine call_intro (args := [.agg (encT t u).toArray]) Tryd.func9 rfl Tryd.ntmps9 (by simp) hμ ?_
  repeat' (first | refine KO ?_ | ((with_reducible apply F1 16); exact rfl; exact EN; (exact fun w μc hw hse => rDepth_spec 100000 (Nat.le_refl _) t _ w μc hw hs ⟨u, rfl, hk.mono hse.le⟩)) | ((with_reducible apply F1 17); exact rfl; exact EN; (exact fun w μc hw hse => rAll_spec 100000 (Nat.le_refl _) t u false w μc hw (hk.mono hse.le) hs hsh)) | refine KI ?_ | refine NB fun b => ?_ | ((refine KB ?_ ?_ <;> intro hp)) | refine KG ?_ | fail)
  all_goals (refine ret_s rfl rfl ?_; simp_all; try omega)
theorem tRight_spec (t : T) (u : Value) (w : World) (μ : Mem) (hμ : MOk μ w) (hk : KR μ t.kids u) (hs : t.size ≤ 100000) (hsh : Sh t) (hT : TabA μ) :
    Calls Tryd.prog 13 #[.agg (encT t u).toArray] w fun e w' => e = .returned (.bool (rtB t 1 false)) ∧ Below w.heap.size w w' := by
  have ho := hk.one
  refine call_intro (args := [.agg (encT t u).toArray]) Tryd.func13 rfl Tryd.ntmps13 (by simp) hμ ?_
  repeat' (first | refine KO ?_ | ((with_reducible apply C1); exact rfl; exact EN; exact fun w μc hw hse => right_spec 100000 (Nat.le_refl _) t u 1 false w μc hw (hk.mono hse.le) hs (by decide) hsh (hT.mono hse.le)) | refine KI ?_ | refine NB fun b => ?_ | ((refine KB ?_ ?_ <;> intro hp)) | refine KG ?_ | fail)
  exact ret_s rfl rfl rfl
end Go.Proofs.YtnllooebophcpaaDoor
namespace Go.Vcg
open Go.RowKit
section
variable {P : Program} {X : Ctx} {ops : Array Oper} {Q : Exit → Act → World → Prop} {ds : List Deferred} {μ : Mem} {l : Slots} {L : List Bk} {a : Act} {w : World} {d : Nat}
theorem call_introD {f : FuncId} {fn : Func} {c : Code} {args : List Value} {n : Nat} {R : Ending → World → Prop} (hf : P.funcs[f]? = some fn) (hb : fn.body = some c) (hn : fn.ntmps = n) (hsz : args.length ≤ n)
    (hμ : MOk μ w) (h : GC P ⟨w, μ, [], n⟩ c (bodyPostD P fn R) μ (idx 0 args) []) : Calls P f args.toArray w R := by
  refine calls_of_wp_defers hf hb (h _ _ ⟨?_, Marks.nil, fun t v hv => ?_, Keep.refl _ _, hμ, MLe.refl _, fun _ _ _ h => h, by simp, by simp, by simp, List.Pairwise.nil⟩)
  · simp [hn]; omega
  · obtain ⟨_, h2⟩ := lk_idx _ _ _ _ hv
    have hlt : t < args.length := by have := (List.getElem?_eq_some_iff.1 h2).1; simpa using this
    simp only [Nat.sub_zero] at h2
    rw [Array.getElem?_append_left (by simpa using hlt)]
    simpa using h2
def GDs (P : Program) (X : Ctx) (ds : List Deferred) (c : Code) (Q : Exit → Act → World → Prop) (μ : Mem) (l : Slots) (L : List Bk) : Prop := GD P X ds c Q μ l L
theorem gd_stop {c : Code} (h : GDs P X ds c Q μ l L) : GD P X ds c Q μ l L := h
theorem gds {c : Code} (h : GD P X ds c Q μ l L) : GDs P X ds c Q μ l L := h
theorem g_sel {rest : List Oper} {l' : Slots} {L' : List Bk} (hl : SubS l' l) (hL : Sel L' L) (h : G P X ops Q rest μ l' L') : G P X ops Q rest μ l L := fun a w hs => h a w (hs.sel hl hL)
theorem g_nilR {rest : List Oper} (e s : Nat) (h : G P X ops Q rest μ l (.inr ⟨.slice none 0 0, e, s, 0, []⟩ :: L)) : G P X ops Q rest μ l L := fun a w hs => h a w (hs.nilRow e s)
theorem gd_rowOk {k : Code} {v : Value} {e s n : Nat} {ys : List Value} (i : Nat) (hi : nthB L i = some (.inr ⟨v, e, s, n, ys⟩)) (h : ∀ A c, v = .slice A n c → RowOk A n c s ys → GD P X ds k Q μ l L) : GD P X ds k Q μ l L := fun a w hs => by
  obtain ⟨A, c, h1, h2⟩ := hs.rowOk hi
  exact h A c h1 h2 a w hs
def NP (Q : Exit → Act → World → Prop) : Exit → Act → World → Prop
  | .panic _, _, _ => False
  | e, a, w => Q e a w
theorem np_normal (h : GQ X Q .normal μ l L) : GQ X (NP Q) .normal μ l L := h
theorem np_le (e : Exit) (a : Act) (w : World) (h : NP (QD ds Q) e a w) : Q e (addD a ds) w := by
  cases e
  case panic => exact False.elim h
  all_goals exact h
theorem wpOp_add {K K' : Act → World → Prop} {Q0 : Exit → Act → World → Prop} (hQ : ∀ e a w, Q0 e a w → Q e (addD a ds) w) (hK : ∀ a w, K a w → K' (addD a ds) w) (i : Nat) (a : Act) (w : World) (h : wpOp P ops Q0 i K a w) : wpOp P ops Q i K' (addD a ds) w := by
  unfold wpOp at *
  split at h
  · exact hK _ _ h
  · rename_i o _
    have ht : (addD a ds).tmps = a.tmps := rfl
    rw [ht]
    split at h
    · rename_i hw
      rw [if_pos hw]
      rcases h with h | ⟨h1, a0, w0, h0⟩
      · left
        unfold Oper.wp at *
        exact upon_add (a := a) hK hQ h
      · exact .inr ⟨h1, _, w0, hQ _ _ _ h0⟩
    · rename_i hw
      rw [if_neg hw, addD_put]
      exact hK _ _ h
theorem wpAny_add {md : Region.Mode} {Q0 : Exit → Act → World → Prop} (hQ : ∀ e a w, Q0 e a w → Q e (addD a ds) w) : ∀ (fuel : Nat) (listed : Array Bool) (a : Act) (w : World), wpAny P md ops Q0 fuel listed a w → wpAny P md ops Q fuel listed (addD a ds) w
  | 0, _, _, _, h => ⟨h.1, hQ _ _ _ h.2⟩
  | fuel + 1, _, a, w, h => ⟨fun hr => hQ _ _ _ (h.1 hr), fun i hi => wpOp_add hQ (fun a' w' h' => wpAny_add hQ fuel _ a' w' h') i a w (h.2 i hi)⟩
theorem gd_draw {id : Nat} (k : Nat) (Lr : List Bk) (hm : P.follows .mixedOrders = true) (hn : ops.size = k) (hL : Lr.Sublist L) (h : GA P X μ Lr ops (NP (QD ds Q)) k (Array.replicate k false) μ l L) : GD P X ds (.region id ops true) Q μ l L :=
  fun a _ hs => wp_region_any hm (wpAny_add (Q0 := NP (QD ds Q)) np_le _ _ _ _ (wpAny_of_held _ _ _ _ (by subst hn; exact h a _ hs.draw ⟨hs.draw.mem, fun x hx => hs.draw.own x (hL.subset hx)⟩)))
theorem ret_D {fn : Func} {n : Nat} {rs : List ResultVar} {vs : List Value} {μ0 : Mem} {Post : Mem → Value → Prop} (hr : fn.results = rs.toArray) (h : RVs P μ l L rs vs) (hl : Nat.beq vs.length 1 = false) (hp : ∀ μ', MLe μ μ' → (∀ x ∈ L, Bk.sh x μ') → Post μ' (.tuple vs.toArray)) :
    GQ ⟨w, μ0, [], n⟩ (bodyPostD P fn (fun e w' => ∃ v μ', e = .returned v ∧ Grow w w' μ0 μ' ∧ Post μ' v)) .ret μ l L := fun a w' hs => by
  obtain ⟨μ', hg, hle, hL⟩ := hs.publish
  show Leaves P fn a.tmps _ a.defers .returning w'
  rw [hs.defers.none (by simp)]
  exact ⟨_, resultsN hr h hl hs.rd, _, μ', rfl, hg, hp μ' hle hL⟩
theorem ret_DQ {fn : Func} {n : Nat} {rs : List ResultVar} {vs cap : List Value} {f : FuncId} {μ0 : Mem} {Post : Mem → Value → Prop} (hq : Go.Rex.QuietF P f) (hc : callable P f = true) (hr : fn.results = rs.toArray) (h : RVs P μ l L rs vs) (hl : Nat.beq vs.length 1 = false) (hp : ∀ μ', MLe μ μ' → (∀ x ∈ L, Bk.sh x μ') → Post μ' (.tuple vs.toArray)) :
    GQ ⟨w, μ0, [], n⟩ (QD [{ target := .fn (.func f) cap.toArray, args := #[] }] (bodyPostD P fn (fun e w' => ∃ v μ', e = .returned v ∧ Grow w w' μ0 μ' ∧ Post μ' v))) .ret μ l L := fun a w' hs => by
  show Leaves P fn a.tmps _ (a.defers ++ [_]) .returning w'
  rw [hs.defers.none (by simp), List.nil_append]
  refine leaves_cons (by simp) (by simpa [invoke] using enters_callable hc _ w') ((hq _ w').mono fun e u' w2 he => ?_)
  obtain ⟨⟨v, rfl⟩, rfl, hb⟩ := he
  have hs2 := hs.drop_world hb
  obtain ⟨μ', hg, hle, hL⟩ := hs2.publish
  exact ⟨_, resultsN hr h hl hs2.rd, _, μ', rfl, hg, hp μ' hle hL⟩
theorem pan_D {fn : Func} {n : Nat} {rs : List ResultVar} {vs cap : List Value} {f : FuncId} {μ0 : Mem} {x : Value} {LB LB' Lr : List Bk} {Post : Mem → Value → Prop} (hc : callable P f = true)
    (hq : ∀ w, MOk μ w → Own μ LB w → CallsD P f cap.toArray (.panicking (pan x)) w fun e u' w' => (∃ v, e = .returned v) ∧ u' = .panicking [{ v := x, recovered := true }] ∧ BackM (idsOf LB) w w' μ LB' μ)
    (hr : fn.results = rs.toArray) (h : RVs P μ l (LB' ++ Lr) rs vs) (hl : Nat.beq vs.length 1 = false) (hp : ∀ μ', MLe μ μ' → (∀ x ∈ LB' ++ Lr, Bk.sh x μ') → Post μ' (.tuple vs.toArray)) :
    GQ ⟨w, μ0, [], n⟩ (QD [{ target := .fn (.func f) cap.toArray, args := #[] }] (bodyPostD P fn (fun e w' => ∃ v μ', e = .returned v ∧ Grow w w' μ0 μ' ∧ Post μ' v))) (.panic (pan x)) μ l (LB ++ Lr) := fun a w' hs => by
  show Leaves P fn a.tmps _ (a.defers ++ [_]) (.panicking (pan x)) w'
  rw [hs.defers.none (by simp), List.nil_append]
  have hO : Own μ LB w' := ⟨fun y hy => hs.own y (List.mem_append_left _ hy), fun y hy => hs.priv y (List.mem_append_left _ hy), (List.pairwise_append.1 hs.diff).1⟩
  refine leaves_cons (by simp) (by simpa [invoke] using enters_callable hc _ w') ((hq w' hs.mem hO).mono fun e u' w2 he => ?_)
  obtain ⟨⟨v, rfl⟩, rfl, hb⟩ := he
  have hs2 := hs.borrow hb
  obtain ⟨μ', hg, hle, hL⟩ := hs2.publish
  exact ⟨_, resultsN hr h hl hs2.rd, _, μ', rfl, hg, hp μ' hle hL⟩
end
end Go.Vcg
namespace Go.Proofs.YtnllooebophcpaaDoor
open Go.RowKit Go.Vcg
theorem fitP_pos {p : T → Bool} {r : List ((T → Bool) × Int)} {ks : List T} (h : fitP ((p, 0) :: r) ks = true) : 0 < ks.length := by
  rw [fitP_0] at h
  cases ks with
  | nil => cases h
  | cons k r => simp
theorem wf_of_rt {t : T} {d : Nat} {sp : Bool} (h : Rt t d sp) : Wf t := by
  induction h with
  | @mk t d sp hd hn hk hr ih =>
    refine .mk (fun h => ?_) fun k hkm => ?_
    · unfold kidsB at hk
      rcases h with h | h
      · rw [if_pos (by omega)] at hk
        unfold stB at hk
        rw [if_neg (by omega), if_neg (by omega), if_neg (by omega), if_neg (by omega), if_neg (by omega), if_neg (by omega), if_neg (by omega), if_neg (by omega), if_neg (by omega), if_neg (by omega), if_neg (by omega), if_neg (by omega), if_neg (by omega), if_neg (by omega), if_neg (by omega), if_neg (by omega), if_neg (by omega)] at hk
        exact fitP_pos hk
      · rw [if_pos (by omega)] at hk
        unfold stB at hk
        rw [if_neg (by omega), if_neg (by omega), if_neg (by omega), if_neg (by omega), if_neg (by omega), if_neg (by omega), if_neg (by omega), if_neg (by omega), if_neg (by omega), if_neg (by omega), if_neg (by omega), if_neg (by omega), if_neg (by omega), if_neg (by omega), if_pos h] at hk
        exact fitP_pos hk
    · obtain ⟨i, hi⟩ := List.mem_iff_getElem?.1 hkm
      exact ih i k hi
end Go.Proofs.YtnllooebophcpaaDoor
namespace Go.Proofs.YtnllooebophcpaaDoor
open Go.RowKit Go.Vcg Go.Rex
noncomputable def lofR (t : T) : LRes := if rtB t 1 false = true ∧ (t.op = 4 ∨ t.op = 1) then ofF 100000 t else .error (0, 1)
def LofPost (r : LRes) (μ : Mem) (v : Value) : Prop := match r with
  | .ok s => ∃ (A : Option Addr) (c : Nat) (B : Option Addr) (d : Nat), v = .tuple #[.slice A s.marks.length c, .slice B s.jumps.length d, .int .i64 0, .int .i64 0] ∧ Sl encM 3 μ A s.marks.length s.marks ∧ Sl encJ 2 μ B s.jumps.length s.jumps
  | .error x => v = .tuple #[.slice none 0 0, .slice none 0 0, .int .i64 x.1, .int .i64 x.2]
theorem fits0 {t : T} (h : t.size ≤ 100000) : Fits S0 (szs t.kids) := by
  have := t.size_kids
  exact ⟨by simp [S0]; omega, by simp [S0]; omega, by simp [S0]; omega⟩
attribute [local irreducible] ofF nodeF rtB G GC GQ GA GAop GI GCI GD Calls IntKind.wrap Int.decLt Int.decLe
theorem lof_spec (t : T) (u : Value) (w : World) (μ : Mem) (hμ : MOk μ w) (hk : KR μ t.kids u) (hs : t.size ≤ 100000) (hsh : Sh t) (hT : TabA μ) :
    Calls Tryd.prog 8 #[.agg (encT t u).toArray] w fun e w' => ∃ v μ', e = .returned v ∧ Grow w w' μ μ' ∧ LofPost (lofR t) μ' v := by
  have ho := hk.one
  obtain ⟨res, hres⟩ : ∃ res, lofR t = res := ⟨_, rfl⟩
  rw [hres]
  unfold lofR at hres
  refine call_introD (args := [.agg (encT t u).toArray]) Tryd.func8 rfl Tryd.ntmps8 (by simp) hμ ?_
  have hr := fun (w : World) (μc : Mem) (hw : MOk μc w) (hle : MLe μ μc) => tRight_spec t u w μc hw (hk.mono hle) hs hsh (hT.mono hle)
  by_cases hc : rtB t 1 false = true ∧ (t.op = 4 ∨ t.op = 1)
  · rw [if_pos hc] at hres
    obtain ⟨hrt, hop⟩ := hc
    have hwf := wf_of_rt (rtB_true hrt)
    rw [hrt] at hr
    obtain ⟨A, c, rfl, hlc, hkid⟩ := hk.form
    have hK := kids_of_node (node_spec 100000)
    have hks : ∀ k ∈ t.kids, k.size ≤ 100000 ∧ Wf k := fun k hkm => by
      obtain ⟨j, hj⟩ := List.mem_iff_getElem?.1 hkm
      have := T.size_kid hj
      exact ⟨by omega, hwf.kid hj⟩
    have hts := t.size_kids
    have hf0 := fits0 hs
    repeat' (first | ((with_reducible show GC _ _ (Code.seq (Code.seq (Code.region 1 _ _) _) _) _ _ _ _); (apply gc_stop)) | refine KK ?_ | refine NB fun b => ?_ | ((refine KB ?_ ?_ <;> intro hp)) | refine KG ?_ | fail)
    rename_i bn bm bj ba
    obtain ⟨be, hbe⟩ : ∃ x, x = b := ⟨_, rfl⟩
    rw [← hbe]
    clear hbe
    refine gcs (gc_join (ι := Unit) (fun _ => True) (fun _ => μ) (fun _ => [(1, .pointer (some ⟨bn, 0, none⟩)), (2, .pointer (some ⟨bm, 0, none⟩)), (3, .pointer (some ⟨bj, 0, none⟩)), (4, .pointer (some ⟨ba, 0, none⟩)), (5, .pointer (some ⟨be, 0, none⟩))]) (fun _ => boxes bm bj ba be ++ [.inl ⟨bn, 24, 6, idx 0 (encT t (.slice A t.kids.length c))⟩]) ?_ ?_)
    · repeat' (first | refine KO ?_ | ((with_reducible apply C1); exact rfl; exact EN; (exact fun w μc hw hse => hr w μc hw hse.le)) | refine KI ?_ | refine NB fun b => ?_ | ((refine KB ?_ ?_ <;> intro hp)) | refine KG ?_ | fail)
      all_goals first | (exfalso; omega) | exact J1 () trivial
    intro _ _
    dsimp only [List.cons_append, List.nil_append]
    refine gc_seq (gc_region ?_)
    repeat' (first | refine KK ?_ | refine NB fun b => ?_ | ((refine KB ?_ ?_ <;> intro hp)) | refine KG ?_ | fail)
    refine g_defer (dd := { target := .fn (.func 14) #[.pointer (some ⟨bm, 0, none⟩), .pointer (some ⟨bj, 0, none⟩), .pointer (some ⟨ba, 0, none⟩), .pointer (some ⟨be, 0, none⟩)], args := #[] }) rfl rfl (fun a w hr => ?_) ?_ (by simp)
    · have e := hr.eval (x := .tmp 20) rfl
      generalize a.eval = ρ at e
      simp [execOp, resolve, e, Deferred.ofValue]
    refine g_nil (qd_then ?_)
    repeat' (first | ((with_reducible (first | apply gd_seq | apply gd_region | apply qd_then | apply gd_ret | apply gd_skip | apply qd_then_panic))) | ((with_reducible show GD _ _ _ (Code.seq (Code.region 5 _ _) _) _ _ _ _); (apply gd_stop)) | refine KK ?_ | refine NB fun b => ?_ | ((refine KB ?_ ?_ <;> intro hp)) | refine KG ?_ | fail)
    refine g_nilR 35 2 (g_nilR 33 3 (g_sel (l' := [(26, .agg #[.int .i64 (-1), .int .i64 (-1), .slice none 0 0]), (25, .slice A t.kids.length c), (23, .pointer (some ⟨b, 0, none⟩)), (6, .pointer (some ⟨b, 0, none⟩)), (1, .pointer (some ⟨bn, 0, none⟩)), (2, .pointer (some ⟨bm, 0, none⟩)), (3, .pointer (some ⟨bj, 0, none⟩)), (4, .pointer (some ⟨ba, 0, none⟩)), (5, .pointer (some ⟨be, 0, none⟩))]) (L' := finB b S0 (.slice none 0 0, .slice none 0 0) ++ (boxes bm bj ba be ++ [.inl ⟨bn, 24, 6, idx 0 (encT t (.slice A t.kids.length c))⟩])) PU PS ?_))
    dsimp only [List.cons_append, List.nil_append]
    have hcall := fun (w2 : World) (hw2 : MOk μ w2) (hO2 : Go.Vcg.Own μ (finB b S0 (.slice none 0 0, .slice none 0 0)) w2) => hK t.kids _ P0 (.slice none 0 0) S0 (.slice none 0 0, .slice none 0 0) b w2 μ hw2 hO2 hk hks (.inl ⟨rfl, rfl⟩) hf0 (by simp [P0]; omega)
    unfold ofF at hres
    rw [hres] at hcall
    cases res with
    | error x =>
      repeat' (first | ((with_reducible (first | apply gd_seq | apply gd_region | apply qd_then | apply gd_ret | apply gd_skip | apply qd_then_panic))) | refine KO ?_ | ((with_reducible apply g_enter_pan 3); exact rfl; ((with_reducible apply e_call3); kernel_rfl; exact rfl; exact rfl; exact rfl); exact rfl; (exact hcall)) | refine KI ?_ | refine NB fun b => ?_ | ((refine KB ?_ ?_ <;> intro hp)) | refine KG ?_ | fail)
      exact pan_D (LB := boxes bm bj ba be) (LB' := boxesP bm bj ba be x) (Lr := [.inl ⟨bn, 24, 6, idx 0 (encT t (.slice A t.kids.length c))⟩]) (cap := [.pointer (some ⟨bm, 0, none⟩), .pointer (some ⟨bj, 0, none⟩), .pointer (some ⟨ba, 0, none⟩), .pointer (some ⟨be, 0, none⟩)]) (vs := [.slice none 0 0, .slice none 0 0, .int .i64 x.1, .int .i64 x.2]) (by kernel_rfl) (fun w2 hw2 hO2 => of1_panic x bm bj ba be w2 μ hw2 hO2) rfl (rvs_cons (rv_one 0 rfl rfl rfl rfl rfl) (rvs_cons (rv_one 1 rfl rfl rfl rfl rfl) (rvs_cons (rv_one 2 rfl rfl rfl rfl rfl) (rvs_cons (rv_one 3 rfl rfl rfl rfl rfl) rvs_nil)))) rfl (fun _ _ _ => rfl)
    | ok s =>
      repeat' (first | ((with_reducible show GD _ _ _ (Code.region 6 _ _) _ _ _ _); (apply gd_stop)) | ((with_reducible (first | apply gd_seq | apply gd_region | apply qd_then | apply gd_ret | apply gd_skip | apply qd_then_panic))) | refine KO ?_ | ((with_reducible apply g_enter_bor (Ls := finB b s) (Post := fun _ _ _ => True) 3); exact rfl; exact rfl; exact rfl; ((with_reducible apply e_call3); kernel_rfl; exact rfl; exact rfl; exact rfl); exact rfl; (exact hcall); (rintro v2 μ2 ⟨mv, jv⟩ hle2 -); (dsimp only [List.cons_append, List.nil_append])) | refine KI ?_ | refine NB fun b => ?_ | ((refine KB ?_ ?_ <;> intro hp)) | refine KG ?_ | fail)
      refine gds (gd_rowOk 1 rfl ?_)
      rintro A1 c1 rfl hok1
      refine gd_rowOk 2 rfl ?_
      rintro A2 c2 rfl hok2
      refine gd_draw 12 _ (by kernel_rfl) rfl (List.Sublist.cons_cons _ (List.Sublist.cons_cons _ (List.Sublist.cons_cons _ (List.Sublist.cons _ (List.Sublist.cons _ (List.Sublist.cons _ (List.Sublist.cons _ (List.Sublist.cons_cons _ (List.nil_sublist _))))))))) ?_
      all_goals refine DD 0 ?_
      all_goals refine DD 1 ?_
      all_goals refine DD 2 ?_
      all_goals refine DD 3 ?_
      all_goals refine DD 4 ?_
      all_goals refine DD 5 ?_
      all_goals refine DD 6 ?_
      all_goals refine DD 7 ?_
      all_goals (first | (refine D3 8 ?_; refine D5 ?_; refine Y0 ?_; refine D9 ?_))
      all_goals (first | (refine D3 9 ?_; refine D5 ?_; refine Y0 ?_; refine D9 ?_))
      all_goals (first | (refine D3 10 ?_; refine D5 ?_; refine Y0 ?_; refine D9 ?_))
      all_goals (first | (refine D3 11 ?_; refine D5 ?_; refine Y0 ?_; refine D9 ?_))
      all_goals refine D8 ?_
      all_goals refine np_normal ?_
      all_goals repeat' (first | ((with_reducible (first | apply gd_seq | apply gd_region | apply qd_then | apply gd_ret | apply gd_skip | apply qd_then_panic))) | refine KK ?_ | refine NB fun b => ?_ | ((refine KB ?_ ?_ <;> intro hp)) | refine KG ?_ | fail)
      all_goals refine gq_sel (l' := [(2, .pointer (some ⟨bm, 0, none⟩)), (3, .pointer (some ⟨bj, 0, none⟩)), (4, .pointer (some ⟨ba, 0, none⟩)), (5, .pointer (some ⟨be, 0, none⟩))]) (L' := [.inl ⟨bm, 27, 1, [(0, .slice A1 s.marks.length c1)]⟩, .inl ⟨bj, 28, 1, [(0, .slice A2 s.jumps.length c2)]⟩, .inl ⟨ba, 3, 1, [(0, .int .i64 0)]⟩, .inl ⟨be, 29, 1, [(0, .int .i64 0)]⟩, .inr ⟨.slice A1 s.marks.length c1, 33, 3, s.marks.length, s.marks.flatMap encM⟩, .inr ⟨.slice A2 s.jumps.length c2, 35, 2, s.jumps.length, s.jumps.flatMap encJ⟩]) PU PS ?_
      all_goals exact ret_DQ (cap := [.pointer (some ⟨bm, 0, none⟩), .pointer (some ⟨bj, 0, none⟩), .pointer (some ⟨ba, 0, none⟩), .pointer (some ⟨be, 0, none⟩)]) (vs := [.slice A1 s.marks.length c1, .slice A2 s.jumps.length c2, .int .i64 0, .int .i64 0]) quiet_of1 (by kernel_rfl) rfl (rvs_cons (rv_one 0 rfl rfl rfl rfl rfl) (rvs_cons (rv_one 1 rfl rfl rfl rfl rfl) (rvs_cons (rv_one 2 rfl rfl rfl rfl rfl) (rvs_cons (rv_one 3 rfl rfl rfl rfl rfl) rvs_nil)))) rfl (fun μ' hle hL => ⟨A1, c1, A2, c2, rfl, sl_of_row (enc := encM) (e := 33) (c := c1) (xs := s.marks) (hL _ (by simp)) rfl (by simp [encM]) rfl, sl_of_row (enc := encJ) (e := 35) (c := c2) (xs := s.jumps) (hL _ (by simp)) rfl (by simp [encJ]) rfl⟩)
  · rw [if_neg hc] at hres
    subst hres
    cases hb : rtB t 1 false
    · rw [hb] at hr
      repeat' (first | refine KO ?_ | ((with_reducible apply C1); exact rfl; exact EN; (exact fun w μc hw hse => hr w μc hw hse.le)) | refine KI ?_ | refine NB fun b => ?_ | ((refine KB ?_ ?_ <;> intro hp)) | refine KG ?_ | fail)
      all_goals exact ret_D (vs := [.slice none 0 0, .slice none 0 0, .int .i64 0, .int .i64 1]) rfl (rvs_cons (rv_one 3 rfl rfl rfl rfl rfl) (rvs_cons (rv_one 2 rfl rfl rfl rfl rfl) (rvs_cons (rv_one 1 rfl rfl rfl rfl rfl) (rvs_cons (rv_one 0 rfl rfl rfl rfl rfl) rvs_nil)))) rfl (fun _ _ _ => rfl)
    · rw [hb] at hr
      have h4 : ¬ t.op = 4 := fun h => hc ⟨hb, .inl h⟩
      have h1 : ¬ t.op = 1 := fun h => hc ⟨hb, .inr h⟩
      repeat' (first | refine KO ?_ | ((with_reducible apply C1); exact rfl; exact EN; (exact fun w μc hw hse => hr w μc hw hse.le)) | refine KI ?_ | refine NB fun b => ?_ | ((refine KB ?_ ?_ <;> intro hp)) | refine KG ?_ | fail)
      all_goals first | (exfalso; omega) | exact ret_D (vs := [.slice none 0 0, .slice none 0 0, .int .i64 0, .int .i64 1]) rfl (rvs_cons (rv_one 3 rfl rfl rfl rfl rfl) (rvs_cons (rv_one 2 rfl rfl rfl rfl rfl) (rvs_cons (rv_one 1 rfl rfl rfl rfl rfl) (rvs_cons (rv_one 0 rfl rfl rfl rfl rfl) rvs_nil)))) rfl (fun _ _ _ => rfl)
end Go.Proofs.YtnllooebophcpaaDoor
namespace Go.Proofs.YtnllooebophcpaaDoor
open Go.RowKit Go.Vcg
theorem lof_ok {t : T} {s : LS} (h : lofR t = .ok s) : rtB t 1 false = true ∧ (t.op = 4 ∨ t.op = 1) ∧ ofF 100000 t = .ok s := by
  unfold lofR at h
  split at h
  · rename_i hc
    exact ⟨hc.1, hc.2, h⟩
  · cases h
theorem kidsF_err {f : T → LP → LS → LRes} {x : Int × Int} (hf : ∀ t p s, f t p s = .error x → x.2 = 31 ∨ x.2 = 32) : ∀ (ks : List T) (p : LP) (s : LS), kidsF f ks p s = .error x → x.2 = 31 ∨ x.2 = 32
  | [], p, s, h => by cases h
  | k :: r, p, s, h => by
    unfold kidsF at h
    split at h
    · exact kidsF_err hf r p _ h
    · rename_i e he
      cases h
      exact hf _ _ _ he
theorem aroundK_err {f : T → LP → LS → LRes} {x : Int × Int} {a : Nat} {p q : LP} (hf : ∀ t p s, f t p s = .error x → x.2 = 31 ∨ x.2 = 32) : ∀ (ks : List T) (i : Nat) (s : LS), aroundK f a p q i ks s = .error x → x.2 = 31 ∨ x.2 = 32
  | [], i, s, h => by cases h
  | k :: r, i, s, h => by
    unfold aroundK at h
    split at h
    · exact aroundK_err hf r _ _ h
    · rename_i e he
      cases h
      exact hf _ _ _ he
theorem nodeF_err {x : Int × Int} : ∀ (n : Nat) (t : T) (p : LP) (s : LS), nodeF n t p s = .error x → x.2 = 31 ∨ x.2 = 32
  | 0, t, p, s, h => by cases h
  | n + 1, t, p, s, h => by
    have ih := nodeF_err (x := x) n
    unfold nodeF at h
    split at h
    · cases h
    split at h
    · unfold jumpF at h
      split at h
      · split at h
        · cases h; exact .inr rfl
        · cases h
      · split at h
        · cases h; exact .inl rfl
        · split at h
          · cases h; exact .inr rfl
          · cases h
    split at h
    · split at h
      · cases h; exact .inl rfl
      · exact kidsF_err ih _ _ _ h
    split at h
    · split at h
      · rename_i e he
        cases h
        exact kidsF_err ih _ _ _ he
      · exact kidsF_err ih _ _ _ h
    split at h
    · exact aroundK_err ih _ _ _ h
    · exact kidsF_err ih _ _ _ h
theorem lof_err {t : T} {x : Int × Int} (h : lofR t = .error x) : ¬ x.2 = 0 := by
  unfold lofR at h
  split at h
  · have := kidsF_err (nodeF_err 100000) _ _ _ h
    omega
  · cases h
    decide
theorem runM_le : ∀ (xs : List (Int × Int × Int)) (n k : Int), runM xs n = some k → n ≤ k
  | [], n, k, h => by cases h; exact Int.le_refl _
  | m :: r, n, k, h => by
    unfold runM at h
    split at h
    · have := runM_le r _ k h
      split at this <;> omega
    · cases h
def TabM (μ : Mem) : Prop := ∀ g cs, (g, cs) ∈ T1 → g < 1000 ∧ Rex.flats cs = true ∧ ∃ t f, μ g = some (.cells cs.toArray t f)
theorem TabM.ok {μ μ' : Mem} {w : World} (h : TabM μ) (hle : MLe μ μ') (hw : MOk μ' w) : Rex.TabsOk 1000 w T1 := fun g cs hm => by
  obtain ⟨h1, h2, t, f, h3⟩ := h g cs hm
  exact ⟨h1, h2, t, f, hw _ _ (hle _ _ h3)⟩
attribute [local irreducible] ofF nodeF rtB G GC GQ GA GAop GI GCI GD Calls IntKind.wrap Int.decLt Int.decLe
end Go.Proofs.YtnllooebophcpaaDoor
namespace Go.Vcg
open Go.RowKit
section
variable {P : Program} {μ : Mem} {l : Slots} {L : List Bk} {ty : TypeId} {pos : String} {af : Array Edge} {gd : Option (Nat × Bool)} {ds : Option Nat}
theorem v_max3 {x y z : Operand} {ts : Array TypeId} {i j k r : Int} (h0 : ev l x = some (.int .i64 i)) (h1 : ev l y = some (.int .i64 j)) (h2 : ev l z = some (.int .i64 k)) (hr : max (max i j) k = r) : Val P μ l L ⟨ds, .call { callee := .builtin .max, args := #[x, y, z], argTypes := ts }, ty, pos, af, gd⟩ (.int .i64 r) := fun a w hs => by
  have e0 := hs.eval h0
  have e1 := hs.eval h1
  have e2 := hs.eval h2
  generalize a.eval = ρ at e0 e1 e2
  subst hr
  have e3 : ∀ i j : Int, (if i < j then j else i) = max i j := fun i j => by split <;> omega
  simp [execOp, resolve, invoke, builtin, Builtin.max_, Builtin.max2, e0, e1, e2, e3]
end
end Go.Vcg
namespace Go.Proofs.YtnllooebophcpaaDoor
open Go.RowKit Go.Vcg
def joinT (a b : T) : T := T.mk 1 0 0 0 ⟨#[]⟩ (a.kids ++ b.kids)
theorem join_sh {a b : T} (ha : Sh a) (hb : Sh b) : Sh (joinT a b) := by
  refine .mk (Nat.zero_le _) (show In64 1 by unfold In64; omega) (show In64 0 by unfold In64; omega) (show In64 0 by unfold In64; omega) fun k hk => ?_
  rcases List.mem_append.1 hk with h | h
  · exact sh_kid ha h
  · exact sh_kid hb h
theorem join_size (a b : T) : (joinT a b).size + 1 = a.size + b.size := by
  rw [T.size_eq (joinT a b), T.size_eq a, T.size_eq b]
  show 1 + ((a.kids ++ b.kids).map T.size).sum + 1 = _
  rw [List.map_append, List.sum_append]
  omega
theorem join_right {a b : T} (ha : rtB a 1 false = true) (hb : rtB b 1 false = true) (oa : a.op = 1) (ob : b.op = 1) : rtB (joinT a b) 1 false = true := by
  have h1 := rtB_true ha
  have h2 := rtB_true hb
  cases h1 with
  | mk hd hn hk hr =>
    cases h2 with
    | mk hd2 hn2 hk2 hr2 =>
      have hj : (joinT a b).op = 1 := rfl
      refine rtB_t (.mk hd ⟨?_, ?_, ?_⟩ ?_ fun i k hi => ?_)
      · rw [hj, ← oa]; exact hn.1
      · unfold fieldsT
        rw [if_neg (by simp [badT, joinT, T.at', T.m]), if_neg (by rw [hj]; decide), hj]
        simp only [Bool.and_eq_true, decide_eq_true_eq]
        refine ⟨⟨Int.le_refl 0, show (0 : Int) ≤ mostT 1 by decide⟩, ?_⟩
        unfold wordT
        rw [hj]
        simp [joinT, T.s]
      · simp [linkT, hj]
      · unfold kidsB at *
        rw [if_pos (by omega)] at hk hk2
        rw [if_pos (by rw [hj]; decide)]
        unfold stB at *
        rw [if_pos (.inl oa)] at hk
        rw [if_pos (.inl ob)] at hk2
        rw [if_pos (.inl hj)]
        unfold fewP at *
        simp only [Bool.and_eq_true, decide_eq_true_eq, Bool.or_eq_true, List.all_eq_true] at *
        refine ⟨⟨by omega, .inl (by decide)⟩, fun k hk9 => ?_⟩
        rcases List.mem_append.1 hk9 with h | h
        · exact hk.2 k h
        · exact hk2.2 k h
      · have hon : ∀ (t : T) (i : Nat) (k : T), t.op = 1 → onT t i k false = false := fun t i k h => by simp [onT, h]
        rw [hon _ _ _ hj]
        rcases List.mem_append.1 (List.mem_of_getElem? hi) with h | h
        · obtain ⟨j, hj2⟩ := List.mem_iff_getElem?.1 h
          have := hr j k hj2
          rwa [hon _ _ _ oa] at this
        · obtain ⟨j, hj2⟩ := List.mem_iff_getElem?.1 h
          have := hr2 j k hj2
          rwa [hon _ _ _ ob] at this
theorem lof_one {t : T} (h : rtB t 1 false = true) (o : t.op = 1) : lofR t = ofF 100000 t := by
  unfold lofR
  rw [if_pos ⟨h, .inr o⟩]
theorem lof_join {a b : T} (ha : rtB a 1 false = true) (hb : rtB b 1 false = true) (oa : a.op = 1) (ob : b.op = 1) : lofR (joinT a b) = match lofR a with | .ok sa => (lofR b).map (shS sa.next sa.marks sa.jumps) | .error e => .error e := by
  rw [lof_one (join_right ha hb oa ob) rfl, lof_one ha oa, lof_one hb ob]
  exact ofF_join rfl
theorem runM_nonneg : ∀ (xs : List (Int × Int × Int)) (n k : Int), 0 ≤ n → runM xs n = some k → ∀ m ∈ xs, 0 ≤ m.2.1 ∧ m.2.1 ≤ k ∧ m.2.2 ≤ k ∧ (m.2.2 = -1 ∨ 0 ≤ m.2.2)
  | [], n, k, _, _, m, hm => by cases hm
  | x :: r, n, k, hn, h, m, hm => by
    unfold runM at h
    split at h
    · rename_i hx
      obtain ⟨hx1, hx2⟩ := hx
      have hle := runM_le r _ k h
      rcases List.mem_cons.1 hm with rfl | hm
      · split at hle <;> exact ⟨by omega, by omega, by omega, by omega⟩
      · exact runM_nonneg r _ k (by split <;> omega) h m hm
    · cases h
def mks : LRes → List (Int × Int × Int)
  | .ok s => s.marks
  | .error _ => []
def jps : LRes → List (Int × Int)
  | .ok s => s.jumps
  | .error _ => []
def atR : LRes → Int
  | .ok _ => 0
  | .error x => x.1
def erR : LRes → Int
  | .ok _ => 0
  | .error x => x.2
theorem lof_post {r : LRes} {μ : Mem} {v : Value} (h : LofPost r μ v) : ∃ (A : Option Addr) (c : Nat) (B : Option Addr) (d : Nat), v = .tuple #[.slice A (mks r).length c, .slice B (jps r).length d, .int .i64 (atR r), .int .i64 (erR r)] ∧ Sl encM 3 μ A (mks r).length (mks r) ∧ Sl encJ 2 μ B (jps r).length (jps r) := by
  cases r with
  | ok s => exact h
  | error x => exact ⟨none, 0, none, 0, h, Sl.nil _ _ _ _, Sl.nil _ _ _ _⟩
theorem flatT_len (ps : List (T × Value)) : (ps.flatMap encTV).length = ps.length * 6 := by
  induction ps with
  | nil => rfl
  | cons x r ih => simp only [List.flatMap_cons, List.length_append, ih, List.length_cons, List.length_nil]; omega
theorem kr_of_row2 {v : Value} {ps : List (T × Value)} {μ : Mem} {n : Nat} (hn : n = ps.length) {xs : List Value} (hx : xs = ps.flatMap encTV) (h : Bk.sh (.inr ⟨v, 24, 6, n, xs⟩) μ) (hk : ∀ p ∈ ps, KR μ p.1.kids p.2) : KR μ (ps.map (·.1)) v := by
  subst hn
  subst hx
  obtain ⟨A2, c2, rfl, hS2⟩ := row_sl (enc := encTV) (xs := ps) h rfl (by simp) rfl
  exact KR.of_pairs hS2 (Bk.cap h) hk
end Go.Proofs.YtnllooebophcpaaDoor
