/- TreeRight, plainly: at every node the program's table and the reference's patterns agree. TreeRight, plainly: the program's and the reference's answers agree at every tree. The reference's all and Right, tree.Right. No statement of the seat is proved here. -/
import Derived.Test.YtllilkcocfalmaaGreatDoorMf
import Derived.Test.YtllilkcocfalmaaGreatDoorMe
import Derived.Test.YtllilkcocfalmaaGreatDoorMa
import Derived.Test.YtllilkcocfalmaaGreatDoorSt
set_option maxRecDepth 20000
namespace Go.Proofs.YtllilkcocfalmaaGreatDoor
open Go.RowKit Go.Vcg
/-- a function's number lies between 0 and 255 -/
def OkF (t : T) : Prop := t.op = 4 → 0 ≤ t.n ∧ t.n ≤ 255
def chk (f : Int → Bool) : Bool := (List.range 256).all fun k => f (k : Int)
theorem chk_at {f : Int → Bool} (h : chk f = true) {n : Int} (h0 : 0 ≤ n) (h1 : n ≤ 255) : f n = true := by
  obtain ⟨k, rfl⟩ := Int.eq_ofNat_of_zero_le h0
  exact List.all_eq_true.1 h k (List.mem_range.2 (by omega))
def andB (n m : Int) : Bool := decide (andI n m ≠ 0)
def quoB (n m : Int) : Bool := decide ((IntKind.i64.wrap (n.tdiv m)).tmod 2 = 1)
def bitC (n : Int) : Bool := ([1, 2, 4, 8, 16, 32, 128] : List Int).all (fun m => andB n m == quoB n m) && ((andB n 57 == (andB n 1 || andB n 8 || andB n 16 || andB n 32)) && (andB n 50 == (andB n 2 || andB n 16 || andB n 32)))
theorem bitC_ok : chk bitC = true := by decide +kernel
theorem has_and {t : T} {m : Int} (h4 : t.op = 4) : hasT t m = andB t.n m := by unfold hasT andB; rw [decide_eq_true h4, Bool.true_and]
theorem bit_quo {t : T} {m : Int} (h4 : t.op = 4) (h0 : 0 ≤ t.n) : bitT t m = quoB t.n m := by unfold bitT quoB; rw [decide_eq_true h4, decide_eq_true h0, Bool.true_and, Bool.true_and]
theorem bitC_at {n : Int} (h0 : 0 ≤ n) (h1 : n ≤ 255) : (∀ m ∈ ([1, 2, 4, 8, 16, 32, 128] : List Int), andB n m = quoB n m) ∧ andB n 57 = (andB n 1 || andB n 8 || andB n 16 || andB n 32) ∧ andB n 50 = (andB n 2 || andB n 16 || andB n 32) := by
  have h := chk_at bitC_ok h0 h1
  unfold bitC at h
  rw [Bool.and_eq_true, Bool.and_eq_true, List.all_eq_true] at h
  exact ⟨fun m hm => eq_of_beq (h.1 m hm), eq_of_beq h.2.1, eq_of_beq h.2.2⟩
theorem has_bit {t : T} (h : OkF t) {m : Int} (hm : m ∈ ([1, 2, 4, 8, 16, 32, 128] : List Int)) : hasT t m = bitT t m := by
  by_cases h4 : t.op = 4
  · obtain ⟨h0, h1⟩ := h h4
    rw [has_and h4, bit_quo h4 h0]
    exact (bitC_at h0 h1).1 m hm
  · unfold hasT bitT
    rw [decide_eq_false h4, Bool.false_and, Bool.false_and, Bool.false_and]
theorem has57 {t : T} (h : OkF t) : hasT t 57 = (bitT t 1 || bitT t 8 || bitT t 16 || bitT t 32) := by
  rw [← has_bit h (by simp), ← has_bit h (by simp), ← has_bit h (by simp), ← has_bit h (by simp)]
  by_cases h4 : t.op = 4
  · obtain ⟨h0, h1⟩ := h h4
    rw [has_and h4, has_and h4, has_and h4, has_and h4, has_and h4]
    exact (bitC_at h0 h1).2.1
  · unfold hasT
    rw [decide_eq_false h4]
    rfl
theorem has50 {t : T} (h : OkF t) : hasT t 50 = (bitT t 2 || bitT t 16 || bitT t 32) := by
  rw [← has_bit h (by simp), ← has_bit h (by simp), ← has_bit h (by simp)]
  by_cases h4 : t.op = 4
  · obtain ⟨h0, h1⟩ := h h4
    rw [has_and h4, has_and h4, has_and h4, has_and h4]
    exact (bitC_at h0 h1).2.2
  · unfold hasT
    rw [decide_eq_false h4]
    rfl
attribute [local irreducible] hasT bitT
theorem bit_no {t : T} {m : Int} (h4 : ¬t.op = 4) : bitT t m = false := by
  unfold bitT
  rw [decide_eq_false h4, Bool.false_and, Bool.false_and]
theorem stmt_eq {t : T} (h : OkF t) : stmtT t = rStmtT t := by
  unfold stmtT rStmtT
  by_cases h4 : t.op = 4
  · rw [if_pos h4, has_bit h (by simp), h4]
    simp
  · rw [if_neg h4, bit_no h4]
    cases decide (t.op = 2) <;> cases decide (t.op = 21) <;> cases decide (t.op = 23) <;> cases decide (6 ≤ t.op) <;> cases decide (t.op ≤ 19) <;> rfl
theorem expr_eq {t : T} (h : OkF t) : exprT t = rExprT t := by
  unfold exprT rExprT
  by_cases h4 : t.op = 4
  · rw [if_pos h4, if_pos h4, has57 h]
    cases bitT t 1 <;> cases bitT t 8 <;> cases bitT t 16 <;> cases bitT t 32 <;> rfl
  · rw [if_neg h4, if_neg h4]
attribute [local irreducible] stmtT rStmtT exprT rExprT targetT simpleT linkT namedT len0 set0

theorem is83 (t : T) : isT 83 t = (rStmtT t) := by
  unfold isT
  (repeat first | rw [if_pos (by decide)] | rw [if_neg (by decide)])
theorem is69 (t : T) : isT 69 t = (rExprT t) := by
  unfold isT
  (repeat first | rw [if_pos (by decide)] | rw [if_neg (by decide)])
theorem is84 (t : T) : isT 84 t = (targetT t) := by
  unfold isT
  (repeat first | rw [if_pos (by decide)] | rw [if_neg (by decide)])
theorem is116 (t : T) : isT 116 t = (simpleT t) := by
  unfold isT
  (repeat first | rw [if_pos (by decide)] | rw [if_neg (by decide)])
theorem is99 (t : T) : isT 99 t = (linkT t) := by
  unfold isT
  (repeat first | rw [if_pos (by decide)] | rw [if_neg (by decide)])
theorem is73 (t : T) : isT 73 t = (decide (t.op = 2) || decide (t.op = 8) || decide (t.op = 7)) := by
  unfold isT
  (repeat first | rw [if_pos (by decide)] | rw [if_neg (by decide)])
theorem is77 (t : T) : isT 77 t = (rExprT t || decide (t.op = 7)) := by
  unfold isT
  (repeat first | rw [if_pos (by decide)] | rw [if_neg (by decide)])
theorem is76 (t : T) : isT 76 t = (targetT t || loneT t) := by
  unfold isT
  (repeat first | rw [if_pos (by decide)] | rw [if_neg (by decide)])
theorem is89 (t : T) : isT 89 t = (decide (t.op = 6) || decide (t.op = 7)) := by
  unfold isT
  (repeat first | rw [if_pos (by decide)] | rw [if_neg (by decide)])
theorem is67 (t : T) : isT 67 t = (decide (t.op = 20) || decide (t.op = 7)) := by
  unfold isT
  (repeat first | rw [if_pos (by decide)] | rw [if_neg (by decide)])
theorem is71 (t : T) : isT 71 t = (targetT t || decide (t.op = 7)) := by
  unfold isT
  (repeat first | rw [if_pos (by decide)] | rw [if_neg (by decide)])
theorem is65 (t : T) : isT 65 t = (rExprT t || decide (t.op = 40) || decide (t.op = 41)) := by
  unfold isT
  (repeat first | rw [if_pos (by decide)] | rw [if_neg (by decide)])
theorem is97 (t : T) : isT 97 t = (rExprT t || decide (t.op = 41)) := by
  unfold isT
  (repeat first | rw [if_pos (by decide)] | rw [if_neg (by decide)])
theorem is70 (t : T) : isT 70 t = (targetT t || decide (t.op = 63)) := by
  unfold isT
  (repeat first | rw [if_pos (by decide)] | rw [if_neg (by decide)])
  unfold restT
  (repeat first | rw [if_pos (by decide)] | rw [if_neg (by decide)])
theorem is72 (t : T) : isT 72 t = (targetT t || decide (t.op = 63) || decide (t.op = 40)) := by
  unfold isT
  (repeat first | rw [if_pos (by decide)] | rw [if_neg (by decide)])
  unfold restT
  (repeat first | rw [if_pos (by decide)] | rw [if_neg (by decide)])
theorem is107 (t : T) : isT 107 t = (decide (t.op = 31) || decide (t.op = 30)) := by
  unfold isT
  (repeat first | rw [if_pos (by decide)] | rw [if_neg (by decide)])
  unfold restT
  (repeat first | rw [if_pos (by decide)] | rw [if_neg (by decide)])
theorem is119 (t : T) : isT 119 t = (namedT t) := by
  unfold isT
  (repeat first | rw [if_pos (by decide)] | rw [if_neg (by decide)])
  unfold restT
  (repeat first | rw [if_pos (by decide)] | rw [if_neg (by decide)])
theorem is103 (t : T) : isT 103 t = (bitT t 16 && len0 t 0) := by
  unfold isT
  (repeat first | rw [if_pos (by decide)] | rw [if_neg (by decide)])
  unfold restT
  (repeat first | rw [if_pos (by decide)] | rw [if_neg (by decide)])
theorem is115 (t : T) : isT 115 t = (bitT t 32 && set0 t) := by
  unfold isT
  (repeat first | rw [if_pos (by decide)] | rw [if_neg (by decide)])
  unfold restT
  (repeat first | rw [if_pos (by decide)] | rw [if_neg (by decide)])
theorem is109 (t : T) : isT 109 t = (bitT t 8) := by
  unfold isT
  (repeat first | rw [if_pos (by decide)] | rw [if_neg (by decide)])
  unfold restT
  (repeat first | rw [if_pos (by decide)] | rw [if_neg (by decide)])
theorem is68 (t : T) : isT 68 t = decide (t.op = 3) := by
  unfold isT
  (repeat first | rw [if_pos (by decide)] | rw [if_neg (by decide)])
  unfold restT
  (repeat first | rw [if_pos (by decide)] | rw [if_neg (by decide)])
  rfl
theorem is80 (t : T) : isT 80 t = decide (t.op = 5) := by
  unfold isT
  (repeat first | rw [if_pos (by decide)] | rw [if_neg (by decide)])
  unfold restT
  (repeat first | rw [if_pos (by decide)] | rw [if_neg (by decide)])
  rfl
theorem is66 (t : T) : isT 66 t = decide (t.op = 6) := by
  unfold isT
  (repeat first | rw [if_pos (by decide)] | rw [if_neg (by decide)])
  unfold restT
  (repeat first | rw [if_pos (by decide)] | rw [if_neg (by decide)])
  rfl
theorem is75 (t : T) : isT 75 t = decide (t.op = 22) := by
  unfold isT
  (repeat first | rw [if_pos (by decide)] | rw [if_neg (by decide)])
  unfold restT
  (repeat first | rw [if_pos (by decide)] | rw [if_neg (by decide)])
  rfl
theorem is82 (t : T) : isT 82 t = decide (t.op = 39) := by
  unfold isT
  (repeat first | rw [if_pos (by decide)] | rw [if_neg (by decide)])
  unfold restT
  (repeat first | rw [if_pos (by decide)] | rw [if_neg (by decide)])
  rfl
theorem is81 (t : T) : isT 81 t = decide (t.op = 62) := by
  unfold isT
  (repeat first | rw [if_pos (by decide)] | rw [if_neg (by decide)])
  unfold restT
  (repeat first | rw [if_pos (by decide)] | rw [if_neg (by decide)])
  rfl
theorem is90 (t : T) : isT 90 t = decide (t.op = 64) := by
  unfold isT
  (repeat first | rw [if_pos (by decide)] | rw [if_neg (by decide)])
  unfold restT
  (repeat first | rw [if_pos (by decide)] | rw [if_neg (by decide)])
  rfl
theorem ofT1 (a : Int) (t : T) : ofT [a] t = decide (t.op = a) := by unfold ofT; simp
theorem ofT2 (a b : Int) (t : T) : ofT [a, b] t = (decide (t.op = a) || decide (t.op = b)) := by unfold ofT; simp
theorem ofT3 (a b c : Int) (t : T) : ofT [a, b, c] t = (decide (t.op = a) || (decide (t.op = b) || decide (t.op = c))) := by unfold ofT; simp
theorem ei2 (p q : T → Bool) (t : T) : eiT [p, q] t = (p t || q t) := by unfold eiT; simp
/-- the program's class and the reference's letter -/
def CE (p : T → Bool) (c : Int) : Prop := ∀ t : T, OkF t → p t = isT c t
theorem ceS : CE stmtT 83 := fun t h => by rw [is83, stmt_eq h]
theorem ceE : CE exprT 69 := fun t h => by rw [is69, expr_eq h]
theorem ceT : CE targetT 84 := fun t _ => by rw [is84]
theorem cet : CE simpleT 116 := fun t _ => by rw [is116]
theorem ceI : CE (ofT [2, 8, 7]) 73 := fun t _ => by rw [is73, ofT3, Bool.or_assoc]
theorem ceM : CE (eiT [exprT, ofT [7]]) 77 := fun t h => by rw [is77, ei2, ofT1, expr_eq h]
theorem ceL : CE leftT 76 := fun t _ => by rw [is76]; unfold leftT loneT; rw [Bool.and_assoc]
theorem ceY : CE (ofT [6, 7]) 89 := fun t _ => by rw [is89, ofT2]
theorem ceC : CE (ofT [20, 7]) 67 := fun t _ => by rw [is67, ofT2]
theorem ceG : CE (eiT [targetT, ofT [7]]) 71 := fun t _ => by rw [is71, ei2, ofT1]
theorem ceA : CE (eiT [exprT, ofT [40, 41]]) 65 := fun t h => by rw [is65, ei2, ofT2, expr_eq h, Bool.or_assoc]
theorem cea : CE argsT 97 := fun t h => by unfold argsT; rw [is97, ei2, ofT1, expr_eq h]
theorem ceF : CE itemT 70 := fun t _ => by unfold itemT; rw [is70, ei2, ofT1]
theorem ceF' : CE (eiT [targetT, ofT [63]]) 70 := ceF
theorem ceH : CE (eiT [itemT, ofT [40]]) 72 := fun t h => by rw [is72, ei2, ofT1, ceF t h, is70]
theorem cek : CE (ofT [31, 30]) 107 := fun t _ => by rw [is107, ofT2]
theorem cew : CE namedT 119 := fun t _ => by rw [is119]
theorem ceg : CE getT 103 := fun t h => by unfold getT; rw [is103, has_bit h (by simp)]
theorem ces : CE setT 115 := fun t h => by unfold setT; rw [is115, has_bit h (by simp)]
theorem cem : CE methT 109 := fun t h => by unfold methT; rw [is109, has_bit h (by simp)]
theorem ceD : CE (ofT [3]) 68 := fun t _ => by rw [is68, ofT1]
theorem ceP : CE (ofT [5]) 80 := fun t _ => by rw [is80, ofT1]
theorem ceB : CE (ofT [6]) 66 := fun t _ => by rw [is66, ofT1]
theorem ceK : CE (ofT [22]) 75 := fun t _ => by rw [is75, ofT1]
theorem ceR : CE (ofT [39]) 82 := fun t _ => by rw [is82, ofT1]
theorem ceQ : CE (ofT [62]) 81 := fun t _ => by rw [is81, ofT1]
theorem ceZ : CE (ofT [64]) 90 := fun t _ => by rw [is90, ofT1]
attribute [local irreducible] isT
theorem eat2 (p : T → Bool) : ∀ (l : List T) (n : Nat), (eatF p 2 n l).2 = l.dropWhile p
  | [], _ => rfl
  | k :: r, n => by
    cases h : p k
    · rw [eatF, if_neg (by simp [h]), List.dropWhile_cons, if_neg (by simp [h])]
    · rw [eatF, if_pos ⟨h, .inr rfl⟩, List.dropWhile_cons, if_pos h]
      exact eat2 p r _
theorem eat_one (p : T → Bool) (m : Int) (hm : m ≠ 2) (l : List T) : eatF p m 1 l = (1, l) := by
  cases l with
  | nil => rfl
  | cons k r => rw [eatF, if_neg (by simp [hm])]
theorem fitP_nil' (l : List T) : fitP [] l = decide (l.length = 0) := rfl
theorem fitP_2 (p : T → Bool) (r : List ((T → Bool) × Int)) (l : List T) : fitP ((p, 2) :: r) l = fitP r (l.dropWhile p) := by rw [fitP, if_neg (by simp), eat2]
theorem fitP_1 (p : T → Bool) (r : List ((T → Bool) × Int)) (l : List T) : fitP ((p, 1) :: r) l = fitP r (match l with | k :: r => if p k = true then r else k :: r | [] => []) := by
  rw [fitP, if_neg (by simp)]
  cases l with
  | nil => rfl
  | cons k t =>
    cases h : p k
    · rw [eatF, if_neg (by simp [h])]; simp [h]
    · rw [eatF, if_pos ⟨h, .inl rfl⟩, eat_one p 1 (by decide)]; simp [h]
theorem fitP_0 (p : T → Bool) (r : List ((T → Bool) × Int)) (l : List T) : fitP ((p, 0) :: r) l = match l with | k :: t => if p k = true then fitP r t else false | [] => false := by
  rw [fitP]
  cases l with
  | nil => simp [eatF]
  | cons k t =>
    cases h : p k
    · have e : eatF p 0 0 (k :: t) = (0, k :: t) := by rw [eatF, if_neg (by simp [h])]
      rw [e]; simp [h]
    · have e : eatF p 0 0 (k :: t) = (1, t) := by rw [eatF, if_pos ⟨h, .inl rfl⟩, eat_one p 0 (by decide)]
      rw [e]; simp [h]
/-- a pattern and its row -/
def RF (s : List UInt8) (rows : List ((T → Bool) × Int)) : Prop := ∀ l, rowP s l = fitP rows l
theorem rf_nil : RF [] [] := fun l => by rw [rowP_nil, fitP_nil']
theorem rf_star {s : List UInt8} {rows : List ((T → Bool) × Int)} (c : UInt8) (h : RF s rows) : RF (c :: 42 :: s) ((isT (c.toNat : Int), 2) :: rows) := fun l => by rw [rowP_star, fitP_2, h]
theorem rf_q {s : List UInt8} {rows : List ((T → Bool) × Int)} (c : UInt8) (h : RF s rows) : RF (c :: 63 :: s) ((isT (c.toNat : Int), 1) :: rows) := fun l => by
  rw [rowP_q, fitP_1, h]
  cases l <;> rfl
theorem rf_one {rows : List ((T → Bool) × Int)} (c : UInt8) (h : RF [] rows) : RF [c] ((isT (c.toNat : Int), 0) :: rows) := fun l => by
  rw [rowP_1, fitP_0]
  cases l with
  | nil => rfl
  | cons k t => simp only [h t]
theorem rf_d {d : UInt8} {s : List UInt8} {rows : List ((T → Bool) × Int)} (c : UInt8) (h1 : d ≠ 42) (h2 : d ≠ 63) (h : RF (d :: s) rows) : RF (c :: d :: s) ((isT (c.toNat : Int), 0) :: rows) := fun l => by
  rw [rowP_d h1 h2, fitP_0]
  cases l with
  | nil => rfl
  | cons k t => simp only [h t]
/-- rows whose classes agree -/
inductive RE : List ((T → Bool) × Int) → List ((T → Bool) × Int) → Prop
  | nil : RE [] []
  | cons {p q : T → Bool} {m : Int} {r r' : List ((T → Bool) × Int)} (h : ∀ t, OkF t → p t = q t) (hr : RE r r') : RE ((p, m) :: r) ((q, m) :: r')
theorem eat_sub (p : T → Bool) (m : Int) : ∀ (l : List T) (n : Nat) (k : T), k ∈ (eatF p m n l).2 → k ∈ l
  | [], _, _, h => h
  | x :: r, n, k, h => by
    rw [eatF] at h
    split at h
    · exact List.mem_cons_of_mem _ (eat_sub p m r _ k h)
    · exact h
theorem eat_congr {p q : T → Bool} (m : Int) : ∀ (l : List T) (n : Nat), (∀ k ∈ l, p k = q k) → eatF p m n l = eatF q m n l
  | [], _, _ => rfl
  | x :: r, n, h => by
    rw [eatF, eatF, h x (.head _), eat_congr m r _ fun k hk => h k (.tail _ hk)]
theorem fit_congr {r r' : List ((T → Bool) × Int)} (h : RE r r') : ∀ (l : List T), (∀ k ∈ l, OkF k) → fitP r l = fitP r' l := by
  induction h with
  | nil => exact fun _ _ => rfl
  | cons h hr ih =>
    rename_i p q m rr rr'
    intro l hl
    have e := eat_congr m l 0 fun k hk => h k (hl k hk)
    rw [fitP, fitP, e, ih _ fun k hk => hl k (eat_sub q m l 0 k hk)]
theorem len_zero (l : List T) : decide (l.length = 0) = l.isEmpty := by cases l <;> simp
theorem all_dw (p : T → Bool) : ∀ l : List T, (l.dropWhile p).isEmpty = l.all p
  | [] => rfl
  | k :: r => by
    rw [List.dropWhile_cons, List.all_cons]
    cases h : p k
    · simp
    · simp only [if_pos, Bool.true_and]
      exact all_dw p r
theorem few0 (p : T → Bool) (l : List T) : fewP p 0 (-1) l = fitP [(p, 2)] l := by
  rw [fitP_2, fitP_nil', len_zero, all_dw]
  unfold fewP
  simp
theorem few1 (p : T → Bool) (l : List T) : fewP p 1 (-1) l = fitP [(p, 0), (p, 2)] l := by
  rw [fitP_0]
  cases l with
  | nil => rfl
  | cons k r =>
    simp only [← few0]
    unfold fewP
    cases h : p k <;> simp [h]
    try omega
theorem few2 (p : T → Bool) (l : List T) : fewP p 2 (-1) l = fitP [(p, 0), (p, 0), (p, 2)] l := by
  rw [fitP_0]
  cases l with
  | nil => rfl
  | cons k r =>
    simp only [← few1]
    unfold fewP
    cases h : p k <;> simp [h]
    rw [show decide (2 ≤ (r.length : Int) + 1) = decide (1 ≤ (r.length : Int)) from decide_eq_decide.2 (by omega)]
theorem few11 (p : T → Bool) (l : List T) : fewP p 1 1 l = fitP [(p, 0)] l := by
  rw [fitP_0]
  cases l with
  | nil => rfl
  | cons k r =>
    simp only [fitP_nil']
    unfold fewP
    cases r with
    | nil => cases h : p k <;> simp [h]
    | cons k2 r =>
      cases h : p k <;> simp [h]
      try omega
theorem few22 (p : T → Bool) (l : List T) : fewP p 2 2 l = fitP [(p, 0), (p, 0)] l := by
  rw [fitP_0]
  cases l with
  | nil => rfl
  | cons k r =>
    simp only [← few11]
    unfold fewP
    cases h : p k <;> simp [h]
    rw [show decide (2 ≤ (r.length : Int) + 1) = decide (1 ≤ (r.length : Int)) from decide_eq_decide.2 (by omega), show decide ((r.length : Int) + 1 ≤ 2) = decide ((r.length : Int) ≤ 1) from decide_eq_decide.2 (by omega)]
theorem few33 (p : T → Bool) (l : List T) : fewP p 3 3 l = fitP [(p, 0), (p, 0), (p, 0)] l := by
  rw [fitP_0]
  cases l with
  | nil => rfl
  | cons k r =>
    simp only [← few22]
    unfold fewP
    cases h : p k <;> simp [h]
    rw [show decide (3 ≤ (r.length : Int) + 1) = decide (2 ≤ (r.length : Int)) from decide_eq_decide.2 (by omega), show decide ((r.length : Int) + 1 ≤ 3) = decide ((r.length : Int) ≤ 2) from decide_eq_decide.2 (by omega)]
theorem few01 (p : T → Bool) (l : List T) : fewP p 0 1 l = fitP [(p, 1)] l := by
  rw [fitP_1]
  cases l with
  | nil => rfl
  | cons k r =>
    unfold fewP
    cases r with
    | nil => cases h : p k <;> simp [h, fitP_nil']
    | cons k2 r =>
      cases h : p k <;> simp [h, fitP_nil']
      try omega
noncomputable def krowB (t : T) : Bool := if t.op = 36 then templB rExprT t.kids else decide (kindsS t ≠ ⟨#[33]⟩) && rowP (bl (kindsS t)) t.kids
noncomputable def extraB (t : T) : Bool := (if t.op = 19 then (match t.kids with | [_, y, z] => decide (y.op ≠ 7) || decide (z.op ≠ 7) | _ => false) else true) && (if t.op = 53 then (match t.kids with | [k] => chB k | _ => false) else true)
noncomputable def rKidsB (t : T) : Bool := krowB t && extraB t
theorem extra_true {t : T} (h1 : t.op ≠ 19) (h2 : t.op ≠ 53) : extraB t = true := by unfold extraB; rw [if_neg h1, if_neg h2]; rfl
theorem rk_row {t : T} {s : ByteArray} (h1 : t.op ≠ 19) (h2 : t.op ≠ 53) (h3 : t.op ≠ 36) (hs : kindsS t = s) (hne : s ≠ ⟨#[33]⟩) : rKidsB t = rowP (bl s) t.kids := by
  unfold rKidsB krowB
  rw [extra_true h1 h2, if_neg h3, hs, decide_eq_true hne, Bool.true_and, Bool.and_true]
attribute [local irreducible] fitP rowP fewP templB chB
theorem kr_prog (t : T) (hop : t.op = 1 ∨ t.op = 6) (hk : ∀ k ∈ t.kids, OkF k) : kidsB t = rKidsB t := by
  have e1 : kidsB t = fewP stmtT 0 (-1) t.kids := by
    unfold kidsB
    rw [if_pos (by omega)]
    unfold stB
    (repeat first | rw [if_pos (by omega)] | rw [if_neg (by omega)])
  have e2 : kindsS t = ⟨#[83, 42]⟩ := by
    unfold kindsS
    (repeat first | rw [if_pos (by omega)] | rw [if_neg (by omega)])
  rw [e1, rk_row (by omega) (by omega) (by omega) e2 (by decide), show bl ⟨#[83, 42]⟩ = [83, 42] from rfl, (rf_star 83 rf_nil)]
  rw [few0]
  exact fit_congr (.cons ceS .nil) _ hk
theorem kr_var (t : T) (hop : t.op = 2) (hk : ∀ k ∈ t.kids, OkF k) : kidsB t = rKidsB t := by
  have e1 : kidsB t = fewP (ofT [3]) 1 (-1) t.kids := by
    unfold kidsB
    rw [if_pos (by omega)]
    unfold stB
    (repeat first | rw [if_pos (by omega)] | rw [if_neg (by omega)])
  have e2 : kindsS t = ⟨#[68, 68, 42]⟩ := by
    unfold kindsS
    (repeat first | rw [if_pos (by omega)] | rw [if_neg (by omega)])
  rw [e1, rk_row (by omega) (by omega) (by omega) e2 (by decide), show bl ⟨#[68, 68, 42]⟩ = [68, 68, 42] from rfl, (rf_d 68 (by decide) (by decide) (rf_star 68 rf_nil))]
  rw [few1]
  exact fit_congr (.cons ceD (.cons ceD .nil)) _ hk
theorem kr_decl (t : T) (hop : t.op = 3) (hk : ∀ k ∈ t.kids, OkF k) : kidsB t = rKidsB t := by
  have e1 : kidsB t = fitP [(targetT, 0), (exprT, 1)] t.kids := by
    unfold kidsB
    rw [if_pos (by omega)]
    unfold stB
    (repeat first | rw [if_pos (by omega)] | rw [if_neg (by omega)])
  have e2 : kindsS t = ⟨#[84, 69, 63]⟩ := by
    unfold kindsS
    (repeat first | rw [if_pos (by omega)] | rw [if_neg (by omega)])
  rw [e1, rk_row (by omega) (by omega) (by omega) e2 (by decide), show bl ⟨#[84, 69, 63]⟩ = [84, 69, 63] from rfl, (rf_d 84 (by decide) (by decide) (rf_q 69 rf_nil))]
  exact fit_congr (.cons ceT (.cons ceE .nil)) _ hk
theorem kr_params (t : T) (hop : t.op = 5) (hk : ∀ k ∈ t.kids, OkF k) : kidsB t = rKidsB t := by
  have e1 : kidsB t = fitP [(eiT [targetT, ofT [63]], 2), (ofT [64], 1)] t.kids := by
    unfold kidsB
    rw [if_pos (by omega)]
    unfold stB
    (repeat first | rw [if_pos (by omega)] | rw [if_neg (by omega)])
  have e2 : kindsS t = ⟨#[70, 42, 90, 63]⟩ := by
    unfold kindsS
    (repeat first | rw [if_pos (by omega)] | rw [if_neg (by omega)])
  rw [e1, rk_row (by omega) (by omega) (by omega) e2 (by decide), show bl ⟨#[70, 42, 90, 63]⟩ = [70, 42, 90, 63] from rfl, (rf_star 70 (rf_q 90 rf_nil))]
  exact fit_congr (.cons ceF (.cons ceZ .nil)) _ hk
theorem kr_none (t : T) (hop : t.op = 7 ∨ t.op = 15 ∨ t.op = 16) (hk : ∀ k ∈ t.kids, OkF k) : kidsB t = rKidsB t := by
  have e1 : kidsB t = decide (t.kids.length = 0) := by
    unfold kidsB
    rw [if_pos (by omega)]
    unfold stB
    (repeat first | rw [if_pos (by omega)] | rw [if_neg (by omega)])
  have e2 : kindsS t = ⟨#[]⟩ := by
    unfold kindsS
    (repeat first | rw [if_pos (by omega)] | rw [if_neg (by omega)])
  rw [e1, rk_row (by omega) (by omega) (by omega) e2 (by decide), show bl ⟨#[]⟩ = [] from rfl, rf_nil]
  rw [fitP_nil']
theorem kr_expr (t : T) (hop : t.op = 8 ∨ t.op = 18) (hk : ∀ k ∈ t.kids, OkF k) : kidsB t = rKidsB t := by
  have e1 : kidsB t = fitP (eachP [exprT]) t.kids := by
    unfold kidsB
    rw [if_pos (by omega)]
    unfold stB
    (repeat first | rw [if_pos (by omega)] | rw [if_neg (by omega)])
  have e2 : kindsS t = ⟨#[69]⟩ := by
    unfold kindsS
    (repeat first | rw [if_pos (by omega)] | rw [if_neg (by omega)])
  rw [e1, rk_row (by omega) (by omega) (by omega) e2 (by decide), show bl ⟨#[69]⟩ = [69] from rfl, (rf_one 69 rf_nil)]
  exact fit_congr (.cons ceE .nil) _ hk
theorem kr_if (t : T) (hop : t.op = 9) (hk : ∀ k ∈ t.kids, OkF k) : kidsB t = rKidsB t := by
  have e1 : kidsB t = fitP [(exprT, 0), (stmtT, 0), (stmtT, 1)] t.kids := by
    unfold kidsB
    rw [if_pos (by omega)]
    unfold stB
    (repeat first | rw [if_pos (by omega)] | rw [if_neg (by omega)])
  have e2 : kindsS t = ⟨#[69, 83, 83, 63]⟩ := by
    unfold kindsS
    (repeat first | rw [if_pos (by omega)] | rw [if_neg (by omega)])
  rw [e1, rk_row (by omega) (by omega) (by omega) e2 (by decide), show bl ⟨#[69, 83, 83, 63]⟩ = [69, 83, 83, 63] from rfl, (rf_d 69 (by decide) (by decide) (rf_d 83 (by decide) (by decide) (rf_q 83 rf_nil)))]
  exact fit_congr (.cons ceE (.cons ceS (.cons ceS .nil))) _ hk
theorem kr_for (t : T) (hop : t.op = 10) (hk : ∀ k ∈ t.kids, OkF k) : kidsB t = rKidsB t := by
  have e1 : kidsB t = fitP (eachP [ofT [2, 8, 7], eiT [exprT, ofT [7]], eiT [exprT, ofT [7]], stmtT]) t.kids := by
    unfold kidsB
    rw [if_pos (by omega)]
    unfold stB
    (repeat first | rw [if_pos (by omega)] | rw [if_neg (by omega)])
  have e2 : kindsS t = ⟨#[73, 77, 77, 83]⟩ := by
    unfold kindsS
    (repeat first | rw [if_pos (by omega)] | rw [if_neg (by omega)])
  rw [e1, rk_row (by omega) (by omega) (by omega) e2 (by decide), show bl ⟨#[73, 77, 77, 83]⟩ = [73, 77, 77, 83] from rfl, (rf_d 73 (by decide) (by decide) (rf_d 77 (by decide) (by decide) (rf_d 77 (by decide) (by decide) (rf_one 83 rf_nil))))]
  exact fit_congr (.cons ceI (.cons ceM (.cons ceM (.cons ceS .nil)))) _ hk
theorem kr_forin (t : T) (hop : t.op = 11 ∨ t.op = 12) (hk : ∀ k ∈ t.kids, OkF k) : kidsB t = rKidsB t := by
  have e1 : kidsB t = fitP (eachP [leftT, exprT, stmtT]) t.kids := by
    unfold kidsB
    rw [if_pos (by omega)]
    unfold stB
    (repeat first | rw [if_pos (by omega)] | rw [if_neg (by omega)])
  have e2 : kindsS t = ⟨#[76, 69, 83]⟩ := by
    unfold kindsS
    (repeat first | rw [if_pos (by omega)] | rw [if_neg (by omega)])
  rw [e1, rk_row (by omega) (by omega) (by omega) e2 (by decide), show bl ⟨#[76, 69, 83]⟩ = [76, 69, 83] from rfl, (rf_d 76 (by decide) (by decide) (rf_d 69 (by decide) (by decide) (rf_one 83 rf_nil)))]
  exact fit_congr (.cons ceL (.cons ceE (.cons ceS .nil))) _ hk
theorem kr_while (t : T) (hop : t.op = 13) (hk : ∀ k ∈ t.kids, OkF k) : kidsB t = rKidsB t := by
  have e1 : kidsB t = fitP (eachP [exprT, stmtT]) t.kids := by
    unfold kidsB
    rw [if_pos (by omega)]
    unfold stB
    (repeat first | rw [if_pos (by omega)] | rw [if_neg (by omega)])
  have e2 : kindsS t = ⟨#[69, 83]⟩ := by
    unfold kindsS
    (repeat first | rw [if_pos (by omega)] | rw [if_neg (by omega)])
  rw [e1, rk_row (by omega) (by omega) (by omega) e2 (by decide), show bl ⟨#[69, 83]⟩ = [69, 83] from rfl, (rf_d 69 (by decide) (by decide) (rf_one 83 rf_nil))]
  exact fit_congr (.cons ceE (.cons ceS .nil)) _ hk
theorem kr_do (t : T) (hop : t.op = 14) (hk : ∀ k ∈ t.kids, OkF k) : kidsB t = rKidsB t := by
  have e1 : kidsB t = fitP (eachP [stmtT, exprT]) t.kids := by
    unfold kidsB
    rw [if_pos (by omega)]
    unfold stB
    (repeat first | rw [if_pos (by omega)] | rw [if_neg (by omega)])
  have e2 : kindsS t = ⟨#[83, 69]⟩ := by
    unfold kindsS
    (repeat first | rw [if_pos (by omega)] | rw [if_neg (by omega)])
  rw [e1, rk_row (by omega) (by omega) (by omega) e2 (by decide), show bl ⟨#[83, 69]⟩ = [83, 69] from rfl, (rf_d 83 (by decide) (by decide) (rf_one 69 rf_nil))]
  exact fit_congr (.cons ceS (.cons ceE .nil)) _ hk
theorem kr_ret (t : T) (hop : t.op = 17) (hk : ∀ k ∈ t.kids, OkF k) : kidsB t = rKidsB t := by
  have e1 : kidsB t = fewP exprT 0 1 t.kids := by
    unfold kidsB
    rw [if_pos (by omega)]
    unfold stB
    (repeat first | rw [if_pos (by omega)] | rw [if_neg (by omega)])
  have e2 : kindsS t = ⟨#[69, 63]⟩ := by
    unfold kindsS
    (repeat first | rw [if_pos (by omega)] | rw [if_neg (by omega)])
  rw [e1, rk_row (by omega) (by omega) (by omega) e2 (by decide), show bl ⟨#[69, 63]⟩ = [69, 63] from rfl, (rf_q 69 rf_nil)]
  rw [few01]
  exact fit_congr (.cons ceE .nil) _ hk
theorem kr_catch (t : T) (hop : t.op = 20) (hk : ∀ k ∈ t.kids, OkF k) : kidsB t = rKidsB t := by
  have e1 : kidsB t = fitP (eachP [eiT [targetT, ofT [7]], ofT [6]]) t.kids := by
    unfold kidsB
    rw [if_pos (by omega)]
    unfold stB
    (repeat first | rw [if_pos (by omega)] | rw [if_neg (by omega)])
  have e2 : kindsS t = ⟨#[71, 66]⟩ := by
    unfold kindsS
    (repeat first | rw [if_pos (by omega)] | rw [if_neg (by omega)])
  rw [e1, rk_row (by omega) (by omega) (by omega) e2 (by decide), show bl ⟨#[71, 66]⟩ = [71, 66] from rfl, (rf_d 71 (by decide) (by decide) (rf_one 66 rf_nil))]
  exact fit_congr (.cons ceG (.cons ceB .nil)) _ hk
theorem kr_switch (t : T) (hop : t.op = 21) (hk : ∀ k ∈ t.kids, OkF k) : kidsB t = rKidsB t := by
  have e1 : kidsB t = fitP [(exprT, 0), (ofT [22], 2)] t.kids := by
    unfold kidsB
    rw [if_pos (by omega)]
    unfold stB
    (repeat first | rw [if_pos (by omega)] | rw [if_neg (by omega)])
  have e2 : kindsS t = ⟨#[69, 75, 42]⟩ := by
    unfold kindsS
    (repeat first | rw [if_pos (by omega)] | rw [if_neg (by omega)])
    unfold moreS
    (repeat first | rw [if_pos (by omega)] | rw [if_neg (by omega)])
  rw [e1, rk_row (by omega) (by omega) (by omega) e2 (by decide), show bl ⟨#[69, 75, 42]⟩ = [69, 75, 42] from rfl, (rf_d 69 (by decide) (by decide) (rf_star 75 rf_nil))]
  exact fit_congr (.cons ceE (.cons ceK .nil)) _ hk
theorem kr_case1 (t : T) (hop : t.op = 22) (hn : t.n = 1) (hk : ∀ k ∈ t.kids, OkF k) : kidsB t = rKidsB t := by
  have e1 : kidsB t = fewP stmtT 0 (-1) t.kids := by
    unfold kidsB
    rw [if_pos (by omega)]
    unfold stB
    (repeat first | rw [if_pos (by omega)] | rw [if_neg (by omega)])
  have e2 : kindsS t = ⟨#[83, 42]⟩ := by
    unfold kindsS
    (repeat first | rw [if_pos (by omega)] | rw [if_neg (by omega)])
    unfold moreS
    (repeat first | rw [if_pos (by omega)] | rw [if_neg (by omega)])
  rw [e1, rk_row (by omega) (by omega) (by omega) e2 (by decide), show bl ⟨#[83, 42]⟩ = [83, 42] from rfl, (rf_star 83 rf_nil)]
  rw [few0]
  exact fit_congr (.cons ceS .nil) _ hk
theorem kr_case2 (t : T) (hop : t.op = 22) (hn : t.n ≠ 1) (hk : ∀ k ∈ t.kids, OkF k) : kidsB t = rKidsB t := by
  have e1 : kidsB t = fitP [(exprT, 0), (stmtT, 2)] t.kids := by
    unfold kidsB
    rw [if_pos (by omega)]
    unfold stB
    (repeat first | rw [if_pos (by omega)] | rw [if_neg (by omega)])
  have e2 : kindsS t = ⟨#[69, 83, 42]⟩ := by
    unfold kindsS
    (repeat first | rw [if_pos (by omega)] | rw [if_neg (by omega)])
    unfold moreS
    (repeat first | rw [if_pos (by omega)] | rw [if_neg (by omega)])
  rw [e1, rk_row (by omega) (by omega) (by omega) e2 (by decide), show bl ⟨#[69, 83, 42]⟩ = [69, 83, 42] from rfl, (rf_d 69 (by decide) (by decide) (rf_star 83 rf_nil))]
  exact fit_congr (.cons ceE (.cons ceS .nil)) _ hk
theorem kr_label (t : T) (hop : t.op = 23) (hk : ∀ k ∈ t.kids, OkF k) : kidsB t = rKidsB t := by
  have e1 : kidsB t = fitP (eachP [stmtT]) t.kids := by
    unfold kidsB
    rw [if_pos (by omega)]
    unfold stB
    (repeat first | rw [if_pos (by omega)] | rw [if_neg (by omega)])
  have e2 : kindsS t = ⟨#[83]⟩ := by
    unfold kindsS
    (repeat first | rw [if_pos (by omega)] | rw [if_neg (by omega)])
    unfold moreS
    (repeat first | rw [if_pos (by omega)] | rw [if_neg (by omega)])
  rw [e1, rk_row (by omega) (by omega) (by omega) e2 (by decide), show bl ⟨#[83]⟩ = [83] from rfl, (rf_one 83 rf_nil)]
  exact fit_congr (.cons ceS .nil) _ hk
theorem kr_lit (t : T) (hop : t.op = 30 ∨ t.op = 31 ∨ t.op = 32 ∨ t.op = 33 ∨ t.op = 34 ∨ t.op = 35 ∨ t.op = 40) (hk : ∀ k ∈ t.kids, OkF k) : kidsB t = rKidsB t := by
  have e1 : kidsB t = decide (t.kids.length = 0) := by
    unfold kidsB
    rw [if_neg (by omega)]
    unfold exB
    (repeat first | rw [if_pos (by omega)] | rw [if_neg (by omega)])
  have e2 : kindsS t = ⟨#[]⟩ := by
    unfold kindsS
    (repeat first | rw [if_pos (by omega)] | rw [if_neg (by omega)])
  rw [e1, rk_row (by omega) (by omega) (by omega) e2 (by decide), show bl ⟨#[]⟩ = [] from rfl, rf_nil]
  rw [fitP_nil']
theorem kr_array (t : T) (hop : t.op = 37) (hk : ∀ k ∈ t.kids, OkF k) : kidsB t = rKidsB t := by
  have e1 : kidsB t = fewP (eiT [exprT, ofT [40, 41]]) 0 (-1) t.kids := by
    unfold kidsB
    rw [if_neg (by omega)]
    unfold exB
    (repeat first | rw [if_pos (by omega)] | rw [if_neg (by omega)])
  have e2 : kindsS t = ⟨#[65, 42]⟩ := by
    unfold kindsS
    (repeat first | rw [if_pos (by omega)] | rw [if_neg (by omega)])
    unfold moreS
    (repeat first | rw [if_pos (by omega)] | rw [if_neg (by omega)])
  rw [e1, rk_row (by omega) (by omega) (by omega) e2 (by decide), show bl ⟨#[65, 42]⟩ = [65, 42] from rfl, (rf_star 65 rf_nil)]
  rw [few0]
  exact fit_congr (.cons ceA .nil) _ hk
theorem kr_object (t : T) (hop : t.op = 38) (hk : ∀ k ∈ t.kids, OkF k) : kidsB t = rKidsB t := by
  have e1 : kidsB t = fewP (ofT [39]) 0 (-1) t.kids := by
    unfold kidsB
    rw [if_neg (by omega)]
    unfold exB
    (repeat first | rw [if_pos (by omega)] | rw [if_neg (by omega)])
  have e2 : kindsS t = ⟨#[82, 42]⟩ := by
    unfold kindsS
    (repeat first | rw [if_pos (by omega)] | rw [if_neg (by omega)])
    unfold moreS
    (repeat first | rw [if_pos (by omega)] | rw [if_neg (by omega)])
  rw [e1, rk_row (by omega) (by omega) (by omega) e2 (by decide), show bl ⟨#[82, 42]⟩ = [82, 42] from rfl, (rf_star 82 rf_nil)]
  rw [few0]
  exact fit_congr (.cons ceR .nil) _ hk
theorem kr_spread (t : T) (hop : t.op = 41 ∨ t.op = 42) (hk : ∀ k ∈ t.kids, OkF k) : kidsB t = rKidsB t := by
  have e1 : kidsB t = fitP (eachP [exprT]) t.kids := by
    unfold kidsB
    rw [if_neg (by omega)]
    unfold exB
    (repeat first | rw [if_pos (by omega)] | rw [if_neg (by omega)])
  have e2 : kindsS t = ⟨#[69]⟩ := by
    unfold kindsS
    (repeat first | rw [if_pos (by omega)] | rw [if_neg (by omega)])
  rw [e1, rk_row (by omega) (by omega) (by omega) e2 (by decide), show bl ⟨#[69]⟩ = [69] from rfl, (rf_one 69 rf_nil)]
  exact fit_congr (.cons ceE .nil) _ hk
theorem kr_update (t : T) (hop : t.op = 43) (hk : ∀ k ∈ t.kids, OkF k) : kidsB t = rKidsB t := by
  have e1 : kidsB t = fitP (eachP [simpleT]) t.kids := by
    unfold kidsB
    rw [if_neg (by omega)]
    unfold exB
    (repeat first | rw [if_pos (by omega)] | rw [if_neg (by omega)])
  have e2 : kindsS t = ⟨#[116]⟩ := by
    unfold kindsS
    (repeat first | rw [if_pos (by omega)] | rw [if_neg (by omega)])
    unfold moreS
    (repeat first | rw [if_pos (by omega)] | rw [if_neg (by omega)])
  rw [e1, rk_row (by omega) (by omega) (by omega) e2 (by decide), show bl ⟨#[116]⟩ = [116] from rfl, (rf_one 116 rf_nil)]
  exact fit_congr (.cons cet .nil) _ hk
theorem kr_bin (t : T) (hop : t.op = 44 ∨ t.op = 45 ∨ t.op = 52) (hk : ∀ k ∈ t.kids, OkF k) : kidsB t = rKidsB t := by
  have e1 : kidsB t = fewP exprT 2 2 t.kids := by
    unfold kidsB
    rw [if_neg (by omega)]
    unfold exB
    (repeat first | rw [if_pos (by omega)] | rw [if_neg (by omega)])
  have e2 : kindsS t = ⟨#[69, 69]⟩ := by
    unfold kindsS
    (repeat first | rw [if_pos (by omega)] | rw [if_neg (by omega)])
    unfold moreS
    (repeat first | rw [if_pos (by omega)] | rw [if_neg (by omega)])
  rw [e1, rk_row (by omega) (by omega) (by omega) e2 (by decide), show bl ⟨#[69, 69]⟩ = [69, 69] from rfl, (rf_d 69 (by decide) (by decide) (rf_one 69 rf_nil))]
  rw [few22]
  exact fit_congr (.cons ceE (.cons ceE .nil)) _ hk
theorem kr_asg1 (t : T) (hop : t.op = 46) (hs : t.s = ⟨#[61]⟩) (hk : ∀ k ∈ t.kids, OkF k) : kidsB t = rKidsB t := by
  have e1 : kidsB t = fitP (eachP [targetT, exprT]) t.kids := by
    unfold kidsB
    rw [if_neg (by omega)]
    unfold exB
    (repeat first | rw [if_pos (by omega)] | rw [if_neg (by omega)])
    (try rw [if_pos hs])
  have e2 : kindsS t = ⟨#[84, 69]⟩ := by
    unfold kindsS
    (repeat first | rw [if_pos (by omega)] | rw [if_neg (by omega)])
    unfold moreS
    (repeat first | rw [if_pos (by omega)] | rw [if_neg (by omega)])
    (try rw [if_pos hs])
  rw [e1, rk_row (by omega) (by omega) (by omega) e2 (by decide), show bl ⟨#[84, 69]⟩ = [84, 69] from rfl, (rf_d 84 (by decide) (by decide) (rf_one 69 rf_nil))]
  exact fit_congr (.cons ceT (.cons ceE .nil)) _ hk
theorem kr_asg2 (t : T) (hop : t.op = 46) (hs : ¬t.s = ⟨#[61]⟩) (hk : ∀ k ∈ t.kids, OkF k) : kidsB t = rKidsB t := by
  have e1 : kidsB t = fitP (eachP [simpleT, exprT]) t.kids := by
    unfold kidsB
    rw [if_neg (by omega)]
    unfold exB
    (repeat first | rw [if_pos (by omega)] | rw [if_neg (by omega)])
    (try rw [if_neg hs])
  have e2 : kindsS t = ⟨#[116, 69]⟩ := by
    unfold kindsS
    (repeat first | rw [if_pos (by omega)] | rw [if_neg (by omega)])
    unfold moreS
    (repeat first | rw [if_pos (by omega)] | rw [if_neg (by omega)])
    (try rw [if_neg hs])
  rw [e1, rk_row (by omega) (by omega) (by omega) e2 (by decide), show bl ⟨#[116, 69]⟩ = [116, 69] from rfl, (rf_d 116 (by decide) (by decide) (rf_one 69 rf_nil))]
  exact fit_congr (.cons cet (.cons ceE .nil)) _ hk
theorem kr_cond (t : T) (hop : t.op = 47) (hk : ∀ k ∈ t.kids, OkF k) : kidsB t = rKidsB t := by
  have e1 : kidsB t = fewP exprT 3 3 t.kids := by
    unfold kidsB
    rw [if_neg (by omega)]
    unfold exB
    (repeat first | rw [if_pos (by omega)] | rw [if_neg (by omega)])
  have e2 : kindsS t = ⟨#[69, 69, 69]⟩ := by
    unfold kindsS
    (repeat first | rw [if_pos (by omega)] | rw [if_neg (by omega)])
    unfold moreS
    (repeat first | rw [if_pos (by omega)] | rw [if_neg (by omega)])
  rw [e1, rk_row (by omega) (by omega) (by omega) e2 (by decide), show bl ⟨#[69, 69, 69]⟩ = [69, 69, 69] from rfl, (rf_d 69 (by decide) (by decide) (rf_d 69 (by decide) (by decide) (rf_one 69 rf_nil)))]
  rw [few33]
  exact fit_congr (.cons ceE (.cons ceE (.cons ceE .nil))) _ hk
theorem kr_seq (t : T) (hop : t.op = 48) (hk : ∀ k ∈ t.kids, OkF k) : kidsB t = rKidsB t := by
  have e1 : kidsB t = fewP exprT 2 (-1) t.kids := by
    unfold kidsB
    rw [if_neg (by omega)]
    unfold exB
    (repeat first | rw [if_pos (by omega)] | rw [if_neg (by omega)])
  have e2 : kindsS t = ⟨#[69, 69, 69, 42]⟩ := by
    unfold kindsS
    (repeat first | rw [if_pos (by omega)] | rw [if_neg (by omega)])
    unfold moreS
    (repeat first | rw [if_pos (by omega)] | rw [if_neg (by omega)])
  rw [e1, rk_row (by omega) (by omega) (by omega) e2 (by decide), show bl ⟨#[69, 69, 69, 42]⟩ = [69, 69, 69, 42] from rfl, (rf_d 69 (by decide) (by decide) (rf_d 69 (by decide) (by decide) (rf_star 69 rf_nil)))]
  rw [few2]
  exact fit_congr (.cons ceE (.cons ceE (.cons ceE .nil))) _ hk
theorem kr_call (t : T) (hop : t.op = 49 ∨ t.op = 50) (hk : ∀ k ∈ t.kids, OkF k) : kidsB t = rKidsB t := by
  have e1 : kidsB t = fitP [(exprT, 0), (argsT, 2)] t.kids := by
    unfold kidsB
    rw [if_neg (by omega)]
    unfold exB
    (repeat first | rw [if_pos (by omega)] | rw [if_neg (by omega)])
  have e2 : kindsS t = ⟨#[69, 97, 42]⟩ := by
    unfold kindsS
    (repeat first | rw [if_pos (by omega)] | rw [if_neg (by omega)])
    unfold moreS
    (repeat first | rw [if_pos (by omega)] | rw [if_neg (by omega)])
  rw [e1, rk_row (by omega) (by omega) (by omega) e2 (by decide), show bl ⟨#[69, 97, 42]⟩ = [69, 97, 42] from rfl, (rf_d 69 (by decide) (by decide) (rf_star 97 rf_nil))]
  exact fit_congr (.cons ceE (.cons cea .nil)) _ hk
theorem kr_dot (t : T) (hop : t.op = 51) (hk : ∀ k ∈ t.kids, OkF k) : kidsB t = rKidsB t := by
  have e1 : kidsB t = fewP exprT 1 1 t.kids := by
    unfold kidsB
    rw [if_neg (by omega)]
    unfold exB
    (repeat first | rw [if_pos (by omega)] | rw [if_neg (by omega)])
  have e2 : kindsS t = ⟨#[69]⟩ := by
    unfold kindsS
    (repeat first | rw [if_pos (by omega)] | rw [if_neg (by omega)])
    unfold moreS
    (repeat first | rw [if_pos (by omega)] | rw [if_neg (by omega)])
  rw [e1, rk_row (by omega) (by omega) (by omega) e2 (by decide), show bl ⟨#[69]⟩ = [69] from rfl, (rf_one 69 rf_nil)]
  rw [few11]
  exact fit_congr (.cons ceE .nil) _ hk
theorem kr_yield1 (t : T) (hop : t.op = 54) (hn : t.n = 1) (hk : ∀ k ∈ t.kids, OkF k) : kidsB t = rKidsB t := by
  have e1 : kidsB t = fewP exprT 1 1 t.kids := by
    unfold kidsB
    rw [if_neg (by omega)]
    unfold exB
    (repeat first | rw [if_pos (by omega)] | rw [if_neg (by omega)])
    rw [hn]
  have e2 : kindsS t = ⟨#[69]⟩ := by
    unfold kindsS
    (repeat first | rw [if_pos (by omega)] | rw [if_neg (by omega)])
    unfold moreS
    (repeat first | rw [if_pos (by omega)] | rw [if_neg (by omega)])
  rw [e1, rk_row (by omega) (by omega) (by omega) e2 (by decide), show bl ⟨#[69]⟩ = [69] from rfl, (rf_one 69 rf_nil)]
  rw [few11]
  exact fit_congr (.cons ceE .nil) _ hk
theorem kr_yield0 (t : T) (hop : t.op = 54) (hn : t.n = 0) (hk : ∀ k ∈ t.kids, OkF k) : kidsB t = rKidsB t := by
  have e1 : kidsB t = fewP exprT 0 1 t.kids := by
    unfold kidsB
    rw [if_neg (by omega)]
    unfold exB
    (repeat first | rw [if_pos (by omega)] | rw [if_neg (by omega)])
    rw [hn]
  have e2 : kindsS t = ⟨#[69, 63]⟩ := by
    unfold kindsS
    (repeat first | rw [if_pos (by omega)] | rw [if_neg (by omega)])
    unfold moreS
    (repeat first | rw [if_pos (by omega)] | rw [if_neg (by omega)])
  rw [e1, rk_row (by omega) (by omega) (by omega) e2 (by decide), show bl ⟨#[69, 63]⟩ = [69, 63] from rfl, (rf_q 69 rf_nil)]
  rw [few01]
  exact fit_congr (.cons ceE .nil) _ hk
theorem kr_arrpat (t : T) (hop : t.op = 60) (hk : ∀ k ∈ t.kids, OkF k) : kidsB t = rKidsB t := by
  have e1 : kidsB t = fitP [(eiT [itemT, ofT [40]], 2), (ofT [64], 1)] t.kids := by
    unfold kidsB
    rw [if_neg (by omega)]
    unfold exB
    (repeat first | rw [if_pos (by omega)] | rw [if_neg (by omega)])
    unfold patternsT
    (repeat first | rw [if_pos (by omega)] | rw [if_neg (by omega)])
  have e2 : kindsS t = ⟨#[72, 42, 90, 63]⟩ := by
    unfold kindsS
    (repeat first | rw [if_pos (by omega)] | rw [if_neg (by omega)])
    unfold moreS
    (repeat first | rw [if_pos (by omega)] | rw [if_neg (by omega)])
  rw [e1, rk_row (by omega) (by omega) (by omega) e2 (by decide), show bl ⟨#[72, 42, 90, 63]⟩ = [72, 42, 90, 63] from rfl, (rf_star 72 (rf_q 90 rf_nil))]
  exact fit_congr (.cons ceH (.cons ceZ .nil)) _ hk
theorem kr_objpat (t : T) (hop : t.op = 61) (hk : ∀ k ∈ t.kids, OkF k) : kidsB t = rKidsB t := by
  have e1 : kidsB t = fitP [(ofT [62], 2), (ofT [64], 1)] t.kids := by
    unfold kidsB
    rw [if_neg (by omega)]
    unfold exB
    (repeat first | rw [if_pos (by omega)] | rw [if_neg (by omega)])
    unfold patternsT
    (repeat first | rw [if_pos (by omega)] | rw [if_neg (by omega)])
  have e2 : kindsS t = ⟨#[81, 42, 90, 63]⟩ := by
    unfold kindsS
    (repeat first | rw [if_pos (by omega)] | rw [if_neg (by omega)])
    unfold moreS
    (repeat first | rw [if_pos (by omega)] | rw [if_neg (by omega)])
  rw [e1, rk_row (by omega) (by omega) (by omega) e2 (by decide), show bl ⟨#[81, 42, 90, 63]⟩ = [81, 42, 90, 63] from rfl, (rf_star 81 (rf_q 90 rf_nil))]
  exact fit_congr (.cons ceQ (.cons ceZ .nil)) _ hk
theorem kr_patprop1 (t : T) (hop : t.op = 62) (hm : t.m = 1) (hk : ∀ k ∈ t.kids, OkF k) : kidsB t = rKidsB t := by
  have e1 : kidsB t = fitP (eachP [exprT, itemT]) t.kids := by
    unfold kidsB
    rw [if_neg (by omega)]
    unfold exB
    (repeat first | rw [if_pos (by omega)] | rw [if_neg (by omega)])
    unfold patternsT
    (repeat first | rw [if_pos (by omega)] | rw [if_neg (by omega)])
    unfold keyT
    (repeat first | rw [if_pos (by omega)] | rw [if_neg (by omega)])
  have e2 : kindsS t = ⟨#[69, 70]⟩ := by
    unfold kindsS
    (repeat first | rw [if_pos (by omega)] | rw [if_neg (by omega)])
    unfold moreS
    (repeat first | rw [if_pos (by omega)] | rw [if_neg (by omega)])
  rw [e1, rk_row (by omega) (by omega) (by omega) e2 (by decide), show bl ⟨#[69, 70]⟩ = [69, 70] from rfl, (rf_d 69 (by decide) (by decide) (rf_one 70 rf_nil))]
  exact fit_congr (.cons ceE (.cons ceF .nil)) _ hk
theorem kr_patprop0 (t : T) (hop : t.op = 62) (hm : t.m ≠ 1) (hk : ∀ k ∈ t.kids, OkF k) : kidsB t = rKidsB t := by
  have e1 : kidsB t = fitP (eachP [ofT [31, 30], itemT]) t.kids := by
    unfold kidsB
    rw [if_neg (by omega)]
    unfold exB
    (repeat first | rw [if_pos (by omega)] | rw [if_neg (by omega)])
    unfold patternsT
    (repeat first | rw [if_pos (by omega)] | rw [if_neg (by omega)])
    unfold keyT
    (repeat first | rw [if_pos (by omega)] | rw [if_neg (by omega)])
  have e2 : kindsS t = ⟨#[107, 70]⟩ := by
    unfold kindsS
    (repeat first | rw [if_pos (by omega)] | rw [if_neg (by omega)])
    unfold moreS
    (repeat first | rw [if_pos (by omega)] | rw [if_neg (by omega)])
  rw [e1, rk_row (by omega) (by omega) (by omega) e2 (by decide), show bl ⟨#[107, 70]⟩ = [107, 70] from rfl, (rf_d 107 (by decide) (by decide) (rf_one 70 rf_nil))]
  exact fit_congr (.cons cek (.cons ceF .nil)) _ hk
theorem kr_default (t : T) (hop : t.op = 63) (hk : ∀ k ∈ t.kids, OkF k) : kidsB t = rKidsB t := by
  have e1 : kidsB t = fitP (eachP [targetT, exprT]) t.kids := by
    unfold kidsB
    rw [if_neg (by omega)]
    unfold exB
    (repeat first | rw [if_pos (by omega)] | rw [if_neg (by omega)])
    unfold patternsT
    (repeat first | rw [if_pos (by omega)] | rw [if_neg (by omega)])
  have e2 : kindsS t = ⟨#[84, 69]⟩ := by
    unfold kindsS
    (repeat first | rw [if_pos (by omega)] | rw [if_neg (by omega)])
    unfold moreS
    (repeat first | rw [if_pos (by omega)] | rw [if_neg (by omega)])
  rw [e1, rk_row (by omega) (by omega) (by omega) e2 (by decide), show bl ⟨#[84, 69]⟩ = [84, 69] from rfl, (rf_d 84 (by decide) (by decide) (rf_one 69 rf_nil))]
  exact fit_congr (.cons ceT (.cons ceE .nil)) _ hk
theorem kr_rest (t : T) (hop : t.op = 64) (hk : ∀ k ∈ t.kids, OkF k) : kidsB t = rKidsB t := by
  have e1 : kidsB t = fitP (eachP [targetT]) t.kids := by
    unfold kidsB
    rw [if_neg (by omega)]
    unfold exB
    (repeat first | rw [if_pos (by omega)] | rw [if_neg (by omega)])
    unfold patternsT
    (repeat first | rw [if_pos (by omega)] | rw [if_neg (by omega)])
  have e2 : kindsS t = ⟨#[84]⟩ := by
    unfold kindsS
    (repeat first | rw [if_pos (by omega)] | rw [if_neg (by omega)])
    unfold moreS
    (repeat first | rw [if_pos (by omega)] | rw [if_neg (by omega)])
  rw [e1, rk_row (by omega) (by omega) (by omega) e2 (by decide), show bl ⟨#[84]⟩ = [84] from rfl, (rf_one 84 rf_nil)]
  exact fit_congr (.cons ceT .nil) _ hk
theorem kr_prop0k (t : T) (hop : t.op = 39) (hn : t.n = 0) (hm : t.m ≠ 1) (hk : ∀ k ∈ t.kids, OkF k) : kidsB t = rKidsB t := by
  have e1 : kidsB t = fitP (eachP [ofT [31, 30], exprT]) t.kids := by
    unfold kidsB
    rw [if_neg (by omega)]
    unfold exB
    (repeat first | rw [if_pos (by omega)] | rw [if_neg (by omega)])
    unfold propT
    (repeat first | rw [if_pos (by omega)] | rw [if_neg (by omega)])
    unfold keyT
    (repeat first | rw [if_pos (by omega)] | rw [if_neg (by omega)])
  have e2 : kindsS t = ⟨#[107, 69]⟩ := by
    unfold kindsS
    (repeat first | rw [if_pos (by omega)] | rw [if_neg (by omega)])
    unfold moreS
    (repeat first | rw [if_pos (by omega)] | rw [if_neg (by omega)])
    unfold propS
    (repeat first | rw [if_pos (by omega)] | rw [if_neg (by omega)])
    unfold keyS
    (repeat first | rw [if_pos (by omega)] | rw [if_neg (by omega)])
    rfl
  rw [e1, rk_row (by omega) (by omega) (by omega) e2 (by decide), show bl ⟨#[107, 69]⟩ = [107, 69] from rfl, (rf_d 107 (by decide) (by decide) (rf_one 69 rf_nil))]
  exact fit_congr (.cons cek (.cons ceE .nil)) _ hk
theorem kr_prop0e (t : T) (hop : t.op = 39) (hn : t.n = 0) (hm : t.m = 1) (hk : ∀ k ∈ t.kids, OkF k) : kidsB t = rKidsB t := by
  have e1 : kidsB t = fitP (eachP [exprT, exprT]) t.kids := by
    unfold kidsB
    rw [if_neg (by omega)]
    unfold exB
    (repeat first | rw [if_pos (by omega)] | rw [if_neg (by omega)])
    unfold propT
    (repeat first | rw [if_pos (by omega)] | rw [if_neg (by omega)])
    unfold keyT
    (repeat first | rw [if_pos (by omega)] | rw [if_neg (by omega)])
  have e2 : kindsS t = ⟨#[69, 69]⟩ := by
    unfold kindsS
    (repeat first | rw [if_pos (by omega)] | rw [if_neg (by omega)])
    unfold moreS
    (repeat first | rw [if_pos (by omega)] | rw [if_neg (by omega)])
    unfold propS
    (repeat first | rw [if_pos (by omega)] | rw [if_neg (by omega)])
    unfold keyS
    (repeat first | rw [if_pos (by omega)] | rw [if_neg (by omega)])
    rfl
  rw [e1, rk_row (by omega) (by omega) (by omega) e2 (by decide), show bl ⟨#[69, 69]⟩ = [69, 69] from rfl, (rf_d 69 (by decide) (by decide) (rf_one 69 rf_nil))]
  exact fit_congr (.cons ceE (.cons ceE .nil)) _ hk
theorem kr_prop1k (t : T) (hop : t.op = 39) (hn : t.n = 1) (hm : t.m ≠ 1) (hk : ∀ k ∈ t.kids, OkF k) : kidsB t = rKidsB t := by
  have e1 : kidsB t = fitP (eachP [ofT [31, 30], getT]) t.kids := by
    unfold kidsB
    rw [if_neg (by omega)]
    unfold exB
    (repeat first | rw [if_pos (by omega)] | rw [if_neg (by omega)])
    unfold propT
    (repeat first | rw [if_pos (by omega)] | rw [if_neg (by omega)])
    unfold keyT
    (repeat first | rw [if_pos (by omega)] | rw [if_neg (by omega)])
  have e2 : kindsS t = ⟨#[107, 103]⟩ := by
    unfold kindsS
    (repeat first | rw [if_pos (by omega)] | rw [if_neg (by omega)])
    unfold moreS
    (repeat first | rw [if_pos (by omega)] | rw [if_neg (by omega)])
    unfold propS
    (repeat first | rw [if_pos (by omega)] | rw [if_neg (by omega)])
    unfold keyS
    (repeat first | rw [if_pos (by omega)] | rw [if_neg (by omega)])
    rfl
  rw [e1, rk_row (by omega) (by omega) (by omega) e2 (by decide), show bl ⟨#[107, 103]⟩ = [107, 103] from rfl, (rf_d 107 (by decide) (by decide) (rf_one 103 rf_nil))]
  exact fit_congr (.cons cek (.cons ceg .nil)) _ hk
theorem kr_prop1e (t : T) (hop : t.op = 39) (hn : t.n = 1) (hm : t.m = 1) (hk : ∀ k ∈ t.kids, OkF k) : kidsB t = rKidsB t := by
  have e1 : kidsB t = fitP (eachP [exprT, getT]) t.kids := by
    unfold kidsB
    rw [if_neg (by omega)]
    unfold exB
    (repeat first | rw [if_pos (by omega)] | rw [if_neg (by omega)])
    unfold propT
    (repeat first | rw [if_pos (by omega)] | rw [if_neg (by omega)])
    unfold keyT
    (repeat first | rw [if_pos (by omega)] | rw [if_neg (by omega)])
  have e2 : kindsS t = ⟨#[69, 103]⟩ := by
    unfold kindsS
    (repeat first | rw [if_pos (by omega)] | rw [if_neg (by omega)])
    unfold moreS
    (repeat first | rw [if_pos (by omega)] | rw [if_neg (by omega)])
    unfold propS
    (repeat first | rw [if_pos (by omega)] | rw [if_neg (by omega)])
    unfold keyS
    (repeat first | rw [if_pos (by omega)] | rw [if_neg (by omega)])
    rfl
  rw [e1, rk_row (by omega) (by omega) (by omega) e2 (by decide), show bl ⟨#[69, 103]⟩ = [69, 103] from rfl, (rf_d 69 (by decide) (by decide) (rf_one 103 rf_nil))]
  exact fit_congr (.cons ceE (.cons ceg .nil)) _ hk
theorem kr_prop2k (t : T) (hop : t.op = 39) (hn : t.n = 2) (hm : t.m ≠ 1) (hk : ∀ k ∈ t.kids, OkF k) : kidsB t = rKidsB t := by
  have e1 : kidsB t = fitP (eachP [ofT [31, 30], setT]) t.kids := by
    unfold kidsB
    rw [if_neg (by omega)]
    unfold exB
    (repeat first | rw [if_pos (by omega)] | rw [if_neg (by omega)])
    unfold propT
    (repeat first | rw [if_pos (by omega)] | rw [if_neg (by omega)])
    unfold keyT
    (repeat first | rw [if_pos (by omega)] | rw [if_neg (by omega)])
  have e2 : kindsS t = ⟨#[107, 115]⟩ := by
    unfold kindsS
    (repeat first | rw [if_pos (by omega)] | rw [if_neg (by omega)])
    unfold moreS
    (repeat first | rw [if_pos (by omega)] | rw [if_neg (by omega)])
    unfold propS
    (repeat first | rw [if_pos (by omega)] | rw [if_neg (by omega)])
    unfold keyS
    (repeat first | rw [if_pos (by omega)] | rw [if_neg (by omega)])
    rfl
  rw [e1, rk_row (by omega) (by omega) (by omega) e2 (by decide), show bl ⟨#[107, 115]⟩ = [107, 115] from rfl, (rf_d 107 (by decide) (by decide) (rf_one 115 rf_nil))]
  exact fit_congr (.cons cek (.cons ces .nil)) _ hk
theorem kr_prop2e (t : T) (hop : t.op = 39) (hn : t.n = 2) (hm : t.m = 1) (hk : ∀ k ∈ t.kids, OkF k) : kidsB t = rKidsB t := by
  have e1 : kidsB t = fitP (eachP [exprT, setT]) t.kids := by
    unfold kidsB
    rw [if_neg (by omega)]
    unfold exB
    (repeat first | rw [if_pos (by omega)] | rw [if_neg (by omega)])
    unfold propT
    (repeat first | rw [if_pos (by omega)] | rw [if_neg (by omega)])
    unfold keyT
    (repeat first | rw [if_pos (by omega)] | rw [if_neg (by omega)])
  have e2 : kindsS t = ⟨#[69, 115]⟩ := by
    unfold kindsS
    (repeat first | rw [if_pos (by omega)] | rw [if_neg (by omega)])
    unfold moreS
    (repeat first | rw [if_pos (by omega)] | rw [if_neg (by omega)])
    unfold propS
    (repeat first | rw [if_pos (by omega)] | rw [if_neg (by omega)])
    unfold keyS
    (repeat first | rw [if_pos (by omega)] | rw [if_neg (by omega)])
    rfl
  rw [e1, rk_row (by omega) (by omega) (by omega) e2 (by decide), show bl ⟨#[69, 115]⟩ = [69, 115] from rfl, (rf_d 69 (by decide) (by decide) (rf_one 115 rf_nil))]
  exact fit_congr (.cons ceE (.cons ces .nil)) _ hk
theorem kr_prop5k (t : T) (hop : t.op = 39) (hn : t.n = 5) (hm : t.m ≠ 1) (hk : ∀ k ∈ t.kids, OkF k) : kidsB t = rKidsB t := by
  have e1 : kidsB t = fitP (eachP [ofT [31, 30], methT]) t.kids := by
    unfold kidsB
    rw [if_neg (by omega)]
    unfold exB
    (repeat first | rw [if_pos (by omega)] | rw [if_neg (by omega)])
    unfold propT
    (repeat first | rw [if_pos (by omega)] | rw [if_neg (by omega)])
    unfold keyT
    (repeat first | rw [if_pos (by omega)] | rw [if_neg (by omega)])
  have e2 : kindsS t = ⟨#[107, 109]⟩ := by
    unfold kindsS
    (repeat first | rw [if_pos (by omega)] | rw [if_neg (by omega)])
    unfold moreS
    (repeat first | rw [if_pos (by omega)] | rw [if_neg (by omega)])
    unfold propS
    (repeat first | rw [if_pos (by omega)] | rw [if_neg (by omega)])
    unfold keyS
    (repeat first | rw [if_pos (by omega)] | rw [if_neg (by omega)])
    rfl
  rw [e1, rk_row (by omega) (by omega) (by omega) e2 (by decide), show bl ⟨#[107, 109]⟩ = [107, 109] from rfl, (rf_d 107 (by decide) (by decide) (rf_one 109 rf_nil))]
  exact fit_congr (.cons cek (.cons cem .nil)) _ hk
theorem kr_prop5e (t : T) (hop : t.op = 39) (hn : t.n = 5) (hm : t.m = 1) (hk : ∀ k ∈ t.kids, OkF k) : kidsB t = rKidsB t := by
  have e1 : kidsB t = fitP (eachP [exprT, methT]) t.kids := by
    unfold kidsB
    rw [if_neg (by omega)]
    unfold exB
    (repeat first | rw [if_pos (by omega)] | rw [if_neg (by omega)])
    unfold propT
    (repeat first | rw [if_pos (by omega)] | rw [if_neg (by omega)])
    unfold keyT
    (repeat first | rw [if_pos (by omega)] | rw [if_neg (by omega)])
  have e2 : kindsS t = ⟨#[69, 109]⟩ := by
    unfold kindsS
    (repeat first | rw [if_pos (by omega)] | rw [if_neg (by omega)])
    unfold moreS
    (repeat first | rw [if_pos (by omega)] | rw [if_neg (by omega)])
    unfold propS
    (repeat first | rw [if_pos (by omega)] | rw [if_neg (by omega)])
    unfold keyS
    (repeat first | rw [if_pos (by omega)] | rw [if_neg (by omega)])
    rfl
  rw [e1, rk_row (by omega) (by omega) (by omega) e2 (by decide), show bl ⟨#[69, 109]⟩ = [69, 109] from rfl, (rf_d 69 (by decide) (by decide) (rf_one 109 rf_nil))]
  exact fit_congr (.cons ceE (.cons cem .nil)) _ hk
theorem kr_prop3 (t : T) (hop : t.op = 39) (hn : t.n = 3) (hk : ∀ k ∈ t.kids, OkF k) : kidsB t = rKidsB t := by
  have e1 : kidsB t = fitP (eachP [namedT]) t.kids := by
    unfold kidsB
    rw [if_neg (by omega)]
    unfold exB
    (repeat first | rw [if_pos (by omega)] | rw [if_neg (by omega)])
    unfold propT
    (repeat first | rw [if_pos (by omega)] | rw [if_neg (by omega)])
  have e2 : kindsS t = ⟨#[119]⟩ := by
    unfold kindsS
    (repeat first | rw [if_pos (by omega)] | rw [if_neg (by omega)])
    unfold moreS
    (repeat first | rw [if_pos (by omega)] | rw [if_neg (by omega)])
    unfold propS
    (repeat first | rw [if_pos (by omega)] | rw [if_neg (by omega)])
  rw [e1, rk_row (by omega) (by omega) (by omega) e2 (by decide), show bl ⟨#[119]⟩ = [119] from rfl, (rf_one 119 rf_nil)]
  exact fit_congr (.cons cew .nil) _ hk
theorem kr_prop4 (t : T) (hop : t.op = 39) (hn : t.n = 4) (hk : ∀ k ∈ t.kids, OkF k) : kidsB t = rKidsB t := by
  have e1 : kidsB t = fitP (eachP [exprT]) t.kids := by
    unfold kidsB
    rw [if_neg (by omega)]
    unfold exB
    (repeat first | rw [if_pos (by omega)] | rw [if_neg (by omega)])
    unfold propT
    (repeat first | rw [if_pos (by omega)] | rw [if_neg (by omega)])
  have e2 : kindsS t = ⟨#[69]⟩ := by
    unfold kindsS
    (repeat first | rw [if_pos (by omega)] | rw [if_neg (by omega)])
    unfold moreS
    (repeat first | rw [if_pos (by omega)] | rw [if_neg (by omega)])
    unfold propS
    (repeat first | rw [if_pos (by omega)] | rw [if_neg (by omega)])
  rw [e1, rk_row (by omega) (by omega) (by omega) e2 (by decide), show bl ⟨#[69]⟩ = [69] from rfl, (rf_one 69 rf_nil)]
  exact fit_congr (.cons ceE .nil) _ hk
end Go.Proofs.YtllilkcocfalmaaGreatDoor
set_option maxRecDepth 20000
namespace Go.Proofs.YtllilkcocfalmaaGreatDoor
open Go.RowKit Go.Vcg
attribute [local irreducible] hasT bitT stmtT rStmtT exprT rExprT targetT simpleT linkT namedT len0 set0 isT fitP rowP fewP templB chB formB whatT
theorem kr_func (t : T) (hop : t.op = 4) (hf : OkF t) (hk : ∀ k ∈ t.kids, OkF k) : kidsB t = rKidsB t := by
  obtain ⟨h0, h1⟩ := hf hop
  have hb : hasT t 128 = decide ((IntKind.i64.wrap (t.n.tdiv 128)).tmod 2 = 1) := by rw [has_bit hf (by simp), bit_quo hop h0]; rfl
  have e1 : kidsB t = fitP (eachP [ofT [5], bodyT t]) t.kids := by
    unfold kidsB
    rw [if_pos (by omega)]
    unfold stB
    (repeat first | rw [if_pos (by omega)] | rw [if_neg (by omega)])
  rw [e1]
  by_cases hq : (IntKind.i64.wrap (t.n.tdiv 128)).tmod 2 = 1
  · have e2 : kindsS t = ⟨#[80, 69]⟩ := by
      unfold kindsS
      (repeat first | rw [if_pos (by omega)] | rw [if_neg (by omega)])
    rw [rk_row (by omega) (by omega) (by omega) e2 (by decide), show bl ⟨#[80, 69]⟩ = [80, 69] from rfl, rf_d 80 (by decide) (by decide) (rf_one 69 rf_nil)]
    unfold bodyT
    rw [hb, decide_eq_true hq, if_pos rfl]
    exact fit_congr (.cons ceP (.cons ceE .nil)) _ hk
  · have e2 : kindsS t = ⟨#[80, 66]⟩ := by
      unfold kindsS
      (repeat first | rw [if_pos (by omega)] | rw [if_neg (by omega)])
    rw [rk_row (by omega) (by omega) (by omega) e2 (by decide), show bl ⟨#[80, 66]⟩ = [80, 66] from rfl, rf_d 80 (by decide) (by decide) (rf_one 66 rf_nil)]
    unfold bodyT
    rw [hb, decide_eq_false hq, if_neg (by simp)]
    exact fit_congr (.cons ceP (.cons ceB .nil)) _ hk
theorem kr_try (t : T) (hop : t.op = 19) (hk : ∀ k ∈ t.kids, OkF k) : kidsB t = rKidsB t := by
  have e1 : kidsB t = tryT t.kids := by
    unfold kidsB
    rw [if_pos (by omega)]
    unfold stB
    (repeat first | rw [if_pos (by omega)] | rw [if_neg (by omega)])
  have e2 : kindsS t = ⟨#[66, 67, 89]⟩ := by
    unfold kindsS
    (repeat first | rw [if_pos (by omega)] | rw [if_neg (by omega)])
  have e3 : fitP (eachP [ofT [6], ofT [20, 7], ofT [6, 7]]) t.kids = rowP [66, 67, 89] t.kids := by
    rw [rf_d 66 (by decide) (by decide) (rf_d 67 (by decide) (by decide) (rf_one 89 rf_nil))]
    exact fit_congr (.cons ceB (.cons ceC (.cons ceY .nil))) _ hk
  rw [e1]
  unfold tryT rKidsB krowB extraB
  rw [e2, e3, if_neg (by omega), if_pos hop, if_neg (by omega), decide_eq_true (by decide), Bool.true_and, Bool.and_true]
  rfl
theorem ch_lk {k : T} (h : chB k = true) : linkT k = true := by
  cases hl : linkT k
  · rw [chB_f (ch_link hl)] at h
    cases h
  · rfl
theorem kr_chain (t : T) (hop : t.op = 53) : kidsB t = rKidsB t := by
  have e1 : kidsB t = chainT t.kids := by
    unfold kidsB
    rw [if_neg (by omega)]
    unfold exB
    (repeat first | rw [if_pos (by omega)] | rw [if_neg (by omega)])
  have e2 : kindsS t = ⟨#[99]⟩ := by
    unfold kindsS
    (repeat first | rw [if_pos (by omega)] | rw [if_neg (by omega)])
    unfold moreS
    (repeat first | rw [if_pos (by omega)] | rw [if_neg (by omega)])
  rw [e1]
  unfold rKidsB krowB extraB chainT
  rw [e2, if_neg (by omega), if_neg (by omega), if_pos hop, decide_eq_true (by decide), Bool.true_and, Bool.true_and, show bl ⟨#[99]⟩ = [99] from rfl]
  match t.kids with
  | [] => simp
  | [k] =>
    rw [rf_one 99 rf_nil, fitP_0]
    simp only [fitP_nil', show ((99 : UInt8).toNat : Int) = 99 from rfl, is99]
    cases hc : chB k
    · simp
    · simp [ch_lk hc]
  | _ :: _ :: _ => simp
theorem kr_templ (t : T) (hop : t.op = 36) (hk : ∀ k ∈ t.kids, OkF k) : kidsB t = rKidsB t := by
  have e1 : kidsB t = templB exprT t.kids := by
    unfold kidsB
    rw [if_neg (by omega)]
    unfold exB
    (repeat first | rw [if_pos (by omega)] | rw [if_neg (by omega)])
  rw [e1]
  unfold rKidsB krowB
  rw [extra_true (by omega) (by omega), if_pos hop, Bool.and_true]
  have hiff : templP exprT t.kids ↔ templP rExprT t.kids := by
    unfold templP
    refine and_congr Iff.rfl (forall_congr' fun i => forall_congr' fun k => forall_congr' fun hi => ?_)
    unfold tmOk
    rw [expr_eq (hk k (List.mem_of_getElem? hi))]
  by_cases h : templP exprT t.kids
  · rw [templB_t h, templB_t (hiff.1 h)]
  · rw [templB_f h, templB_f fun h2 => h (hiff.2 h2)]
def knR (op : Int) : Prop := 1 ≤ op ∧ op ≤ 23 ∨ 30 ≤ op ∧ op ≤ 54 ∨ 60 ≤ op ∧ op ≤ 64
theorem known_ne {op : Int} (h : nameB op ≠ []) : knownT op = true := by
  unfold knownT
  rw [decide_eq_true_eq]
  intro e
  apply h
  have := congrArg (fun x : ByteArray => x.data.toList) e
  simpa using this
theorem known_nil {op : Int} (h : nameB op = []) : knownT op = false := by
  unfold knownT
  rw [h]
  simp
theorem nm_ck : ((List.range 65).all fun k => (nameL.getD k []).isEmpty == !(decide (1 ≤ k ∧ k ≤ 23) || decide (30 ≤ k ∧ k ≤ 54) || decide (60 ≤ k ∧ k ≤ 64))) = true := by decide +kernel
theorem nm_at {k : Nat} (h : k < 65) : (nameL.getD k []).isEmpty = !(decide (1 ≤ k ∧ k ≤ 23) || decide (30 ≤ k ∧ k ≤ 54) || decide (60 ≤ k ∧ k ≤ 64)) := eq_of_beq (List.all_eq_true.1 nm_ck k (List.mem_range.2 h))
theorem known_iff (op : Int) : knownT op = true ↔ knR op := by
  by_cases hr : op < 0 ∨ 65 ≤ op
  · rw [known_nil (nameB_none hr)]
    unfold knR
    constructor
    · intro h; cases h
    · intro h; omega
  · obtain ⟨k, rfl⟩ := Int.eq_ofNat_of_zero_le (by omega : 0 ≤ op)
    have h := nm_at (k := k) (by omega)
    have hn : nameB (k : Int) = nameL.getD k [] := by unfold nameB; rw [if_pos (by omega), Int.toNat_natCast]
    unfold knR
    constructor
    · intro hk
      by_cases he : nameB (k : Int) = []
      · rw [known_nil he] at hk
        cases hk
      · rw [← hn, List.isEmpty_eq_false_iff.2 he] at h
        simp at h
        omega
    · intro hk
      refine known_ne fun he => ?_
      rw [← hn, he] at h
      simp at h
      omega
theorem kinds_un {t : T} (h : ¬knR t.op) : kindsS t = ⟨#[33]⟩ := by
  unfold knR at h
  unfold kindsS
  (repeat first | rw [if_neg (by omega)])
  unfold moreS
  (repeat first | rw [if_neg (by omega)])
theorem row_known {t : T} (h : krowB t = true) : knownT t.op = true := by
  rw [known_iff]
  refine Classical.byContradiction fun hn => ?_
  unfold krowB at h
  rw [kinds_un hn] at h
  have : ¬t.op = 36 := fun e => hn (by unfold knR; omega)
  rw [if_neg this] at h
  simp at h
theorem kids_eq {t : T} (hf : OkF t) (hk : ∀ k ∈ t.kids, OkF k) (hkn : knownT t.op = true) (hy : t.op = 54 → t.n = 0 ∨ t.n = 1) (hp : t.op = 39 → 0 ≤ t.n ∧ t.n ≤ 5) : kidsB t = rKidsB t := by
  rw [known_iff] at hkn
  unfold knR at hkn
  rcases (by omega : (t.op = 1 ∨ t.op = 6) ∨ t.op = 2 ∨ t.op = 3 ∨ t.op = 4 ∨ t.op = 5 ∨ (t.op = 7 ∨ t.op = 15 ∨ t.op = 16) ∨ (t.op = 8 ∨ t.op = 18) ∨ t.op = 9 ∨ t.op = 10 ∨ (t.op = 11 ∨ t.op = 12) ∨ t.op = 13 ∨ t.op = 14 ∨ t.op = 17 ∨ t.op = 19 ∨ t.op = 20 ∨ t.op = 21 ∨ t.op = 22 ∨ t.op = 23 ∨ 30 ≤ t.op) with h | h | h | h | h | h | h | h | h | h | h | h | h | h | h | h | h | h | h
  · exact kr_prog t h hk
  · exact kr_var t h hk
  · exact kr_decl t h hk
  · exact kr_func t h hf hk
  · exact kr_params t h hk
  · exact kr_none t h hk
  · exact kr_expr t h hk
  · exact kr_if t h hk
  · exact kr_for t h hk
  · exact kr_forin t h hk
  · exact kr_while t h hk
  · exact kr_do t h hk
  · exact kr_ret t h hk
  · exact kr_try t h hk
  · exact kr_catch t h hk
  · exact kr_switch t h hk
  · by_cases hn : t.n = 1
    · exact kr_case1 t h hn hk
    · exact kr_case2 t h hn hk
  · exact kr_label t h hk
  · rcases (by omega : (t.op = 30 ∨ t.op = 31 ∨ t.op = 32 ∨ t.op = 33 ∨ t.op = 34 ∨ t.op = 35 ∨ t.op = 40) ∨ t.op = 36 ∨ t.op = 37 ∨ t.op = 38 ∨ t.op = 39 ∨ (t.op = 41 ∨ t.op = 42) ∨ t.op = 43 ∨ (t.op = 44 ∨ t.op = 45 ∨ t.op = 52) ∨ t.op = 46 ∨ t.op = 47 ∨ t.op = 48 ∨ (t.op = 49 ∨ t.op = 50) ∨ t.op = 51 ∨ t.op = 53 ∨ t.op = 54 ∨ 60 ≤ t.op) with h | h | h | h | h | h | h | h | h | h | h | h | h | h | h | h
    · exact kr_lit t h hk
    · exact kr_templ t h hk
    · exact kr_array t h hk
    · exact kr_object t h hk
    · have hp := hp h
      by_cases hm : t.m = 1
      · rcases (by omega : t.n = 0 ∨ t.n = 1 ∨ t.n = 2 ∨ t.n = 3 ∨ t.n = 4 ∨ t.n = 5) with hn | hn | hn | hn | hn | hn
        · exact kr_prop0e t h hn hm hk
        · exact kr_prop1e t h hn hm hk
        · exact kr_prop2e t h hn hm hk
        · exact kr_prop3 t h hn hk
        · exact kr_prop4 t h hn hk
        · exact kr_prop5e t h hn hm hk
      · rcases (by omega : t.n = 0 ∨ t.n = 1 ∨ t.n = 2 ∨ t.n = 3 ∨ t.n = 4 ∨ t.n = 5) with hn | hn | hn | hn | hn | hn
        · exact kr_prop0k t h hn hm hk
        · exact kr_prop1k t h hn hm hk
        · exact kr_prop2k t h hn hm hk
        · exact kr_prop3 t h hn hk
        · exact kr_prop4 t h hn hk
        · exact kr_prop5k t h hn hm hk
    · exact kr_spread t h hk
    · exact kr_update t h hk
    · exact kr_bin t h hk
    · by_cases hs : t.s = ⟨#[61]⟩
      · exact kr_asg1 t h hs hk
      · exact kr_asg2 t h hs hk
    · exact kr_cond t h hk
    · exact kr_seq t h hk
    · exact kr_call t h hk
    · exact kr_dot t h hk
    · exact kr_chain t h
    · rcases hy h with hn | hn
      · exact kr_yield0 t h hn hk
      · exact kr_yield1 t h hn hk
    · rcases (by omega : t.op = 60 ∨ t.op = 61 ∨ t.op = 62 ∨ t.op = 63 ∨ t.op = 64) with h | h | h | h | h
      · exact kr_arrpat t h hk
      · exact kr_objpat t h hk
      · by_cases hm : t.m = 1
        · exact kr_patprop1 t h hm hk
        · exact kr_patprop0 t h hm hk
      · exact kr_default t h hk
      · exact kr_rest t h hk
theorem what_eq {t : T} (h : OkF t) : whatT (hasT t) 5 = whatT (bitT t) 5 := by
  unfold whatT
  congr 1
  apply List.filter_congr
  intro m hm
  refine has_bit h ?_
  have := List.mem_of_mem_take hm
  unfold bitL at this
  simp at this ⊢
  omega
theorem fields_eq (t : T) : fieldsT t = rFieldsT t := by
  unfold fieldsT rFieldsT
  by_cases h4 : t.op = 4
  · rw [if_pos h4, if_pos h4]
    congr 1
    unfold bitsT fnT
    by_cases h1 : t.n < 0 ∨ 255 < t.n ∨ t.s ≠ ⟨#[]⟩ ∧ formB t.s = false
    · rw [if_pos h1, if_pos h1]
    · have hf : OkF t := fun _ => by omega
      rw [if_neg h1, if_neg h1, what_eq hf, has50 hf, has_bit hf (by simp), has_bit hf (by simp), has_bit hf (by simp), has_bit hf (by simp)]
      cases bitT t 4 <;> cases bitT t 2 <;> cases bitT t 16 <;> cases bitT t 32 <;> simp
  · rw [if_neg h4, if_neg h4]
theorem fields_okF {t : T} (h : rFieldsT t = true) : OkF t := fun h4 => by
  unfold rFieldsT at h
  split at h
  · cases h
  · unfold fnT at h
    split at h
    · cases h
    · omega
theorem fields_n {t : T} (h : rFieldsT t = true) (h4 : t.op ≠ 4) : 0 ≤ t.n ∧ t.n ≤ mostT t.op := by
  unfold rFieldsT at h
  split at h
  · cases h
  · rw [Bool.and_eq_true, Bool.and_eq_true, decide_eq_true_eq, decide_eq_true_eq] at h
    exact h.1
def ronT (t : T) (i : Nat) (k : T) (spine : Bool) : Bool := decide (i = 0) && (decide (t.op = 53) || spine && (linkT t && linkT k))
/-- what the reference accepts -/
inductive RA : T → Bool → Prop
  | mk {t : T} {spine : Bool} (hf : rFieldsT t = true) (hl : ¬(linkT t = true ∧ t.n = 1 ∧ spine = false)) (hk : rKidsB t = true) (hr : ∀ (i : Nat) (k : T), t.kids[i]? = some k → RA k (ronT t i k spine)) : RA t spine
noncomputable def raB (t : T) (spine : Bool) : Bool := dB (RA t spine)
theorem raB_t {t : T} {s : Bool} (h : RA t s) : raB t s = true := by unfold raB; exact dB_t h
theorem raB_f {t : T} {s : Bool} (h : ¬RA t s) : raB t s = false := by unfold raB; exact dB_f h
theorem raB_true {t : T} {s : Bool} (h : raB t s = true) : RA t s := by unfold raB at h; exact dB_true h
theorem raB_false {t : T} {s : Bool} (h : raB t s = false) : ¬RA t s := by unfold raB at h; exact dB_false h
theorem RA.okF {t : T} {s : Bool} (h : RA t s) : OkF t := by
  cases h with
  | mk hf _ _ _ => exact fields_okF hf
theorem kids_eq' {t : T} (hf : rFieldsT t = true) (hk : ∀ k ∈ t.kids, OkF k) (hkn : knownT t.op = true) : kidsB t = rKidsB t := by
  refine kids_eq (fields_okF hf) hk hkn (fun h => ?_) (fun h => ?_)
  · have h2 := fields_n hf (by omega)
    have : mostT t.op = 1 := by unfold mostT; rw [if_pos (by omega)]
    omega
  · have h2 := fields_n hf (by omega)
    have : mostT t.op = 5 := by unfold mostT; (repeat first | rw [if_pos (by omega)] | rw [if_neg (by omega)])
    omega
theorem on_eq {t k : T} {i : Nat} {s : Bool} (hk : rKidsB t = true) (hi : t.kids[i]? = some k) : onT t i k s = ronT t i k s := by
  unfold onT ronT
  by_cases h0 : i = 0
  · subst h0
    by_cases h53 : t.op = 53
    · have hl : linkT k = true := by
        rw [← kr_chain t h53] at hk
        have e1 : kidsB t = chainT t.kids := by
          unfold kidsB
          rw [if_neg (by omega)]
          unfold exB
          (repeat first | rw [if_pos (by omega)] | rw [if_neg (by omega)])
        rw [e1] at hk
        unfold chainT at hk
        split at hk
        · rename_i k0 hks
          rw [hks] at hi
          cases hi
          exact ch_lk hk
        · cases hk
      rw [hl, decide_eq_true h53]
      rfl
    · rw [decide_eq_false h53]
      cases linkT k <;> cases linkT t <;> cases s <;> rfl
  · rw [decide_eq_false h0]
    rfl
theorem le_dmax {l : List Nat} {x : Nat} (h : x ∈ l) : x ≤ T.dmax l := by
  induction l with
  | nil => cases h
  | cons y l ih =>
    show x ≤ max y (T.dmax l)
    rcases List.mem_cons.1 h with rfl | h
    · omega
    · have := ih h
      omega
theorem right_iff : ∀ (t : T) (d : Nat) (s : Bool), Rt t d s ↔ d + t.depth ≤ 201 ∧ RA t s := fun t => T.ind2 (p := fun t => ∀ (d : Nat) (s : Bool), Rt t d s ↔ d + t.depth ≤ 201 ∧ RA t s) (fun t ih d s => by
  have hde := T.depth_eq t
  constructor
  · intro h
    cases h with
    | mk hd hn hk hr =>
      obtain ⟨hkn, hf, hl⟩ := hn
      rw [fields_eq] at hf
      have hkid : ∀ (i : Nat) (k : T), t.kids[i]? = some k → d + 1 + k.depth ≤ 201 ∧ RA k (onT t i k s) := fun i k hi => (ih k (List.mem_of_getElem? hi) _ _).1 (hr i k hi)
      have hok : ∀ k ∈ t.kids, OkF k := fun k hk => by
        obtain ⟨i, hi⟩ := List.mem_iff_getElem?.1 hk
        exact (hkid i k hi).2.okF
      have hk2 : rKidsB t = true := by rw [← kids_eq' hf hok hkn]; exact hk
      have hdm : T.dmax (t.kids.map T.depth) ≤ 200 - d := T.dmax_le fun x hx => by
        obtain ⟨k, hk, rfl⟩ := List.mem_map.1 hx
        obtain ⟨i, hi⟩ := List.mem_iff_getElem?.1 hk
        have := (hkid i k hi).1
        omega
      exact ⟨by omega, .mk hf hl hk2 fun i k hi => by rw [← on_eq hk2 hi]; exact (hkid i k hi).2⟩
  · rintro ⟨hd, h⟩
    cases h with
    | mk hf hl hk hr =>
      have hkn : knownT t.op = true := by
        unfold rKidsB at hk
        rw [Bool.and_eq_true] at hk
        exact row_known hk.1
      have hok : ∀ k ∈ t.kids, OkF k := fun k hk => by
        obtain ⟨i, hi⟩ := List.mem_iff_getElem?.1 hk
        exact (hr i k hi).okF
      refine .mk (by omega) ⟨hkn, by rw [fields_eq]; exact hf, hl⟩ (by rw [kids_eq' hf hok hkn]; exact hk) fun i k hi => (ih k (List.mem_of_getElem? hi) _ _).2 ⟨?_, by rw [on_eq hk hi]; exact hr i k hi⟩
      have := le_dmax (List.mem_map_of_mem (f := T.depth) (List.mem_of_getElem? hi))
      omega) t
/-- both sides' answers -/
theorem right_law (t : T) : rtB t 1 false = (decide (t.depth ≤ 200) && raB t false) := by
  have h := right_iff t 1 false
  by_cases h1 : Rt t 1 false
  · obtain ⟨h2, h3⟩ := h.1 h1
    rw [rtB_t h1, raB_t h3, decide_eq_true (by omega)]
    rfl
  · rw [rtB_f h1]
    by_cases h2 : t.depth ≤ 200
    · rw [decide_eq_true h2, Bool.true_and, raB_f fun h3 => h1 (h.2 ⟨by omega, h3⟩)]
    · rw [decide_eq_false h2]
      rfl
end Go.Proofs.YtllilkcocfalmaaGreatDoor
set_option maxRecDepth 20000
set_option maxHeartbeats 2000000
namespace Go.Proofs.YtllilkcocfalmaaGreatDoor
open Go.RowKit Go.Vcg
theorem row3 {t : T} (h19 : t.op = 19) (h : krowB t = true) : ∃ x y z, t.kids = [x, y, z] := by
  have e2 : kindsS t = ⟨#[66, 67, 89]⟩ := by
    unfold kindsS
    (repeat first | rw [if_pos (by omega)] | rw [if_neg (by omega)])
  unfold krowB at h
  rw [if_neg (by omega), e2, decide_eq_true (by decide), Bool.true_and, show bl ⟨#[66, 67, 89]⟩ = [66, 67, 89] from rfl, rf_d 66 (by decide) (by decide) (rf_d 67 (by decide) (by decide) (rf_one 89 rf_nil))] at h
  exact fit3 (a := isT 66) (b := isT 67) (c := isT 89) h
theorem row1 {t : T} (h53 : t.op = 53) (h : krowB t = true) : ∃ x, t.kids = [x] := by
  have e2 : kindsS t = ⟨#[99]⟩ := by
    unfold kindsS
    (repeat first | rw [if_pos (by omega)] | rw [if_neg (by omega)])
    unfold moreS
    (repeat first | rw [if_pos (by omega)] | rw [if_neg (by omega)])
  unfold krowB at h
  rw [if_neg (by omega), e2, decide_eq_true (by decide), Bool.true_and, show bl ⟨#[99]⟩ = [99] from rfl, rf_one 99 rf_nil, fitP_0] at h
  match hk : t.kids with
  | [] => rw [hk] at h; simp at h
  | [x] => exact ⟨x, rfl⟩
  | x :: y :: r =>
    rw [hk] at h
    simp only [fitP_nil'] at h
    split at h
    · simp at h
    · cases h
theorem extra19 {t x y z : T} (h : t.op = 19) (hk : t.kids = [x, y, z]) : extraB t = (decide (y.op ≠ 7) || decide (z.op ≠ 7)) := by
  unfold extraB
  rw [if_pos h, if_neg (by omega), hk, Bool.and_true]
theorem extra53 {t x : T} (h : t.op = 53) (hk : t.kids = [x]) : extraB t = chB x := by
  unfold extraB
  rw [if_neg (by omega), if_pos h, hk, Bool.true_and]
theorem size_ite {c : Prop} [Decidable c] {a b : ByteArray} (ha : a.size ≤ 1000) (hb : b.size ≤ 1000) : (if c then a else b).size ≤ 1000 := by split <;> assumption
theorem key_app (t : T) (c : UInt8) : (keyS t ++ ⟨#[c]⟩).size ≤ 1000 := by
  rw [ByteArray.size_append, keyS_size]
  show 1 + 1 ≤ 1000
  decide
theorem kinds_size (t : T) : (kindsS t).size ≤ 1000 := by
  have h2 : (propS t).size ≤ 1000 := by
    unfold propS
    (repeat' first | exact key_app t _ | apply size_ite | decide)
  have h3 : (moreS t).size ≤ 1000 := by
    unfold moreS
    (repeat' first | exact h2 | apply size_ite | decide)
  unfold kindsS
  (repeat' first | exact h3 | apply size_ite | decide)
attribute [local irreducible] rFieldsT kindsS linkT krowB extraB raB rowP templB chB rtB G GC GQ GA GAop Calls IntKind.wrap Int.decLt Int.decLe
theorem rAll_spec : ∀ (n : Nat), n ≤ 100000 → ∀ (t : T) (u : Value) (spine : Bool) (w : World) (μ : Mem), MOk μ w → KR μ t.kids u → t.size ≤ n → Sh t →
    Calls Tryz.prog 22 #[.agg (encT t u).toArray, .bool spine] w fun e w' => e = .returned (.bool (raB t spine)) ∧ Below w.heap.size w w' := by
  intro n
  induction n with
  | zero => intro _ t u spine w μ hμ hk hn; exact absurd hn (by rw [T.size_eq]; omega)
  | succ n ih =>
    intro hnb t u spine w μ hμ hk hn hsh
    have ho := hk.one
    have hop := sh_op hsh
    unfold In64 at hop
    have hss := sh_s hsh
    have hks : ∀ k ∈ t.kids, T.size k ≤ 100000 ∧ k.s.size ≤ 65536 := fun k hk => by
      obtain ⟨i, hi⟩ := List.mem_iff_getElem?.1 hk
      have h1 := T.size_kid hi
      have h2 := sh_s (sh_kid hsh hk)
      exact ⟨by omega, by omega⟩
    have hks' : ∀ k ∈ t.kids, Sh' k := fun k hk => sh_sh' (sh_kid hsh hk)
    have hlen := kidsLe t
    have hksz := kinds_size t
    obtain ⟨A, c, rfl, hlc, hkid⟩ := hk.form
    have c2 := fun (w : World) (μc : Mem) (hw : MOk μc w) (hle : MLe μ μc) => rFields_spec t _ w μc hw (hk.mono hle) (by omega) (by omega)
    have c3 := fun (w : World) (μc : Mem) (hw : MOk μc w) (hle : MLe μ μc) => rLink_spec t _ w μc hw (hk.mono hle) (by omega) (by omega)
    have c4 := fun (w : World) (μc : Mem) (hw : MOk μc w) (hle : MLe μ μc) => kinds_spec t _ w μc hw (hk.mono hle)
    have c5 := fun (w : World) (μc : Mem) (hw : MOk μc w) (hle : MLe μ μc) => row_spec (kindsS t) hksz t.kids A t.kids.length c w μc hw (hk.mono hle) rfl (by omega) hks
    have c6 := fun (w : World) (μc : Mem) (hw : MOk μc w) (hle : MLe μ μc) => rTemplate_spec t.kids A t.kids.length c w μc hw (hk.mono hle) rfl (by omega) hks
    refine call_intro (args := [.agg (encT t (.slice A t.kids.length c)).toArray, .bool spine]) Tryz.func22 rfl Tryz.ntmps22 (by simp) hμ ?_
    by_cases h1 : rFieldsT t = true ∧ ¬(linkT t = true ∧ t.n = 1 ∧ spine = false)
    · obtain ⟨hf, hl⟩ := h1
      rw [hf] at c2
      repeat' (first | ((with_reducible show GC _ _ (Code.seq (Code.seq (Code.region 1 _ _) _) _) _ _ _ _); (apply gc_stop)) | (refine KK ?_) | (refine NB fun b => ?_) | ((refine KB ?_ ?_ <;> intro hp)) | (refine KG ?_) | fail)
      refine gcs (gc_join (ι := Unit) (fun _ => True) (fun _ => μ) (fun _ => [(1, .bool spine), (2, .pointer (some ⟨b, 0, none⟩))]) (fun _ => [.inl ⟨b, 24, 6, idx 0 (encT t (.slice A t.kids.length c))⟩]) ?_ ?_)
      · repeat' (first | (refine KO ?_) | ((with_reducible apply F1 39); exact rfl; exact EN; (exact fun w μc hw hse => c2 w μc hw hse.le)) | ((with_reducible apply F1 40); exact rfl; exact EN; (exact fun w μc hw hse => c3 w μc hw hse.le)) | (refine KI ?_) | (refine NB fun b => ?_) | ((refine KB ?_ ?_ <;> intro hp)) | (refine KG ?_) | fail)
        all_goals try (exfalso; apply hl; refine ⟨?_, ?_, ?_⟩ <;> assumption)
        all_goals first | exact J1 () trivial | (exfalso; omega)
      intro _ _
      repeat' (first | ((with_reducible show GC _ _ (Code.seq (Code.seq (Code.region 4 _ _) _) _) _ _ _ _); (apply gc_stop)) | (refine KK ?_) | (refine NB fun b => ?_) | ((refine KB ?_ ?_ <;> intro hp)) | (refine KG ?_) | fail)
      refine gcs (gc_join (ι := Unit) (fun _ => True) (fun _ => μ) (fun _ => [(5, .bool (krowB t)), (1, .bool spine), (2, .pointer (some ⟨b, 0, none⟩))]) (fun _ => [.inl ⟨b, 24, 6, idx 0 (encT t (.slice A t.kids.length c))⟩]) ?_ ?_)
      · by_cases h36 : t.op = 36
        · have hg : krowB t = templB rExprT t.kids := by unfold krowB; rw [if_pos h36]
          rw [hg]
          repeat' (first | (refine KO ?_) | ((with_reducible apply F1 41); exact rfl; exact EN; (exact fun w μc hw hse => c6 w μc hw hse.le)) | (refine KI ?_) | (refine NB fun b => ?_) | ((refine KB ?_ ?_ <;> intro hp)) | (refine KG ?_) | fail)
          all_goals first | exact J1 () trivial | (exfalso; omega)
        · have hg : krowB t = (decide (kindsS t ≠ ⟨#[33]⟩) && rowP (bl (kindsS t)) t.kids) := by unfold krowB; rw [if_neg h36]
          generalize hB : krowB t = rb at hg ⊢
          generalize hR : rowP (bl (kindsS t)) t.kids = rp at hg c5
          by_cases hK : kindsS t = ⟨#[33]⟩
          · rw [hK] at c4 hg
            simp at hg
            subst hg
            repeat' (first | (refine KO ?_) | ((with_reducible apply F1 42); exact rfl; exact EN; (exact fun w μc hw hse => c4 w μc hw hse.le)) | (refine KI ?_) | (refine NB fun b => ?_) | ((refine KB ?_ ?_ <;> intro hp)) | (refine KG ?_) | fail)
            all_goals first | exact J1 () trivial | (exfalso; omega)
          · rw [decide_eq_true hK, Bool.true_and] at hg
            subst hg
            generalize kindsS t = ks at hK c4 c5
            repeat' (first | (refine KO ?_) | ((with_reducible apply F1 42); exact rfl; exact EN; (exact fun w μc hw hse => c4 w μc hw hse.le)) | ((with_reducible apply F1 43); exact rfl; exact EN; (exact fun w μc hw hse => c5 w μc hw hse.le)) | (refine KI ?_) | (refine NB fun b => ?_) | ((refine KB ?_ ?_ <;> intro hp)) | (refine KG ?_) | fail)
            all_goals first | exact J1 () trivial | (exfalso; omega) | exact absurd ‹_› hK
      intro _ _
      cases hrow : krowB t
      · have hR : raB t spine = false := raB_f fun h => by
          cases h with
          | mk _ _ h2 _ => unfold rKidsB at h2; rw [hrow] at h2; cases h2
        rw [hR]
        repeat' (first | (refine KK ?_) | (refine NB fun b => ?_) | ((refine KB ?_ ?_ <;> intro hp)) | (refine KG ?_) | fail)
        all_goals first | exact ret_s rfl rfl rfl | (exfalso; omega)
      cases hex : extraB t
      · have hR : raB t spine = false := raB_f fun h => by
          cases h with
          | mk _ _ h2 _ => unfold rKidsB at h2; rw [hex, Bool.and_false] at h2; cases h2
        rw [hR]
        by_cases h19 : t.op = 19
        · obtain ⟨x, y, z, hxyz⟩ := row3 h19 hrow
          obtain ⟨ad1, x1, rfl, hm1, hox1, hkx1⟩ := hkid 1 y (by rw [hxyz]; rfl)
          obtain ⟨ad2, x2, e2, hm2, hox2, hkx2⟩ := hkid 2 z (by rw [hxyz]; rfl)
          cases e2
          rw [extra19 h19 hxyz] at hex
          have h3 : t.kids.length = 3 := by rw [hxyz]; rfl
          simp at hex
          repeat' (first | (refine KO ?_) | ((with_reducible apply g_v); exact rfl; (first | (exact U1 1) | (exact U1 2) | (exact U4 hm1) | (exact U4 hm2))) | (refine KI ?_) | (refine NB fun b => ?_) | ((refine KB ?_ ?_ <;> intro hp)) | (refine KG ?_) | fail)
          all_goals first | exact ret_s rfl rfl rfl | (exfalso; omega)
        · by_cases h53 : t.op = 53
          · obtain ⟨x, hx⟩ := row1 h53 hrow
            obtain ⟨ad1, x1, rfl, hm1, hox1, hkx1⟩ := hkid 0 x (by rw [hx]; rfl)
            rw [extra53 h53 hx] at hex
            have h3 : t.kids.length = 1 := by rw [hx]; rfl
            have hsz := T.size_kid (t := t) (i := 0) (k := x) (by rw [hx]; rfl)
            have c7 := fun (w : World) (μc : Mem) (hw : MOk μc w) (hle : MLe μ μc) => chained_spec 100000 (Nat.le_refl _) x _ w μc hw (hkx1.mono hle) (by omega) (hks' x (by rw [hx]; exact .head _))
            rw [hex] at c7
            repeat' (first | (refine KO ?_) | ((with_reducible apply C1); exact rfl; exact EN; exact fun w μc hw hse => c7 w μc hw hse.le) | ((with_reducible apply g_v); exact rfl; (first | (exact U1 0) | (exact U4 hm1))) | (refine KI ?_) | (refine NB fun b => ?_) | ((refine KB ?_ ?_ <;> intro hp)) | (refine KG ?_) | fail)
            all_goals first | exact ret_s rfl rfl rfl | (exfalso; omega)
          · rw [extra_true h19 h53] at hex
            cases hex
      have hKB : rKidsB t = true := by unfold rKidsB; rw [hrow, hex]; rfl
      refine gc_join (ι := Unit) (fun _ => True) (fun _ => μ) (fun _ => [(1, .bool spine), (2, .pointer (some ⟨b, 0, none⟩))]) (fun _ => [.inl ⟨b, 24, 6, idx 0 (encT t (.slice A t.kids.length c))⟩]) ?_ ?_
      · by_cases h19 : t.op = 19
        · obtain ⟨x, y, z, hxyz⟩ := row3 h19 hrow
          obtain ⟨ad1, x1, rfl, hm1, hox1, hkx1⟩ := hkid 1 y (by rw [hxyz]; rfl)
          obtain ⟨ad2, x2, e2, hm2, hox2, hkx2⟩ := hkid 2 z (by rw [hxyz]; rfl)
          cases e2
          rw [extra19 h19 hxyz] at hex
          have h3 : t.kids.length = 3 := by rw [hxyz]; rfl
          simp at hex
          repeat' (first | (refine KO ?_) | ((with_reducible apply g_v); exact rfl; (first | (exact U1 1) | (exact U1 2) | (exact U4 hm1) | (exact U4 hm2))) | (refine KI ?_) | (refine NB fun b => ?_) | ((refine KB ?_ ?_ <;> intro hp)) | (refine KG ?_) | fail)
          all_goals first | exact J1 () trivial | (exfalso; omega)
        · by_cases h53 : t.op = 53
          · obtain ⟨x, hx⟩ := row1 h53 hrow
            obtain ⟨ad1, x1, rfl, hm1, hox1, hkx1⟩ := hkid 0 x (by rw [hx]; rfl)
            rw [extra53 h53 hx] at hex
            have h3 : t.kids.length = 1 := by rw [hx]; rfl
            have hsz := T.size_kid (t := t) (i := 0) (k := x) (by rw [hx]; rfl)
            have c7 := fun (w : World) (μc : Mem) (hw : MOk μc w) (hle : MLe μ μc) => chained_spec 100000 (Nat.le_refl _) x _ w μc hw (hkx1.mono hle) (by omega) (hks' x (by rw [hx]; exact .head _))
            rw [hex] at c7
            repeat' (first | (refine KO ?_) | ((with_reducible apply C1); exact rfl; exact EN; exact fun w μc hw hse => c7 w μc hw hse.le) | ((with_reducible apply g_v); exact rfl; (first | (exact U1 0) | (exact U4 hm1))) | (refine KI ?_) | (refine NB fun b => ?_) | ((refine KB ?_ ?_ <;> intro hp)) | (refine KG ?_) | fail)
            all_goals first | exact J1 () trivial | (exfalso; omega)
          · repeat' (first | (refine KK ?_) | (refine NB fun b => ?_) | ((refine KB ?_ ?_ <;> intro hp)) | (refine KG ?_) | fail)
            all_goals first | exact J1 () trivial | (exfalso; omega)
      intro _ _
      repeat' (first | (refine KK ?_) | (refine NB fun b => ?_) | ((refine KB ?_ ?_ <;> intro hp)) | (refine KG ?_) | fail)
      refine gc_loop (ι := Nat) (fun i => i ≤ t.kids.length ∧ ∀ (j : Nat) (k : T), j < i → t.kids[j]? = some k → RA k (ronT t j k spine)) (fun i => t.kids.length - i) (fun _ => μ) (fun i => [(7, .int .i64 i), (1, .bool spine), (2, .pointer (some ⟨b, 0, none⟩))]) (fun _ => [.inl ⟨b, 24, 6, idx 0 (encT t (.slice A t.kids.length c))⟩]) 0 ⟨by omega, fun j _ h => absurd h (by omega)⟩ (fun a w hs => J5 hs) ?_
      rintro i ⟨hi, hok⟩
      by_cases hlt : i < t.kids.length
      · have hkk : t.kids[i]? = some t.kids[i] := List.getElem?_eq_getElem hlt
        generalize t.kids[i] = k at hkk
        obtain ⟨ad, x, rfl, hm, hox, hkx⟩ := hkid i k hkk
        have hsz := T.size_kid hkk
        have hshk := sh_kid hsh (List.mem_of_getElem? hkk)
        have hskk := sh_s hshk
        have ck := fun (w : World) (μc : Mem) (hw : MOk μc w) (hle : MLe μ μc) => rLink_spec k _ w μc hw (hkx.mono hle) (by omega) (by omega)
        have hnext : RA k (ronT t i k spine) → ∀ (j : Nat) (k : T), j < i + 1 → t.kids[j]? = some k → RA k (ronT t j k spine) := fun h j k' hj hk' => by
          rcases Nat.lt_or_ge j i with h1 | h1
          · exact hok j k' h1 hk'
          · obtain rfl : j = i := by omega
            rw [hkk] at hk'
            cases hk'
            exact h
        by_cases hi0 : i = 0
        · subst hi0
          by_cases h53 : t.op = 53
          · skip
            have hon : ronT t 0 k spine = true := by simp [ronT, h53]
            have hcall := fun (w : World) (μc : Mem) (hw : MOk μc w) (hle : MLe μ μc) => ih (by omega) k x true w μc hw (hkx.mono hle) (by omega) hshk
            cases hq : raB k true
            · have hR : raB t spine = false := raB_f fun h => raB_false hq (by cases h with | mk _ _ _ h4 => exact hon ▸ h4 0 k hkk)
              rw [hR]
              rw [hq] at hcall
              repeat' (first | (refine KO ?_) | ((with_reducible apply F1 40); exact rfl; exact EN; first | (exact fun w μc hw hse => ck w μc hw hse.le) | (exact fun w μc hw hse => c3 w μc hw hse.le)) | ((with_reducible apply F1 22); exact rfl; exact EN; (exact fun w μc hw hse => hcall w μc hw hse.le)) | ((with_reducible apply g_v); exact rfl; (first | (exact U1 0) | (exact U4 hm))) | (refine KI ?_) | (refine NB fun b => ?_) | ((refine KB ?_ ?_ <;> intro hp)) | (refine KG ?_) | fail)
              all_goals first | exact ret_s rfl rfl rfl | (exfalso; omega)
            · have hnx := hnext (by rw [hon]; exact raB_true hq)
              rw [hq] at hcall
              repeat' (first | (refine KO ?_) | ((with_reducible apply F1 40); exact rfl; exact EN; first | (exact fun w μc hw hse => ck w μc hw hse.le) | (exact fun w μc hw hse => c3 w μc hw hse.le)) | ((with_reducible apply F1 22); exact rfl; exact EN; (exact fun w μc hw hse => hcall w μc hw hse.le)) | ((with_reducible apply g_v); exact rfl; (first | (exact U1 0) | (exact U4 hm))) | (refine KI ?_) | (refine NB fun b => ?_) | ((refine KB ?_ ?_ <;> intro hp)) | (refine KG ?_) | fail)
              all_goals first | exact J2 (0 + 1) ⟨by omega, hnx⟩ (by omega) | (exfalso; omega)
          · cases spine
            · skip
              have hon : ronT t 0 k false = false := by simp [ronT, h53]
              have hcall := fun (w : World) (μc : Mem) (hw : MOk μc w) (hle : MLe μ μc) => ih (by omega) k x false w μc hw (hkx.mono hle) (by omega) hshk
              cases hq : raB k false
              · have hR : raB t false = false := raB_f fun h => raB_false hq (by cases h with | mk _ _ _ h4 => exact hon ▸ h4 0 k hkk)
                rw [hR]
                rw [hq] at hcall
                repeat' (first | (refine KO ?_) | ((with_reducible apply F1 40); exact rfl; exact EN; first | (exact fun w μc hw hse => ck w μc hw hse.le) | (exact fun w μc hw hse => c3 w μc hw hse.le)) | ((with_reducible apply F1 22); exact rfl; exact EN; (exact fun w μc hw hse => hcall w μc hw hse.le)) | ((with_reducible apply g_v); exact rfl; (first | (exact U1 0) | (exact U4 hm))) | (refine KI ?_) | (refine NB fun b => ?_) | ((refine KB ?_ ?_ <;> intro hp)) | (refine KG ?_) | fail)
                all_goals first | exact ret_s rfl rfl rfl | (exfalso; omega)
              · have hnx := hnext (by rw [hon]; exact raB_true hq)
                rw [hq] at hcall
                repeat' (first | (refine KO ?_) | ((with_reducible apply F1 40); exact rfl; exact EN; first | (exact fun w μc hw hse => ck w μc hw hse.le) | (exact fun w μc hw hse => c3 w μc hw hse.le)) | ((with_reducible apply F1 22); exact rfl; exact EN; (exact fun w μc hw hse => hcall w μc hw hse.le)) | ((with_reducible apply g_v); exact rfl; (first | (exact U1 0) | (exact U4 hm))) | (refine KI ?_) | (refine NB fun b => ?_) | ((refine KB ?_ ?_ <;> intro hp)) | (refine KG ?_) | fail)
                all_goals first | exact J2 (0 + 1) ⟨by omega, hnx⟩ (by omega) | (exfalso; omega)
            · cases hlt2 : linkT t
              · rw [hlt2] at c3
                have hon : ronT t 0 k true = false := by simp [ronT, h53, hlt2]
                have hcall := fun (w : World) (μc : Mem) (hw : MOk μc w) (hle : MLe μ μc) => ih (by omega) k x false w μc hw (hkx.mono hle) (by omega) hshk
                cases hq : raB k false
                · have hR : raB t true = false := raB_f fun h => raB_false hq (by cases h with | mk _ _ _ h4 => exact hon ▸ h4 0 k hkk)
                  rw [hR]
                  rw [hq] at hcall
                  repeat' (first | (refine KO ?_) | ((with_reducible apply F1 40); exact rfl; exact EN; first | (exact fun w μc hw hse => ck w μc hw hse.le) | (exact fun w μc hw hse => c3 w μc hw hse.le)) | ((with_reducible apply F1 22); exact rfl; exact EN; (exact fun w μc hw hse => hcall w μc hw hse.le)) | ((with_reducible apply g_v); exact rfl; (first | (exact U1 0) | (exact U4 hm))) | (refine KI ?_) | (refine NB fun b => ?_) | ((refine KB ?_ ?_ <;> intro hp)) | (refine KG ?_) | fail)
                  all_goals first | exact ret_s rfl rfl rfl | (exfalso; omega)
                · have hnx := hnext (by rw [hon]; exact raB_true hq)
                  rw [hq] at hcall
                  repeat' (first | (refine KO ?_) | ((with_reducible apply F1 40); exact rfl; exact EN; first | (exact fun w μc hw hse => ck w μc hw hse.le) | (exact fun w μc hw hse => c3 w μc hw hse.le)) | ((with_reducible apply F1 22); exact rfl; exact EN; (exact fun w μc hw hse => hcall w μc hw hse.le)) | ((with_reducible apply g_v); exact rfl; (first | (exact U1 0) | (exact U4 hm))) | (refine KI ?_) | (refine NB fun b => ?_) | ((refine KB ?_ ?_ <;> intro hp)) | (refine KG ?_) | fail)
                  all_goals first | exact J2 (0 + 1) ⟨by omega, hnx⟩ (by omega) | (exfalso; omega)
              · rw [hlt2] at c3
                cases hlk : linkT k
                · rw [hlk] at ck
                  have hon : ronT t 0 k true = false := by simp [ronT, h53, hlt2, hlk]
                  have hcall := fun (w : World) (μc : Mem) (hw : MOk μc w) (hle : MLe μ μc) => ih (by omega) k x false w μc hw (hkx.mono hle) (by omega) hshk
                  cases hq : raB k false
                  · have hR : raB t true = false := raB_f fun h => raB_false hq (by cases h with | mk _ _ _ h4 => exact hon ▸ h4 0 k hkk)
                    rw [hR]
                    rw [hq] at hcall
                    repeat' (first | (refine KO ?_) | ((with_reducible apply F1 40); exact rfl; exact EN; first | (exact fun w μc hw hse => ck w μc hw hse.le) | (exact fun w μc hw hse => c3 w μc hw hse.le)) | ((with_reducible apply F1 22); exact rfl; exact EN; (exact fun w μc hw hse => hcall w μc hw hse.le)) | ((with_reducible apply g_v); exact rfl; (first | (exact U1 0) | (exact U4 hm))) | (refine KI ?_) | (refine NB fun b => ?_) | ((refine KB ?_ ?_ <;> intro hp)) | (refine KG ?_) | fail)
                    all_goals first | exact ret_s rfl rfl rfl | (exfalso; omega)
                  · have hnx := hnext (by rw [hon]; exact raB_true hq)
                    rw [hq] at hcall
                    repeat' (first | (refine KO ?_) | ((with_reducible apply F1 40); exact rfl; exact EN; first | (exact fun w μc hw hse => ck w μc hw hse.le) | (exact fun w μc hw hse => c3 w μc hw hse.le)) | ((with_reducible apply F1 22); exact rfl; exact EN; (exact fun w μc hw hse => hcall w μc hw hse.le)) | ((with_reducible apply g_v); exact rfl; (first | (exact U1 0) | (exact U4 hm))) | (refine KI ?_) | (refine NB fun b => ?_) | ((refine KB ?_ ?_ <;> intro hp)) | (refine KG ?_) | fail)
                    all_goals first | exact J2 (0 + 1) ⟨by omega, hnx⟩ (by omega) | (exfalso; omega)
                · rw [hlk] at ck
                  have hon : ronT t 0 k true = true := by simp [ronT, h53, hlt2, hlk]
                  have hcall := fun (w : World) (μc : Mem) (hw : MOk μc w) (hle : MLe μ μc) => ih (by omega) k x true w μc hw (hkx.mono hle) (by omega) hshk
                  cases hq : raB k true
                  · have hR : raB t true = false := raB_f fun h => raB_false hq (by cases h with | mk _ _ _ h4 => exact hon ▸ h4 0 k hkk)
                    rw [hR]
                    rw [hq] at hcall
                    repeat' (first | (refine KO ?_) | ((with_reducible apply F1 40); exact rfl; exact EN; first | (exact fun w μc hw hse => ck w μc hw hse.le) | (exact fun w μc hw hse => c3 w μc hw hse.le)) | ((with_reducible apply F1 22); exact rfl; exact EN; (exact fun w μc hw hse => hcall w μc hw hse.le)) | ((with_reducible apply g_v); exact rfl; (first | (exact U1 0) | (exact U4 hm))) | (refine KI ?_) | (refine NB fun b => ?_) | ((refine KB ?_ ?_ <;> intro hp)) | (refine KG ?_) | fail)
                    all_goals first | exact ret_s rfl rfl rfl | (exfalso; omega)
                  · have hnx := hnext (by rw [hon]; exact raB_true hq)
                    rw [hq] at hcall
                    repeat' (first | (refine KO ?_) | ((with_reducible apply F1 40); exact rfl; exact EN; first | (exact fun w μc hw hse => ck w μc hw hse.le) | (exact fun w μc hw hse => c3 w μc hw hse.le)) | ((with_reducible apply F1 22); exact rfl; exact EN; (exact fun w μc hw hse => hcall w μc hw hse.le)) | ((with_reducible apply g_v); exact rfl; (first | (exact U1 0) | (exact U4 hm))) | (refine KI ?_) | (refine NB fun b => ?_) | ((refine KB ?_ ?_ <;> intro hp)) | (refine KG ?_) | fail)
                    all_goals first | exact J2 (0 + 1) ⟨by omega, hnx⟩ (by omega) | (exfalso; omega)
        · skip
          have hon : ronT t i k spine = false := by simp [ronT, hi0]
          have hcall := fun (w : World) (μc : Mem) (hw : MOk μc w) (hle : MLe μ μc) => ih (by omega) k x false w μc hw (hkx.mono hle) (by omega) hshk
          cases hq : raB k false
          · have hR : raB t spine = false := raB_f fun h => raB_false hq (by cases h with | mk _ _ _ h4 => exact hon ▸ h4 i k hkk)
            rw [hR]
            rw [hq] at hcall
            repeat' (first | (refine KO ?_) | ((with_reducible apply F1 40); exact rfl; exact EN; first | (exact fun w μc hw hse => ck w μc hw hse.le) | (exact fun w μc hw hse => c3 w μc hw hse.le)) | ((with_reducible apply F1 22); exact rfl; exact EN; (exact fun w μc hw hse => hcall w μc hw hse.le)) | ((with_reducible apply g_v); exact rfl; (first | (exact U1 i) | (exact U4 hm))) | (refine KI ?_) | (refine NB fun b => ?_) | ((refine KB ?_ ?_ <;> intro hp)) | (refine KG ?_) | fail)
            all_goals first | exact ret_s rfl rfl rfl | (exfalso; omega)
          · have hnx := hnext (by rw [hon]; exact raB_true hq)
            rw [hq] at hcall
            repeat' (first | (refine KO ?_) | ((with_reducible apply F1 40); exact rfl; exact EN; first | (exact fun w μc hw hse => ck w μc hw hse.le) | (exact fun w μc hw hse => c3 w μc hw hse.le)) | ((with_reducible apply F1 22); exact rfl; exact EN; (exact fun w μc hw hse => hcall w μc hw hse.le)) | ((with_reducible apply g_v); exact rfl; (first | (exact U1 i) | (exact U4 hm))) | (refine KI ?_) | (refine NB fun b => ?_) | ((refine KB ?_ ?_ <;> intro hp)) | (refine KG ?_) | fail)
            all_goals first | exact J2 (i + 1) ⟨by omega, hnx⟩ (by omega) | (exfalso; omega)
      · have hR : raB t spine = true := raB_t (.mk hf hl hKB fun j k hj => hok j k (by have := (List.getElem?_eq_some_iff.1 hj).1; omega) hj)
        rw [hR]
        repeat' (first | (refine KK ?_) | (refine NB fun b => ?_) | ((refine KB ?_ ?_ <;> intro hp)) | (refine KG ?_) | fail)
        all_goals first | exact ret_s rfl rfl rfl | (exfalso; omega)
    · have hR : raB t spine = false := raB_f fun h => by
        cases h with
        | mk h2 h3 _ _ => exact h1 ⟨h2, h3⟩
      rw [hR]
      repeat' (first | ((with_reducible show GC _ _ (Code.seq (Code.region 3 _ _) _) _ _ _ _); (apply gc_stop)) | (refine KO ?_) | ((with_reducible apply F1 39); exact rfl; exact EN; (exact fun w μc hw hse => c2 w μc hw hse.le)) | ((with_reducible apply F1 40); exact rfl; exact EN; (exact fun w μc hw hse => c3 w μc hw hse.le)) | (refine KI ?_) | (refine NB fun b => ?_) | ((refine KB ?_ ?_ <;> intro hp)) | (refine KG ?_) | fail)
      all_goals first | exact ret_s rfl rfl rfl | (exfalso; clear c2 c3 c4 c5 c6 hk hkid hμ hks hks' hsh ih; simp_all; done) | (exfalso; clear c2 c3 c4 c5 c6 hk hkid hμ hks hks' hsh ih; simp_all; omega) | (exfalso; omega)
theorem rRight_spec (t : T) (u : Value) (w : World) (μ : Mem) (hμ : MOk μ w) (hk : KR μ t.kids u) (hs : t.size ≤ 100000) (hsh : Sh t) :
    Calls Tryz.prog 8 #[.agg (encT t u).toArray] w fun e w' => e = .returned (.bool (rtB t 1 false)) ∧ Below w.heap.size w w' := by
  have ho := hk.one
  rw [right_law]
  refine call_intro (args := [.agg (encT t u).toArray]) Tryz.func8 rfl Tryz.ntmps8 (by simp) hμ ?_
  repeat' (first | (refine KO ?_) | ((with_reducible apply F1 21); exact rfl; exact EN; (exact fun w μc hw hse => rDepth_spec 100000 (Nat.le_refl _) t _ w μc hw hs ⟨u, rfl, hk.mono hse.le⟩)) | ((with_reducible apply F1 22); exact rfl; exact EN; (exact fun w μc hw hse => rAll_spec 100000 (Nat.le_refl _) t u false w μc hw (hk.mono hse.le) hs hsh)) | (refine KI ?_) | (refine NB fun b => ?_) | ((refine KB ?_ ?_ <;> intro hp)) | (refine KG ?_) | fail)
  all_goals (refine ret_s rfl rfl ?_; simp_all; try omega)
theorem tRight_spec (t : T) (u : Value) (w : World) (μ : Mem) (hμ : MOk μ w) (hk : KR μ t.kids u) (hs : t.size ≤ 100000) (hsh : Sh t) (hT : TabA μ) :
    Calls Tryz.prog 7 #[.agg (encT t u).toArray] w fun e w' => e = .returned (.bool (rtB t 1 false)) ∧ Below w.heap.size w w' := by
  have ho := hk.one
  refine call_intro (args := [.agg (encT t u).toArray]) Tryz.func7 rfl Tryz.ntmps7 (by simp) hμ ?_
  repeat' (first | (refine KO ?_) | ((with_reducible apply C1); exact rfl; exact EN; exact fun w μc hw hse => right_spec 100000 (Nat.le_refl _) t u 1 false w μc hw (hk.mono hse.le) hs (by decide) hsh (hT.mono hse.le)) | (refine KI ?_) | (refine NB fun b => ?_) | ((refine KB ?_ ?_ <;> intro hp)) | (refine KG ?_) | fail)
  exact ret_s rfl rfl rfl
end Go.Proofs.YtllilkcocfalmaaGreatDoor
