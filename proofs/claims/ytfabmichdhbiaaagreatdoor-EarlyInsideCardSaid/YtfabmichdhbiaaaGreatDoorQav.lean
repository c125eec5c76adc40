/- TreeRight, plainly: at every node the program's table and the reference's patterns agree. (and what leans on it). No statement of the seat is proved here. -/
import Derived.Test.YtfabmichdhbiaaaGreatDoorQat
import Derived.Test.YtfabmichdhbiaaaGreatDoorQau
import Derived.Test.YtfabmichdhbiaaaGreatDoorQaf
import Derived.Test.YtfabmichdhbiaaaGreatDoorQae
import Derived.Test.YtfabmichdhbiaaaGreatDoorQac
set_option maxRecDepth 20000
set_option maxHeartbeats 2000000
namespace Go.Proofs.YtfabmichdhbiaaaGreatDoor
open Go.RowKit Go.Vcg
def OkF (t : T) : Prop := t.op = 4 → 0 ≤ t.n ∧ t.n ≤ 255
def chk (f : Int → Bool) : Bool := (List.range 256).all fun k => f (k : Int)
theorem chk_at {f : Int → Bool} (h : chk f = true) {n : Int} (h0 : 0 ≤ n) (h1 : n ≤ 255) : f n = true := by
  obtain ⟨k, rfl⟩ := Int.eq_ofNat_of_zero_le h0
  exact List.all_eq_true.1 h k (List.mem_range.2 (by omega))
def andB (n m : Int) : Bool := decide (andI n m ≠ 0)
def quoB (n m : Int) : Bool := decide ((IntKind.i64.wrap (n.tdiv m)).tmod 2 = 1)
def bitC (n : Int) : Bool := ([1, 2, 4, 8, 16, 32, 128] : List Int).all (fun m => andB n m == quoB n m) && ((andB n 57 == (andB n 1 || andB n 8 || andB n 16 || andB n 32)) && (andB n 50 == (andB n 2 || andB n 16 || andB n 32)))
theorem bitC_ok : chk bitC = true := by decide +kernel
theorem has_and {t : T} {m : Int} (h4 : t.op = 4) : hasT t m = andB t.n m := by unfold hasT andB; rw [decide_eq_true h4, Bool.true_and]
theorem bit_quo {t : T} {m : Int} (h4 : t.op = 4) (h0 : 0 ≤ t.n) : bitT t m = quoB t.n m := by unfold bitT quoB; rw [decide_eq_true h4, decide_eq_true h0, Bool.true_and, Bool.true_and]
theorem bitC_at {n : Int} (h0 : 0 ≤ n) (h1 : n ≤ 255) : (∀ m ∈ ([1, 2, 4, 8, 16, 32, 128] : List Int), andB n m = quoB n m) ∧ andB n 57 = (andB n 1 || andB n 8 || andB n 16 || andB n 32) ∧ andB n 50 = (andB n 2 || andB n 16 || andB n 32) := by
  have h := chk_at bitC_ok h0 h1
  unfold bitC at h
  rw [Bool.and_eq_true, Bool.and_eq_true, List.all_eq_true] at h
  exact ⟨fun m hm => eq_of_beq (h.1 m hm), eq_of_beq h.2.1, eq_of_beq h.2.2⟩
theorem has_bit {t : T} (h : OkF t) {m : Int} (hm : m ∈ ([1, 2, 4, 8, 16, 32, 128] : List Int)) : hasT t m = bitT t m := by
  by_cases h4 : t.op = 4
  · obtain ⟨h0, h1⟩ := h h4
    rw [has_and h4, bit_quo h4 h0]
    exact (bitC_at h0 h1).1 m hm
  · unfold hasT bitT
    rw [decide_eq_false h4, Bool.false_and, Bool.false_and, Bool.false_and]
theorem has57 {t : T} (h : OkF t) : hasT t 57 = (bitT t 1 || bitT t 8 || bitT t 16 || bitT t 32) := by
  rw [← has_bit h (by simp), ← has_bit h (by simp), ← has_bit h (by simp), ← has_bit h (by simp)]
  by_cases h4 : t.op = 4
  · obtain ⟨h0, h1⟩ := h h4
    rw [has_and h4, has_and h4, has_and h4, has_and h4, has_and h4]
    exact (bitC_at h0 h1).2.1
  · unfold hasT
    rw [decide_eq_false h4]
    rfl
theorem has50 {t : T} (h : OkF t) : hasT t 50 = (bitT t 2 || bitT t 16 || bitT t 32) := by
  rw [← has_bit h (by simp), ← has_bit h (by simp), ← has_bit h (by simp)]
  by_cases h4 : t.op = 4
  · obtain ⟨h0, h1⟩ := h h4
    rw [has_and h4, has_and h4, has_and h4, has_and h4]
    exact (bitC_at h0 h1).2.2
  · unfold hasT
    rw [decide_eq_false h4]
    rfl
attribute [local irreducible] hasT bitT
theorem bit_no {t : T} {m : Int} (h4 : ¬t.op = 4) : bitT t m = false := by
  unfold bitT
  rw [decide_eq_false h4, Bool.false_and, Bool.false_and]
theorem stmt_eq {t : T} (h : OkF t) : stmtT t = rStmtT t := by
  unfold stmtT rStmtT
  by_cases h4 : t.op = 4
  · rw [if_pos h4, has_bit h (by simp), h4]
    simp
  · rw [if_neg h4, bit_no h4]
    cases decide (t.op = 2) <;> cases decide (t.op = 21) <;> cases decide (t.op = 23) <;> cases decide (6 ≤ t.op) <;> cases decide (t.op ≤ 19) <;> rfl
theorem expr_eq {t : T} (h : OkF t) : exprT t = rExprT t := by
  unfold exprT rExprT
  by_cases h4 : t.op = 4
  · rw [if_pos h4, if_pos h4, has57 h]
    cases bitT t 1 <;> cases bitT t 8 <;> cases bitT t 16 <;> cases bitT t 32 <;> rfl
  · rw [if_neg h4, if_neg h4]
attribute [local irreducible] stmtT rStmtT exprT rExprT targetT simpleT linkT namedT len0 set0
theorem is83 (t : T) : isT 83 t = (rStmtT t) := by
  unfold isT
  (repeat first | rw [if_pos (by decide)] | rw [if_neg (by decide)])
theorem is69 (t : T) : isT 69 t = (rExprT t) := by
  unfold isT
  (repeat first | rw [if_pos (by decide)] | rw [if_neg (by decide)])
theorem is84 (t : T) : isT 84 t = (targetT t) := by
  unfold isT
  (repeat first | rw [if_pos (by decide)] | rw [if_neg (by decide)])
theorem is116 (t : T) : isT 116 t = (simpleT t) := by
  unfold isT
  (repeat first | rw [if_pos (by decide)] | rw [if_neg (by decide)])
theorem is99 (t : T) : isT 99 t = (linkT t) := by
  unfold isT
  (repeat first | rw [if_pos (by decide)] | rw [if_neg (by decide)])
theorem is73 (t : T) : isT 73 t = (decide (t.op = 2) || decide (t.op = 8) || decide (t.op = 7)) := by
  unfold isT
  (repeat first | rw [if_pos (by decide)] | rw [if_neg (by decide)])
theorem is77 (t : T) : isT 77 t = (rExprT t || decide (t.op = 7)) := by
  unfold isT
  (repeat first | rw [if_pos (by decide)] | rw [if_neg (by decide)])
theorem is76 (t : T) : isT 76 t = (targetT t || loneT t) := by
  unfold isT
  (repeat first | rw [if_pos (by decide)] | rw [if_neg (by decide)])
theorem is89 (t : T) : isT 89 t = (decide (t.op = 6) || decide (t.op = 7)) := by
  unfold isT
  (repeat first | rw [if_pos (by decide)] | rw [if_neg (by decide)])
theorem is67 (t : T) : isT 67 t = (decide (t.op = 20) || decide (t.op = 7)) := by
  unfold isT
  (repeat first | rw [if_pos (by decide)] | rw [if_neg (by decide)])
theorem is71 (t : T) : isT 71 t = (targetT t || decide (t.op = 7)) := by
  unfold isT
  (repeat first | rw [if_pos (by decide)] | rw [if_neg (by decide)])
theorem is65 (t : T) : isT 65 t = (rExprT t || decide (t.op = 40) || decide (t.op = 41)) := by
  unfold isT
  (repeat first | rw [if_pos (by decide)] | rw [if_neg (by decide)])
theorem is97 (t : T) : isT 97 t = (rExprT t || decide (t.op = 41)) := by
  unfold isT
  (repeat first | rw [if_pos (by decide)] | rw [if_neg (by decide)])
theorem is70 (t : T) : isT 70 t = (targetT t || decide (t.op = 63)) := by
  unfold isT
  (repeat first | rw [if_pos (by decide)] | rw [if_neg (by decide)])
  unfold restT
  (repeat first | rw [if_pos (by decide)] | rw [if_neg (by decide)])
theorem is72 (t : T) : isT 72 t = (targetT t || decide (t.op = 63) || decide (t.op = 40)) := by
  unfold isT
  (repeat first | rw [if_pos (by decide)] | rw [if_neg (by decide)])
  unfold restT
  (repeat first | rw [if_pos (by decide)] | rw [if_neg (by decide)])
theorem is107 (t : T) : isT 107 t = (decide (t.op = 31) || decide (t.op = 30)) := by
  unfold isT
  (repeat first | rw [if_pos (by decide)] | rw [if_neg (by decide)])
  unfold restT
  (repeat first | rw [if_pos (by decide)] | rw [if_neg (by decide)])
theorem is119 (t : T) : isT 119 t = (namedT t) := by
  unfold isT
  (repeat first | rw [if_pos (by decide)] | rw [if_neg (by decide)])
  unfold restT
  (repeat first | rw [if_pos (by decide)] | rw [if_neg (by decide)])
theorem is103 (t : T) : isT 103 t = (bitT t 16 && len0 t 0) := by
  unfold isT
  (repeat first | rw [if_pos (by decide)] | rw [if_neg (by decide)])
  unfold restT
  (repeat first | rw [if_pos (by decide)] | rw [if_neg (by decide)])
theorem is115 (t : T) : isT 115 t = (bitT t 32 && set0 t) := by
  unfold isT
  (repeat first | rw [if_pos (by decide)] | rw [if_neg (by decide)])
  unfold restT
  (repeat first | rw [if_pos (by decide)] | rw [if_neg (by decide)])
theorem is109 (t : T) : isT 109 t = (bitT t 8) := by
  unfold isT
  (repeat first | rw [if_pos (by decide)] | rw [if_neg (by decide)])
  unfold restT
  (repeat first | rw [if_pos (by decide)] | rw [if_neg (by decide)])
theorem is68 (t : T) : isT 68 t = decide (t.op = 3) := by
  unfold isT
  (repeat first | rw [if_pos (by decide)] | rw [if_neg (by decide)])
  unfold restT
  (repeat first | rw [if_pos (by decide)] | rw [if_neg (by decide)])
  rfl
theorem is80 (t : T) : isT 80 t = decide (t.op = 5) := by
  unfold isT
  (repeat first | rw [if_pos (by decide)] | rw [if_neg (by decide)])
  unfold restT
  (repeat first | rw [if_pos (by decide)] | rw [if_neg (by decide)])
  rfl
theorem is66 (t : T) : isT 66 t = decide (t.op = 6) := by
  unfold isT
  (repeat first | rw [if_pos (by decide)] | rw [if_neg (by decide)])
  unfold restT
  (repeat first | rw [if_pos (by decide)] | rw [if_neg (by decide)])
  rfl
theorem is75 (t : T) : isT 75 t = decide (t.op = 22) := by
  unfold isT
  (repeat first | rw [if_pos (by decide)] | rw [if_neg (by decide)])
  unfold restT
  (repeat first | rw [if_pos (by decide)] | rw [if_neg (by decide)])
  rfl
theorem is82 (t : T) : isT 82 t = decide (t.op = 39) := by
  unfold isT
  (repeat first | rw [if_pos (by decide)] | rw [if_neg (by decide)])
  unfold restT
  (repeat first | rw [if_pos (by decide)] | rw [if_neg (by decide)])
  rfl
theorem is81 (t : T) : isT 81 t = decide (t.op = 62) := by
  unfold isT
  (repeat first | rw [if_pos (by decide)] | rw [if_neg (by decide)])
  unfold restT
  (repeat first | rw [if_pos (by decide)] | rw [if_neg (by decide)])
  rfl
theorem is90 (t : T) : isT 90 t = decide (t.op = 64) := by
  unfold isT
  (repeat first | rw [if_pos (by decide)] | rw [if_neg (by decide)])
  unfold restT
  (repeat first | rw [if_pos (by decide)] | rw [if_neg (by decide)])
  rfl
theorem ofT1 (a : Int) (t : T) : ofT [a] t = decide (t.op = a) := by unfold ofT; simp
theorem ofT2 (a b : Int) (t : T) : ofT [a, b] t = (decide (t.op = a) || decide (t.op = b)) := by unfold ofT; simp
theorem ofT3 (a b c : Int) (t : T) : ofT [a, b, c] t = (decide (t.op = a) || (decide (t.op = b) || decide (t.op = c))) := by unfold ofT; simp
theorem ei2 (p q : T → Bool) (t : T) : eiT [p, q] t = (p t || q t) := by unfold eiT; simp
def CE (p : T → Bool) (c : Int) : Prop := ∀ t : T, OkF t → p t = isT c t
theorem ceS : CE stmtT 83 := fun t h => by rw [is83, stmt_eq h]
theorem ceE : CE exprT 69 := fun t h => by rw [is69, expr_eq h]
theorem ceT : CE targetT 84 := fun t _ => by rw [is84]
theorem cet : CE simpleT 116 := fun t _ => by rw [is116]
theorem ceI : CE (ofT [2, 8, 7]) 73 := fun t _ => by rw [is73, ofT3, Bool.or_assoc]
theorem ceM : CE (eiT [exprT, ofT [7]]) 77 := fun t h => by rw [is77, ei2, ofT1, expr_eq h]
theorem ceL : CE leftT 76 := fun t _ => by rw [is76]; unfold leftT loneT; rw [Bool.and_assoc]
theorem ceY : CE (ofT [6, 7]) 89 := fun t _ => by rw [is89, ofT2]
theorem ceC : CE (ofT [20, 7]) 67 := fun t _ => by rw [is67, ofT2]
theorem ceG : CE (eiT [targetT, ofT [7]]) 71 := fun t _ => by rw [is71, ei2, ofT1]
theorem ceA : CE (eiT [exprT, ofT [40, 41]]) 65 := fun t h => by rw [is65, ei2, ofT2, expr_eq h, Bool.or_assoc]
theorem cea : CE argsT 97 := fun t h => by unfold argsT; rw [is97, ei2, ofT1, expr_eq h]
theorem ceF : CE itemT 70 := fun t _ => by unfold itemT; rw [is70, ei2, ofT1]
theorem ceH : CE (eiT [itemT, ofT [40]]) 72 := fun t h => by rw [is72, ei2, ofT1, ceF t h, is70]
theorem cek : CE (ofT [31, 30]) 107 := fun t _ => by rw [is107, ofT2]
theorem cew : CE namedT 119 := fun t _ => by rw [is119]
theorem ceg : CE getT 103 := fun t h => by unfold getT; rw [is103, has_bit h (by simp)]
theorem ces : CE setT 115 := fun t h => by unfold setT; rw [is115, has_bit h (by simp)]
theorem cem : CE methT 109 := fun t h => by unfold methT; rw [is109, has_bit h (by simp)]
theorem ceD : CE (ofT [3]) 68 := fun t _ => by rw [is68, ofT1]
theorem ceP : CE (ofT [5]) 80 := fun t _ => by rw [is80, ofT1]
theorem ceB : CE (ofT [6]) 66 := fun t _ => by rw [is66, ofT1]
theorem ceK : CE (ofT [22]) 75 := fun t _ => by rw [is75, ofT1]
theorem ceR : CE (ofT [39]) 82 := fun t _ => by rw [is82, ofT1]
theorem ceQ : CE (ofT [62]) 81 := fun t _ => by rw [is81, ofT1]
theorem ceZ : CE (ofT [64]) 90 := fun t _ => by rw [is90, ofT1]
attribute [local irreducible] isT
theorem eat2 (p : T → Bool) : ∀ (l : List T) (n : Nat), (eatF p 2 n l).2 = l.dropWhile p
  | [], _ => rfl
  | k :: r, n => by
    cases h : p k
    · rw [eatF, if_neg (by simp [h]), List.dropWhile_cons, if_neg (by simp [h])]
    · rw [eatF, if_pos ⟨h, .inr rfl⟩, List.dropWhile_cons, if_pos h]
      exact eat2 p r _
theorem eat_one (p : T → Bool) (m : Int) (hm : m ≠ 2) (l : List T) : eatF p m 1 l = (1, l) := by
  cases l with
  | nil => rfl
  | cons k r => rw [eatF, if_neg (by simp [hm])]
theorem fitP_nil' (l : List T) : fitP [] l = decide (l.length = 0) := rfl
theorem fitP_2 (p : T → Bool) (r : List ((T → Bool) × Int)) (l : List T) : fitP ((p, 2) :: r) l = fitP r (l.dropWhile p) := by rw [fitP, if_neg (by simp), eat2]
theorem fitP_1 (p : T → Bool) (r : List ((T → Bool) × Int)) (l : List T) : fitP ((p, 1) :: r) l = fitP r (match l with | k :: r => if p k = true then r else k :: r | [] => []) := by
  rw [fitP, if_neg (by simp)]
  cases l with
  | nil => rfl
  | cons k t =>
    cases h : p k
    · rw [eatF, if_neg (by simp [h])]; simp [h]
    · rw [eatF, if_pos ⟨h, .inl rfl⟩, eat_one p 1 (by decide)]; simp [h]
theorem fitP_0 (p : T → Bool) (r : List ((T → Bool) × Int)) (l : List T) : fitP ((p, 0) :: r) l = match l with | k :: t => if p k = true then fitP r t else false | [] => false := by
  rw [fitP]
  cases l with
  | nil => simp [eatF]
  | cons k t =>
    cases h : p k
    · have e : eatF p 0 0 (k :: t) = (0, k :: t) := by rw [eatF, if_neg (by simp [h])]
      rw [e]; simp [h]
    · have e : eatF p 0 0 (k :: t) = (1, t) := by rw [eatF, if_pos ⟨h, .inl rfl⟩, eat_one p 0 (by decide)]
      rw [e]; simp [h]
def RF (s : List UInt8) (rows : List ((T → Bool) × Int)) : Prop := ∀ l, rowP s l = fitP rows l
theorem rf_nil : RF [] [] := fun l => by rw [rowP_nil, fitP_nil']
theorem rf_star {s : List UInt8} {rows : List ((T → Bool) × Int)} (c : UInt8) (h : RF s rows) : RF (c :: 42 :: s) ((isT (c.toNat : Int), 2) :: rows) := fun l => by rw [rowP_star, fitP_2, h]
theorem rf_q {s : List UInt8} {rows : List ((T → Bool) × Int)} (c : UInt8) (h : RF s rows) : RF (c :: 63 :: s) ((isT (c.toNat : Int), 1) :: rows) := fun l => by
  rw [rowP_q, fitP_1, h]
  cases l <;> rfl
theorem rf_one {rows : List ((T → Bool) × Int)} (c : UInt8) (h : RF [] rows) : RF [c] ((isT (c.toNat : Int), 0) :: rows) := fun l => by
  rw [rowP_1, fitP_0]
  cases l with
  | nil => rfl
  | cons k t => simp only [h t]
theorem rf_d {d : UInt8} {s : List UInt8} {rows : List ((T → Bool) × Int)} (c : UInt8) (h1 : d ≠ 42) (h2 : d ≠ 63) (h : RF (d :: s) rows) : RF (c :: d :: s) ((isT (c.toNat : Int), 0) :: rows) := fun l => by
  rw [rowP_d h1 h2, fitP_0]
  cases l with
  | nil => rfl
  | cons k t => simp only [h t]
inductive RE : List ((T → Bool) × Int) → List ((T → Bool) × Int) → Prop
  | nil : RE [] []
  | cons {p q : T → Bool} {m : Int} {r r' : List ((T → Bool) × Int)} (h : ∀ t, OkF t → p t = q t) (hr : RE r r') : RE ((p, m) :: r) ((q, m) :: r')
theorem eat_sub (p : T → Bool) (m : Int) : ∀ (l : List T) (n : Nat) (k : T), k ∈ (eatF p m n l).2 → k ∈ l
  | [], _, _, h => h
  | x :: r, n, k, h => by
    rw [eatF] at h
    split at h
    · exact List.mem_cons_of_mem _ (eat_sub p m r _ k h)
    · exact h
theorem eat_congr {p q : T → Bool} (m : Int) : ∀ (l : List T) (n : Nat), (∀ k ∈ l, p k = q k) → eatF p m n l = eatF q m n l
  | [], _, _ => rfl
  | x :: r, n, h => by
    rw [eatF, eatF, h x (.head _), eat_congr m r _ fun k hk => h k (.tail _ hk)]
theorem fit_congr {r r' : List ((T → Bool) × Int)} (h : RE r r') : ∀ (l : List T), (∀ k ∈ l, OkF k) → fitP r l = fitP r' l := by
  induction h with
  | nil => exact fun _ _ => rfl
  | cons h hr ih =>
    rename_i p q m rr rr'
    intro l hl
    have e := eat_congr m l 0 fun k hk => h k (hl k hk)
    rw [fitP, fitP, e, ih _ fun k hk => hl k (eat_sub q m l 0 k hk)]
theorem len_zero (l : List T) : decide (l.length = 0) = l.isEmpty := by cases l <;> simp
theorem all_dw (p : T → Bool) : ∀ l : List T, (l.dropWhile p).isEmpty = l.all p
  | [] => rfl
  | k :: r => by
    rw [List.dropWhile_cons, List.all_cons]
    cases h : p k
    · simp
    · simp only [if_pos, Bool.true_and]
      exact all_dw p r
theorem few0 (p : T → Bool) (l : List T) : fewP p 0 (-1) l = fitP [(p, 2)] l := by
  rw [fitP_2, fitP_nil', len_zero, all_dw]
  unfold fewP
  simp
theorem few1 (p : T → Bool) (l : List T) : fewP p 1 (-1) l = fitP [(p, 0), (p, 2)] l := by
  rw [fitP_0]
  cases l with
  | nil => rfl
  | cons k r =>
    simp only [← few0]
    unfold fewP
    cases h : p k <;> simp [h]
    try omega
theorem few2 (p : T → Bool) (l : List T) : fewP p 2 (-1) l = fitP [(p, 0), (p, 0), (p, 2)] l := by
  rw [fitP_0]
  cases l with
  | nil => rfl
  | cons k r =>
    simp only [← few1]
    unfold fewP
    cases h : p k <;> simp [h]
    rw [show decide (2 ≤ (r.length : Int) + 1) = decide (1 ≤ (r.length : Int)) from decide_eq_decide.2 (by omega)]
theorem few11 (p : T → Bool) (l : List T) : fewP p 1 1 l = fitP [(p, 0)] l := by
  rw [fitP_0]
  cases l with
  | nil => rfl
  | cons k r =>
    simp only [fitP_nil']
    unfold fewP
    cases r with
    | nil => cases h : p k <;> simp [h]
    | cons k2 r =>
      cases h : p k <;> simp [h]
      try omega
theorem few22 (p : T → Bool) (l : List T) : fewP p 2 2 l = fitP [(p, 0), (p, 0)] l := by
  rw [fitP_0]
  cases l with
  | nil => rfl
  | cons k r =>
    simp only [← few11]
    unfold fewP
    cases h : p k <;> simp [h]
    rw [show decide (2 ≤ (r.length : Int) + 1) = decide (1 ≤ (r.length : Int)) from decide_eq_decide.2 (by omega), show decide ((r.length : Int) + 1 ≤ 2) = decide ((r.length : Int) ≤ 1) from decide_eq_decide.2 (by omega)]
theorem few33 (p : T → Bool) (l : List T) : fewP p 3 3 l = fitP [(p, 0), (p, 0), (p, 0)] l := by
  rw [fitP_0]
  cases l with
  | nil => rfl
  | cons k r =>
    simp only [← few22]
    unfold fewP
    cases h : p k <;> simp [h]
    rw [show decide (3 ≤ (r.length : Int) + 1) = decide (2 ≤ (r.length : Int)) from decide_eq_decide.2 (by omega), show decide ((r.length : Int) + 1 ≤ 3) = decide ((r.length : Int) ≤ 2) from decide_eq_decide.2 (by omega)]
theorem few01 (p : T → Bool) (l : List T) : fewP p 0 1 l = fitP [(p, 1)] l := by
  rw [fitP_1]
  cases l with
  | nil => rfl
  | cons k r =>
    unfold fewP
    cases r with
    | nil => cases h : p k <;> simp [h, fitP_nil']
    | cons k2 r =>
      cases h : p k <;> simp [h, fitP_nil']
      try omega
noncomputable def krowB (t : T) : Bool := if t.op = 36 then templB rExprT t.kids else decide (kindsS t ≠ ⟨#[33]⟩) && rowP (bl (kindsS t)) t.kids
noncomputable def extraB (t : T) : Bool := (if t.op = 19 then (match t.kids with | [_, y, z] => decide (y.op ≠ 7) || decide (z.op ≠ 7) | _ => false) else true) && (if t.op = 53 then (match t.kids with | [k] => chB k | _ => false) else true)
noncomputable def rKidsB (t : T) : Bool := krowB t && extraB t
theorem extra_true {t : T} (h1 : t.op ≠ 19) (h2 : t.op ≠ 53) : extraB t = true := by unfold extraB; rw [if_neg h1, if_neg h2]; rfl
theorem rk_row {t : T} {s : ByteArray} (h1 : t.op ≠ 19) (h2 : t.op ≠ 53) (h3 : t.op ≠ 36) (hs : kindsS t = s) (hne : s ≠ ⟨#[33]⟩) : rKidsB t = rowP (bl s) t.kids := by
  unfold rKidsB krowB
  rw [extra_true h1 h2, if_neg h3, hs, decide_eq_true hne, Bool.true_and, Bool.and_true]
attribute [local irreducible] fitP rowP fewP templB chB
theorem kr_prog (t : T) (hop : t.op = 1 ∨ t.op = 6) (hk : ∀ k ∈ t.kids, OkF k) : kidsB t = rKidsB t := by
  have e1 : kidsB t = fewP stmtT 0 (-1) t.kids := by
    unfold kidsB
    rw [if_pos (by omega)]
    unfold stB
    (repeat first | rw [if_pos (by omega)] | rw [if_neg (by omega)])
  have e2 : kindsS t = ⟨#[83, 42]⟩ := by
    unfold kindsS
    (repeat first | rw [if_pos (by omega)] | rw [if_neg (by omega)])
  rw [e1, rk_row (by omega) (by omega) (by omega) e2 (by decide), show bl ⟨#[83, 42]⟩ = [83, 42] from rfl, (rf_star 83 rf_nil)]
  rw [few0]
  exact fit_congr (.cons ceS .nil) _ hk
theorem kr_var (t : T) (hop : t.op = 2) (hk : ∀ k ∈ t.kids, OkF k) : kidsB t = rKidsB t := by
  have e1 : kidsB t = fewP (ofT [3]) 1 (-1) t.kids := by
    unfold kidsB
    rw [if_pos (by omega)]
    unfold stB
    (repeat first | rw [if_pos (by omega)] | rw [if_neg (by omega)])
  have e2 : kindsS t = ⟨#[68, 68, 42]⟩ := by
    unfold kindsS
    (repeat first | rw [if_pos (by omega)] | rw [if_neg (by omega)])
  rw [e1, rk_row (by omega) (by omega) (by omega) e2 (by decide), show bl ⟨#[68, 68, 42]⟩ = [68, 68, 42] from rfl, (rf_d 68 (by decide) (by decide) (rf_star 68 rf_nil))]
  rw [few1]
  exact fit_congr (.cons ceD (.cons ceD .nil)) _ hk
theorem kr_decl (t : T) (hop : t.op = 3) (hk : ∀ k ∈ t.kids, OkF k) : kidsB t = rKidsB t := by
  have e1 : kidsB t = fitP [(targetT, 0), (exprT, 1)] t.kids := by
    unfold kidsB
    rw [if_pos (by omega)]
    unfold stB
    (repeat first | rw [if_pos (by omega)] | rw [if_neg (by omega)])
  have e2 : kindsS t = ⟨#[84, 69, 63]⟩ := by
    unfold kindsS
    (repeat first | rw [if_pos (by omega)] | rw [if_neg (by omega)])
  rw [e1, rk_row (by omega) (by omega) (by omega) e2 (by decide), show bl ⟨#[84, 69, 63]⟩ = [84, 69, 63] from rfl, (rf_d 84 (by decide) (by decide) (rf_q 69 rf_nil))]
  exact fit_congr (.cons ceT (.cons ceE .nil)) _ hk
theorem kr_params (t : T) (hop : t.op = 5) (hk : ∀ k ∈ t.kids, OkF k) : kidsB t = rKidsB t := by
  have e1 : kidsB t = fitP [(eiT [targetT, ofT [63]], 2), (ofT [64], 1)] t.kids := by
    unfold kidsB
    rw [if_pos (by omega)]
    unfold stB
    (repeat first | rw [if_pos (by omega)] | rw [if_neg (by omega)])
  have e2 : kindsS t = ⟨#[70, 42, 90, 63]⟩ := by
    unfold kindsS
    (repeat first | rw [if_pos (by omega)] | rw [if_neg (by omega)])
  rw [e1, rk_row (by omega) (by omega) (by omega) e2 (by decide), show bl ⟨#[70, 42, 90, 63]⟩ = [70, 42, 90, 63] from rfl, (rf_star 70 (rf_q 90 rf_nil))]
  exact fit_congr (.cons ceF (.cons ceZ .nil)) _ hk
theorem kr_none (t : T) (hop : t.op = 7 ∨ t.op = 15 ∨ t.op = 16) (hk : ∀ k ∈ t.kids, OkF k) : kidsB t = rKidsB t := by
  have e1 : kidsB t = decide (t.kids.length = 0) := by
    unfold kidsB
    rw [if_pos (by omega)]
    unfold stB
    (repeat first | rw [if_pos (by omega)] | rw [if_neg (by omega)])
  have e2 : kindsS t = ⟨#[]⟩ := by
    unfold kindsS
    (repeat first | rw [if_pos (by omega)] | rw [if_neg (by omega)])
  rw [e1, rk_row (by omega) (by omega) (by omega) e2 (by decide), show bl ⟨#[]⟩ = [] from rfl, rf_nil]
  rw [fitP_nil']
theorem kr_expr (t : T) (hop : t.op = 8 ∨ t.op = 18) (hk : ∀ k ∈ t.kids, OkF k) : kidsB t = rKidsB t := by
  have e1 : kidsB t = fitP (eachP [exprT]) t.kids := by
    unfold kidsB
    rw [if_pos (by omega)]
    unfold stB
    (repeat first | rw [if_pos (by omega)] | rw [if_neg (by omega)])
  have e2 : kindsS t = ⟨#[69]⟩ := by
    unfold kindsS
    (repeat first | rw [if_pos (by omega)] | rw [if_neg (by omega)])
  rw [e1, rk_row (by omega) (by omega) (by omega) e2 (by decide), show bl ⟨#[69]⟩ = [69] from rfl, (rf_one 69 rf_nil)]
  exact fit_congr (.cons ceE .nil) _ hk
theorem kr_if (t : T) (hop : t.op = 9) (hk : ∀ k ∈ t.kids, OkF k) : kidsB t = rKidsB t := by
  have e1 : kidsB t = fitP [(exprT, 0), (stmtT, 0), (stmtT, 1)] t.kids := by
    unfold kidsB
    rw [if_pos (by omega)]
    unfold stB
    (repeat first | rw [if_pos (by omega)] | rw [if_neg (by omega)])
  have e2 : kindsS t = ⟨#[69, 83, 83, 63]⟩ := by
    unfold kindsS
    (repeat first | rw [if_pos (by omega)] | rw [if_neg (by omega)])
  rw [e1, rk_row (by omega) (by omega) (by omega) e2 (by decide), show bl ⟨#[69, 83, 83, 63]⟩ = [69, 83, 83, 63] from rfl, (rf_d 69 (by decide) (by decide) (rf_d 83 (by decide) (by decide) (rf_q 83 rf_nil)))]
  exact fit_congr (.cons ceE (.cons ceS (.cons ceS .nil))) _ hk
theorem kr_for (t : T) (hop : t.op = 10) (hk : ∀ k ∈ t.kids, OkF k) : kidsB t = rKidsB t := by
  have e1 : kidsB t = fitP (eachP [ofT [2, 8, 7], eiT [exprT, ofT [7]], eiT [exprT, ofT [7]], stmtT]) t.kids := by
    unfold kidsB
    rw [if_pos (by omega)]
    unfold stB
    (repeat first | rw [if_pos (by omega)] | rw [if_neg (by omega)])
  have e2 : kindsS t = ⟨#[73, 77, 77, 83]⟩ := by
    unfold kindsS
    (repeat first | rw [if_pos (by omega)] | rw [if_neg (by omega)])
  rw [e1, rk_row (by omega) (by omega) (by omega) e2 (by decide), show bl ⟨#[73, 77, 77, 83]⟩ = [73, 77, 77, 83] from rfl, (rf_d 73 (by decide) (by decide) (rf_d 77 (by decide) (by decide) (rf_d 77 (by decide) (by decide) (rf_one 83 rf_nil))))]
  exact fit_congr (.cons ceI (.cons ceM (.cons ceM (.cons ceS .nil)))) _ hk
theorem kr_forin (t : T) (hop : t.op = 11 ∨ t.op = 12) (hk : ∀ k ∈ t.kids, OkF k) : kidsB t = rKidsB t := by
  have e1 : kidsB t = fitP (eachP [leftT, exprT, stmtT]) t.kids := by
    unfold kidsB
    rw [if_pos (by omega)]
    unfold stB
    (repeat first | rw [if_pos (by omega)] | rw [if_neg (by omega)])
  have e2 : kindsS t = ⟨#[76, 69, 83]⟩ := by
    unfold kindsS
    (repeat first | rw [if_pos (by omega)] | rw [if_neg (by omega)])
  rw [e1, rk_row (by omega) (by omega) (by omega) e2 (by decide), show bl ⟨#[76, 69, 83]⟩ = [76, 69, 83] from rfl, (rf_d 76 (by decide) (by decide) (rf_d 69 (by decide) (by decide) (rf_one 83 rf_nil)))]
  exact fit_congr (.cons ceL (.cons ceE (.cons ceS .nil))) _ hk
theorem kr_while (t : T) (hop : t.op = 13) (hk : ∀ k ∈ t.kids, OkF k) : kidsB t = rKidsB t := by
  have e1 : kidsB t = fitP (eachP [exprT, stmtT]) t.kids := by
    unfold kidsB
    rw [if_pos (by omega)]
    unfold stB
    (repeat first | rw [if_pos (by omega)] | rw [if_neg (by omega)])
  have e2 : kindsS t = ⟨#[69, 83]⟩ := by
    unfold kindsS
    (repeat first | rw [if_pos (by omega)] | rw [if_neg (by omega)])
  rw [e1, rk_row (by omega) (by omega) (by omega) e2 (by decide), show bl ⟨#[69, 83]⟩ = [69, 83] from rfl, (rf_d 69 (by decide) (by decide) (rf_one 83 rf_nil))]
  exact fit_congr (.cons ceE (.cons ceS .nil)) _ hk
theorem kr_do (t : T) (hop : t.op = 14) (hk : ∀ k ∈ t.kids, OkF k) : kidsB t = rKidsB t := by
  have e1 : kidsB t = fitP (eachP [stmtT, exprT]) t.kids := by
    unfold kidsB
    rw [if_pos (by omega)]
    unfold stB
    (repeat first | rw [if_pos (by omega)] | rw [if_neg (by omega)])
  have e2 : kindsS t = ⟨#[83, 69]⟩ := by
    unfold kindsS
    (repeat first | rw [if_pos (by omega)] | rw [if_neg (by omega)])
  rw [e1, rk_row (by omega) (by omega) (by omega) e2 (by decide), show bl ⟨#[83, 69]⟩ = [83, 69] from rfl, (rf_d 83 (by decide) (by decide) (rf_one 69 rf_nil))]
  exact fit_congr (.cons ceS (.cons ceE .nil)) _ hk
theorem kr_ret (t : T) (hop : t.op = 17) (hk : ∀ k ∈ t.kids, OkF k) : kidsB t = rKidsB t := by
  have e1 : kidsB t = fewP exprT 0 1 t.kids := by
    unfold kidsB
    rw [if_pos (by omega)]
    unfold stB
    (repeat first | rw [if_pos (by omega)] | rw [if_neg (by omega)])
  have e2 : kindsS t = ⟨#[69, 63]⟩ := by
    unfold kindsS
    (repeat first | rw [if_pos (by omega)] | rw [if_neg (by omega)])
  rw [e1, rk_row (by omega) (by omega) (by omega) e2 (by decide), show bl ⟨#[69, 63]⟩ = [69, 63] from rfl, (rf_q 69 rf_nil)]
  rw [few01]
  exact fit_congr (.cons ceE .nil) _ hk
theorem kr_catch (t : T) (hop : t.op = 20) (hk : ∀ k ∈ t.kids, OkF k) : kidsB t = rKidsB t := by
  have e1 : kidsB t = fitP (eachP [eiT [targetT, ofT [7]], ofT [6]]) t.kids := by
    unfold kidsB
    rw [if_pos (by omega)]
    unfold stB
    (repeat first | rw [if_pos (by omega)] | rw [if_neg (by omega)])
  have e2 : kindsS t = ⟨#[71, 66]⟩ := by
    unfold kindsS
    (repeat first | rw [if_pos (by omega)] | rw [if_neg (by omega)])
  rw [e1, rk_row (by omega) (by omega) (by omega) e2 (by decide), show bl ⟨#[71, 66]⟩ = [71, 66] from rfl, (rf_d 71 (by decide) (by decide) (rf_one 66 rf_nil))]
  exact fit_congr (.cons ceG (.cons ceB .nil)) _ hk
theorem kr_switch (t : T) (hop : t.op = 21) (hk : ∀ k ∈ t.kids, OkF k) : kidsB t = rKidsB t := by
  have e1 : kidsB t = fitP [(exprT, 0), (ofT [22], 2)] t.kids := by
    unfold kidsB
    rw [if_pos (by omega)]
    unfold stB
    (repeat first | rw [if_pos (by omega)] | rw [if_neg (by omega)])
  have e2 : kindsS t = ⟨#[69, 75, 42]⟩ := by
    unfold kindsS
    (repeat first | rw [if_pos (by omega)] | rw [if_neg (by omega)])
    unfold moreS
    (repeat first | rw [if_pos (by omega)] | rw [if_neg (by omega)])
  rw [e1, rk_row (by omega) (by omega) (by omega) e2 (by decide), show bl ⟨#[69, 75, 42]⟩ = [69, 75, 42] from rfl, (rf_d 69 (by decide) (by decide) (rf_star 75 rf_nil))]
  exact fit_congr (.cons ceE (.cons ceK .nil)) _ hk
theorem kr_case1 (t : T) (hop : t.op = 22) (hn : t.n = 1) (hk : ∀ k ∈ t.kids, OkF k) : kidsB t = rKidsB t := by
  have e1 : kidsB t = fewP stmtT 0 (-1) t.kids := by
    unfold kidsB
    rw [if_pos (by omega)]
    unfold stB
    (repeat first | rw [if_pos (by omega)] | rw [if_neg (by omega)])
  have e2 : kindsS t = ⟨#[83, 42]⟩ := by
    unfold kindsS
    (repeat first | rw [if_pos (by omega)] | rw [if_neg (by omega)])
    unfold moreS
    (repeat first | rw [if_pos (by omega)] | rw [if_neg (by omega)])
  rw [e1, rk_row (by omega) (by omega) (by omega) e2 (by decide), show bl ⟨#[83, 42]⟩ = [83, 42] from rfl, (rf_star 83 rf_nil)]
  rw [few0]
  exact fit_congr (.cons ceS .nil) _ hk
theorem kr_case2 (t : T) (hop : t.op = 22) (hn : t.n ≠ 1) (hk : ∀ k ∈ t.kids, OkF k) : kidsB t = rKidsB t := by
  have e1 : kidsB t = fitP [(exprT, 0), (stmtT, 2)] t.kids := by
    unfold kidsB
    rw [if_pos (by omega)]
    unfold stB
    (repeat first | rw [if_pos (by omega)] | rw [if_neg (by omega)])
  have e2 : kindsS t = ⟨#[69, 83, 42]⟩ := by
    unfold kindsS
    (repeat first | rw [if_pos (by omega)] | rw [if_neg (by omega)])
    unfold moreS
    (repeat first | rw [if_pos (by omega)] | rw [if_neg (by omega)])
  rw [e1, rk_row (by omega) (by omega) (by omega) e2 (by decide), show bl ⟨#[69, 83, 42]⟩ = [69, 83, 42] from rfl, (rf_d 69 (by decide) (by decide) (rf_star 83 rf_nil))]
  exact fit_congr (.cons ceE (.cons ceS .nil)) _ hk
theorem kr_label (t : T) (hop : t.op = 23) (hk : ∀ k ∈ t.kids, OkF k) : kidsB t = rKidsB t := by
  have e1 : kidsB t = fitP (eachP [stmtT]) t.kids := by
    unfold kidsB
    rw [if_pos (by omega)]
    unfold stB
    (repeat first | rw [if_pos (by omega)] | rw [if_neg (by omega)])
  have e2 : kindsS t = ⟨#[83]⟩ := by
    unfold kindsS
    (repeat first | rw [if_pos (by omega)] | rw [if_neg (by omega)])
    unfold moreS
    (repeat first | rw [if_pos (by omega)] | rw [if_neg (by omega)])
  rw [e1, rk_row (by omega) (by omega) (by omega) e2 (by decide), show bl ⟨#[83]⟩ = [83] from rfl, (rf_one 83 rf_nil)]
  exact fit_congr (.cons ceS .nil) _ hk
theorem kr_lit (t : T) (hop : t.op = 30 ∨ t.op = 31 ∨ t.op = 32 ∨ t.op = 33 ∨ t.op = 34 ∨ t.op = 35 ∨ t.op = 40) (hk : ∀ k ∈ t.kids, OkF k) : kidsB t = rKidsB t := by
  have e1 : kidsB t = decide (t.kids.length = 0) := by
    unfold kidsB
    rw [if_neg (by omega)]
    unfold exB
    (repeat first | rw [if_pos (by omega)] | rw [if_neg (by omega)])
  have e2 : kindsS t = ⟨#[]⟩ := by
    unfold kindsS
    (repeat first | rw [if_pos (by omega)] | rw [if_neg (by omega)])
  rw [e1, rk_row (by omega) (by omega) (by omega) e2 (by decide), show bl ⟨#[]⟩ = [] from rfl, rf_nil]
  rw [fitP_nil']
theorem kr_array (t : T) (hop : t.op = 37) (hk : ∀ k ∈ t.kids, OkF k) : kidsB t = rKidsB t := by
  have e1 : kidsB t = fewP (eiT [exprT, ofT [40, 41]]) 0 (-1) t.kids := by
    unfold kidsB
    rw [if_neg (by omega)]
    unfold exB
    (repeat first | rw [if_pos (by omega)] | rw [if_neg (by omega)])
  have e2 : kindsS t = ⟨#[65, 42]⟩ := by
    unfold kindsS
    (repeat first | rw [if_pos (by omega)] | rw [if_neg (by omega)])
    unfold moreS
    (repeat first | rw [if_pos (by omega)] | rw [if_neg (by omega)])
  rw [e1, rk_row (by omega) (by omega) (by omega) e2 (by decide), show bl ⟨#[65, 42]⟩ = [65, 42] from rfl, (rf_star 65 rf_nil)]
  rw [few0]
  exact fit_congr (.cons ceA .nil) _ hk
theorem kr_object (t : T) (hop : t.op = 38) (hk : ∀ k ∈ t.kids, OkF k) : kidsB t = rKidsB t := by
  have e1 : kidsB t = fewP (ofT [39]) 0 (-1) t.kids := by
    unfold kidsB
    rw [if_neg (by omega)]
    unfold exB
    (repeat first | rw [if_pos (by omega)] | rw [if_neg (by omega)])
  have e2 : kindsS t = ⟨#[82, 42]⟩ := by
    unfold kindsS
    (repeat first | rw [if_pos (by omega)] | rw [if_neg (by omega)])
    unfold moreS
    (repeat first | rw [if_pos (by omega)] | rw [if_neg (by omega)])
  rw [e1, rk_row (by omega) (by omega) (by omega) e2 (by decide), show bl ⟨#[82, 42]⟩ = [82, 42] from rfl, (rf_star 82 rf_nil)]
  rw [few0]
  exact fit_congr (.cons ceR .nil) _ hk
theorem kr_spread (t : T) (hop : t.op = 41 ∨ t.op = 42) (hk : ∀ k ∈ t.kids, OkF k) : kidsB t = rKidsB t := by
  have e1 : kidsB t = fitP (eachP [exprT]) t.kids := by
    unfold kidsB
    rw [if_neg (by omega)]
    unfold exB
    (repeat first | rw [if_pos (by omega)] | rw [if_neg (by omega)])
  have e2 : kindsS t = ⟨#[69]⟩ := by
    unfold kindsS
    (repeat first | rw [if_pos (by omega)] | rw [if_neg (by omega)])
  rw [e1, rk_row (by omega) (by omega) (by omega) e2 (by decide), show bl ⟨#[69]⟩ = [69] from rfl, (rf_one 69 rf_nil)]
  exact fit_congr (.cons ceE .nil) _ hk
theorem kr_update (t : T) (hop : t.op = 43) (hk : ∀ k ∈ t.kids, OkF k) : kidsB t = rKidsB t := by
  have e1 : kidsB t = fitP (eachP [simpleT]) t.kids := by
    unfold kidsB
    rw [if_neg (by omega)]
    unfold exB
    (repeat first | rw [if_pos (by omega)] | rw [if_neg (by omega)])
  have e2 : kindsS t = ⟨#[116]⟩ := by
    unfold kindsS
    (repeat first | rw [if_pos (by omega)] | rw [if_neg (by omega)])
    unfold moreS
    (repeat first | rw [if_pos (by omega)] | rw [if_neg (by omega)])
  rw [e1, rk_row (by omega) (by omega) (by omega) e2 (by decide), show bl ⟨#[116]⟩ = [116] from rfl, (rf_one 116 rf_nil)]
  exact fit_congr (.cons cet .nil) _ hk
theorem kr_bin (t : T) (hop : t.op = 44 ∨ t.op = 45 ∨ t.op = 52) (hk : ∀ k ∈ t.kids, OkF k) : kidsB t = rKidsB t := by
  have e1 : kidsB t = fewP exprT 2 2 t.kids := by
    unfold kidsB
    rw [if_neg (by omega)]
    unfold exB
    (repeat first | rw [if_pos (by omega)] | rw [if_neg (by omega)])
  have e2 : kindsS t = ⟨#[69, 69]⟩ := by
    unfold kindsS
    (repeat first | rw [if_pos (by omega)] | rw [if_neg (by omega)])
    unfold moreS
    (repeat first | rw [if_pos (by omega)] | rw [if_neg (by omega)])
  rw [e1, rk_row (by omega) (by omega) (by omega) e2 (by decide), show bl ⟨#[69, 69]⟩ = [69, 69] from rfl, (rf_d 69 (by decide) (by decide) (rf_one 69 rf_nil))]
  rw [few22]
  exact fit_congr (.cons ceE (.cons ceE .nil)) _ hk
theorem kr_asg1 (t : T) (hop : t.op = 46) (hs : t.s = ⟨#[61]⟩) (hk : ∀ k ∈ t.kids, OkF k) : kidsB t = rKidsB t := by
  have e1 : kidsB t = fitP (eachP [targetT, exprT]) t.kids := by
    unfold kidsB
    rw [if_neg (by omega)]
    unfold exB
    (repeat first | rw [if_pos (by omega)] | rw [if_neg (by omega)])
    (try rw [if_pos hs])
  have e2 : kindsS t = ⟨#[84, 69]⟩ := by
    unfold kindsS
    (repeat first | rw [if_pos (by omega)] | rw [if_neg (by omega)])
    unfold moreS
    (repeat first | rw [if_pos (by omega)] | rw [if_neg (by omega)])
    (try rw [if_pos hs])
  rw [e1, rk_row (by omega) (by omega) (by omega) e2 (by decide), show bl ⟨#[84, 69]⟩ = [84, 69] from rfl, (rf_d 84 (by decide) (by decide) (rf_one 69 rf_nil))]
  exact fit_congr (.cons ceT (.cons ceE .nil)) _ hk
theorem kr_asg2 (t : T) (hop : t.op = 46) (hs : ¬t.s = ⟨#[61]⟩) (hk : ∀ k ∈ t.kids, OkF k) : kidsB t = rKidsB t := by
  have e1 : kidsB t = fitP (eachP [simpleT, exprT]) t.kids := by
    unfold kidsB
    rw [if_neg (by omega)]
    unfold exB
    (repeat first | rw [if_pos (by omega)] | rw [if_neg (by omega)])
    (try rw [if_neg hs])
  have e2 : kindsS t = ⟨#[116, 69]⟩ := by
    unfold kindsS
    (repeat first | rw [if_pos (by omega)] | rw [if_neg (by omega)])
    unfold moreS
    (repeat first | rw [if_pos (by omega)] | rw [if_neg (by omega)])
    (try rw [if_neg hs])
  rw [e1, rk_row (by omega) (by omega) (by omega) e2 (by decide), show bl ⟨#[116, 69]⟩ = [116, 69] from rfl, (rf_d 116 (by decide) (by decide) (rf_one 69 rf_nil))]
  exact fit_congr (.cons cet (.cons ceE .nil)) _ hk
theorem kr_cond (t : T) (hop : t.op = 47) (hk : ∀ k ∈ t.kids, OkF k) : kidsB t = rKidsB t := by
  have e1 : kidsB t = fewP exprT 3 3 t.kids := by
    unfold kidsB
    rw [if_neg (by omega)]
    unfold exB
    (repeat first | rw [if_pos (by omega)] | rw [if_neg (by omega)])
  have e2 : kindsS t = ⟨#[69, 69, 69]⟩ := by
    unfold kindsS
    (repeat first | rw [if_pos (by omega)] | rw [if_neg (by omega)])
    unfold moreS
    (repeat first | rw [if_pos (by omega)] | rw [if_neg (by omega)])
  rw [e1, rk_row (by omega) (by omega) (by omega) e2 (by decide), show bl ⟨#[69, 69, 69]⟩ = [69, 69, 69] from rfl, (rf_d 69 (by decide) (by decide) (rf_d 69 (by decide) (by decide) (rf_one 69 rf_nil)))]
  rw [few33]
  exact fit_congr (.cons ceE (.cons ceE (.cons ceE .nil))) _ hk
theorem kr_seq (t : T) (hop : t.op = 48) (hk : ∀ k ∈ t.kids, OkF k) : kidsB t = rKidsB t := by
  have e1 : kidsB t = fewP exprT 2 (-1) t.kids := by
    unfold kidsB
    rw [if_neg (by omega)]
    unfold exB
    (repeat first | rw [if_pos (by omega)] | rw [if_neg (by omega)])
  have e2 : kindsS t = ⟨#[69, 69, 69, 42]⟩ := by
    unfold kindsS
    (repeat first | rw [if_pos (by omega)] | rw [if_neg (by omega)])
    unfold moreS
    (repeat first | rw [if_pos (by omega)] | rw [if_neg (by omega)])
  rw [e1, rk_row (by omega) (by omega) (by omega) e2 (by decide), show bl ⟨#[69, 69, 69, 42]⟩ = [69, 69, 69, 42] from rfl, (rf_d 69 (by decide) (by decide) (rf_d 69 (by decide) (by decide) (rf_star 69 rf_nil)))]
  rw [few2]
  exact fit_congr (.cons ceE (.cons ceE (.cons ceE .nil))) _ hk
theorem kr_call (t : T) (hop : t.op = 49 ∨ t.op = 50) (hk : ∀ k ∈ t.kids, OkF k) : kidsB t = rKidsB t := by
  have e1 : kidsB t = fitP [(exprT, 0), (argsT, 2)] t.kids := by
    unfold kidsB
    rw [if_neg (by omega)]
    unfold exB
    (repeat first | rw [if_pos (by omega)] | rw [if_neg (by omega)])
  have e2 : kindsS t = ⟨#[69, 97, 42]⟩ := by
    unfold kindsS
    (repeat first | rw [if_pos (by omega)] | rw [if_neg (by omega)])
    unfold moreS
    (repeat first | rw [if_pos (by omega)] | rw [if_neg (by omega)])
  rw [e1, rk_row (by omega) (by omega) (by omega) e2 (by decide), show bl ⟨#[69, 97, 42]⟩ = [69, 97, 42] from rfl, (rf_d 69 (by decide) (by decide) (rf_star 97 rf_nil))]
  exact fit_congr (.cons ceE (.cons cea .nil)) _ hk
theorem kr_dot (t : T) (hop : t.op = 51) (hk : ∀ k ∈ t.kids, OkF k) : kidsB t = rKidsB t := by
  have e1 : kidsB t = fewP exprT 1 1 t.kids := by
    unfold kidsB
    rw [if_neg (by omega)]
    unfold exB
    (repeat first | rw [if_pos (by omega)] | rw [if_neg (by omega)])
  have e2 : kindsS t = ⟨#[69]⟩ := by
    unfold kindsS
    (repeat first | rw [if_pos (by omega)] | rw [if_neg (by omega)])
    unfold moreS
    (repeat first | rw [if_pos (by omega)] | rw [if_neg (by omega)])
  rw [e1, rk_row (by omega) (by omega) (by omega) e2 (by decide), show bl ⟨#[69]⟩ = [69] from rfl, (rf_one 69 rf_nil)]
  rw [few11]
  exact fit_congr (.cons ceE .nil) _ hk
theorem kr_yield1 (t : T) (hop : t.op = 54) (hn : t.n = 1) (hk : ∀ k ∈ t.kids, OkF k) : kidsB t = rKidsB t := by
  have e1 : kidsB t = fewP exprT 1 1 t.kids := by
    unfold kidsB
    rw [if_neg (by omega)]
    unfold exB
    (repeat first | rw [if_pos (by omega)] | rw [if_neg (by omega)])
    rw [hn]
  have e2 : kindsS t = ⟨#[69]⟩ := by
    unfold kindsS
    (repeat first | rw [if_pos (by omega)] | rw [if_neg (by omega)])
    unfold moreS
    (repeat first | rw [if_pos (by omega)] | rw [if_neg (by omega)])
  rw [e1, rk_row (by omega) (by omega) (by omega) e2 (by decide), show bl ⟨#[69]⟩ = [69] from rfl, (rf_one 69 rf_nil)]
  rw [few11]
  exact fit_congr (.cons ceE .nil) _ hk
theorem kr_yield0 (t : T) (hop : t.op = 54) (hn : t.n = 0) (hk : ∀ k ∈ t.kids, OkF k) : kidsB t = rKidsB t := by
  have e1 : kidsB t = fewP exprT 0 1 t.kids := by
    unfold kidsB
    rw [if_neg (by omega)]
    unfold exB
    (repeat first | rw [if_pos (by omega)] | rw [if_neg (by omega)])
    rw [hn]
  have e2 : kindsS t = ⟨#[69, 63]⟩ := by
    unfold kindsS
    (repeat first | rw [if_pos (by omega)] | rw [if_neg (by omega)])
    unfold moreS
    (repeat first | rw [if_pos (by omega)] | rw [if_neg (by omega)])
  rw [e1, rk_row (by omega) (by omega) (by omega) e2 (by decide), show bl ⟨#[69, 63]⟩ = [69, 63] from rfl, (rf_q 69 rf_nil)]
  rw [few01]
  exact fit_congr (.cons ceE .nil) _ hk
theorem kr_arrpat (t : T) (hop : t.op = 60) (hk : ∀ k ∈ t.kids, OkF k) : kidsB t = rKidsB t := by
  have e1 : kidsB t = fitP [(eiT [itemT, ofT [40]], 2), (ofT [64], 1)] t.kids := by
    unfold kidsB
    rw [if_neg (by omega)]
    unfold exB
    (repeat first | rw [if_pos (by omega)] | rw [if_neg (by omega)])
    unfold patternsT
    (repeat first | rw [if_pos (by omega)] | rw [if_neg (by omega)])
  have e2 : kindsS t = ⟨#[72, 42, 90, 63]⟩ := by
    unfold kindsS
    (repeat first | rw [if_pos (by omega)] | rw [if_neg (by omega)])
    unfold moreS
    (repeat first | rw [if_pos (by omega)] | rw [if_neg (by omega)])
  rw [e1, rk_row (by omega) (by omega) (by omega) e2 (by decide), show bl ⟨#[72, 42, 90, 63]⟩ = [72, 42, 90, 63] from rfl, (rf_star 72 (rf_q 90 rf_nil))]
  exact fit_congr (.cons ceH (.cons ceZ .nil)) _ hk
theorem kr_objpat (t : T) (hop : t.op = 61) (hk : ∀ k ∈ t.kids, OkF k) : kidsB t = rKidsB t := by
  have e1 : kidsB t = fitP [(ofT [62], 2), (ofT [64], 1)] t.kids := by
    unfold kidsB
    rw [if_neg (by omega)]
    unfold exB
    (repeat first | rw [if_pos (by omega)] | rw [if_neg (by omega)])
    unfold patternsT
    (repeat first | rw [if_pos (by omega)] | rw [if_neg (by omega)])
  have e2 : kindsS t = ⟨#[81, 42, 90, 63]⟩ := by
    unfold kindsS
    (repeat first | rw [if_pos (by omega)] | rw [if_neg (by omega)])
    unfold moreS
    (repeat first | rw [if_pos (by omega)] | rw [if_neg (by omega)])
  rw [e1, rk_row (by omega) (by omega) (by omega) e2 (by decide), show bl ⟨#[81, 42, 90, 63]⟩ = [81, 42, 90, 63] from rfl, (rf_star 81 (rf_q 90 rf_nil))]
  exact fit_congr (.cons ceQ (.cons ceZ .nil)) _ hk
theorem kr_patprop1 (t : T) (hop : t.op = 62) (hm : t.m = 1) (hk : ∀ k ∈ t.kids, OkF k) : kidsB t = rKidsB t := by
  have e1 : kidsB t = fitP (eachP [exprT, itemT]) t.kids := by
    unfold kidsB
    rw [if_neg (by omega)]
    unfold exB
    (repeat first | rw [if_pos (by omega)] | rw [if_neg (by omega)])
    unfold patternsT
    (repeat first | rw [if_pos (by omega)] | rw [if_neg (by omega)])
    unfold keyT
    (repeat first | rw [if_pos (by omega)] | rw [if_neg (by omega)])
  have e2 : kindsS t = ⟨#[69, 70]⟩ := by
    unfold kindsS
    (repeat first | rw [if_pos (by omega)] | rw [if_neg (by omega)])
    unfold moreS
    (repeat first | rw [if_pos (by omega)] | rw [if_neg (by omega)])
  rw [e1, rk_row (by omega) (by omega) (by omega) e2 (by decide), show bl ⟨#[69, 70]⟩ = [69, 70] from rfl, (rf_d 69 (by decide) (by decide) (rf_one 70 rf_nil))]
  exact fit_congr (.cons ceE (.cons ceF .nil)) _ hk
theorem kr_patprop0 (t : T) (hop : t.op = 62) (hm : t.m ≠ 1) (hk : ∀ k ∈ t.kids, OkF k) : kidsB t = rKidsB t := by
  have e1 : kidsB t = fitP (eachP [ofT [31, 30], itemT]) t.kids := by
    unfold kidsB
    rw [if_neg (by omega)]
    unfold exB
    (repeat first | rw [if_pos (by omega)] | rw [if_neg (by omega)])
    unfold patternsT
    (repeat first | rw [if_pos (by omega)] | rw [if_neg (by omega)])
    unfold keyT
    (repeat first | rw [if_pos (by omega)] | rw [if_neg (by omega)])
  have e2 : kindsS t = ⟨#[107, 70]⟩ := by
    unfold kindsS
    (repeat first | rw [if_pos (by omega)] | rw [if_neg (by omega)])
    unfold moreS
    (repeat first | rw [if_pos (by omega)] | rw [if_neg (by omega)])
  rw [e1, rk_row (by omega) (by omega) (by omega) e2 (by decide), show bl ⟨#[107, 70]⟩ = [107, 70] from rfl, (rf_d 107 (by decide) (by decide) (rf_one 70 rf_nil))]
  exact fit_congr (.cons cek (.cons ceF .nil)) _ hk
theorem kr_default (t : T) (hop : t.op = 63) (hk : ∀ k ∈ t.kids, OkF k) : kidsB t = rKidsB t := by
  have e1 : kidsB t = fitP (eachP [targetT, exprT]) t.kids := by
    unfold kidsB
    rw [if_neg (by omega)]
    unfold exB
    (repeat first | rw [if_pos (by omega)] | rw [if_neg (by omega)])
    unfold patternsT
    (repeat first | rw [if_pos (by omega)] | rw [if_neg (by omega)])
  have e2 : kindsS t = ⟨#[84, 69]⟩ := by
    unfold kindsS
    (repeat first | rw [if_pos (by omega)] | rw [if_neg (by omega)])
    unfold moreS
    (repeat first | rw [if_pos (by omega)] | rw [if_neg (by omega)])
  rw [e1, rk_row (by omega) (by omega) (by omega) e2 (by decide), show bl ⟨#[84, 69]⟩ = [84, 69] from rfl, (rf_d 84 (by decide) (by decide) (rf_one 69 rf_nil))]
  exact fit_congr (.cons ceT (.cons ceE .nil)) _ hk
theorem kr_rest (t : T) (hop : t.op = 64) (hk : ∀ k ∈ t.kids, OkF k) : kidsB t = rKidsB t := by
  have e1 : kidsB t = fitP (eachP [targetT]) t.kids := by
    unfold kidsB
    rw [if_neg (by omega)]
    unfold exB
    (repeat first | rw [if_pos (by omega)] | rw [if_neg (by omega)])
    unfold patternsT
    (repeat first | rw [if_pos (by omega)] | rw [if_neg (by omega)])
  have e2 : kindsS t = ⟨#[84]⟩ := by
    unfold kindsS
    (repeat first | rw [if_pos (by omega)] | rw [if_neg (by omega)])
    unfold moreS
    (repeat first | rw [if_pos (by omega)] | rw [if_neg (by omega)])
  rw [e1, rk_row (by omega) (by omega) (by omega) e2 (by decide), show bl ⟨#[84]⟩ = [84] from rfl, (rf_one 84 rf_nil)]
  exact fit_congr (.cons ceT .nil) _ hk
theorem kr_prop0k (t : T) (hop : t.op = 39) (hn : t.n = 0) (hm : t.m ≠ 1) (hk : ∀ k ∈ t.kids, OkF k) : kidsB t = rKidsB t := by
  have e1 : kidsB t = fitP (eachP [ofT [31, 30], exprT]) t.kids := by
    unfold kidsB
    rw [if_neg (by omega)]
    unfold exB
    (repeat first | rw [if_pos (by omega)] | rw [if_neg (by omega)])
    unfold propT
    (repeat first | rw [if_pos (by omega)] | rw [if_neg (by omega)])
    unfold keyT
    (repeat first | rw [if_pos (by omega)] | rw [if_neg (by omega)])
  have e2 : kindsS t = ⟨#[107, 69]⟩ := by
    unfold kindsS
    (repeat first | rw [if_pos (by omega)] | rw [if_neg (by omega)])
    unfold moreS
    (repeat first | rw [if_pos (by omega)] | rw [if_neg (by omega)])
    unfold propS
    (repeat first | rw [if_pos (by omega)] | rw [if_neg (by omega)])
    unfold keyS
    (repeat first | rw [if_pos (by omega)] | rw [if_neg (by omega)])
    rfl
  rw [e1, rk_row (by omega) (by omega) (by omega) e2 (by decide), show bl ⟨#[107, 69]⟩ = [107, 69] from rfl, (rf_d 107 (by decide) (by decide) (rf_one 69 rf_nil))]
  exact fit_congr (.cons cek (.cons ceE .nil)) _ hk
theorem kr_prop0e (t : T) (hop : t.op = 39) (hn : t.n = 0) (hm : t.m = 1) (hk : ∀ k ∈ t.kids, OkF k) : kidsB t = rKidsB t := by
  have e1 : kidsB t = fitP (eachP [exprT, exprT]) t.kids := by
    unfold kidsB
    rw [if_neg (by omega)]
    unfold exB
    (repeat first | rw [if_pos (by omega)] | rw [if_neg (by omega)])
    unfold propT
    (repeat first | rw [if_pos (by omega)] | rw [if_neg (by omega)])
    unfold keyT
    (repeat first | rw [if_pos (by omega)] | rw [if_neg (by omega)])
  have e2 : kindsS t = ⟨#[69, 69]⟩ := by
    unfold kindsS
    (repeat first | rw [if_pos (by omega)] | rw [if_neg (by omega)])
    unfold moreS
    (repeat first | rw [if_pos (by omega)] | rw [if_neg (by omega)])
    unfold propS
    (repeat first | rw [if_pos (by omega)] | rw [if_neg (by omega)])
    unfold keyS
    (repeat first | rw [if_pos (by omega)] | rw [if_neg (by omega)])
    rfl
  rw [e1, rk_row (by omega) (by omega) (by omega) e2 (by decide), show bl ⟨#[69, 69]⟩ = [69, 69] from rfl, (rf_d 69 (by decide) (by decide) (rf_one 69 rf_nil))]
  exact fit_congr (.cons ceE (.cons ceE .nil)) _ hk
theorem kr_prop1k (t : T) (hop : t.op = 39) (hn : t.n = 1) (hm : t.m ≠ 1) (hk : ∀ k ∈ t.kids, OkF k) : kidsB t = rKidsB t := by
  have e1 : kidsB t = fitP (eachP [ofT [31, 30], getT]) t.kids := by
    unfold kidsB
    rw [if_neg (by omega)]
    unfold exB
    (repeat first | rw [if_pos (by omega)] | rw [if_neg (by omega)])
    unfold propT
    (repeat first | rw [if_pos (by omega)] | rw [if_neg (by omega)])
    unfold keyT
    (repeat first | rw [if_pos (by omega)] | rw [if_neg (by omega)])
  have e2 : kindsS t = ⟨#[107, 103]⟩ := by
    unfold kindsS
    (repeat first | rw [if_pos (by omega)] | rw [if_neg (by omega)])
    unfold moreS
    (repeat first | rw [if_pos (by omega)] | rw [if_neg (by omega)])
    unfold propS
    (repeat first | rw [if_pos (by omega)] | rw [if_neg (by omega)])
    unfold keyS
    (repeat first | rw [if_pos (by omega)] | rw [if_neg (by omega)])
    rfl
  rw [e1, rk_row (by omega) (by omega) (by omega) e2 (by decide), show bl ⟨#[107, 103]⟩ = [107, 103] from rfl, (rf_d 107 (by decide) (by decide) (rf_one 103 rf_nil))]
  exact fit_congr (.cons cek (.cons ceg .nil)) _ hk
theorem kr_prop1e (t : T) (hop : t.op = 39) (hn : t.n = 1) (hm : t.m = 1) (hk : ∀ k ∈ t.kids, OkF k) : kidsB t = rKidsB t := by
  have e1 : kidsB t = fitP (eachP [exprT, getT]) t.kids := by
    unfold kidsB
    rw [if_neg (by omega)]
    unfold exB
    (repeat first | rw [if_pos (by omega)] | rw [if_neg (by omega)])
    unfold propT
    (repeat first | rw [if_pos (by omega)] | rw [if_neg (by omega)])
    unfold keyT
    (repeat first | rw [if_pos (by omega)] | rw [if_neg (by omega)])
  have e2 : kindsS t = ⟨#[69, 103]⟩ := by
    unfold kindsS
    (repeat first | rw [if_pos (by omega)] | rw [if_neg (by omega)])
    unfold moreS
    (repeat first | rw [if_pos (by omega)] | rw [if_neg (by omega)])
    unfold propS
    (repeat first | rw [if_pos (by omega)] | rw [if_neg (by omega)])
    unfold keyS
    (repeat first | rw [if_pos (by omega)] | rw [if_neg (by omega)])
    rfl
  rw [e1, rk_row (by omega) (by omega) (by omega) e2 (by decide), show bl ⟨#[69, 103]⟩ = [69, 103] from rfl, (rf_d 69 (by decide) (by decide) (rf_one 103 rf_nil))]
  exact fit_congr (.cons ceE (.cons ceg .nil)) _ hk
theorem kr_prop2k (t : T) (hop : t.op = 39) (hn : t.n = 2) (hm : t.m ≠ 1) (hk : ∀ k ∈ t.kids, OkF k) : kidsB t = rKidsB t := by
  have e1 : kidsB t = fitP (eachP [ofT [31, 30], setT]) t.kids := by
    unfold kidsB
    rw [if_neg (by omega)]
    unfold exB
    (repeat first | rw [if_pos (by omega)] | rw [if_neg (by omega)])
    unfold propT
    (repeat first | rw [if_pos (by omega)] | rw [if_neg (by omega)])
    unfold keyT
    (repeat first | rw [if_pos (by omega)] | rw [if_neg (by omega)])
  have e2 : kindsS t = ⟨#[107, 115]⟩ := by
    unfold kindsS
    (repeat first | rw [if_pos (by omega)] | rw [if_neg (by omega)])
    unfold moreS
    (repeat first | rw [if_pos (by omega)] | rw [if_neg (by omega)])
    unfold propS
    (repeat first | rw [if_pos (by omega)] | rw [if_neg (by omega)])
    unfold keyS
    (repeat first | rw [if_pos (by omega)] | rw [if_neg (by omega)])
    rfl
  rw [e1, rk_row (by omega) (by omega) (by omega) e2 (by decide), show bl ⟨#[107, 115]⟩ = [107, 115] from rfl, (rf_d 107 (by decide) (by decide) (rf_one 115 rf_nil))]
  exact fit_congr (.cons cek (.cons ces .nil)) _ hk
theorem kr_prop2e (t : T) (hop : t.op = 39) (hn : t.n = 2) (hm : t.m = 1) (hk : ∀ k ∈ t.kids, OkF k) : kidsB t = rKidsB t := by
  have e1 : kidsB t = fitP (eachP [exprT, setT]) t.kids := by
    unfold kidsB
    rw [if_neg (by omega)]
    unfold exB
    (repeat first | rw [if_pos (by omega)] | rw [if_neg (by omega)])
    unfold propT
    (repeat first | rw [if_pos (by omega)] | rw [if_neg (by omega)])
    unfold keyT
    (repeat first | rw [if_pos (by omega)] | rw [if_neg (by omega)])
  have e2 : kindsS t = ⟨#[69, 115]⟩ := by
    unfold kindsS
    (repeat first | rw [if_pos (by omega)] | rw [if_neg (by omega)])
    unfold moreS
    (repeat first | rw [if_pos (by omega)] | rw [if_neg (by omega)])
    unfold propS
    (repeat first | rw [if_pos (by omega)] | rw [if_neg (by omega)])
    unfold keyS
    (repeat first | rw [if_pos (by omega)] | rw [if_neg (by omega)])
    rfl
  rw [e1, rk_row (by omega) (by omega) (by omega) e2 (by decide), show bl ⟨#[69, 115]⟩ = [69, 115] from rfl, (rf_d 69 (by decide) (by decide) (rf_one 115 rf_nil))]
  exact fit_congr (.cons ceE (.cons ces .nil)) _ hk
theorem kr_prop5k (t : T) (hop : t.op = 39) (hn : t.n = 5) (hm : t.m ≠ 1) (hk : ∀ k ∈ t.kids, OkF k) : kidsB t = rKidsB t := by
  have e1 : kidsB t = fitP (eachP [ofT [31, 30], methT]) t.kids := by
    unfold kidsB
    rw [if_neg (by omega)]
    unfold exB
    (repeat first | rw [if_pos (by omega)] | rw [if_neg (by omega)])
    unfold propT
    (repeat first | rw [if_pos (by omega)] | rw [if_neg (by omega)])
    unfold keyT
    (repeat first | rw [if_pos (by omega)] | rw [if_neg (by omega)])
  have e2 : kindsS t = ⟨#[107, 109]⟩ := by
    unfold kindsS
    (repeat first | rw [if_pos (by omega)] | rw [if_neg (by omega)])
    unfold moreS
    (repeat first | rw [if_pos (by omega)] | rw [if_neg (by omega)])
    unfold propS
    (repeat first | rw [if_pos (by omega)] | rw [if_neg (by omega)])
    unfold keyS
    (repeat first | rw [if_pos (by omega)] | rw [if_neg (by omega)])
    rfl
  rw [e1, rk_row (by omega) (by omega) (by omega) e2 (by decide), show bl ⟨#[107, 109]⟩ = [107, 109] from rfl, (rf_d 107 (by decide) (by decide) (rf_one 109 rf_nil))]
  exact fit_congr (.cons cek (.cons cem .nil)) _ hk
theorem kr_prop5e (t : T) (hop : t.op = 39) (hn : t.n = 5) (hm : t.m = 1) (hk : ∀ k ∈ t.kids, OkF k) : kidsB t = rKidsB t := by
  have e1 : kidsB t = fitP (eachP [exprT, methT]) t.kids := by
    unfold kidsB
    rw [if_neg (by omega)]
    unfold exB
    (repeat first | rw [if_pos (by omega)] | rw [if_neg (by omega)])
    unfold propT
    (repeat first | rw [if_pos (by omega)] | rw [if_neg (by omega)])
    unfold keyT
    (repeat first | rw [if_pos (by omega)] | rw [if_neg (by omega)])
  have e2 : kindsS t = ⟨#[69, 109]⟩ := by
    unfold kindsS
    (repeat first | rw [if_pos (by omega)] | rw [if_neg (by omega)])
    unfold moreS
    (repeat first | rw [if_pos (by omega)] | rw [if_neg (by omega)])
    unfold propS
    (repeat first | rw [if_pos (by omega)] | rw [if_neg (by omega)])
    unfold keyS
    (repeat first | rw [if_pos (by omega)] | rw [if_neg (by omega)])
    rfl
  rw [e1, rk_row (by omega) (by omega) (by omega) e2 (by decide), show bl ⟨#[69, 109]⟩ = [69, 109] from rfl, (rf_d 69 (by decide) (by decide) (rf_one 109 rf_nil))]
  exact fit_congr (.cons ceE (.cons cem .nil)) _ hk
theorem kr_prop3 (t : T) (hop : t.op = 39) (hn : t.n = 3) (hk : ∀ k ∈ t.kids, OkF k) : kidsB t = rKidsB t := by
  have e1 : kidsB t = fitP (eachP [namedT]) t.kids := by
    unfold kidsB
    rw [if_neg (by omega)]
    unfold exB
    (repeat first | rw [if_pos (by omega)] | rw [if_neg (by omega)])
    unfold propT
    (repeat first | rw [if_pos (by omega)] | rw [if_neg (by omega)])
  have e2 : kindsS t = ⟨#[119]⟩ := by
    unfold kindsS
    (repeat first | rw [if_pos (by omega)] | rw [if_neg (by omega)])
    unfold moreS
    (repeat first | rw [if_pos (by omega)] | rw [if_neg (by omega)])
    unfold propS
    (repeat first | rw [if_pos (by omega)] | rw [if_neg (by omega)])
  rw [e1, rk_row (by omega) (by omega) (by omega) e2 (by decide), show bl ⟨#[119]⟩ = [119] from rfl, (rf_one 119 rf_nil)]
  exact fit_congr (.cons cew .nil) _ hk
theorem kr_prop4 (t : T) (hop : t.op = 39) (hn : t.n = 4) (hk : ∀ k ∈ t.kids, OkF k) : kidsB t = rKidsB t := by
  have e1 : kidsB t = fitP (eachP [exprT]) t.kids := by
    unfold kidsB
    rw [if_neg (by omega)]
    unfold exB
    (repeat first | rw [if_pos (by omega)] | rw [if_neg (by omega)])
    unfold propT
    (repeat first | rw [if_pos (by omega)] | rw [if_neg (by omega)])
  have e2 : kindsS t = ⟨#[69]⟩ := by
    unfold kindsS
    (repeat first | rw [if_pos (by omega)] | rw [if_neg (by omega)])
    unfold moreS
    (repeat first | rw [if_pos (by omega)] | rw [if_neg (by omega)])
    unfold propS
    (repeat first | rw [if_pos (by omega)] | rw [if_neg (by omega)])
  rw [e1, rk_row (by omega) (by omega) (by omega) e2 (by decide), show bl ⟨#[69]⟩ = [69] from rfl, (rf_one 69 rf_nil)]
  exact fit_congr (.cons ceE .nil) _ hk
end Go.Proofs.YtfabmichdhbiaaaGreatDoor
namespace Go.Vcg
open Go.RowKit
section
variable {P : Program} {X : Ctx} {Q : Exit → Act → World → Prop} {μ : Mem} {l : Slots} {L : List Bk} {a : Act} {w : World}
theorem St.base {a' : Act} {l' : Slots} {w' : World} (h : St X μ l L a w) (hsz : a'.tmps.size = X.n) (hd : a'.defers = []) (hsl : ∀ t v, lk l' t = some v → a'.tmps[t]? = some v) (hmem : MOk μ w') (hown : ∀ x ∈ L, Bk.at x w') : St ⟨w', μ, idsOf L, X.n⟩ μ l' L a' w' :=
  ⟨hsz, by rw [hd]; exact Marks.nil, hsl, Keep.refl _ _, hmem, MLe.refl _, fun _ _ _ h => h, hown, h.priv, fun x hx b hb => .inl (mem_idsOf.2 ⟨x, hx, hb⟩), h.diff⟩
end
end Go.Vcg
namespace Go.Vcg
open Go.RowKit
section
variable {P : Program} {X : Ctx} {Q : Exit → Act → World → Prop} {μ : Mem} {l : Slots} {L : List Bk} {a : Act} {w : World}
end
end Go.Vcg
namespace Go.Proofs.YtfabmichdhbiaaaGreatDoor
open Go.RowKit Go.Vcg
namespace T
def dmax (l : List Nat) : Nat := l.foldr max 0
def depth : T → Nat | mk _ _ _ _ _ ks => 1 + dmax (ks.attach.map fun ⟨k, _⟩ => k.depth)
theorem depth_eq (t : T) : t.depth = 1 + dmax (t.kids.map depth) := by
  cases t with
  | mk o a n m s ks => rw [depth]; simp [kids]
theorem dmax_le {l : List Nat} {n : Nat} (h : ∀ x ∈ l, x ≤ n) : dmax l ≤ n := by
  induction l with
  | nil => exact Nat.zero_le _
  | cons y l ih =>
    show max y (dmax l) ≤ n
    have h1 := h y (List.mem_cons_self ..)
    have h2 := ih fun x hx => h x (List.mem_cons_of_mem _ hx)
    omega
theorem depth_size : ∀ (n : Nat) (t : T), t.size ≤ n → t.depth ≤ t.size
  | 0, t, h => by rw [size_eq] at h; omega
  | n + 1, t, h => by
    rw [depth_eq]
    have : dmax (t.kids.map depth) ≤ (t.kids.map size).sum := dmax_le fun x hx => by
      obtain ⟨k, hk, rfl⟩ := List.mem_map.1 hx
      obtain ⟨i, hi⟩ := List.mem_iff_getElem?.1 hk
      have h1 := size_kid hi
      have h2 := depth_size n k (by omega)
      have := sum_mem (List.mem_map.2 ⟨k, hk, rfl⟩ : k.size ∈ t.kids.map size)
      omega
    rw [size_eq]
    omega
end T
theorem T.len_size (t : T) : t.kids.length < t.size := by
  rw [T.size_eq]
  have : ∀ l : List T, l.length ≤ (l.map T.size).sum := fun l => by
    induction l with
    | nil => simp
    | cons a r ih =>
      have : 1 ≤ a.size := by rw [T.size_eq]; omega
      simp; omega
  have := this t.kids
  omega
attribute [local irreducible] G GC GQ GA GAop GI Calls IntKind.wrap Int.decLt Int.decLe
end Go.Proofs.YtfabmichdhbiaaaGreatDoor
