/- TreeRight, plainly: at every node the program's table and the reference's patterns agree. No statement of the seat is proved here. -/
import Derived.Test.YtocidaibmadekaaGreatDoorQam
set_option maxRecDepth 20000
set_option maxHeartbeats 2000000
namespace Go.Proofs.YtocidaibmadekaaGreatDoor
open Go.RowKit Go.Vcg
def OkF (t : T) : Prop := t.op = 4 → 0 ≤ t.n ∧ t.n ≤ 255
def chk (f : Int → Bool) : Bool := (List.range 256).all fun k => f (k : Int)
theorem aC3 {f : Int → Bool} (h : chk f = true) {n : Int} (h0 : 0 ≤ n) (h1 : n ≤ 255) : f n = true := by
  obtain ⟨k, rfl⟩ := Int.eq_ofNat_of_zero_le h0
  exact List.all_eq_true.1 h k (List.mem_range.2 (by omega))
def mE (n m : Int) : Bool := decide (aAc n m ≠ 0)
def XK (n m : Int) : Bool := decide ((IntKind.i64.wrap (n.tdiv m)).tmod 2 = 1)
def aE1 (n : Int) : Bool := ([1, 2, 4, 8, 16, 32, 128] : List Int).all (fun m => mE n m == XK n m) && ((mE n 57 == (mE n 1 || mE n 8 || mE n 16 || mE n 32)) && (mE n 50 == (mE n 2 || mE n 16 || mE n 32)))
theorem ZZ : chk aE1 = true := by decide +kernel
theorem kG {t : T} {m : Int} (h4 : t.op = 4) : cL t m = mE t.n m := by unfold cL mE; rw [decide_eq_true h4, Bool.true_and]
theorem NT {t : T} {m : Int} (h4 : t.op = 4) (h0 : 0 ≤ t.n) : bT t m = XK t.n m := by unfold bT XK; rw [decide_eq_true h4, decide_eq_true h0, Bool.true_and, Bool.true_and]
theorem DZ {n : Int} (h0 : 0 ≤ n) (h1 : n ≤ 255) : (∀ m ∈ ([1, 2, 4, 8, 16, 32, 128] : List Int), mE n m = XK n m) ∧ mE n 57 = (mE n 1 || mE n 8 || mE n 16 || mE n 32) ∧ mE n 50 = (mE n 2 || mE n 16 || mE n 32) := by
  have h := aC3 ZZ h0 h1
  unfold aE1 at h
  rw [Bool.and_eq_true, Bool.and_eq_true, List.all_eq_true] at h
  exact ⟨fun m hm => eq_of_beq (h.1 m hm), eq_of_beq h.2.1, eq_of_beq h.2.2⟩
theorem fE {t : T} (h : OkF t) {m : Int} (hm : m ∈ ([1, 2, 4, 8, 16, 32, 128] : List Int)) : cL t m = bT t m := by
  by_cases h4 : t.op = 4
  · obtain ⟨h0, h1⟩ := h h4
    rw [kG h4, NT h4 h0]
    exact (DZ h0 h1).1 m hm
  · unfold cL bT
    rw [decide_eq_false h4, Bool.false_and, Bool.false_and, Bool.false_and]
theorem aEk {t : T} (h : OkF t) : cL t 57 = (bT t 1 || bT t 8 || bT t 16 || bT t 32) := by
  rw [← fE h (by simp), ← fE h (by simp), ← fE h (by simp), ← fE h (by simp)]
  by_cases h4 : t.op = 4
  · obtain ⟨h0, h1⟩ := h h4
    rw [kG h4, kG h4, kG h4, kG h4, kG h4]
    exact (DZ h0 h1).2.1
  · unfold cL
    rw [decide_eq_false h4]
    rfl
theorem aEl {t : T} (h : OkF t) : cL t 50 = (bT t 2 || bT t 16 || bT t 32) := by
  rw [← fE h (by simp), ← fE h (by simp), ← fE h (by simp)]
  by_cases h4 : t.op = 4
  · obtain ⟨h0, h1⟩ := h h4
    rw [kG h4, kG h4, kG h4, kG h4]
    exact (DZ h0 h1).2.2
  · unfold cL
    rw [decide_eq_false h4]
    rfl
attribute [local irreducible] cL bT
theorem aC9 {t : T} {m : Int} (h4 : ¬t.op = 4) : bT t m = false := by
  unfold bT
  rw [decide_eq_false h4, Bool.false_and, Bool.false_and]
theorem WW {t : T} (h : OkF t) : cB t = nW t := by
  unfold cB nW
  by_cases h4 : t.op = 4
  · rw [if_pos h4, fE h (by simp), h4]
    simp
  · rw [if_neg h4, aC9 h4]
    cases decide (t.op = 2) <;> cases decide (t.op = 21) <;> cases decide (t.op = 23) <;> cases decide (6 ≤ t.op) <;> cases decide (t.op ≤ 19) <;> rfl
theorem tN {t : T} (h : OkF t) : aK t = eM t := by
  unfold aK eM
  by_cases h4 : t.op = 4
  · rw [if_pos h4, if_pos h4, aEk h]
    cases bT t 1 <;> cases bT t 8 <;> cases bT t 16 <;> cases bT t 32 <;> rfl
  · rw [if_neg h4, if_neg h4]
attribute [local irreducible] cB nW aK eM aV dS cW iJ wA vW
theorem aFj (t : T) : isT 83 t = (nW t) := by
  unfold isT
  (repeat rw [if_pos (by decide)])
theorem aFt (t : T) : isT 69 t = (eM t) := by
  unfold isT
  (repeat first | rw [if_pos (by decide)] | rw [if_neg (by decide)])
theorem aFi (t : T) : isT 84 t = (aV t) := by
  unfold isT
  (repeat first | rw [if_pos (by decide)] | rw [if_neg (by decide)])
theorem aEe (t : T) : isT 116 t = (dS t) := by
  unfold isT
  (repeat first | rw [if_pos (by decide)] | rw [if_neg (by decide)])
theorem aFe (t : T) : isT 99 t = (cW t) := by
  unfold isT
  (repeat first | rw [if_pos (by decide)] | rw [if_neg (by decide)])
theorem aFq (t : T) : isT 73 t = (decide (t.op = 2) || decide (t.op = 8) || decide (t.op = 7)) := by
  unfold isT
  (repeat first | rw [if_pos (by decide)] | rw [if_neg (by decide)])
theorem aFn (t : T) : isT 77 t = (eM t || decide (t.op = 7)) := by
  unfold isT
  (repeat first | rw [if_pos (by decide)] | rw [if_neg (by decide)])
theorem aFo (t : T) : isT 76 t = (aV t || tA t) := by
  unfold isT
  (repeat first | rw [if_pos (by decide)] | rw [if_neg (by decide)])
theorem aFh (t : T) : isT 89 t = (decide (t.op = 6) || decide (t.op = 7)) := by
  unfold isT
  (repeat first | rw [if_pos (by decide)] | rw [if_neg (by decide)])
theorem aFv (t : T) : isT 67 t = (decide (t.op = 20) || decide (t.op = 7)) := by
  unfold isT
  (repeat first | rw [if_pos (by decide)] | rw [if_neg (by decide)])
theorem aFs (t : T) : isT 71 t = (aV t || decide (t.op = 7)) := by
  unfold isT
  (repeat first | rw [if_pos (by decide)] | rw [if_neg (by decide)])
theorem aFx (t : T) : isT 65 t = (eM t || decide (t.op = 40) || decide (t.op = 41)) := by
  unfold isT
  (repeat first | rw [if_pos (by decide)] | rw [if_neg (by decide)])
theorem aFf (t : T) : isT 97 t = (eM t || decide (t.op = 41)) := by
  unfold isT
  (repeat first | rw [if_pos (by decide)] | rw [if_neg (by decide)])
theorem aEc (t : T) : isT 70 t = (aV t || decide (t.op = 63)) := by
  unfold isT
  (repeat rw [if_neg (by decide)])
  unfold hI
  (repeat rw [if_pos (by decide)])
theorem aFr (t : T) : isT 72 t = (aV t || decide (t.op = 63) || decide (t.op = 40)) := by
  unfold isT
  (repeat rw [if_neg (by decide)])
  unfold hI
  (repeat first | rw [if_pos (by decide)] | rw [if_neg (by decide)])
theorem aEh (t : T) : isT 107 t = (decide (t.op = 31) || decide (t.op = 30)) := by
  unfold isT
  (repeat rw [if_neg (by decide)])
  unfold hI
  (repeat first | rw [if_pos (by decide)] | rw [if_neg (by decide)])
theorem aEd (t : T) : isT 119 t = (iJ t) := by
  unfold isT
  (repeat rw [if_neg (by decide)])
  unfold hI
  (repeat first | rw [if_pos (by decide)] | rw [if_neg (by decide)])
theorem aEi (t : T) : isT 103 t = (bT t 16 && wA t 0) := by
  unfold isT
  (repeat rw [if_neg (by decide)])
  unfold hI
  (repeat first | rw [if_pos (by decide)] | rw [if_neg (by decide)])
theorem aEf (t : T) : isT 115 t = (bT t 32 && vW t) := by
  unfold isT
  (repeat rw [if_neg (by decide)])
  unfold hI
  (repeat first | rw [if_pos (by decide)] | rw [if_neg (by decide)])
theorem aEg (t : T) : isT 109 t = (bT t 8) := by
  unfold isT
  (repeat rw [if_neg (by decide)])
  unfold hI
  (repeat first | rw [if_pos (by decide)] | rw [if_neg (by decide)])
theorem aFu (t : T) : isT 68 t = decide (t.op = 3) := by
  unfold isT
  (repeat rw [if_neg (by decide)])
  unfold hI
  (repeat rw [if_neg (by decide)])
  rfl
theorem aFm (t : T) : isT 80 t = decide (t.op = 5) := by
  unfold isT
  (repeat rw [if_neg (by decide)])
  unfold hI
  (repeat rw [if_neg (by decide)])
  rfl
theorem aFw (t : T) : isT 66 t = decide (t.op = 6) := by
  unfold isT
  (repeat rw [if_neg (by decide)])
  unfold hI
  (repeat rw [if_neg (by decide)])
  rfl
theorem aFp (t : T) : isT 75 t = decide (t.op = 22) := by
  unfold isT
  (repeat rw [if_neg (by decide)])
  unfold hI
  (repeat rw [if_neg (by decide)])
  rfl
theorem aFk (t : T) : isT 82 t = decide (t.op = 39) := by
  unfold isT
  (repeat rw [if_neg (by decide)])
  unfold hI
  (repeat rw [if_neg (by decide)])
  rfl
theorem aFl (t : T) : isT 81 t = decide (t.op = 62) := by
  unfold isT
  (repeat rw [if_neg (by decide)])
  unfold hI
  (repeat rw [if_neg (by decide)])
  rfl
theorem aFg (t : T) : isT 90 t = decide (t.op = 64) := by
  unfold isT
  (repeat rw [if_neg (by decide)])
  unfold hI
  (repeat rw [if_neg (by decide)])
  rfl
theorem vZ (a : Int) (t : T) : ofT [a] t = decide (t.op = a) := by unfold ofT; simp
theorem XO (a b : Int) (t : T) : ofT [a, b] t = (decide (t.op = a) || decide (t.op = b)) := by unfold ofT; simp
theorem aE9 (a b c : Int) (t : T) : ofT [a, b, c] t = (decide (t.op = a) || (decide (t.op = b) || decide (t.op = c))) := by unfold ofT; simp
theorem ei2 (p q : T → Bool) (t : T) : eiT [p, q] t = (p t || q t) := by unfold eiT; simp
def CE (p : T → Bool) (c : Int) : Prop := ∀ t : T, OkF t → p t = isT c t
theorem ceS : CE cB 83 := fun t h => by rw [aFj, WW h]
theorem ceE : CE aK 69 := fun t h => by rw [aFt, tN h]
theorem ceT : CE aV 84 := fun t _ => by rw [aFi]
theorem cet : CE dS 116 := fun t _ => by rw [aEe]
theorem ceI : CE (ofT [2, 8, 7]) 73 := fun t _ => by rw [aFq, aE9, Bool.or_assoc]
theorem ceM : CE (eiT [aK, ofT [7]]) 77 := fun t h => by rw [aFn, ei2, vZ, tN h]
theorem ceL : CE nK 76 := fun t _ => by rw [aFo]; unfold nK tA; rw [Bool.and_assoc]
theorem ceY : CE (ofT [6, 7]) 89 := fun t _ => by rw [aFh, XO]
theorem ceC : CE (ofT [20, 7]) 67 := fun t _ => by rw [aFv, XO]
theorem ceG : CE (eiT [aV, ofT [7]]) 71 := fun t _ => by rw [aFs, ei2, vZ]
theorem ceA : CE (eiT [aK, ofT [40, 41]]) 65 := fun t h => by rw [aFx, ei2, XO, tN h, Bool.or_assoc]
theorem cea : CE zJ 97 := fun t h => by unfold zJ; rw [aFf, ei2, vZ, tN h]
theorem ceF : CE oS 70 := fun t _ => by unfold oS; rw [aEc, ei2, vZ]
theorem ceH : CE (eiT [oS, ofT [40]]) 72 := fun t h => by rw [aFr, ei2, vZ, ceF t h, aEc]
theorem cek : CE (ofT [31, 30]) 107 := fun t _ => by rw [aEh, XO]
theorem cew : CE iJ 119 := fun t _ => by rw [aEd]
theorem ceg : CE uL 103 := fun t h => by unfold uL; rw [aEi, fE h (by simp)]
theorem ces : CE rU 115 := fun t h => by unfold rU; rw [aEf, fE h (by simp)]
theorem cem : CE rF 109 := fun t h => by unfold rF; rw [aEg, fE h (by simp)]
theorem ceD : CE (ofT [3]) 68 := fun t _ => by rw [aFu, vZ]
theorem ceP : CE (ofT [5]) 80 := fun t _ => by rw [aFm, vZ]
theorem ceB : CE (ofT [6]) 66 := fun t _ => by rw [aFw, vZ]
theorem ceK : CE (ofT [22]) 75 := fun t _ => by rw [aFp, vZ]
theorem ceR : CE (ofT [39]) 82 := fun t _ => by rw [aFk, vZ]
theorem ceQ : CE (ofT [62]) 81 := fun t _ => by rw [aFl, vZ]
theorem ceZ : CE (ofT [64]) 90 := fun t _ => by rw [aFg, vZ]
attribute [local irreducible] isT
theorem aEz (p : T → Bool) : ∀ (l : List T) (n : Nat), (gF p 2 n l).2 = l.dropWhile p
  | [], _ => rfl
  | k :: r, n => by
    cases h : p k
    · rw [gF, if_neg (by simp [h]), List.dropWhile_cons, if_neg (by simp [h])]
    · rw [gF, if_pos ⟨h, .inr rfl⟩, List.dropWhile_cons, if_pos h]
      exact aEz p r _
theorem NN (p : T → Bool) (m : Int) (hm : m ≠ 2) (l : List T) : gF p m 1 l = (1, l) := by
  cases l with
  | nil => rfl
  | cons k r => rw [gF, if_neg (by simp [hm])]
theorem fC (l : List T) : bC [] l = decide (l.length = 0) := rfl
theorem KJ (p : T → Bool) (r : List ((T → Bool) × Int)) (l : List T) : bC ((p, 2) :: r) l = bC r (l.dropWhile p) := by rw [bC, if_neg (by simp), aEz]
theorem DO (p : T → Bool) (r : List ((T → Bool) × Int)) (l : List T) : bC ((p, 1) :: r) l = bC r (match l with | k :: r => if p k = true then r else k :: r | [] => []) := by
  rw [bC, if_neg (by simp)]
  cases l with
  | nil => rfl
  | cons k t =>
    cases h : p k
    · rw [gF, if_neg (by simp [h])]; simp [h]
    · rw [gF, if_pos ⟨h, .inl rfl⟩, NN p 1 (by decide)]; simp [h]
theorem jX (p : T → Bool) (r : List ((T → Bool) × Int)) (l : List T) : bC ((p, 0) :: r) l = match l with | k :: t => if p k = true then bC r t else false | [] => false := by
  rw [bC]
  cases l with
  | nil => simp [gF]
  | cons k t =>
    cases h : p k
    · have e : gF p 0 0 (k :: t) = (0, k :: t) := by rw [gF, if_neg (by simp [h])]
      rw [e]; simp [h]
    · have e : gF p 0 0 (k :: t) = (1, t) := by rw [gF, if_pos ⟨h, .inl rfl⟩, NN p 0 (by decide)]
      rw [e]; simp [h]
def RF (s : List UInt8) (rows : List ((T → Bool) × Int)) : Prop := ∀ l, hH s l = bC rows l
theorem bL : RF [] [] := fun l => by rw [xI, fC]
theorem iG {s : List UInt8} {rows : List ((T → Bool) × Int)} (c : UInt8) (h : RF s rows) : RF (c :: 42 :: s) ((isT (c.toNat : Int), 2) :: rows) := fun l => by rw [AJ, KJ, h]
theorem IX {s : List UInt8} {rows : List ((T → Bool) × Int)} (c : UInt8) (h : RF s rows) : RF (c :: 63 :: s) ((isT (c.toNat : Int), 1) :: rows) := fun l => by
  rw [SN, DO, h]
  cases l <;> rfl
theorem cT {rows : List ((T → Bool) × Int)} (c : UInt8) (h : RF [] rows) : RF [c] ((isT (c.toNat : Int), 0) :: rows) := fun l => by
  rw [SP, jX]
  cases l with
  | nil => rfl
  | cons k t => simp only [h t]
theorem fQ {d : UInt8} {s : List UInt8} {rows : List ((T → Bool) × Int)} (c : UInt8) (h1 : d ≠ 42) (h2 : d ≠ 63) (h : RF (d :: s) rows) : RF (c :: d :: s) ((isT (c.toNat : Int), 0) :: rows) := fun l => by
  rw [SO h1 h2, jX]
  cases l with
  | nil => rfl
  | cons k t => simp only [h t]
inductive RE : List ((T → Bool) × Int) → List ((T → Bool) × Int) → Prop
  | nil : RE [] []
  | cons {p q : T → Bool} {m : Int} {r r' : List ((T → Bool) × Int)} (h : ∀ t, OkF t → p t = q t) (hr : RE r r') : RE ((p, m) :: r) ((q, m) :: r')
theorem NM (p : T → Bool) (m : Int) : ∀ (l : List T) (n : Nat) (k : T), k ∈ (gF p m n l).2 → k ∈ l
  | [], _, _, h => h
  | x :: r, n, k, h => by
    rw [gF] at h
    split at h
    · exact List.mem_cons_of_mem _ (NM p m r _ k h)
    · exact h
theorem BQ {p q : T → Bool} (m : Int) : ∀ (l : List T) (n : Nat), (∀ k ∈ l, p k = q k) → gF p m n l = gF q m n l
  | [], _, _ => rfl
  | x :: r, n, h => by
    rw [gF, gF, h x (.head _), BQ m r _ fun k hk => h k (.tail _ hk)]
theorem aT {r r' : List ((T → Bool) × Int)} (h : RE r r') : ∀ (l : List T), (∀ k ∈ l, OkF k) → bC r l = bC r' l := by
  induction h with
  | nil => exact fun _ _ => rfl
  | cons h hr ih =>
    rename_i p q m rr rr'
    intro l hl
    have e := BQ m l 0 fun k hk => h k (hl k hk)
    rw [bC, bC, e, ih _ fun k hk => hl k (NM q m l 0 k hk)]
theorem TJ (l : List T) : decide (l.length = 0) = l.isEmpty := by cases l <;> simp
theorem WC (p : T → Bool) : ∀ l : List T, (l.dropWhile p).isEmpty = l.all p
  | [] => rfl
  | k :: r => by
    rw [List.dropWhile_cons, List.all_cons]
    cases h : p k
    · simp
    · simp only [if_pos, Bool.true_and]
      exact WC p r
theorem UY (p : T → Bool) (l : List T) : dQ p 0 (-1) l = bC [(p, 2)] l := by
  rw [KJ, fC, TJ, WC]
  unfold dQ
  simp
theorem aEx (p : T → Bool) (l : List T) : dQ p 1 (-1) l = bC [(p, 0), (p, 2)] l := by
  rw [jX]
  cases l with
  | nil => rfl
  | cons k r =>
    simp only [← UY]
    unfold dQ
    cases h : p k <;> simp [h]
    try omega
theorem aF3 (p : T → Bool) (l : List T) : dQ p 2 (-1) l = bC [(p, 0), (p, 0), (p, 2)] l := by
  rw [jX]
  cases l with
  | nil => rfl
  | cons k r =>
    simp only [← aEx]
    unfold dQ
    cases h : p k <;> simp [h]
    rw [show decide (2 ≤ (r.length : Int) + 1) = decide (1 ≤ (r.length : Int)) from decide_eq_decide.2 (by omega)]
theorem UX (p : T → Bool) (l : List T) : dQ p 1 1 l = bC [(p, 0)] l := by
  rw [jX]
  cases l with
  | nil => rfl
  | cons k r =>
    simp only [fC]
    unfold dQ
    cases r with
    | nil => cases h : p k <;> simp [h]
    | cons k2 r =>
      cases h : p k <;> simp [h]
      try omega
theorem aAw (p : T → Bool) (l : List T) : dQ p 2 2 l = bC [(p, 0), (p, 0)] l := by
  rw [jX]
  cases l with
  | nil => rfl
  | cons k r =>
    simp only [← UX]
    unfold dQ
    cases h : p k <;> simp [h]
    rw [show decide (2 ≤ (r.length : Int) + 1) = decide (1 ≤ (r.length : Int)) from decide_eq_decide.2 (by omega), show decide ((r.length : Int) + 1 ≤ 2) = decide ((r.length : Int) ≤ 1) from decide_eq_decide.2 (by omega)]
theorem aEw (p : T → Bool) (l : List T) : dQ p 3 3 l = bC [(p, 0), (p, 0), (p, 0)] l := by
  rw [jX]
  cases l with
  | nil => rfl
  | cons k r =>
    simp only [← aAw]
    unfold dQ
    cases h : p k <;> simp [h]
    rw [show decide (3 ≤ (r.length : Int) + 1) = decide (2 ≤ (r.length : Int)) from decide_eq_decide.2 (by omega), show decide ((r.length : Int) + 1 ≤ 3) = decide ((r.length : Int) ≤ 2) from decide_eq_decide.2 (by omega)]
theorem aAx (p : T → Bool) (l : List T) : dQ p 0 1 l = bC [(p, 1)] l := by
  rw [DO]
  cases l with
  | nil => rfl
  | cons k r =>
    unfold dQ
    cases r with
    | nil => cases h : p k <;> simp [h, fC]
    | cons k2 r =>
      cases h : p k <;> simp [h, fC]
      try omega
noncomputable def jA (t : T) : Bool := if t.op = 36 then fP eM t.kids else decide (aH t ≠ ⟨#[33]⟩) && hH (bl (aH t)) t.kids
noncomputable def mB (t : T) : Bool := (if t.op = 19 then (match t.kids with | [_, y, z] => decide (y.op ≠ 7) || decide (z.op ≠ 7) | _ => false) else true) && (if t.op = 53 then (match t.kids with | [k] => chB k | _ => false) else true)
noncomputable def bB (t : T) : Bool := jA t && mB t
theorem sG {t : T} (h1 : t.op ≠ 19) (h2 : t.op ≠ 53) : mB t = true := by unfold mB; rw [if_neg h1, if_neg h2]; rfl
theorem bP {t : T} {s : ByteArray} (h1 : t.op ≠ 19) (h2 : t.op ≠ 53) (h3 : t.op ≠ 36) (hs : aH t = s) (hne : s ≠ ⟨#[33]⟩) : bB t = hH (bl s) t.kids := by
  unfold bB jA
  rw [sG h1 h2, if_neg h3, hs, decide_eq_true hne, Bool.true_and, Bool.and_true]
attribute [local irreducible] bC hH dQ fP chB
theorem YB (t : T) (hop : t.op = 1 ∨ t.op = 6) (hk : ∀ k ∈ t.kids, OkF k) : aE t = bB t := by
  have e1 : aE t = dQ cB 0 (-1) t.kids := by
    unfold aE
    rw [if_pos (by omega)]
    unfold stB
    (repeat rw [if_pos (by omega)])
  have e2 : aH t = ⟨#[83, 42]⟩ := by
    unfold aH
    (repeat rw [if_pos (by omega)])
  rw [e1, bP (by omega) (by omega) (by omega) e2 (by decide), show bl ⟨#[83, 42]⟩ = [83, 42] from rfl, (iG 83 bL)]
  rw [UY]
  exact aT (.cons ceS .nil) _ hk
theorem aB9 (t : T) (hop : t.op = 2) (hk : ∀ k ∈ t.kids, OkF k) : aE t = bB t := by
  have e1 : aE t = dQ (ofT [3]) 1 (-1) t.kids := by
    unfold aE
    rw [if_pos (by omega)]
    unfold stB
    (repeat first | rw [if_pos (by omega)] | rw [if_neg (by omega)])
  have e2 : aH t = ⟨#[68, 68, 42]⟩ := by
    unfold aH
    (repeat first | rw [if_pos (by omega)] | rw [if_neg (by omega)])
  rw [e1, bP (by omega) (by omega) (by omega) e2 (by decide), show bl ⟨#[68, 68, 42]⟩ = [68, 68, 42] from rfl, (fQ 68 (by decide) (by decide) (iG 68 bL))]
  rw [aEx]
  exact aT (.cons ceD (.cons ceD .nil)) _ hk
theorem YF (t : T) (hop : t.op = 3) (hk : ∀ k ∈ t.kids, OkF k) : aE t = bB t := by
  have e1 : aE t = bC [(aV, 0), (aK, 1)] t.kids := by
    unfold aE
    rw [if_pos (by omega)]
    unfold stB
    (repeat first | rw [if_pos (by omega)] | rw [if_neg (by omega)])
  have e2 : aH t = ⟨#[84, 69, 63]⟩ := by
    unfold aH
    (repeat first | rw [if_pos (by omega)] | rw [if_neg (by omega)])
  rw [e1, bP (by omega) (by omega) (by omega) e2 (by decide), show bl ⟨#[84, 69, 63]⟩ = [84, 69, 63] from rfl, (fQ 84 (by decide) (by decide) (IX 69 bL))]
  exact aT (.cons ceT (.cons ceE .nil)) _ hk
theorem PR (t : T) (hop : t.op = 5) (hk : ∀ k ∈ t.kids, OkF k) : aE t = bB t := by
  have e1 : aE t = bC [(eiT [aV, ofT [63]], 2), (ofT [64], 1)] t.kids := by
    unfold aE
    rw [if_pos (by omega)]
    unfold stB
    (repeat first | rw [if_pos (by omega)] | rw [if_neg (by omega)])
  have e2 : aH t = ⟨#[70, 42, 90, 63]⟩ := by
    unfold aH
    (repeat first | rw [if_pos (by omega)] | rw [if_neg (by omega)])
  rw [e1, bP (by omega) (by omega) (by omega) e2 (by decide), show bl ⟨#[70, 42, 90, 63]⟩ = [70, 42, 90, 63] from rfl, (iG 70 (IX 90 bL))]
  exact aT (.cons ceF (.cons ceZ .nil)) _ hk
theorem YC (t : T) (hop : t.op = 7 ∨ t.op = 15 ∨ t.op = 16) (hk : ∀ k ∈ t.kids, OkF k) : aE t = bB t := by
  have e1 : aE t = decide (t.kids.length = 0) := by
    unfold aE
    rw [if_pos (by omega)]
    unfold stB
    (repeat first | rw [if_pos (by omega)] | rw [if_neg (by omega)])
  have e2 : aH t = ⟨#[]⟩ := by
    unfold aH
    (repeat first | rw [if_pos (by omega)] | rw [if_neg (by omega)])
  rw [e1, bP (by omega) (by omega) (by omega) e2 (by decide), show bl ⟨#[]⟩ = [] from rfl, bL]
  rw [fC]
theorem YE (t : T) (hop : t.op = 8 ∨ t.op = 18) (hk : ∀ k ∈ t.kids, OkF k) : aE t = bB t := by
  have e1 : aE t = bC (bM [aK]) t.kids := by
    unfold aE
    rw [if_pos (by omega)]
    unfold stB
    (repeat first | rw [if_pos (by omega)] | rw [if_neg (by omega)])
  have e2 : aH t = ⟨#[69]⟩ := by
    unfold aH
    (repeat first | rw [if_pos (by omega)] | rw [if_neg (by omega)])
  rw [e1, bP (by omega) (by omega) (by omega) e2 (by decide), show bl ⟨#[69]⟩ = [69] from rfl, (cT 69 bL)]
  exact aT (.cons ceE .nil) _ hk
theorem aEa (t : T) (hop : t.op = 9) (hk : ∀ k ∈ t.kids, OkF k) : aE t = bB t := by
  have e1 : aE t = bC [(aK, 0), (cB, 0), (cB, 1)] t.kids := by
    unfold aE
    rw [if_pos (by omega)]
    unfold stB
    (repeat first | rw [if_pos (by omega)] | rw [if_neg (by omega)])
  have e2 : aH t = ⟨#[69, 83, 83, 63]⟩ := by
    unfold aH
    (repeat first | rw [if_pos (by omega)] | rw [if_neg (by omega)])
  rw [e1, bP (by omega) (by omega) (by omega) e2 (by decide), show bl ⟨#[69, 83, 83, 63]⟩ = [69, 83, 83, 63] from rfl, (fQ 69 (by decide) (by decide) (fQ 83 (by decide) (by decide) (IX 83 bL)))]
  exact aT (.cons ceE (.cons ceS (.cons ceS .nil))) _ hk
theorem aCe (t : T) (hop : t.op = 10) (hk : ∀ k ∈ t.kids, OkF k) : aE t = bB t := by
  have e1 : aE t = bC (bM [ofT [2, 8, 7], eiT [aK, ofT [7]], eiT [aK, ofT [7]], cB]) t.kids := by
    unfold aE
    rw [if_pos (by omega)]
    unfold stB
    (repeat first | rw [if_pos (by omega)] | rw [if_neg (by omega)])
  have e2 : aH t = ⟨#[73, 77, 77, 83]⟩ := by
    unfold aH
    (repeat first | rw [if_pos (by omega)] | rw [if_neg (by omega)])
  rw [e1, bP (by omega) (by omega) (by omega) e2 (by decide), show bl ⟨#[73, 77, 77, 83]⟩ = [73, 77, 77, 83] from rfl, (fQ 73 (by decide) (by decide) (fQ 77 (by decide) (by decide) (fQ 77 (by decide) (by decide) (cT 83 bL))))]
  exact aT (.cons ceI (.cons ceM (.cons ceM (.cons ceS .nil)))) _ hk
theorem TP (t : T) (hop : t.op = 11 ∨ t.op = 12) (hk : ∀ k ∈ t.kids, OkF k) : aE t = bB t := by
  have e1 : aE t = bC (bM [nK, aK, cB]) t.kids := by
    unfold aE
    rw [if_pos (by omega)]
    unfold stB
    (repeat first | rw [if_pos (by omega)] | rw [if_neg (by omega)])
  have e2 : aH t = ⟨#[76, 69, 83]⟩ := by
    unfold aH
    (repeat first | rw [if_pos (by omega)] | rw [if_neg (by omega)])
  rw [e1, bP (by omega) (by omega) (by omega) e2 (by decide), show bl ⟨#[76, 69, 83]⟩ = [76, 69, 83] from rfl, (fQ 76 (by decide) (by decide) (fQ 69 (by decide) (by decide) (cT 83 bL)))]
  exact aT (.cons ceL (.cons ceE (.cons ceS .nil))) _ hk
theorem TM (t : T) (hop : t.op = 13) (hk : ∀ k ∈ t.kids, OkF k) : aE t = bB t := by
  have e1 : aE t = bC (bM [aK, cB]) t.kids := by
    unfold aE
    rw [if_pos (by omega)]
    unfold stB
    (repeat first | rw [if_pos (by omega)] | rw [if_neg (by omega)])
  have e2 : aH t = ⟨#[69, 83]⟩ := by
    unfold aH
    (repeat first | rw [if_pos (by omega)] | rw [if_neg (by omega)])
  rw [e1, bP (by omega) (by omega) (by omega) e2 (by decide), show bl ⟨#[69, 83]⟩ = [69, 83] from rfl, (fQ 69 (by decide) (by decide) (cT 83 bL))]
  exact aT (.cons ceE (.cons ceS .nil)) _ hk
theorem aEb (t : T) (hop : t.op = 14) (hk : ∀ k ∈ t.kids, OkF k) : aE t = bB t := by
  have e1 : aE t = bC (bM [cB, aK]) t.kids := by
    unfold aE
    rw [if_pos (by omega)]
    unfold stB
    (repeat first | rw [if_pos (by omega)] | rw [if_neg (by omega)])
  have e2 : aH t = ⟨#[83, 69]⟩ := by
    unfold aH
    (repeat first | rw [if_pos (by omega)] | rw [if_neg (by omega)])
  rw [e1, bP (by omega) (by omega) (by omega) e2 (by decide), show bl ⟨#[83, 69]⟩ = [83, 69] from rfl, (fQ 83 (by decide) (by decide) (cT 69 bL))]
  exact aT (.cons ceS (.cons ceE .nil)) _ hk
theorem aCc (t : T) (hop : t.op = 17) (hk : ∀ k ∈ t.kids, OkF k) : aE t = bB t := by
  have e1 : aE t = dQ aK 0 1 t.kids := by
    unfold aE
    rw [if_pos (by omega)]
    unfold stB
    (repeat first | rw [if_pos (by omega)] | rw [if_neg (by omega)])
  have e2 : aH t = ⟨#[69, 63]⟩ := by
    unfold aH
    (repeat first | rw [if_pos (by omega)] | rw [if_neg (by omega)])
  rw [e1, bP (by omega) (by omega) (by omega) e2 (by decide), show bl ⟨#[69, 63]⟩ = [69, 63] from rfl, (IX 69 bL)]
  rw [aAx]
  exact aT (.cons ceE .nil) _ hk
theorem TQ (t : T) (hop : t.op = 20) (hk : ∀ k ∈ t.kids, OkF k) : aE t = bB t := by
  have e1 : aE t = bC (bM [eiT [aV, ofT [7]], ofT [6]]) t.kids := by
    unfold aE
    rw [if_pos (by omega)]
    unfold stB
    (repeat first | rw [if_pos (by omega)] | rw [if_neg (by omega)])
  have e2 : aH t = ⟨#[71, 66]⟩ := by
    unfold aH
    (repeat first | rw [if_pos (by omega)] | rw [if_neg (by omega)])
  rw [e1, bP (by omega) (by omega) (by omega) e2 (by decide), show bl ⟨#[71, 66]⟩ = [71, 66] from rfl, (fQ 71 (by decide) (by decide) (cT 66 bL))]
  exact aT (.cons ceG (.cons ceB .nil)) _ hk
theorem PH (t : T) (hop : t.op = 21) (hk : ∀ k ∈ t.kids, OkF k) : aE t = bB t := by
  have e1 : aE t = bC [(aK, 0), (ofT [22], 2)] t.kids := by
    unfold aE
    rw [if_pos (by omega)]
    unfold stB
    (repeat first | rw [if_pos (by omega)] | rw [if_neg (by omega)])
  have e2 : aH t = ⟨#[69, 75, 42]⟩ := by
    unfold aH
    (repeat rw [if_neg (by omega)])
    unfold dO
    (repeat rw [if_pos (by omega)])
  rw [e1, bP (by omega) (by omega) (by omega) e2 (by decide), show bl ⟨#[69, 75, 42]⟩ = [69, 75, 42] from rfl, (fQ 69 (by decide) (by decide) (iG 75 bL))]
  exact aT (.cons ceE (.cons ceK .nil)) _ hk
theorem TS (t : T) (hop : t.op = 22) (hn : t.n = 1) (hk : ∀ k ∈ t.kids, OkF k) : aE t = bB t := by
  have e1 : aE t = dQ cB 0 (-1) t.kids := by
    unfold aE
    rw [if_pos (by omega)]
    unfold stB
    (repeat first | rw [if_pos (by omega)] | rw [if_neg (by omega)])
  have e2 : aH t = ⟨#[83, 42]⟩ := by
    unfold aH
    (repeat rw [if_neg (by omega)])
    unfold dO
    (repeat first | rw [if_pos (by omega)] | rw [if_neg (by omega)])
  rw [e1, bP (by omega) (by omega) (by omega) e2 (by decide), show bl ⟨#[83, 42]⟩ = [83, 42] from rfl, (iG 83 bL)]
  rw [UY]
  exact aT (.cons ceS .nil) _ hk
theorem TR (t : T) (hop : t.op = 22) (hn : t.n ≠ 1) (hk : ∀ k ∈ t.kids, OkF k) : aE t = bB t := by
  have e1 : aE t = bC [(aK, 0), (cB, 2)] t.kids := by
    unfold aE
    rw [if_pos (by omega)]
    unfold stB
    (repeat first | rw [if_pos (by omega)] | rw [if_neg (by omega)])
  have e2 : aH t = ⟨#[69, 83, 42]⟩ := by
    unfold aH
    (repeat rw [if_neg (by omega)])
    unfold dO
    (repeat first | rw [if_pos (by omega)] | rw [if_neg (by omega)])
  rw [e1, bP (by omega) (by omega) (by omega) e2 (by decide), show bl ⟨#[69, 83, 42]⟩ = [69, 83, 42] from rfl, (fQ 69 (by decide) (by decide) (iG 83 bL))]
  exact aT (.cons ceE (.cons ceS .nil)) _ hk
theorem TO (t : T) (hop : t.op = 23) (hk : ∀ k ∈ t.kids, OkF k) : aE t = bB t := by
  have e1 : aE t = bC (bM [cB]) t.kids := by
    unfold aE
    rw [if_pos (by omega)]
    unfold stB
    (repeat rw [if_neg (by omega)])
  have e2 : aH t = ⟨#[83]⟩ := by
    unfold aH
    (repeat rw [if_neg (by omega)])
    unfold dO
    (repeat first | rw [if_pos (by omega)] | rw [if_neg (by omega)])
  rw [e1, bP (by omega) (by omega) (by omega) e2 (by decide), show bl ⟨#[83]⟩ = [83] from rfl, (cT 83 bL)]
  exact aT (.cons ceS .nil) _ hk
theorem aCd (t : T) (hop : t.op = 30 ∨ t.op = 31 ∨ t.op = 32 ∨ t.op = 33 ∨ t.op = 34 ∨ t.op = 35 ∨ t.op = 40) (hk : ∀ k ∈ t.kids, OkF k) : aE t = bB t := by
  have e1 : aE t = decide (t.kids.length = 0) := by
    unfold aE
    rw [if_neg (by omega)]
    unfold exB
    (repeat rw [if_pos (by omega)])
  have e2 : aH t = ⟨#[]⟩ := by
    unfold aH
    (repeat first | rw [if_pos (by omega)] | rw [if_neg (by omega)])
  rw [e1, bP (by omega) (by omega) (by omega) e2 (by decide), show bl ⟨#[]⟩ = [] from rfl, bL]
  rw [fC]
theorem TT (t : T) (hop : t.op = 37) (hk : ∀ k ∈ t.kids, OkF k) : aE t = bB t := by
  have e1 : aE t = dQ (eiT [aK, ofT [40, 41]]) 0 (-1) t.kids := by
    unfold aE
    rw [if_neg (by omega)]
    unfold exB
    (repeat first | rw [if_pos (by omega)] | rw [if_neg (by omega)])
  have e2 : aH t = ⟨#[65, 42]⟩ := by
    unfold aH
    (repeat rw [if_neg (by omega)])
    unfold dO
    (repeat first | rw [if_pos (by omega)] | rw [if_neg (by omega)])
  rw [e1, bP (by omega) (by omega) (by omega) e2 (by decide), show bl ⟨#[65, 42]⟩ = [65, 42] from rfl, (iG 65 bL)]
  rw [UY]
  exact aT (.cons ceA .nil) _ hk
theorem PW (t : T) (hop : t.op = 38) (hk : ∀ k ∈ t.kids, OkF k) : aE t = bB t := by
  have e1 : aE t = dQ (ofT [39]) 0 (-1) t.kids := by
    unfold aE
    rw [if_neg (by omega)]
    unfold exB
    (repeat first | rw [if_pos (by omega)] | rw [if_neg (by omega)])
  have e2 : aH t = ⟨#[82, 42]⟩ := by
    unfold aH
    (repeat rw [if_neg (by omega)])
    unfold dO
    (repeat first | rw [if_pos (by omega)] | rw [if_neg (by omega)])
  rw [e1, bP (by omega) (by omega) (by omega) e2 (by decide), show bl ⟨#[82, 42]⟩ = [82, 42] from rfl, (iG 82 bL)]
  rw [UY]
  exact aT (.cons ceR .nil) _ hk
theorem PI (t : T) (hop : t.op = 41 ∨ t.op = 42) (hk : ∀ k ∈ t.kids, OkF k) : aE t = bB t := by
  have e1 : aE t = bC (bM [aK]) t.kids := by
    unfold aE
    rw [if_neg (by omega)]
    unfold exB
    (repeat first | rw [if_pos (by omega)] | rw [if_neg (by omega)])
  have e2 : aH t = ⟨#[69]⟩ := by
    unfold aH
    (repeat first | rw [if_pos (by omega)] | rw [if_neg (by omega)])
  rw [e1, bP (by omega) (by omega) (by omega) e2 (by decide), show bl ⟨#[69]⟩ = [69] from rfl, (cT 69 bL)]
  exact aT (.cons ceE .nil) _ hk
theorem PG (t : T) (hop : t.op = 43) (hk : ∀ k ∈ t.kids, OkF k) : aE t = bB t := by
  have e1 : aE t = bC (bM [dS]) t.kids := by
    unfold aE
    rw [if_neg (by omega)]
    unfold exB
    (repeat first | rw [if_pos (by omega)] | rw [if_neg (by omega)])
  have e2 : aH t = ⟨#[116]⟩ := by
    unfold aH
    (repeat rw [if_neg (by omega)])
    unfold dO
    (repeat first | rw [if_pos (by omega)] | rw [if_neg (by omega)])
  rw [e1, bP (by omega) (by omega) (by omega) e2 (by decide), show bl ⟨#[116]⟩ = [116] from rfl, (cT 116 bL)]
  exact aT (.cons cet .nil) _ hk
theorem aCg (t : T) (hop : t.op = 44 ∨ t.op = 45 ∨ t.op = 52) (hk : ∀ k ∈ t.kids, OkF k) : aE t = bB t := by
  have e1 : aE t = dQ aK 2 2 t.kids := by
    unfold aE
    rw [if_neg (by omega)]
    unfold exB
    (repeat first | rw [if_pos (by omega)] | rw [if_neg (by omega)])
  have e2 : aH t = ⟨#[69, 69]⟩ := by
    unfold aH
    (repeat rw [if_neg (by omega)])
    unfold dO
    (repeat first | rw [if_pos (by omega)] | rw [if_neg (by omega)])
  rw [e1, bP (by omega) (by omega) (by omega) e2 (by decide), show bl ⟨#[69, 69]⟩ = [69, 69] from rfl, (fQ 69 (by decide) (by decide) (cT 69 bL))]
  rw [aAw]
  exact aT (.cons ceE (.cons ceE .nil)) _ hk
theorem YJ (t : T) (hop : t.op = 46) (hs : t.s = ⟨#[61]⟩) (hk : ∀ k ∈ t.kids, OkF k) : aE t = bB t := by
  have e1 : aE t = bC (bM [aV, aK]) t.kids := by
    unfold aE
    rw [if_neg (by omega)]
    unfold exB
    (repeat first | rw [if_pos (by omega)] | rw [if_neg (by omega)])
    (try rw [if_pos hs])
  have e2 : aH t = ⟨#[84, 69]⟩ := by
    unfold aH
    (repeat rw [if_neg (by omega)])
    unfold dO
    (repeat first | rw [if_pos (by omega)] | rw [if_neg (by omega)])
    (try rw [if_pos hs])
  rw [e1, bP (by omega) (by omega) (by omega) e2 (by decide), show bl ⟨#[84, 69]⟩ = [84, 69] from rfl, (fQ 84 (by decide) (by decide) (cT 69 bL))]
  exact aT (.cons ceT (.cons ceE .nil)) _ hk
theorem YI (t : T) (hop : t.op = 46) (hs : ¬t.s = ⟨#[61]⟩) (hk : ∀ k ∈ t.kids, OkF k) : aE t = bB t := by
  have e1 : aE t = bC (bM [dS, aK]) t.kids := by
    unfold aE
    rw [if_neg (by omega)]
    unfold exB
    (repeat first | rw [if_pos (by omega)] | rw [if_neg (by omega)])
    (try rw [if_neg hs])
  have e2 : aH t = ⟨#[116, 69]⟩ := by
    unfold aH
    (repeat rw [if_neg (by omega)])
    unfold dO
    (repeat first | rw [if_pos (by omega)] | rw [if_neg (by omega)])
    (try rw [if_neg hs])
  rw [e1, bP (by omega) (by omega) (by omega) e2 (by decide), show bl ⟨#[116, 69]⟩ = [116, 69] from rfl, (fQ 116 (by decide) (by decide) (cT 69 bL))]
  exact aT (.cons cet (.cons ceE .nil)) _ hk
theorem YG (t : T) (hop : t.op = 47) (hk : ∀ k ∈ t.kids, OkF k) : aE t = bB t := by
  have e1 : aE t = dQ aK 3 3 t.kids := by
    unfold aE
    rw [if_neg (by omega)]
    unfold exB
    (repeat first | rw [if_pos (by omega)] | rw [if_neg (by omega)])
  have e2 : aH t = ⟨#[69, 69, 69]⟩ := by
    unfold aH
    (repeat rw [if_neg (by omega)])
    unfold dO
    (repeat first | rw [if_pos (by omega)] | rw [if_neg (by omega)])
  rw [e1, bP (by omega) (by omega) (by omega) e2 (by decide), show bl ⟨#[69, 69, 69]⟩ = [69, 69, 69] from rfl, (fQ 69 (by decide) (by decide) (fQ 69 (by decide) (by decide) (cT 69 bL)))]
  rw [aEw]
  exact aT (.cons ceE (.cons ceE (.cons ceE .nil))) _ hk
theorem aCb (t : T) (hop : t.op = 48) (hk : ∀ k ∈ t.kids, OkF k) : aE t = bB t := by
  have e1 : aE t = dQ aK 2 (-1) t.kids := by
    unfold aE
    rw [if_neg (by omega)]
    unfold exB
    (repeat first | rw [if_pos (by omega)] | rw [if_neg (by omega)])
  have e2 : aH t = ⟨#[69, 69, 69, 42]⟩ := by
    unfold aH
    (repeat rw [if_neg (by omega)])
    unfold dO
    (repeat first | rw [if_pos (by omega)] | rw [if_neg (by omega)])
  rw [e1, bP (by omega) (by omega) (by omega) e2 (by decide), show bl ⟨#[69, 69, 69, 42]⟩ = [69, 69, 69, 42] from rfl, (fQ 69 (by decide) (by decide) (fQ 69 (by decide) (by decide) (iG 69 bL)))]
  rw [aF3]
  exact aT (.cons ceE (.cons ceE (.cons ceE .nil))) _ hk
theorem YH (t : T) (hop : t.op = 49 ∨ t.op = 50) (hk : ∀ k ∈ t.kids, OkF k) : aE t = bB t := by
  have e1 : aE t = bC [(aK, 0), (zJ, 2)] t.kids := by
    unfold aE
    rw [if_neg (by omega)]
    unfold exB
    (repeat first | rw [if_pos (by omega)] | rw [if_neg (by omega)])
  have e2 : aH t = ⟨#[69, 97, 42]⟩ := by
    unfold aH
    (repeat rw [if_neg (by omega)])
    unfold dO
    (repeat first | rw [if_pos (by omega)] | rw [if_neg (by omega)])
  rw [e1, bP (by omega) (by omega) (by omega) e2 (by decide), show bl ⟨#[69, 97, 42]⟩ = [69, 97, 42] from rfl, (fQ 69 (by decide) (by decide) (iG 97 bL))]
  exact aT (.cons ceE (.cons cea .nil)) _ hk
theorem aCf (t : T) (hop : t.op = 51) (hk : ∀ k ∈ t.kids, OkF k) : aE t = bB t := by
  have e1 : aE t = dQ aK 1 1 t.kids := by
    unfold aE
    rw [if_neg (by omega)]
    unfold exB
    (repeat first | rw [if_pos (by omega)] | rw [if_neg (by omega)])
  have e2 : aH t = ⟨#[69]⟩ := by
    unfold aH
    (repeat rw [if_neg (by omega)])
    unfold dO
    (repeat first | rw [if_pos (by omega)] | rw [if_neg (by omega)])
  rw [e1, bP (by omega) (by omega) (by omega) e2 (by decide), show bl ⟨#[69]⟩ = [69] from rfl, (cT 69 bL)]
  rw [UX]
  exact aT (.cons ceE .nil) _ hk
theorem PE (t : T) (hop : t.op = 54) (hn : t.n = 1) (hk : ∀ k ∈ t.kids, OkF k) : aE t = bB t := by
  have e1 : aE t = dQ aK 1 1 t.kids := by
    unfold aE
    rw [if_neg (by omega)]
    unfold exB
    (repeat first | rw [if_pos (by omega)] | rw [if_neg (by omega)])
    rw [hn]
  have e2 : aH t = ⟨#[69]⟩ := by
    unfold aH
    (repeat rw [if_neg (by omega)])
    unfold dO
    (repeat first | rw [if_pos (by omega)] | rw [if_neg (by omega)])
  rw [e1, bP (by omega) (by omega) (by omega) e2 (by decide), show bl ⟨#[69]⟩ = [69] from rfl, (cT 69 bL)]
  rw [UX]
  exact aT (.cons ceE .nil) _ hk
theorem PF (t : T) (hop : t.op = 54) (hn : t.n = 0) (hk : ∀ k ∈ t.kids, OkF k) : aE t = bB t := by
  have e1 : aE t = dQ aK 0 1 t.kids := by
    unfold aE
    rw [if_neg (by omega)]
    unfold exB
    (repeat first | rw [if_pos (by omega)] | rw [if_neg (by omega)])
    rw [hn]
  have e2 : aH t = ⟨#[69, 63]⟩ := by
    unfold aH
    (repeat rw [if_neg (by omega)])
    unfold dO
    (repeat first | rw [if_pos (by omega)] | rw [if_neg (by omega)])
  rw [e1, bP (by omega) (by omega) (by omega) e2 (by decide), show bl ⟨#[69, 63]⟩ = [69, 63] from rfl, (IX 69 bL)]
  rw [aAx]
  exact aT (.cons ceE .nil) _ hk
theorem PX (t : T) (hop : t.op = 60) (hk : ∀ k ∈ t.kids, OkF k) : aE t = bB t := by
  have e1 : aE t = bC [(eiT [oS, ofT [40]], 2), (ofT [64], 1)] t.kids := by
    unfold aE
    rw [if_neg (by omega)]
    unfold exB
    (repeat rw [if_neg (by omega)])
    unfold fB
    (repeat rw [if_pos (by omega)])
  have e2 : aH t = ⟨#[72, 42, 90, 63]⟩ := by
    unfold aH
    (repeat rw [if_neg (by omega)])
    unfold dO
    (repeat first | rw [if_pos (by omega)] | rw [if_neg (by omega)])
  rw [e1, bP (by omega) (by omega) (by omega) e2 (by decide), show bl ⟨#[72, 42, 90, 63]⟩ = [72, 42, 90, 63] from rfl, (iG 72 (IX 90 bL))]
  exact aT (.cons ceH (.cons ceZ .nil)) _ hk
theorem PT (t : T) (hop : t.op = 61) (hk : ∀ k ∈ t.kids, OkF k) : aE t = bB t := by
  have e1 : aE t = bC [(ofT [62], 2), (ofT [64], 1)] t.kids := by
    unfold aE
    rw [if_neg (by omega)]
    unfold exB
    (repeat rw [if_neg (by omega)])
    unfold fB
    (repeat first | rw [if_pos (by omega)] | rw [if_neg (by omega)])
  have e2 : aH t = ⟨#[81, 42, 90, 63]⟩ := by
    unfold aH
    (repeat rw [if_neg (by omega)])
    unfold dO
    (repeat first | rw [if_pos (by omega)] | rw [if_neg (by omega)])
  rw [e1, bP (by omega) (by omega) (by omega) e2 (by decide), show bl ⟨#[81, 42, 90, 63]⟩ = [81, 42, 90, 63] from rfl, (iG 81 (IX 90 bL))]
  exact aT (.cons ceQ (.cons ceZ .nil)) _ hk
theorem GM (t : T) (hop : t.op = 62) (hm : t.m = 1) (hk : ∀ k ∈ t.kids, OkF k) : aE t = bB t := by
  have e1 : aE t = bC (bM [aK, oS]) t.kids := by
    unfold aE
    rw [if_neg (by omega)]
    unfold exB
    (repeat rw [if_neg (by omega)])
    unfold fB
    (repeat first | rw [if_pos (by omega)] | rw [if_neg (by omega)])
    unfold jS
    (repeat rw [if_pos (by omega)])
  have e2 : aH t = ⟨#[69, 70]⟩ := by
    unfold aH
    (repeat rw [if_neg (by omega)])
    unfold dO
    (repeat first | rw [if_pos (by omega)] | rw [if_neg (by omega)])
  rw [e1, bP (by omega) (by omega) (by omega) e2 (by decide), show bl ⟨#[69, 70]⟩ = [69, 70] from rfl, (fQ 69 (by decide) (by decide) (cT 70 bL))]
  exact aT (.cons ceE (.cons ceF .nil)) _ hk
theorem GN (t : T) (hop : t.op = 62) (hm : t.m ≠ 1) (hk : ∀ k ∈ t.kids, OkF k) : aE t = bB t := by
  have e1 : aE t = bC (bM [ofT [31, 30], oS]) t.kids := by
    unfold aE
    rw [if_neg (by omega)]
    unfold exB
    (repeat rw [if_neg (by omega)])
    unfold fB
    (repeat first | rw [if_pos (by omega)] | rw [if_neg (by omega)])
    unfold jS
    (repeat rw [if_neg (by omega)])
  have e2 : aH t = ⟨#[107, 70]⟩ := by
    unfold aH
    (repeat rw [if_neg (by omega)])
    unfold dO
    (repeat first | rw [if_pos (by omega)] | rw [if_neg (by omega)])
  rw [e1, bP (by omega) (by omega) (by omega) e2 (by decide), show bl ⟨#[107, 70]⟩ = [107, 70] from rfl, (fQ 107 (by decide) (by decide) (cT 70 bL))]
  exact aT (.cons cek (.cons ceF .nil)) _ hk
theorem JS (t : T) (hop : t.op = 63) (hk : ∀ k ∈ t.kids, OkF k) : aE t = bB t := by
  have e1 : aE t = bC (bM [aV, aK]) t.kids := by
    unfold aE
    rw [if_neg (by omega)]
    unfold exB
    (repeat rw [if_neg (by omega)])
    unfold fB
    (repeat first | rw [if_pos (by omega)] | rw [if_neg (by omega)])
  have e2 : aH t = ⟨#[84, 69]⟩ := by
    unfold aH
    (repeat rw [if_neg (by omega)])
    unfold dO
    (repeat first | rw [if_pos (by omega)] | rw [if_neg (by omega)])
  rw [e1, bP (by omega) (by omega) (by omega) e2 (by decide), show bl ⟨#[84, 69]⟩ = [84, 69] from rfl, (fQ 84 (by decide) (by decide) (cT 69 bL))]
  exact aT (.cons ceT (.cons ceE .nil)) _ hk
theorem YA (t : T) (hop : t.op = 64) (hk : ∀ k ∈ t.kids, OkF k) : aE t = bB t := by
  have e1 : aE t = bC (bM [aV]) t.kids := by
    unfold aE
    rw [if_neg (by omega)]
    unfold exB
    (repeat rw [if_neg (by omega)])
    unfold fB
    (repeat first | rw [if_pos (by omega)] | rw [if_neg (by omega)])
  have e2 : aH t = ⟨#[84]⟩ := by
    unfold aH
    (repeat rw [if_neg (by omega)])
    unfold dO
    (repeat first | rw [if_pos (by omega)] | rw [if_neg (by omega)])
  rw [e1, bP (by omega) (by omega) (by omega) e2 (by decide), show bl ⟨#[84]⟩ = [84] from rfl, (cT 84 bL)]
  exact aT (.cons ceT .nil) _ hk
theorem PP (t : T) (hop : t.op = 39) (hn : t.n = 0) (hm : t.m ≠ 1) (hk : ∀ k ∈ t.kids, OkF k) : aE t = bB t := by
  have e1 : aE t = bC (bM [ofT [31, 30], aK]) t.kids := by
    unfold aE
    rw [if_neg (by omega)]
    unfold exB
    (repeat first | rw [if_pos (by omega)] | rw [if_neg (by omega)])
    unfold kY
    (repeat rw [if_pos (by omega)])
    unfold jS
    (repeat rw [if_neg (by omega)])
  have e2 : aH t = ⟨#[107, 69]⟩ := by
    unfold aH
    (repeat rw [if_neg (by omega)])
    unfold dO
    (repeat first | rw [if_pos (by omega)] | rw [if_neg (by omega)])
    unfold kZ
    (repeat rw [if_pos (by omega)])
    unfold gY
    (repeat rw [if_neg (by omega)])
    rfl
  rw [e1, bP (by omega) (by omega) (by omega) e2 (by decide), show bl ⟨#[107, 69]⟩ = [107, 69] from rfl, (fQ 107 (by decide) (by decide) (cT 69 bL))]
  exact aT (.cons cek (.cons ceE .nil)) _ hk
theorem PQ (t : T) (hop : t.op = 39) (hn : t.n = 0) (hm : t.m = 1) (hk : ∀ k ∈ t.kids, OkF k) : aE t = bB t := by
  have e1 : aE t = bC (bM [aK, aK]) t.kids := by
    unfold aE
    rw [if_neg (by omega)]
    unfold exB
    (repeat first | rw [if_pos (by omega)] | rw [if_neg (by omega)])
    unfold kY
    (repeat rw [if_pos (by omega)])
    unfold jS
    (repeat rw [if_pos (by omega)])
  have e2 : aH t = ⟨#[69, 69]⟩ := by
    unfold aH
    (repeat rw [if_neg (by omega)])
    unfold dO
    (repeat first | rw [if_pos (by omega)] | rw [if_neg (by omega)])
    unfold kZ
    (repeat rw [if_pos (by omega)])
    unfold gY
    (repeat rw [if_pos (by omega)])
    rfl
  rw [e1, bP (by omega) (by omega) (by omega) e2 (by decide), show bl ⟨#[69, 69]⟩ = [69, 69] from rfl, (fQ 69 (by decide) (by decide) (cT 69 bL))]
  exact aT (.cons ceE (.cons ceE .nil)) _ hk
theorem PN (t : T) (hop : t.op = 39) (hn : t.n = 1) (hm : t.m ≠ 1) (hk : ∀ k ∈ t.kids, OkF k) : aE t = bB t := by
  have e1 : aE t = bC (bM [ofT [31, 30], uL]) t.kids := by
    unfold aE
    rw [if_neg (by omega)]
    unfold exB
    (repeat first | rw [if_pos (by omega)] | rw [if_neg (by omega)])
    unfold kY
    (repeat first | rw [if_pos (by omega)] | rw [if_neg (by omega)])
    unfold jS
    (repeat rw [if_neg (by omega)])
  have e2 : aH t = ⟨#[107, 103]⟩ := by
    unfold aH
    (repeat rw [if_neg (by omega)])
    unfold dO
    (repeat first | rw [if_pos (by omega)] | rw [if_neg (by omega)])
    unfold kZ
    (repeat first | rw [if_pos (by omega)] | rw [if_neg (by omega)])
    unfold gY
    (repeat rw [if_neg (by omega)])
    rfl
  rw [e1, bP (by omega) (by omega) (by omega) e2 (by decide), show bl ⟨#[107, 103]⟩ = [107, 103] from rfl, (fQ 107 (by decide) (by decide) (cT 103 bL))]
  exact aT (.cons cek (.cons ceg .nil)) _ hk
theorem PO (t : T) (hop : t.op = 39) (hn : t.n = 1) (hm : t.m = 1) (hk : ∀ k ∈ t.kids, OkF k) : aE t = bB t := by
  have e1 : aE t = bC (bM [aK, uL]) t.kids := by
    unfold aE
    rw [if_neg (by omega)]
    unfold exB
    (repeat first | rw [if_pos (by omega)] | rw [if_neg (by omega)])
    unfold kY
    (repeat first | rw [if_pos (by omega)] | rw [if_neg (by omega)])
    unfold jS
    (repeat rw [if_pos (by omega)])
  have e2 : aH t = ⟨#[69, 103]⟩ := by
    unfold aH
    (repeat rw [if_neg (by omega)])
    unfold dO
    (repeat first | rw [if_pos (by omega)] | rw [if_neg (by omega)])
    unfold kZ
    (repeat first | rw [if_pos (by omega)] | rw [if_neg (by omega)])
    unfold gY
    (repeat rw [if_pos (by omega)])
    rfl
  rw [e1, bP (by omega) (by omega) (by omega) e2 (by decide), show bl ⟨#[69, 103]⟩ = [69, 103] from rfl, (fQ 69 (by decide) (by decide) (cT 103 bL))]
  exact aT (.cons ceE (.cons ceg .nil)) _ hk
theorem PL (t : T) (hop : t.op = 39) (hn : t.n = 2) (hm : t.m ≠ 1) (hk : ∀ k ∈ t.kids, OkF k) : aE t = bB t := by
  have e1 : aE t = bC (bM [ofT [31, 30], rU]) t.kids := by
    unfold aE
    rw [if_neg (by omega)]
    unfold exB
    (repeat first | rw [if_pos (by omega)] | rw [if_neg (by omega)])
    unfold kY
    (repeat first | rw [if_pos (by omega)] | rw [if_neg (by omega)])
    unfold jS
    (repeat rw [if_neg (by omega)])
  have e2 : aH t = ⟨#[107, 115]⟩ := by
    unfold aH
    (repeat rw [if_neg (by omega)])
    unfold dO
    (repeat first | rw [if_pos (by omega)] | rw [if_neg (by omega)])
    unfold kZ
    (repeat first | rw [if_pos (by omega)] | rw [if_neg (by omega)])
    unfold gY
    (repeat rw [if_neg (by omega)])
    rfl
  rw [e1, bP (by omega) (by omega) (by omega) e2 (by decide), show bl ⟨#[107, 115]⟩ = [107, 115] from rfl, (fQ 107 (by decide) (by decide) (cT 115 bL))]
  exact aT (.cons cek (.cons ces .nil)) _ hk
theorem PM (t : T) (hop : t.op = 39) (hn : t.n = 2) (hm : t.m = 1) (hk : ∀ k ∈ t.kids, OkF k) : aE t = bB t := by
  have e1 : aE t = bC (bM [aK, rU]) t.kids := by
    unfold aE
    rw [if_neg (by omega)]
    unfold exB
    (repeat first | rw [if_pos (by omega)] | rw [if_neg (by omega)])
    unfold kY
    (repeat first | rw [if_pos (by omega)] | rw [if_neg (by omega)])
    unfold jS
    (repeat rw [if_pos (by omega)])
  have e2 : aH t = ⟨#[69, 115]⟩ := by
    unfold aH
    (repeat rw [if_neg (by omega)])
    unfold dO
    (repeat first | rw [if_pos (by omega)] | rw [if_neg (by omega)])
    unfold kZ
    (repeat first | rw [if_pos (by omega)] | rw [if_neg (by omega)])
    unfold gY
    (repeat rw [if_pos (by omega)])
    rfl
  rw [e1, bP (by omega) (by omega) (by omega) e2 (by decide), show bl ⟨#[69, 115]⟩ = [69, 115] from rfl, (fQ 69 (by decide) (by decide) (cT 115 bL))]
  exact aT (.cons ceE (.cons ces .nil)) _ hk
theorem PJ (t : T) (hop : t.op = 39) (hn : t.n = 5) (hm : t.m ≠ 1) (hk : ∀ k ∈ t.kids, OkF k) : aE t = bB t := by
  have e1 : aE t = bC (bM [ofT [31, 30], rF]) t.kids := by
    unfold aE
    rw [if_neg (by omega)]
    unfold exB
    (repeat first | rw [if_pos (by omega)] | rw [if_neg (by omega)])
    unfold kY
    (repeat first | rw [if_pos (by omega)] | rw [if_neg (by omega)])
    unfold jS
    (repeat rw [if_neg (by omega)])
  have e2 : aH t = ⟨#[107, 109]⟩ := by
    unfold aH
    (repeat rw [if_neg (by omega)])
    unfold dO
    (repeat first | rw [if_pos (by omega)] | rw [if_neg (by omega)])
    unfold kZ
    (repeat first | rw [if_pos (by omega)] | rw [if_neg (by omega)])
    unfold gY
    (repeat rw [if_neg (by omega)])
    rfl
  rw [e1, bP (by omega) (by omega) (by omega) e2 (by decide), show bl ⟨#[107, 109]⟩ = [107, 109] from rfl, (fQ 107 (by decide) (by decide) (cT 109 bL))]
  exact aT (.cons cek (.cons cem .nil)) _ hk
theorem PK (t : T) (hop : t.op = 39) (hn : t.n = 5) (hm : t.m = 1) (hk : ∀ k ∈ t.kids, OkF k) : aE t = bB t := by
  have e1 : aE t = bC (bM [aK, rF]) t.kids := by
    unfold aE
    rw [if_neg (by omega)]
    unfold exB
    (repeat first | rw [if_pos (by omega)] | rw [if_neg (by omega)])
    unfold kY
    (repeat first | rw [if_pos (by omega)] | rw [if_neg (by omega)])
    unfold jS
    (repeat rw [if_pos (by omega)])
  have e2 : aH t = ⟨#[69, 109]⟩ := by
    unfold aH
    (repeat rw [if_neg (by omega)])
    unfold dO
    (repeat first | rw [if_pos (by omega)] | rw [if_neg (by omega)])
    unfold kZ
    (repeat first | rw [if_pos (by omega)] | rw [if_neg (by omega)])
    unfold gY
    (repeat rw [if_pos (by omega)])
    rfl
  rw [e1, bP (by omega) (by omega) (by omega) e2 (by decide), show bl ⟨#[69, 109]⟩ = [69, 109] from rfl, (fQ 69 (by decide) (by decide) (cT 109 bL))]
  exact aT (.cons ceE (.cons cem .nil)) _ hk
theorem GL (t : T) (hop : t.op = 39) (hn : t.n = 3) (hk : ∀ k ∈ t.kids, OkF k) : aE t = bB t := by
  have e1 : aE t = bC (bM [iJ]) t.kids := by
    unfold aE
    rw [if_neg (by omega)]
    unfold exB
    (repeat first | rw [if_pos (by omega)] | rw [if_neg (by omega)])
    unfold kY
    (repeat first | rw [if_pos (by omega)] | rw [if_neg (by omega)])
  have e2 : aH t = ⟨#[119]⟩ := by
    unfold aH
    (repeat rw [if_neg (by omega)])
    unfold dO
    (repeat first | rw [if_pos (by omega)] | rw [if_neg (by omega)])
    unfold kZ
    (repeat first | rw [if_pos (by omega)] | rw [if_neg (by omega)])
  rw [e1, bP (by omega) (by omega) (by omega) e2 (by decide), show bl ⟨#[119]⟩ = [119] from rfl, (cT 119 bL)]
  exact aT (.cons cew .nil) _ hk
theorem GK (t : T) (hop : t.op = 39) (hn : t.n = 4) (hk : ∀ k ∈ t.kids, OkF k) : aE t = bB t := by
  have e1 : aE t = bC (bM [aK]) t.kids := by
    unfold aE
    rw [if_neg (by omega)]
    unfold exB
    (repeat first | rw [if_pos (by omega)] | rw [if_neg (by omega)])
    unfold kY
    (repeat rw [if_neg (by omega)])
  have e2 : aH t = ⟨#[69]⟩ := by
    unfold aH
    (repeat rw [if_neg (by omega)])
    unfold dO
    (repeat first | rw [if_pos (by omega)] | rw [if_neg (by omega)])
    unfold kZ
    (repeat first | rw [if_pos (by omega)] | rw [if_neg (by omega)])
  rw [e1, bP (by omega) (by omega) (by omega) e2 (by decide), show bl ⟨#[69]⟩ = [69] from rfl, (cT 69 bL)]
  exact aT (.cons ceE .nil) _ hk
end Go.Proofs.YtocidaibmadekaaGreatDoor
namespace Go.Vcg
open Go.RowKit
end Go.Vcg
namespace Go.Vcg
open Go.RowKit
end Go.Vcg
namespace Go.Proofs.YtocidaibmadekaaGreatDoor
open Go.RowKit Go.Vcg
namespace T
def pZ (l : List Nat) : Nat := l.foldr max 0
def depth : T → Nat | mk _ _ _ _ _ ks => 1 + pZ (ks.attach.map fun ⟨k, _⟩ => k.depth)
theorem yS (t : T) : t.depth = 1 + pZ (t.kids.map depth) := by
  cases t with
  | mk o a n m s ks => rw [depth]; simp [kids]
theorem NP {l : List Nat} {n : Nat} (h : ∀ x ∈ l, x ≤ n) : pZ l ≤ n := by
  induction l with
  | nil => exact Nat.zero_le _
  | cons y l ih =>
    show max y (pZ l) ≤ n
    have h1 := h y (List.mem_cons_self ..)
    have h2 := ih fun x hx => h x (List.mem_cons_of_mem _ hx)
    omega
theorem yR : ∀ (n : Nat) (t : T), t.size ≤ n → t.depth ≤ t.size
  | 0, t, h => by rw [size_eq] at h; omega
  | n + 1, t, h => by
    rw [yS]
    have : pZ (t.kids.map depth) ≤ (t.kids.map size).sum := NP fun x hx => by
      obtain ⟨k, hk, rfl⟩ := List.mem_map.1 hx
      obtain ⟨i, hi⟩ := List.mem_iff_getElem?.1 hk
      have h1 := dH hi
      have h2 := yR n k (by omega)
      have := bN (List.mem_map.2 ⟨k, hk, rfl⟩ : k.size ∈ t.kids.map size)
      omega
    rw [size_eq]
    omega
end T
theorem T.TK (t : T) : t.kids.length < t.size := by
  rw [T.size_eq]
  have : ∀ l : List T, l.length ≤ (l.map T.size).sum := fun l => by
    induction l with
    | nil => simp
    | cons a r ih =>
      have : 1 ≤ a.size := by rw [T.size_eq]; omega
      simp; omega
  have := this t.kids
  omega
attribute [local irreducible] G GC GQ GA bX GI Calls IntKind.wrap Int.decLt Int.decLe
end Go.Proofs.YtocidaibmadekaaGreatDoor
namespace Go.Proofs.YtocidaibmadekaaGreatDoor
open Go.RowKit Go.Vcg
attribute [local irreducible] cL bT cB nW aK eM aV dS cW iJ wA vW isT bC hH dQ fP chB eK bQ
theorem YD (t : T) (hop : t.op = 4) (hf : OkF t) (hk : ∀ k ∈ t.kids, OkF k) : aE t = bB t := by
  obtain ⟨h0, h1⟩ := hf hop
  have hb : cL t 128 = decide ((IntKind.i64.wrap (t.n.tdiv 128)).tmod 2 = 1) := by rw [fE hf (by simp), NT hop h0]; rfl
  have e1 : aE t = bC (bM [ofT [5], rO t]) t.kids := by
    unfold aE
    rw [if_pos (by omega)]
    unfold stB
    (repeat first | rw [if_pos (by omega)] | rw [if_neg (by omega)])
  rw [e1]
  by_cases hq : (IntKind.i64.wrap (t.n.tdiv 128)).tmod 2 = 1
  · have e2 : aH t = ⟨#[80, 69]⟩ := by
      unfold aH
      (repeat first | rw [if_pos (by omega)] | rw [if_neg (by omega)])
    rw [bP (by omega) (by omega) (by omega) e2 (by decide), show bl ⟨#[80, 69]⟩ = [80, 69] from rfl, fQ 80 (by decide) (by decide) (cT 69 bL)]
    unfold rO
    rw [hb, decide_eq_true hq, if_pos rfl]
    exact aT (.cons ceP (.cons ceE .nil)) _ hk
  · have e2 : aH t = ⟨#[80, 66]⟩ := by
      unfold aH
      (repeat first | rw [if_pos (by omega)] | rw [if_neg (by omega)])
    rw [bP (by omega) (by omega) (by omega) e2 (by decide), show bl ⟨#[80, 66]⟩ = [80, 66] from rfl, fQ 80 (by decide) (by decide) (cT 66 bL)]
    unfold rO
    rw [hb, decide_eq_false hq, if_neg (by simp)]
    exact aT (.cons ceP (.cons ceB .nil)) _ hk
theorem aCa (t : T) (hop : t.op = 19) (hk : ∀ k ∈ t.kids, OkF k) : aE t = bB t := by
  have e1 : aE t = EL t.kids := by
    unfold aE
    rw [if_pos (by omega)]
    unfold stB
    (repeat first | rw [if_pos (by omega)] | rw [if_neg (by omega)])
  have e2 : aH t = ⟨#[66, 67, 89]⟩ := by
    unfold aH
    (repeat first | rw [if_pos (by omega)] | rw [if_neg (by omega)])
  have e3 : bC (bM [ofT [6], ofT [20, 7], ofT [6, 7]]) t.kids = hH [66, 67, 89] t.kids := by
    rw [fQ 66 (by decide) (by decide) (fQ 67 (by decide) (by decide) (cT 89 bL))]
    exact aT (.cons ceB (.cons ceC (.cons ceY .nil))) _ hk
  rw [e1]
  unfold EL bB jA mB
  rw [e2, e3, if_neg (by omega), if_pos hop, if_neg (by omega), decide_eq_true (by decide), Bool.true_and, Bool.and_true]
  rfl
theorem aA1 {k : T} (h : chB k = true) : cW k = true := by
  cases hl : cW k
  · rw [rN (wP hl)] at h
    cases h
  · rfl
theorem GO (t : T) (hop : t.op = 53) : aE t = bB t := by
  have e1 : aE t = mC t.kids := by
    unfold aE
    rw [if_neg (by omega)]
    unfold exB
    (repeat first | rw [if_pos (by omega)] | rw [if_neg (by omega)])
  have e2 : aH t = ⟨#[99]⟩ := by
    unfold aH
    (repeat rw [if_neg (by omega)])
    unfold dO
    (repeat first | rw [if_pos (by omega)] | rw [if_neg (by omega)])
  rw [e1]
  unfold bB jA mB mC
  rw [e2, if_neg (by omega), if_neg (by omega), if_pos hop, decide_eq_true (by decide), Bool.true_and, Bool.true_and, show bl ⟨#[99]⟩ = [99] from rfl]
  match t.kids with
  | [] => simp
  | [k] =>
    rw [cT 99 bL, jX]
    simp only [fC, show ((99 : UInt8).toNat : Int) = 99 from rfl, aFe]
    cases hc : chB k
    · simp
    · simp [aA1 hc]
  | _ :: _ :: _ => simp
theorem TN (t : T) (hop : t.op = 36) (hk : ∀ k ∈ t.kids, OkF k) : aE t = bB t := by
  have e1 : aE t = fP aK t.kids := by
    unfold aE
    rw [if_neg (by omega)]
    unfold exB
    (repeat first | rw [if_pos (by omega)] | rw [if_neg (by omega)])
  rw [e1]
  unfold bB jA
  rw [sG (by omega) (by omega), if_pos hop, Bool.and_true]
  have hiff : rS aK t.kids ↔ rS eM t.kids := by
    unfold rS
    refine and_congr Iff.rfl (forall_congr' fun i => forall_congr' fun k => forall_congr' fun hi => ?_)
    unfold vU
    rw [tN (hk k (List.mem_of_getElem? hi))]
  by_cases h : rS aK t.kids
  · rw [sS h, sS (hiff.1 h)]
  · rw [nE h, nE fun h2 => h (hiff.2 h2)]
def knR (op : Int) : Prop := 1 ≤ op ∧ op ≤ 23 ∨ 30 ≤ op ∧ op ≤ 54 ∨ 60 ≤ op ∧ op ≤ 64
theorem TU {op : Int} (h : mM op ≠ []) : kU op = true := by
  unfold kU
  rw [decide_eq_true_eq]
  intro e
  apply h
  have := congrArg (fun x : ByteArray => x.data.toList) e
  simpa using this
theorem AY {op : Int} (h : mM op = []) : kU op = false := by
  unfold kU
  rw [h]
  simp
theorem aD5 : ((List.range 65).all fun k => (kL.getD k []).isEmpty == !(decide (1 ≤ k ∧ k ≤ 23) || decide (30 ≤ k ∧ k ≤ 54) || decide (60 ≤ k ∧ k ≤ 64))) = true := by decide +kernel
theorem aD6 {k : Nat} (h : k < 65) : (kL.getD k []).isEmpty = !(decide (1 ≤ k ∧ k ≤ 23) || decide (30 ≤ k ∧ k ≤ 54) || decide (60 ≤ k ∧ k ≤ 64)) := eq_of_beq (List.all_eq_true.1 aD5 k (List.mem_range.2 h))
theorem qP (op : Int) : kU op = true ↔ knR op := by
  by_cases hr : op < 0 ∨ 65 ≤ op
  · rw [AY (xU hr)]
    unfold knR
    constructor
    · intro h; cases h
    · intro h; omega
  · obtain ⟨k, rfl⟩ := Int.eq_ofNat_of_zero_le (by omega : 0 ≤ op)
    have h := aD6 (k := k) (by omega)
    have hn : mM (k : Int) = kL.getD k [] := by unfold mM; rw [if_pos (by omega), Int.toNat_natCast]
    unfold knR
    constructor
    · intro hk
      by_cases he : mM (k : Int) = []
      · rw [AY he] at hk
        cases hk
      · rw [← hn, List.isEmpty_eq_false_iff.2 he] at h
        simp at h
        omega
    · intro hk
      refine TU fun he => ?_
      rw [← hn, he] at h
      simp at h
      omega
theorem TW {t : T} (h : ¬knR t.op) : aH t = ⟨#[33]⟩ := by
  unfold knR at h
  unfold aH
  (repeat rw [if_neg (by omega)])
  unfold dO
  (repeat rw [if_neg (by omega)])
theorem OJ {t : T} (h : jA t = true) : kU t.op = true := by
  rw [qP]
  refine Classical.byContradiction fun hn => ?_
  unfold jA at h
  rw [TW hn] at h
  have : ¬t.op = 36 := fun e => hn (by unfold knR; omega)
  rw [if_neg this] at h
  simp at h
theorem YK {t : T} (hf : OkF t) (hk : ∀ k ∈ t.kids, OkF k) (hkn : kU t.op = true) (hy : t.op = 54 → t.n = 0 ∨ t.n = 1) (hp : t.op = 39 → 0 ≤ t.n ∧ t.n ≤ 5) : aE t = bB t := by
  rw [qP] at hkn
  unfold knR at hkn
  rcases (by omega : (t.op = 1 ∨ t.op = 6) ∨ t.op = 2 ∨ t.op = 3 ∨ t.op = 4 ∨ t.op = 5 ∨ (t.op = 7 ∨ t.op = 15 ∨ t.op = 16) ∨ (t.op = 8 ∨ t.op = 18) ∨ t.op = 9 ∨ t.op = 10 ∨ (t.op = 11 ∨ t.op = 12) ∨ t.op = 13 ∨ t.op = 14 ∨ t.op = 17 ∨ t.op = 19 ∨ t.op = 20 ∨ t.op = 21 ∨ t.op = 22 ∨ t.op = 23 ∨ 30 ≤ t.op) with h | h | h | h | h | h | h | h | h | h | h | h | h | h | h | h | h | h | h
  · exact YB t h hk
  · exact aB9 t h hk
  · exact YF t h hk
  · exact YD t h hf hk
  · exact PR t h hk
  · exact YC t h hk
  · exact YE t h hk
  · exact aEa t h hk
  · exact aCe t h hk
  · exact TP t h hk
  · exact TM t h hk
  · exact aEb t h hk
  · exact aCc t h hk
  · exact aCa t h hk
  · exact TQ t h hk
  · exact PH t h hk
  · by_cases hn : t.n = 1
    · exact TS t h hn hk
    · exact TR t h hn hk
  · exact TO t h hk
  · rcases (by omega : (t.op = 30 ∨ t.op = 31 ∨ t.op = 32 ∨ t.op = 33 ∨ t.op = 34 ∨ t.op = 35 ∨ t.op = 40) ∨ t.op = 36 ∨ t.op = 37 ∨ t.op = 38 ∨ t.op = 39 ∨ (t.op = 41 ∨ t.op = 42) ∨ t.op = 43 ∨ (t.op = 44 ∨ t.op = 45 ∨ t.op = 52) ∨ t.op = 46 ∨ t.op = 47 ∨ t.op = 48 ∨ (t.op = 49 ∨ t.op = 50) ∨ t.op = 51 ∨ t.op = 53 ∨ t.op = 54 ∨ 60 ≤ t.op) with h | h | h | h | h | h | h | h | h | h | h | h | h | h | h | h
    · exact aCd t h hk
    · exact TN t h hk
    · exact TT t h hk
    · exact PW t h hk
    · have hp := hp h
      by_cases hm : t.m = 1
      · rcases (by omega : t.n = 0 ∨ t.n = 1 ∨ t.n = 2 ∨ t.n = 3 ∨ t.n = 4 ∨ t.n = 5) with hn | hn | hn | hn | hn | hn
        · exact PQ t h hn hm hk
        · exact PO t h hn hm hk
        · exact PM t h hn hm hk
        · exact GL t h hn hk
        · exact GK t h hn hk
        · exact PK t h hn hm hk
      · rcases (by omega : t.n = 0 ∨ t.n = 1 ∨ t.n = 2 ∨ t.n = 3 ∨ t.n = 4 ∨ t.n = 5) with hn | hn | hn | hn | hn | hn
        · exact PP t h hn hm hk
        · exact PN t h hn hm hk
        · exact PL t h hn hm hk
        · exact GL t h hn hk
        · exact GK t h hn hk
        · exact PJ t h hn hm hk
    · exact PI t h hk
    · exact PG t h hk
    · exact aCg t h hk
    · by_cases hs : t.s = ⟨#[61]⟩
      · exact YJ t h hs hk
      · exact YI t h hs hk
    · exact YG t h hk
    · exact aCb t h hk
    · exact YH t h hk
    · exact aCf t h hk
    · exact GO t h
    · rcases hy h with hn | hn
      · exact PF t h hn hk
      · exact PE t h hn hk
    · rcases (by omega : t.op = 60 ∨ t.op = 61 ∨ t.op = 62 ∨ t.op = 63 ∨ t.op = 64) with h | h | h | h | h
      · exact PX t h hk
      · exact PT t h hk
      · by_cases hm : t.m = 1
        · exact GM t h hm hk
        · exact GN t h hm hk
      · exact JS t h hk
      · exact YA t h hk
theorem WJ {t : T} (h : OkF t) : bQ (cL t) 5 = bQ (bT t) 5 := by
  unfold bQ
  congr 1
  apply List.filter_congr
  intro m hm
  refine fE h ?_
  have := List.mem_of_mem_take hm
  unfold VZ at this
  simp at this ⊢
  omega
theorem BM (t : T) : gD t = eA t := by
  unfold gD eA
  by_cases h4 : t.op = 4
  · rw [if_pos h4, if_pos h4]
    congr 1
    unfold rP fnT
    by_cases h1 : t.n < 0 ∨ 255 < t.n ∨ t.s ≠ ⟨#[]⟩ ∧ eK t.s = false
    · rw [if_pos h1, if_pos h1]
    · have hf : OkF t := fun _ => by omega
      rw [if_neg h1, if_neg h1, WJ hf, aEl hf, fE hf (by simp), fE hf (by simp), fE hf (by simp), fE hf (by simp)]
      cases bT t 4 <;> cases bT t 2 <;> cases bT t 16 <;> cases bT t 32 <;> simp
  · rw [if_neg h4, if_neg h4]
theorem yL {t : T} (h : eA t = true) : OkF t := fun h4 => by
  unfold eA at h
  split at h
  · cases h
  · unfold fnT at h
    split at h
    · cases h
    · omega
theorem HI {t : T} (h : eA t = true) (h4 : t.op ≠ 4) : 0 ≤ t.n ∧ t.n ≤ eB t.op := by
  unfold eA at h
  split at h
  · cases h
  · rw [Bool.and_eq_true, Bool.and_eq_true, decide_eq_true_eq, decide_eq_true_eq] at h
    exact h.1
def oU (t : T) (i : Nat) (k : T) (spine : Bool) : Bool := decide (i = 0) && (decide (t.op = 53) || spine && (cW t && cW k))
inductive RA : T → Bool → Prop
  | mk {t : T} {spine : Bool} (hf : eA t = true) (hl : ¬(cW t = true ∧ t.n = 1 ∧ spine = false)) (hk : bB t = true) (hr : ∀ (i : Nat) (k : T), t.kids[i]? = some k → RA k (oU t i k spine)) : RA t spine
noncomputable def raB (t : T) (spine : Bool) : Bool := dB (RA t spine)
theorem aAn {t : T} {s : Bool} (h : RA t s) : raB t s = true := by unfold raB; exact VR h
theorem rD {t : T} {s : Bool} (h : ¬RA t s) : raB t s = false := by unfold raB; exact VS h
theorem nG {t : T} {s : Bool} (h : raB t s = true) : RA t s := by unfold raB at h; exact NQ h
theorem lM {t : T} {s : Bool} (h : raB t s = false) : ¬RA t s := by unfold raB at h; exact HQ h
theorem RA.okF {t : T} {s : Bool} (h : RA t s) : OkF t := by
  cases h with
  | mk hf _ _ _ => exact yL hf
theorem GP {t : T} (hf : eA t = true) (hk : ∀ k ∈ t.kids, OkF k) (hkn : kU t.op = true) : aE t = bB t := by
  refine YK (yL hf) hk hkn (fun h => ?_) (fun h => ?_)
  · have h2 := HI hf (by omega)
    have : eB t.op = 1 := by unfold eB; rw [if_pos (by omega)]
    omega
  · have h2 := HI hf (by omega)
    have : eB t.op = 5 := by unfold eB; (repeat first | rw [if_pos (by omega)] | rw [if_neg (by omega)])
    omega
theorem aAr {t k : T} {i : Nat} {s : Bool} (hk : bB t = true) (hi : t.kids[i]? = some k) : onT t i k s = oU t i k s := by
  unfold onT oU
  by_cases h0 : i = 0
  · subst h0
    by_cases h53 : t.op = 53
    · have hl : cW k = true := by
        rw [← GO t h53] at hk
        have e1 : aE t = mC t.kids := by
          unfold aE
          rw [if_neg (by omega)]
          unfold exB
          (repeat first | rw [if_pos (by omega)] | rw [if_neg (by omega)])
        rw [e1] at hk
        unfold mC at hk
        split at hk
        · rename_i k0 hks
          rw [hks] at hi
          cases hi
          exact aA1 hk
        · cases hk
      rw [hl, decide_eq_true h53]
      rfl
    · rw [decide_eq_false h53]
      cases cW k <;> cases cW t <;> cases s <;> rfl
  · rw [decide_eq_false h0]
    rfl
theorem XY {l : List Nat} {x : Nat} (h : x ∈ l) : x ≤ T.pZ l := by
  induction l with
  | nil => cases h
  | cons y l ih =>
    show x ≤ max y (T.pZ l)
    rcases List.mem_cons.1 h with rfl | h
    · omega
    · have := ih h
      omega
theorem OL : ∀ (t : T) (d : Nat) (s : Bool), Rt t d s ↔ d + t.depth ≤ 201 ∧ RA t s := fun t => T.YN (p := fun t => ∀ (d : Nat) (s : Bool), Rt t d s ↔ d + t.depth ≤ 201 ∧ RA t s) (fun t ih d s => by
  have hde := T.yS t
  constructor
  · intro h
    cases h with
    | mk hd hn hk hr =>
      obtain ⟨hkn, hf, hl⟩ := hn
      rw [BM] at hf
      have hkid : ∀ (i : Nat) (k : T), t.kids[i]? = some k → d + 1 + k.depth ≤ 201 ∧ RA k (onT t i k s) := fun i k hi => (ih k (List.mem_of_getElem? hi) _ _).1 (hr i k hi)
      have hok : ∀ k ∈ t.kids, OkF k := fun k hk => by
        obtain ⟨i, hi⟩ := List.mem_iff_getElem?.1 hk
        exact (hkid i k hi).2.okF
      have hk2 : bB t = true := by rw [← GP hf hok hkn]; exact hk
      have hdm : T.pZ (t.kids.map T.depth) ≤ 200 - d := T.NP fun x hx => by
        obtain ⟨k, hk, rfl⟩ := List.mem_map.1 hx
        obtain ⟨i, hi⟩ := List.mem_iff_getElem?.1 hk
        have := (hkid i k hi).1
        omega
      exact ⟨by omega, .mk hf hl hk2 fun i k hi => by rw [← aAr hk2 hi]; exact (hkid i k hi).2⟩
  · rintro ⟨hd, h⟩
    cases h with
    | mk hf hl hk hr =>
      have hkn : kU t.op = true := by
        unfold bB at hk
        rw [Bool.and_eq_true] at hk
        exact OJ hk.1
      have hok : ∀ k ∈ t.kids, OkF k := fun k hk => by
        obtain ⟨i, hi⟩ := List.mem_iff_getElem?.1 hk
        exact (hr i k hi).okF
      refine .mk (by omega) ⟨hkn, by rw [BM]; exact hf, hl⟩ (by rw [GP hf hok hkn]; exact hk) fun i k hi => (ih k (List.mem_of_getElem? hi) _ _).2 ⟨?_, by rw [aAr hk hi]; exact hr i k hi⟩
      have := XY (List.mem_map_of_mem (f := T.depth) (List.mem_of_getElem? hi))
      omega) t
theorem OK (t : T) : rtB t 1 false = (decide (t.depth ≤ 200) && raB t false) := by
  have h := OL t 1 false
  by_cases h1 : Rt t 1 false
  · obtain ⟨h2, h3⟩ := h.1 h1
    rw [MG h1, aAn h3, decide_eq_true (by omega)]
    rfl
  · rw [lV h1]
    by_cases h2 : t.depth ≤ 200
    · rw [decide_eq_true h2, Bool.true_and, rD fun h3 => h1 (h.2 ⟨by omega, h3⟩)]
    · rw [decide_eq_false h2]
      rfl
end Go.Proofs.YtocidaibmadekaaGreatDoor
namespace Go.Proofs.YtocidaibmadekaaGreatDoor
open Go.RowKit Go.Vcg
attribute [local irreducible] G GC GQ GA bX Calls IntKind.wrap Int.decLt Int.decLe
theorem QV (l : List Nat) (x : Nat) : T.pZ (l ++ [x]) = max (T.pZ l) x := by
  induction l with
  | nil => simp [T.pZ]
  | cons y l ih =>
    show max y (T.pZ (l ++ [x])) = max (max y (T.pZ l)) x
    rw [ih]
    omega
theorem FG : ∀ (n : Nat), n ≤ 100000 → ∀ (t : T) (v : Value) (w : World) (μ : Mem), MOk μ w → t.size ≤ n → TV μ t v →
    Calls Tryz.prog 25 #[v] w fun e w' => e = .returned (.int .i64 t.depth) ∧ Below w.heap.size w w' := by
  intro n
  induction n with
  | zero => intro _ t v w μ hμ hn _; exact absurd hn (by rw [T.size_eq]; omega)
  | succ n ih =>
    intro hnb t v w μ hμ hn ht
    have hlen := T.TK t
    have hd1 := T.yS t
    have hd2 := T.yR _ t hn
    obtain ⟨u, rfl, hk⟩ := ht
    obtain ⟨A, c, rfl, hlc, hkid⟩ := hk.form
    refine aA (args := [.agg (aD t (.slice A t.kids.length c)).toArray]) Tryz.func25 rfl Tryz.ntmps25 (by simp) hμ ?_
    repeat' (first | refine KK ?_ | refine NB fun b => ?_ | fail)
    refine aX (ι := Nat) (fun i => i ≤ t.kids.length) (fun i => t.kids.length - i) (fun _ => μ) (fun i => [(3, .int .i64 ((T.pZ ((t.kids.take i).map T.depth) : Nat) : Int)), (4, .int .i64 i), (1, .pointer (some ⟨b, 0, none⟩))]) (fun _ => [.inl ⟨b, 24, 6, idx 0 (aD t (.slice A t.kids.length c))⟩]) 0 (by simp) (fun a w hs => J6 hs) ?_
    intro i hil
    by_cases hlt : i < t.kids.length
    · obtain ⟨ad, x, rfl, hm, ho, hkx⟩ := hkid i _ (List.getElem?_eq_getElem hlt)
      have hsz := T.dH (List.getElem?_eq_getElem hlt)
      repeat' (first | refine KO ?_ | ((with_reducible apply C1); exact rfl; exact EN; exact fun w μc hw hse => ih (by omega) _ _ w μc hw (by omega) ⟨x, rfl, hkx.mono hse.le⟩) | (refine KV (b := by first | exact U1 i | exact U4 hm) (c := ?_)) | refine KI ?_ | fail)
      have e : (if ((T.pZ ((t.kids.take i).map T.depth) : Nat) : Int) < (t.kids[i].depth : Int) then (t.kids[i].depth : Int) else ((T.pZ ((t.kids.take i).map T.depth) : Nat) : Int)) = ((T.pZ ((t.kids.take (i + 1)).map T.depth) : Nat) : Int) := by
        rw [List.take_succ_eq_append_getElem hlt, List.map_append, List.map_cons, List.map_nil, QV]
        split <;> omega
      rw [e]
      refine J4 (i + 1) (by omega) (by omega)
    · have hi : i = t.kids.length := by omega
      subst hi
      rw [List.take_length]
      repeat' (first | refine KK ?_ | fail)
      exact xJ rfl (by exact bJ rfl) (by rw [hd1]; congr 1; omega)
end Go.Proofs.YtocidaibmadekaaGreatDoor
