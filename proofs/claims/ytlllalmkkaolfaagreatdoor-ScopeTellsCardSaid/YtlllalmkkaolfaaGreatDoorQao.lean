/- TreeRight, plainly: the program's and the reference's answers agree at every tree. -/
import Derived.Test.YtlllalmkkaolfaaGreatDoorQan
set_option maxRecDepth 20000
set_option maxHeartbeats 2000000
namespace Go.Proofs.YtlllalmkkaolfaaGreatDoor
section
open Go.RowKit Go.Vcg
attribute [local irreducible] fT fK fJ vI bR kU cW iE gU nO FU FO isT dK oN iS mJ chB jU fC
theorem aIq (t : T) (a : t.op = 4) (hf : OkF t) (hk : ∀ k ∈ t.kids, OkF k) : bC t = dS t := by
 obtain ⟨h0, h1⟩ := hf a
 have hb : fT t 128 = decide ((IntKind.i64.wrap (t.n.tdiv 128)).tmod 2 = 1) := by rw [lQ hf (by simp), aAs a h0]; rfl
 have e1 : bC t = dK (eI [ofT [5], wJ t]) t.kids := by
  unfold bC
  rw [if_pos (by omega)]
  unfold stB
  (repeat first | rw [if_pos (by omega)] | rw [if_neg (by omega)])
 rw [e1]
 by_cases b : (IntKind.i64.wrap (t.n.tdiv 128)).tmod 2 = 1
 ·have e2 : bL t = ⟨#[80, 69]⟩ := by
   unfold bL
   (repeat first | rw [if_pos (by omega)] | rw [if_neg (by omega)])
  rw [eZ (by omega) (by omega) (by omega) e2 (by decide), show bl ⟨#[80, 69]⟩ = [80, 69] from rfl, mK 80 (by decide) (by decide) (gW 69 eO)]
  unfold wJ
  rw [hb, decide_eq_true b, if_pos rfl]
  exact cU (.cons ceP (.cons ceE .nil)) _ hk
 ·have e2 : bL t = ⟨#[80, 66]⟩ := by
   unfold bL
   (repeat first | rw [if_pos (by omega)] | rw [if_neg (by omega)])
  rw [eZ (by omega) (by omega) (by omega) e2 (by decide), show bl ⟨#[80, 66]⟩ = [80, 66] from rfl, mK 80 (by decide) (by decide) (gW 66 eO)]
  unfold wJ
  rw [hb, decide_eq_false b, if_neg (by simp)]
  exact cU (.cons ceP (.cons ceB .nil)) _ hk
theorem aMl (t : T) (a : t.op = 19) (hk : ∀ k ∈ t.kids, OkF k) : bC t = dS t := by
 have e1 : bC t = NY t.kids := by
  unfold bC
  rw [if_pos (by omega)]
  unfold stB
  (repeat first | rw [if_pos (by omega)] | rw [if_neg (by omega)])
 have e2 : bL t = ⟨#[66, 67, 89]⟩ := by
  unfold bL
  (repeat first | rw [if_pos (by omega)] | rw [if_neg (by omega)])
 have e3 : dK (eI [ofT [6], ofT [20, 7], ofT [6, 7]]) t.kids = oN [66, 67, 89] t.kids := by
  rw [mK 66 (by decide) (by decide) (mK 67 (by decide) (by decide) (gW 89 eO))]
  exact cU (.cons ceB (.cons ceC (.cons ceY .nil))) _ hk
 rw [e1]
 unfold NY dS pN tA
 rw [e2, e3, if_neg (by omega), if_pos a, if_neg (by omega), decide_eq_true (by decide), cH, jL]
 rfl
theorem aK8 {k : T} (h : chB k = true) : gU k = true := by
 cases hl : gU k
 ·rw [AH (GX hl)] at h
  cases h
 ·rfl
theorem SZ (t : T) (a : t.op = 53) : bC t = dS t := by
 have e1 : bC t = rU t.kids := by
  unfold bC
  rw [if_neg (by omega)]
  unfold exB
  (repeat first | rw [if_pos (by omega)] | rw [if_neg (by omega)])
 have e2 : bL t = ⟨#[99]⟩ := by
  unfold bL
  (repeat rw [if_neg (by omega)])
  unfold jD
  (repeat first | rw [if_pos (by omega)] | rw [if_neg (by omega)])
 rw [e1]
 unfold dS pN tA rU
 rw [e2, if_neg (by omega), if_neg (by omega), if_pos a, decide_eq_true (by decide), cH, cH, show bl ⟨#[99]⟩ = [99] from rfl]
 match t.kids with
 | [] => simp
 | [k] =>
   rw [gW 99 eO, qQ]
   simp only [lN, show ((99 : UInt8).toNat : Int) = 99 from rfl, aPw]
   cases hc : chB k
   ·simp
   ·simp [aK8 hc]
 | _ :: _ :: _ => simp
theorem aE9 (t : T) (b : t.op = 36) (hk : ∀ k ∈ t.kids, OkF k) : bC t = dS t := by
 have e1 : bC t = mJ bR t.kids := by
  unfold bC
  rw [if_neg (by omega)]
  unfold exB
  (repeat first | rw [if_pos (by omega)] | rw [if_neg (by omega)])
 rw [e1]
 unfold dS pN
 rw [BB (by omega) (by omega), if_pos b, jL]
 have a : AL bR t.kids ↔ AL kU t.kids := by
  unfold AL
  refine and_congr Iff.rfl (forall_congr' fun i => forall_congr' fun k => forall_congr' fun hi => ?_)
  unfold DF
  rw [CT (hk k (aB hi))]
 by_cases h : AL bR t.kids
 ·rw [BQ h, BQ (a.1 h)]
 ·rw [uM h, uM fun h2 => h (a.2 h2)]
def knR (op : Int) : Prop := 1 ≤ op ∧ op ≤ 23 ∨ 30 ≤ op ∧ op ≤ 54 ∨ 60 ≤ op ∧ op ≤ 64
theorem aFg {op : Int} (h : tP op ≠ []) : rS op = true := by
 unfold rS
 rw [decide_eq_true_eq]
 intro e
 apply h
 have := congrArg (fun x : ByteArray => x.data.toList) e
 simpa using this
theorem MK {op : Int} (h : tP op = []) : rS op = false := by
 unfold rS
 rw [h]
 simp
theorem aOl : ((List.range 65).all fun k => (rK.getD k []).isEmpty == !(decide (1 ≤ k ∧ k ≤ 23) || decide (30 ≤ k ∧ k ≤ 54) || decide (60 ≤ k ∧ k ≤ 64))) = true := by decide +kernel
theorem aOm {k : Nat} (h : k < 65) : (rK.getD k []).isEmpty = !(decide (1 ≤ k ∧ k ≤ 23) || decide (30 ≤ k ∧ k ≤ 54) || decide (60 ≤ k ∧ k ≤ 64)) := eq_of_beq (eD.1 aOl k (List.mem_range.2 h))
theorem yV (op : Int) : rS op = true ↔ knR op := by
 by_cases hr : op < 0 ∨ 65 ≤ op
 ·rw [MK (IN hr)]
  unfold knR
  constructor
  ·intro h; cases h
  ·intro h; omega
 ·obtain ⟨k, rfl⟩ := kE (by omega : 0 ≤ op)
  have h := aOm (k := k) (by omega)
  have hn : tP (k : Int) = rK.getD k [] := by unfold tP; rw [if_pos (by omega), cL]
  unfold knR
  constructor
  ·intro hk
   by_cases he : tP (k : Int) = []
   ·rw [MK he] at hk
    cases hk
   ·rw [← hn, List.isEmpty_eq_false_iff.2 he] at h
    simp at h
    omega
  ·intro hk
   refine aFg fun he => ?_
   rw [← hn, he] at h
   simp at h
   omega
theorem aFh {t : T} (h : ¬knR t.op) : bL t = ⟨#[33]⟩ := by
 unfold knR at h
 unfold bL
 (repeat rw [if_neg (by omega)])
 unfold jD
 (repeat rw [if_neg (by omega)])
theorem aBc {t : T} (h : pN t = true) : rS t.op = true := by
 rw [yV]
 refine Classical.byContradiction fun hn => ?_
 unfold pN at h
 rw [aFh hn] at h
 have : ¬t.op = 36 := fun e => hn (by unfold knR; omega)
 rw [if_neg this] at h
 simp at h
theorem aIx {t : T} (hf : OkF t) (hk : ∀ k ∈ t.kids, OkF k) (a : rS t.op = true) (c : t.op = 54 → t.n = 0 ∨ t.n = 1) (b : t.op = 39 → 0 ≤ t.n ∧ t.n ≤ 5) : bC t = dS t := by
 rw [yV] at a
 unfold knR at a
 rcases (by omega : (t.op = 1 ∨ t.op = 6) ∨ t.op = 2 ∨ t.op = 3 ∨ t.op = 4 ∨ t.op = 5 ∨ (t.op = 7 ∨ t.op = 15 ∨ t.op = 16) ∨ (t.op = 8 ∨ t.op = 18) ∨ t.op = 9 ∨ t.op = 10 ∨ (t.op = 11 ∨ t.op = 12) ∨ t.op = 13 ∨ t.op = 14 ∨ t.op = 17 ∨ t.op = 19 ∨ t.op = 20 ∨ t.op = 21 ∨ t.op = 22 ∨ t.op = 23 ∨ 30 ≤ t.op) with h | h | h | h | h | h | h | h | h | h | h | h | h | h | h | h | h | h | h
 ·exact aIo t h hk
 ·exact aMk t h hk
 ·exact aIs t h hk
 ·exact aIq t h hf hk
 ·exact aCh t h hk
 ·exact aIp t h hk
 ·exact aIr t h hk
 ·exact aOq t h hk
 ·exact aMp t h hk
 ·exact aFb t h hk
 ·exact aE8 t h hk
 ·exact aOr t h hk
 ·exact aMn t h hk
 ·exact aMl t h hk
 ·exact aFc t h hk
 ·exact aB7 t h hk
 ·by_cases hn : t.n = 1
  ·exact aFe t h hn hk
  ·exact aFd t h hn hk
 ·exact aFa t h hk
 ·rcases (by omega : (t.op = 30 ∨ t.op = 31 ∨ t.op = 32 ∨ t.op = 33 ∨ t.op = 34 ∨ t.op = 35 ∨ t.op = 40) ∨ t.op = 36 ∨ t.op = 37 ∨ t.op = 38 ∨ t.op = 39 ∨ (t.op = 41 ∨ t.op = 42) ∨ t.op = 43 ∨ (t.op = 44 ∨ t.op = 45 ∨ t.op = 52) ∨ t.op = 46 ∨ t.op = 47 ∨ t.op = 48 ∨ (t.op = 49 ∨ t.op = 50) ∨ t.op = 51 ∨ t.op = 53 ∨ t.op = 54 ∨ 60 ≤ t.op) with h | h | h | h | h | h | h | h | h | h | h | h | h | h | h | h
  ·exact aMo t h hk
  ·exact aE9 t h hk
  ·exact aFf t h hk
  ·exact aCj t h hk
  ·have b := b h
   by_cases hm : t.m = 1
   ·rcases (by omega : t.n = 0 ∨ t.n = 1 ∨ t.n = 2 ∨ t.n = 3 ∨ t.n = 4 ∨ t.n = 5) with hn | hn | hn | hn | hn | hn
    ·exact aCg t h hn hm hk
    ·exact aCe t h hn hm hk
    ·exact aCc t h hn hm hk
    ·exact SW t h hn hk
    ·exact SV t h hn hk
    ·exact aCa t h hn hm hk
   ·rcases (by omega : t.n = 0 ∨ t.n = 1 ∨ t.n = 2 ∨ t.n = 3 ∨ t.n = 4 ∨ t.n = 5) with hn | hn | hn | hn | hn | hn
    ·exact aCf t h hn hm hk
    ·exact aCd t h hn hm hk
    ·exact aCb t h hn hm hk
    ·exact SW t h hn hk
    ·exact SV t h hn hk
    ·exact aB9 t h hn hm hk
  ·exact aB8 t h hk
  ·exact aB6 t h hk
  ·exact aMr t h hk
  ·by_cases hs : t.s = ⟨#[61]⟩
   ·exact aIw t h hs hk
   ·exact aIv t h hs hk
  ·exact aIt t h hk
  ·exact aMm t h hk
  ·exact aIu t h hk
  ·exact aMq t h hk
  ·exact SZ t h
  ·rcases c h with hn | hn
   ·exact aB5 t h hn hk
   ·exact aB4 t h hn hk
  ·rcases (by omega : t.op = 60 ∨ t.op = 61 ∨ t.op = 62 ∨ t.op = 63 ∨ t.op = 64) with h | h | h | h | h
   ·exact aCk t h hk
   ·exact aCi t h hk
   ·by_cases hm : t.m = 1
    ·exact SX t h hm hk
    ·exact SY t h hm hk
   ·exact WT t h hk
   ·exact aIn t h hk
theorem aHg {t : T} (h : OkF t) : fC (fT t) 5 = fC (fK t) 5 := by
 unfold fC
 congr 1
 apply List.filter_congr
 intro m hm
 refine lQ h ?_
 have := aZ hm
 unfold aG5 at this
 simp at this ⊢
 omega
theorem NA (t : T) : lZ t = kB t := by
 unfold lZ kB
 by_cases h4 : t.op = 4
 ·rw [if_pos h4, if_pos h4]
  congr 1
  unfold wK fnT
  by_cases h1 : t.n < 0 ∨ 255 < t.n ∨ t.s ≠ ⟨#[]⟩ ∧ jU t.s = false
  ·rw [if_pos h1, if_pos h1]
  ·have hf : OkF t := fun _ => by omega
   rw [if_neg h1, if_neg h1, aHg hf, aO1 hf, lQ hf (by simp), lQ hf (by simp), lQ hf (by simp), lQ hf (by simp)]
   cases fK t 4 <;> cases fK t 2 <;> cases fK t 16 <;> cases fK t 32 <;> simp
 ·rw [if_neg h4, if_neg h4]
theorem JJ {t : T} (h : kB t = true) : OkF t := fun h4 => by
 unfold kB at h
 split at h
 ·cases h
 ·unfold fnT at h
  split at h
  ·cases h
  ·omega
theorem UB {t : T} (h : kB t = true) (h4 : t.op ≠ 4) : 0 ≤ t.n ∧ t.n ≤ kC t.op := by
 unfold kB at h
 split at h
 ·cases h
 ·rw [aS, aS, decide_eq_true_eq, decide_eq_true_eq] at h
  exact h.1
def wN (t : T) (i : Nat) (k : T) (spine : Bool) : Bool := decide (i = 0) && (decide (t.op = 53) || spine && (gU t && gU k))
inductive RA : T → Bool → Prop
 | mk {t : T} {spine : Bool} (hf : kB t = true) (hl : ¬(gU t = true ∧ t.n = 1 ∧ spine = false)) (hk : dS t = true) (hr : ∀ (i : Nat) (k : T), t.kids[i]? = some k → RA k (wN t i k spine)) : RA t spine
noncomputable def raB (t : T) (spine : Bool) : Bool := dB (RA t spine)
theorem aKu {t : T} {s : Bool} (h : RA t s) : raB t s = true := by unfold raB; exact aGw h
theorem zR {t : T} {s : Bool} (h : ¬RA t s) : raB t s = false := by unfold raB; exact aGx h
theorem uP {t : T} {s : Bool} (h : raB t s = true) : RA t s := by unfold raB at h; exact CX h
theorem sH {t : T} {s : Bool} (h : raB t s = false) : ¬RA t s := by unfold raB at h; exact UJ h
theorem RA.okF {t : T} {s : Bool} (h : RA t s) : OkF t := by
 cases h with
 | mk hf _ _ _ => exact JJ hf
theorem TA {t : T} (hf : kB t = true) (hk : ∀ k ∈ t.kids, OkF k) (a : rS t.op = true) : bC t = dS t := by
 refine aIx (JJ hf) hk a (fun h => ?_) (fun h => ?_)
 ·have h2 := UB hf (by omega)
  have : kC t.op = 1 := by unfold kC; rw [if_pos (by omega)]
  omega
 ·have h2 := UB hf (by omega)
  have : kC t.op = 5 := by unfold kC; (repeat first | rw [if_pos (by omega)] | rw [if_neg (by omega)])
  omega
theorem aKz {t k : T} {i : Nat} {s : Bool} (hk : dS t = true) (hi : t.kids[i]? = some k) : onT t i k s = wN t i k s := by
 unfold onT wN
 by_cases h0 : i = 0
 ·subst h0
  by_cases a : t.op = 53
  ·have hl : gU k = true := by
    rw [← SZ t a] at hk
    have e1 : bC t = rU t.kids := by
     unfold bC
     rw [if_neg (by omega)]
     unfold exB
     (repeat first | rw [if_pos (by omega)] | rw [if_neg (by omega)])
    rw [e1] at hk
    unfold rU at hk
    split at hk
    ·rename_i k0 b
     rw [b] at hi
     cases hi
     exact aK8 hk
    ·cases hk
   rw [hl, decide_eq_true a]
   rfl
  ·rw [decide_eq_false a]
   cases gU k <;> cases gU t <;> cases s <;> rfl
 ·rw [decide_eq_false h0]
  rfl
theorem aIl {l : List Nat} {x : Nat} (h : x ∈ l) : x ≤ T.yA l := by
 induction l with
 | nil => cases h
 | cons y l ih =>
   show x ≤ max y (T.yA l)
   rcases aW.1 h with rfl | h
   ·omega
   ·have := ih h
    omega
theorem aBe : ∀ (t : T) (d : Nat) (s : Bool), Rt t d s ↔ d + t.depth ≤ 201 ∧ RA t s := fun t => T.XA (p := fun t => ∀ (d : Nat) (s : Bool), Rt t d s ↔ d + t.depth ≤ 201 ∧ RA t s) (fun t ih d s => by
 have l := T.JR t
 constructor
 ·intro h
  cases h with
  | mk hd hn hk hr =>
    obtain ⟨b, hf, hl⟩ := hn
    rw [NA] at hf
    have a : ∀ (i : Nat) (k : T), t.kids[i]? = some k → d + 1 + k.depth ≤ 201 ∧ RA k (onT t i k s) := fun i k hi => (ih k (aB hi) _ _).1 (hr i k hi)
    have c : ∀ k ∈ t.kids, OkF k := fun k hk => by
     obtain ⟨i, hi⟩ := List.mem_iff_getElem?.1 hk
     exact (a i k hi).2.okF
    have e : dS t = true := by rw [← TA hf c b]; exact hk
    have j : T.yA (t.kids.map T.depth) ≤ 200 - d := T.aAq fun x g => by
     obtain ⟨k, hk, rfl⟩ := List.mem_map.1 g
     obtain ⟨i, hi⟩ := List.mem_iff_getElem?.1 hk
     have := (a i k hi).1
     omega
    exact ⟨by omega, .mk hf hl e fun i k hi => by rw [← aKz e hi]; exact (a i k hi).2⟩
 ·rintro ⟨hd, h⟩
  cases h with
  | mk hf hl hk hr =>
    have b : rS t.op = true := by
     unfold dS at hk
     rw [aS] at hk
     exact aBc hk.1
    have c : ∀ k ∈ t.kids, OkF k := fun k hk => by
     obtain ⟨i, hi⟩ := List.mem_iff_getElem?.1 hk
     exact (hr i k hi).okF
    refine .mk (by omega) ⟨b, by rw [NA]; exact hf, hl⟩ (by rw [TA hf c b]; exact hk) fun i k hi => (ih k (aB hi) _ _).2 ⟨?_, by rw [aKz hk hi]; exact hr i k hi⟩
    have := aIl (eT (f := T.depth) (aB hi))
    omega) t
theorem aBd (t : T) : rtB t 1 false = (decide (t.depth ≤ 200) && raB t false) := by
 have h := aBe t 1 false
 by_cases h1 : Rt t 1 false
 ·obtain ⟨h2, h3⟩ := h.1 h1
  rw [ZH h1, aKu h3, decide_eq_true (by omega)]
  rfl
 ·rw [sS h1]
  by_cases h2 : t.depth ≤ 200
  ·rw [decide_eq_true h2, cH, zR fun h3 => h1 (h.2 ⟨by omega, h3⟩)]
  ·rw [decide_eq_false h2]
   rfl
end
section
open Go.RowKit Go.Vcg
attribute [local irreducible] G GC GQ GA eN Calls IntKind.wrap Int.decLt Int.decLe
theorem aC7 (l : List Nat) (x : Nat) : T.yA (l ++ [x]) = max (T.yA l) x := by
 induction l with
 | nil => simp [T.yA]
 | cons y l ih =>
   show max y (T.yA (l ++ [x])) = max (max y (T.yA l)) x
   rw [ih]
   omega
theorem RH : ∀ (n : Nat), n ≤ 100000 → ∀ (t : T) (v : Value) (w : World) (μ : Mem), MOk μ w → t.size ≤ n → TV μ t v →
 aV 23 #[v] w (.int .i64 t.depth) := by
 intro n
 induction n with
 | zero => intro _ t v w μ hμ hn _; exact absurd hn (by rw [T.size_eq]; omega)
 | succ n ih =>
   intro k t v w μ hμ hn ht
   have hlen := T.aE4 t
   have h := T.JR t
   have p := T.JQ _ t hn
   obtain ⟨u, rfl, hk⟩ := ht
   obtain ⟨A, c, rfl, l, d⟩ := hk.form
   refine aE (args := [.agg (aY t (.slice A t.kids.length c)).toArray]) Tryz.func23 rfl Tryz.ntmps23 (by simp) hμ ?_
   try repeat' (first | refine KZ ?_ | refine NB fun b => ?_)
   refine bW (ι := Nat) (fun i => i ≤ t.kids.length) (fun i => t.kids.length - i) (fun _ => μ) (fun i => [(3, .int .i64 ((T.yA ((t.kids.take i).map T.depth) : Nat) : Int)), (4, .int .i64 i), (1, .pointer (some ⟨b, 0, none⟩))]) (fun _ => [.inl ⟨b, 24, 6, idx 0 (aY t (.slice A t.kids.length c))⟩]) 0 (by simp) (fun a w hs => J6 hs) ?_
   intro i o
   by_cases hlt : i < t.kids.length
   ·obtain ⟨ad, x, rfl, hm, ho, g⟩ := d i _ (aA hlt)
    have j := T.fN (aA hlt)
    try repeat' (first | refine KO ?_ | ((with_reducible apply C1); exact rfl; exact EN; exact fun w μc hw f => ih (by omega) _ _ w μc hw (by omega) ⟨x, rfl, g.mono f.le⟩) | (refine KV (b := by first | exact U1 i | exact U4 hm) (c := ?_)) | refine KZ ?_)
    have e : (if ((T.yA ((t.kids.take i).map T.depth) : Nat) : Int) < (t.kids[i].depth : Int) then (t.kids[i].depth : Int) else ((T.yA ((t.kids.take i).map T.depth) : Nat) : Int)) = ((T.yA ((t.kids.take (i + 1)).map T.depth) : Nat) : Int) := by
     rw [gY hlt, bI, aO, gZ, aC7]
     split <;> omega
    rw [e]
    refine J4 (i + 1) (by omega) (by omega)
   ·have hi : i = t.kids.length := by omega
    subst hi
    rw [kY]
    try repeat' (refine KZ ?_)
    exact HQ rfl (by exact cN rfl) (by rw [h]; congr 1; omega)
end
section
open Go.RowKit Go.Vcg
theorem aOd {t : T} (d : t.op = 19) (h : pN t = true) : ∃ x y z, t.kids = [x, y, z] := by
 have e2 : bL t = ⟨#[66, 67, 89]⟩ := by
  unfold bL
  (repeat first | rw [if_pos (by omega)] | rw [if_neg (by omega)])
 unfold pN at h
 rw [if_neg (by omega), e2, decide_eq_true (by decide), cH, show bl ⟨#[66, 67, 89]⟩ = [66, 67, 89] from rfl, mK 66 (by decide) (by decide) (mK 67 (by decide) (by decide) (gW 89 eO))] at h
 exact aPb (a := isT 66) (b := isT 67) (c := isT 89) h
theorem aOe {t : T} (a : t.op = 53) (h : pN t = true) : ∃ x, t.kids = [x] := by
 have e2 : bL t = ⟨#[99]⟩ := by
  unfold bL
  (repeat rw [if_neg (by omega)])
  unfold jD
  (repeat first | rw [if_pos (by omega)] | rw [if_neg (by omega)])
 unfold pN at h
 rw [if_neg (by omega), e2, decide_eq_true (by decide), cH, show bl ⟨#[99]⟩ = [99] from rfl, gW 99 eO, qQ] at h
 match hk : t.kids with
 | [] => rw [hk] at h; simp at h
 | [x] => exact ⟨x, rfl⟩
 | x :: y :: r =>
   rw [hk] at h
   simp only [lN] at h
   split at h
   ·simp at h
   ·cases h
theorem aAi {t x y z : T} (h : t.op = 19) (hk : t.kids = [x, y, z]) : tA t = (decide (y.op ≠ 7) || decide (z.op ≠ 7)) := by
 unfold tA
 rw [if_pos h, if_neg (by omega), hk, jL]
theorem aAh {t x : T} (h : t.op = 53) (hk : t.kids = [x]) : tA t = chB x := by
 unfold tA
 rw [if_neg (by omega), if_pos h, hk, cH]
theorem HE {c : Prop} [Decidable c] {a b : ByteArray} (d : a.size ≤ 1000) (hb : b.size ≤ 1000) : (if c then a else b).size ≤ 1000 := by split <;> assumption
theorem aIy (t : T) (c : UInt8) : (oJ t ++ ⟨#[c]⟩).size ≤ 1000 := by
 rw [ByteArray.size_append, aCm]
 show 1 + 1 ≤ 1000
 decide
theorem WX (t : T) : (bL t).size ≤ 1000 := by
 have h2 : (rW t).size ≤ 1000 := by
  unfold rW
  (repeat' first | exact aIy t _ | apply HE | decide)
 have h3 : (jD t).size ≤ 1000 := by
  unfold jD
  (repeat' first | exact h2 | apply HE | decide)
 unfold bL
 (repeat' first | exact h3 | apply HE | decide)
attribute [local irreducible] kB bL gU pN tA raB oN mJ chB rtB G GC GQ GA eN Calls IntKind.wrap Int.decLt Int.decLe
theorem aBh : ∀ (n : Nat), n ≤ 100000 → ∀ (t : T) (u : Value) (spine : Bool) (w : World) (μ : Mem), MOk μ w → KR μ t.kids u → t.size ≤ n → Sh t →
 aV 24 #[.agg (aY t u).toArray, .bool spine] w (.bool (raB t spine)) := by
 intro n
 induction n with
 | zero => intro _ t u spine w μ hμ hk hn; exact absurd hn (by rw [T.size_eq]; omega)
 | succ n ih =>
   intro bb t u spine w μ hμ hk hn ai
   have ho := hk.one
   have a1 := aKm ai
   unfold kO at a1
   have a8 := KS ai
   have ap : ∀ k ∈ t.kids, T.size k ≤ 100000 ∧ k.s.size ≤ 65536 := fun k hk => by
    obtain ⟨i, hi⟩ := List.mem_iff_getElem?.1 hk
    have h1 := T.fN hi
    have h2 := KS (uB ai hk)
    exact ⟨by omega, by omega⟩
   have al : ∀ k ∈ t.kids, Sh' k := fun k hk => aD2 (uB ai hk)
   have hlen := eL t
   have ax := WX t
   obtain ⟨A, c, rfl, bc, p⟩ := hk.form
   have c2 := fun w μc hw (hle : MLe μ μc) => OM t _ w μc hw (hk.mono hle) (by omega) (by omega)
   have c3 := fun w μc hw (hle : MLe μ μc) => vJ t _ w μc hw (hk.mono hle) (by omega) (by omega)
   have c4 := fun w μc hw (hle : MLe μ μc) => WW t _ w μc hw (hk.mono hle)
   have c5 := fun w μc hw (hle : MLe μ μc) => aD9 (bL t) ax t.kids A t.kids.length c w μc hw (hk.mono hle) rfl (by omega) ap
   have c6 := fun w μc hw (hle : MLe μ μc) => HS t.kids A t.kids.length c w μc hw (hk.mono hle) rfl (by omega) ap
   refine aE (args := [.agg (aY t (.slice A t.kids.length c)).toArray, .bool spine]) Tryz.func24 rfl Tryz.ntmps24 (by simp) hμ ?_
   by_cases h1 : kB t = true ∧ ¬(gU t = true ∧ t.n = 1 ∧ spine = false)
   ·obtain ⟨hf, hl⟩ := h1
    rw [hf] at c2
    try repeat' (first | ((with_reducible show GC _ _ (Code.seq (Code.seq (Code.region 1 _ _) _) _) _ _ _ _); (apply dF)) | refine KZ ?_ | refine NB fun b => ?_)
    refine gcs (iB (ι := Unit) (fun _ => True) (fun _ => μ) (fun _ => [(1, .bool spine), (2, .pointer (some ⟨b, 0, none⟩))]) (fun _ => [.inl ⟨b, 24, 6, idx 0 (aY t (.slice A t.kids.length c))⟩]) ?_ ?_)
    ·try repeat' (first | refine KO ?_ | refine K2 42 c2 ?_ | refine K2 43 c3 ?_ | refine KZ ?_ | (refine KB ?_ ?_ <;> intro hp))
     all_goals try (exfalso; apply hl; refine ⟨?_, ?_, ?_⟩ <;> assumption)
     all_goals exact J1 () trivial
    intro _ _
    try repeat' (first | ((with_reducible show GC _ _ (Code.seq (Code.seq (Code.region 4 _ _) _) _) _ _ _ _); (apply dF)) | refine KZ ?_)
    refine gcs (iB (ι := Unit) (fun _ => True) (fun _ => μ) (fun _ => [(5, .bool (pN t)), (1, .bool spine), (2, .pointer (some ⟨b, 0, none⟩))]) (fun _ => [.inl ⟨b, 24, 6, idx 0 (aY t (.slice A t.kids.length c))⟩]) ?_ ?_)
    ·by_cases az : t.op = 36
     ·have hg : pN t = mJ kU t.kids := by unfold pN; rw [if_pos az]
      rw [hg]
      try repeat' (first | refine KO ?_ | refine K2 44 c6 ?_ | refine KZ ?_)
      all_goals exact J1 () trivial
     ·have hg : pN t = (decide (bL t ≠ ⟨#[33]⟩) && oN (bl (bL t)) t.kids) := by unfold pN; rw [if_neg az]
      generalize hB : pN t = rb at hg ⊢
      generalize hR : oN (bl (bL t)) t.kids = rp at hg c5
      by_cases hK : bL t = ⟨#[33]⟩
      ·rw [hK] at c4 hg
       simp at hg
       subst hg
       try repeat' (first | refine KO ?_ | refine K2 45 c4 ?_ | refine KZ ?_)
       all_goals exact J1 () trivial
      ·rw [decide_eq_true hK, cH] at hg
       subst hg
       generalize bL t = ks at hK c4 c5
       try repeat' (first | refine KO ?_ | refine K2 45 c4 ?_ | refine K2 46 c5 ?_ | refine KZ ?_)
       all_goals exact J1 () trivial
    intro _ _
    cases ab : pN t
    ·have hR : raB t spine = false := zR fun h => by
      cases h with
      | mk _ _ h2 _ => unfold dS at h2; rw [ab] at h2; cases h2
     rw [hR]
     try repeat' (refine KZ ?_)
     all_goals exact aJ rfl rfl rfl
    cases hex : tA t
    ·have hR : raB t spine = false := zR fun h => by
      cases h with
      | mk _ _ h2 _ => unfold dS at h2; rw [hex, gE] at h2; cases h2
     rw [hR]
     by_cases aj : t.op = 19
     ·obtain ⟨x, y, z, g⟩ := aOd aj ab
      obtain ⟨ad1, x1, rfl, ag, ak, af⟩ := p 1 y (by rw [g]; rfl)
      obtain ⟨ad2, x2, e2, ao, au, aw⟩ := p 2 z (by rw [g]; rfl)
      cases e2
      rw [aAi aj g] at hex
      have h3 : t.kids.length = 3 := by rw [g]; rfl
      simp at hex
      try repeat' (first | refine KO ?_ | (refine KV (b := by first | exact U1 1 | exact U1 2 | exact U4 ag | exact U4 ao) (c := ?_)) | refine KZ ?_)
      all_goals exact aJ rfl rfl rfl
     ·by_cases q : t.op = 53
      ·obtain ⟨x, hx⟩ := aOe q ab
       obtain ⟨ad1, x1, rfl, ag, ak, af⟩ := p 0 x (by rw [hx]; rfl)
       rw [aAh q hx] at hex
       have h3 : t.kids.length = 1 := by rw [hx]; rfl
       have ar := T.fN (t := t) (i := 0) (k := x) (by rw [hx]; rfl)
       have c7 := fun w μc hw (hle : MLe μ μc) => CY 100000 (aD _) x _ w μc hw (af.mono hle) (by omega) (al x (by rw [hx]; exact .head _))
       rw [hex] at c7
       try repeat' (first | refine KO ?_ | ((with_reducible apply C1); exact rfl; exact EN; exact fun w μc hw e => c7 w μc hw e.le) | (refine KV (b := by first | exact U1 0 | exact U4 ag) (c := ?_)) | refine KZ ?_)
       all_goals exact aJ rfl rfl rfl
      ·rw [BB aj q] at hex
       cases hex
    have a6 : dS t = true := by unfold dS; rw [ab, hex]; rfl
    refine iB (ι := Unit) (fun _ => True) (fun _ => μ) (fun _ => [(1, .bool spine), (2, .pointer (some ⟨b, 0, none⟩))]) (fun _ => [.inl ⟨b, 24, 6, idx 0 (aY t (.slice A t.kids.length c))⟩]) ?_ ?_
    ·by_cases aj : t.op = 19
     ·obtain ⟨x, y, z, g⟩ := aOd aj ab
      obtain ⟨ad1, x1, rfl, ag, ak, af⟩ := p 1 y (by rw [g]; rfl)
      obtain ⟨ad2, x2, e2, ao, au, aw⟩ := p 2 z (by rw [g]; rfl)
      cases e2
      rw [aAi aj g] at hex
      have h3 : t.kids.length = 3 := by rw [g]; rfl
      simp at hex
      try repeat' (first | refine KO ?_ | (refine KV (b := by first | exact U1 1 | exact U1 2 | exact U4 ag | exact U4 ao) (c := ?_)) | refine KZ ?_ | (refine KB ?_ ?_ <;> intro hp))
      all_goals exact J1 () trivial
     ·by_cases q : t.op = 53
      ·obtain ⟨x, hx⟩ := aOe q ab
       obtain ⟨ad1, x1, rfl, ag, ak, af⟩ := p 0 x (by rw [hx]; rfl)
       rw [aAh q hx] at hex
       have h3 : t.kids.length = 1 := by rw [hx]; rfl
       have ar := T.fN (t := t) (i := 0) (k := x) (by rw [hx]; rfl)
       have c7 := fun w μc hw (hle : MLe μ μc) => CY 100000 (aD _) x _ w μc hw (af.mono hle) (by omega) (al x (by rw [hx]; exact .head _))
       rw [hex] at c7
       try repeat' (first | refine KO ?_ | ((with_reducible apply C1); exact rfl; exact EN; exact fun w μc hw e => c7 w μc hw e.le) | (refine KV (b := by first | exact U1 0 | exact U4 ag) (c := ?_)) | refine KZ ?_)
       all_goals exact J1 () trivial
      ·try repeat' (refine KZ ?_)
       all_goals exact J1 () trivial
    intro _ _
    try repeat' (refine KZ ?_)
    refine bW (ι := Nat) (fun i => i ≤ t.kids.length ∧ ∀ (j : Nat) (k : T), j < i → t.kids[j]? = some k → RA k (wN t j k spine)) (fun i => t.kids.length - i) (fun _ => μ) (fun i => [(7, .int .i64 i), (1, .bool spine), (2, .pointer (some ⟨b, 0, none⟩))]) (fun _ => [.inl ⟨b, 24, 6, idx 0 (aY t (.slice A t.kids.length c))⟩]) 0 ⟨by omega, fun j _ h => absurd h (by omega)⟩ (fun a w hs => J5 hs) ?_
    rintro i ⟨hi, av⟩
    by_cases hlt : i < t.kids.length
    ·have aa : t.kids[i]? = some t.kids[i] := aA hlt
     generalize t.kids[i] = k at aa
     obtain ⟨ad, x, rfl, hm, ba, ah⟩ := p i k aa
     have ar := T.fN aa
     have r := uB ai (aB aa)
     have a7 := KS r
     have ck := fun w μc hw (hle : MLe μ μc) => vJ k _ w μc hw (ah.mono hle) (by omega) (by omega)
     have o : RA k (wN t i k spine) → ∀ (j : Nat) (k : T), j < i + 1 → t.kids[j]? = some k → RA k (wN t j k spine) := fun h j k' hj aq => by
      rcases cY j i with h1 | h1
      ·exact av j k' h1 aq
      ·obtain rfl : j = i := by omega
       rw [aa] at aq
       cases aq
       exact h
     by_cases ay : i = 0
     ·subst ay
      by_cases q : t.op = 53
      ·skip
       have f : wN t 0 k spine = true := by simp [wN, q]
       have d := fun w μc hw (hle : MLe μ μc) => ih (by omega) k x true w μc hw (ah.mono hle) (by omega) r
       cases l : raB k true
       ·have hR : raB t spine = false := zR fun h => sH l (by cases h with | mk _ _ _ h4 => exact f ▸ h4 0 k aa)
        rw [hR]
        rw [l] at d
        try repeat' (first | refine KO ?_ | refine K2 24 d ?_ | (refine KV (b := by first | exact U1 0 | exact U4 hm) (c := ?_)) | refine KZ ?_)
        all_goals exact aJ rfl rfl rfl
       ·have v := o (by rw [f]; exact uP l)
        rw [l] at d
        try repeat' (first | refine KO ?_ | refine K2 24 d ?_ | (refine KV (b := by first | exact U1 0 | exact U4 hm) (c := ?_)) | refine KZ ?_)
        all_goals exact J2 (0 + 1) ⟨by omega, v⟩ (by omega)
      ·cases spine
       ·skip
        have f : wN t 0 k false = false := by simp [wN, q]
        have d := fun w μc hw (hle : MLe μ μc) => ih (by omega) k x false w μc hw (ah.mono hle) (by omega) r
        cases l : raB k false
        ·have hR : raB t false = false := zR fun h => sH l (by cases h with | mk _ _ _ h4 => exact f ▸ h4 0 k aa)
         rw [hR]
         rw [l] at d
         try repeat' (first | refine KO ?_ | refine K2 24 d ?_ | (refine KV (b := by first | exact U1 0 | exact U4 hm) (c := ?_)) | refine KZ ?_)
         all_goals exact aJ rfl rfl rfl
        ·have v := o (by rw [f]; exact uP l)
         rw [l] at d
         try repeat' (first | refine KO ?_ | refine K2 24 d ?_ | (refine KV (b := by first | exact U1 0 | exact U4 hm) (c := ?_)) | refine KZ ?_)
         all_goals exact J2 (0 + 1) ⟨by omega, v⟩ (by omega)
       ·cases ae : gU t
        ·rw [ae] at c3
         have f : wN t 0 k true = false := by simp [wN, q, ae]
         have d := fun w μc hw (hle : MLe μ μc) => ih (by omega) k x false w μc hw (ah.mono hle) (by omega) r
         cases l : raB k false
         ·have hR : raB t true = false := zR fun h => sH l (by cases h with | mk _ _ _ h4 => exact f ▸ h4 0 k aa)
          rw [hR]
          rw [l] at d
          try repeat' (first | refine KO ?_ | refine K2 43 c3 ?_ | refine K2 24 d ?_ | (refine KV (b := by first | exact U1 0 | exact U4 hm) (c := ?_)) | refine KZ ?_)
          all_goals exact aJ rfl rfl rfl
         ·have v := o (by rw [f]; exact uP l)
          rw [l] at d
          try repeat' (first | refine KO ?_ | refine K2 43 c3 ?_ | refine K2 24 d ?_ | (refine KV (b := by first | exact U1 0 | exact U4 hm) (c := ?_)) | refine KZ ?_)
          all_goals exact J2 (0 + 1) ⟨by omega, v⟩ (by omega)
        ·rw [ae] at c3
         cases an : gU k
         ·rw [an] at ck
          have f : wN t 0 k true = false := by simp [wN, q, ae, an]
          have d := fun w μc hw (hle : MLe μ μc) => ih (by omega) k x false w μc hw (ah.mono hle) (by omega) r
          cases l : raB k false
          ·have hR : raB t true = false := zR fun h => sH l (by cases h with | mk _ _ _ h4 => exact f ▸ h4 0 k aa)
           rw [hR]
           rw [l] at d
           try repeat' (first | refine KO ?_ | ((with_reducible apply F1 43); exact rfl; exact EN; first | (exact fun w μc hw e => ck w μc hw e.le) | (exact fun w μc hw e => c3 w μc hw e.le)) | refine K2 24 d ?_ | (refine KV (b := by first | exact U1 0 | exact U4 hm) (c := ?_)) | refine KZ ?_)
           all_goals exact aJ rfl rfl rfl
          ·have v := o (by rw [f]; exact uP l)
           rw [l] at d
           try repeat' (first | refine KO ?_ | ((with_reducible apply F1 43); exact rfl; exact EN; first | (exact fun w μc hw e => ck w μc hw e.le) | (exact fun w μc hw e => c3 w μc hw e.le)) | refine K2 24 d ?_ | (refine KV (b := by first | exact U1 0 | exact U4 hm) (c := ?_)) | refine KZ ?_)
           all_goals exact J2 (0 + 1) ⟨by omega, v⟩ (by omega)
         ·rw [an] at ck
          have f : wN t 0 k true = true := by simp [wN, q, ae, an]
          have d := fun w μc hw (hle : MLe μ μc) => ih (by omega) k x true w μc hw (ah.mono hle) (by omega) r
          cases l : raB k true
          ·have hR : raB t true = false := zR fun h => sH l (by cases h with | mk _ _ _ h4 => exact f ▸ h4 0 k aa)
           rw [hR]
           rw [l] at d
           try repeat' (first | refine KO ?_ | ((with_reducible apply F1 43); exact rfl; exact EN; first | (exact fun w μc hw e => ck w μc hw e.le) | (exact fun w μc hw e => c3 w μc hw e.le)) | refine K2 24 d ?_ | (refine KV (b := by first | exact U1 0 | exact U4 hm) (c := ?_)) | refine KZ ?_)
           all_goals exact aJ rfl rfl rfl
          ·have v := o (by rw [f]; exact uP l)
           rw [l] at d
           try repeat' (first | refine KO ?_ | ((with_reducible apply F1 43); exact rfl; exact EN; first | (exact fun w μc hw e => ck w μc hw e.le) | (exact fun w μc hw e => c3 w μc hw e.le)) | refine K2 24 d ?_ | (refine KV (b := by first | exact U1 0 | exact U4 hm) (c := ?_)) | refine KZ ?_)
           all_goals exact J2 (0 + 1) ⟨by omega, v⟩ (by omega)
     ·skip
      have f : wN t i k spine = false := by simp [wN, ay]
      have d := fun w μc hw (hle : MLe μ μc) => ih (by omega) k x false w μc hw (ah.mono hle) (by omega) r
      cases l : raB k false
      ·have hR : raB t spine = false := zR fun h => sH l (by cases h with | mk _ _ _ h4 => exact f ▸ h4 i k aa)
       rw [hR]
       rw [l] at d
       try repeat' (first | refine KO ?_ | refine K2 24 d ?_ | (refine KV (b := by first | exact U1 i | exact U4 hm) (c := ?_)) | refine KZ ?_)
       all_goals exact aJ rfl rfl rfl
      ·have v := o (by rw [f]; exact uP l)
       rw [l] at d
       try repeat' (first | refine KO ?_ | refine K2 24 d ?_ | (refine KV (b := by first | exact U1 i | exact U4 hm) (c := ?_)) | refine KZ ?_)
       all_goals exact J2 (i + 1) ⟨by omega, v⟩ (by omega)
    ·have hR : raB t spine = true := aKu (.mk hf hl a6 fun j k hj => av j k (by have := (List.getElem?_eq_some_iff.1 hj).1; omega) hj)
     rw [hR]
     try repeat' (refine KZ ?_)
     all_goals exact aJ rfl rfl rfl
   ·have hR : raB t spine = false := zR fun h => by
     cases h with
     | mk h2 h3 _ _ => exact h1 ⟨h2, h3⟩
    rw [hR]
    try repeat' (first | ((with_reducible show GC _ _ (Code.seq (Code.region 3 _ _) _) _ _ _ _); (apply dF)) | refine KO ?_ | refine K2 42 c2 ?_ | refine K2 43 c3 ?_ | refine KZ ?_ | refine NB fun b => ?_ | (refine KB ?_ ?_ <;> intro hp))
    all_goals first | exact aJ rfl rfl rfl | (exfalso; clear c2 c3 c4 c5 c6 hk p hμ ap al ai ih; simp_all; done)
theorem wW (t : T) (u : Value) (w : World) (μ : Mem) (hμ : MOk μ w) (hk : KR μ t.kids u) (hs : t.size ≤ 100000) (c : Sh t) :
 aV 9 #[.agg (aY t u).toArray] w (.bool (rtB t 1 false)) := by
 have ho := hk.one
 rw [aBd]
 refine aE (args := [.agg (aY t u).toArray]) Tryz.func9 rfl Tryz.ntmps9 (by simp) hμ ?_
 try repeat' (first | refine KO ?_ | refine K2 23 (fun w μc hw a => RH 100000 (aD _) t _ w μc hw hs ⟨u, rfl, hk.mono a⟩) ?_ | refine K2 24 (fun w μc hw a => aBh 100000 (aD _) t u false w μc hw (hk.mono a) hs c) ?_ | refine KZ ?_ | refine NB fun b => ?_ | (refine KB ?_ ?_ <;> intro d))
 all_goals (refine aJ rfl rfl ?_; simp_all; try omega)
theorem wQ (t : T) (u : Value) (w : World) (μ : Mem) (hμ : MOk μ w) (hk : KR μ t.kids u) (hs : t.size ≤ 100000) (c : Sh t) (d : qX μ) :
 aV 38 #[.agg (aY t u).toArray] w (.bool (rtB t 1 false)) := by
 have ho := hk.one
 refine aE (args := [.agg (aY t u).toArray]) Tryz.func38 rfl Tryz.ntmps38 (by simp) hμ ?_
 try repeat' (first | refine KZ ?_ | ((with_reducible apply C1); exact rfl; exact EN; exact fun w μc hw a => VV 100000 (aD _) t u 1 false w μc hw (hk.mono a.le) hs (by decide) c (d.mono a.le)) | refine NB fun b => ?_)
 exact aJ rfl rfl rfl
end
section
open Go.RowKit Go.Vcg Ou
theorem TZ {p : T → Bool} {r : List ((T → Bool) × Int)} {l : List T} (h : dK ((p, 0) :: r) l = true) : ∃ k l', l = k :: l' ∧ dK r l' = true := by
 rw [qQ] at h
 cases l with
 | nil => cases h
 | cons k l' =>
   dsimp only at h
   split at h
   ·exact ⟨k, l', rfl, h⟩
   ·cases h
theorem zD {p : T → Bool} {r : List ((T → Bool) × Int)} {l : List T} (h : dK ((p, 0) :: r) l = true) : 1 ≤ l.length := by
 obtain ⟨k, l', rfl, -⟩ := TZ h
 simp
theorem aJp {p q : T → Bool} {r : List ((T → Bool) × Int)} {l : List T} (h : dK ((p, 0) :: (q, 0) :: r) l = true) : 2 ≤ l.length := by
 obtain ⟨k, l', rfl, h2⟩ := TZ h
 have := zD h2
 simp
 omega
theorem aK1 {t : T} {d : Nat} {s : Bool} (h : Rt t d s) : Kc t := by
 cases h with
 | mk hd hn hk hr =>
   refine ⟨fun h => ?_, fun h => ?_, fun h k b => ?_⟩
   ·rcases h with h | h | h | h | h | h
    all_goals (unfold bC stB exB kG at hk; simp [h] at hk)
    all_goals exact aJp hk
   ·rcases h with h | h | h | h | h | h | h | ⟨h, f⟩
    all_goals (unfold bC stB exB pZ at hk; simp [h] at hk)
    all_goals first | exact zD hk | (simp [f] at hk; exact zD hk)
   ·unfold bC stB at hk
    simp [h] at hk
    unfold iS at hk
    have h3 : ofT [3] k = true := eD.1 (Bool.and_eq_true_iff.1 hk).2 k b
    have e : k.op = 3 := by simpa [ofT] using h3
    obtain ⟨i, hi⟩ := List.mem_iff_getElem?.1 b
    have c := hr i k hi
    cases c with
    | mk _ _ a _ =>
      unfold bC stB at a
      simp [e] at a
      exact zD a
theorem aKg (t : T) : ∀ (d : Nat) (s : Bool), Rt t d s → Sh t → eK qE t := T.XA (p := fun t => ∀ (d : Nat) (s : Bool), Rt t d s → Sh t → eK qE t) (fun t ih d s h hs => by
 refine .mk ⟨aK1 h, by have := KS hs; omega⟩ fun k hk => ?_
 obtain ⟨i, hi⟩ := List.mem_iff_getElem?.1 hk
 cases h with
 | mk _ _ _ hr => exact ih k hk _ _ (hr i k hi) (uB hs hk)) t
theorem aMg : ∀ (f : Nat) (t : T), eK qE t → t.size ≤ f → t.size ≤ 80000 → NCk (nbE wdF f).1 t ∧ BCk (nbE wdF f).2 t := by
 intro f
 induction f with
 | zero =>
   intro t _ h0
   have := bA t
   omega
 | succ f ih =>
   intro t b hf d
   have c := fun (k : T) (hk : eK qE k) => MS (F := FF) (wd := wdF) (q := qE) (fun t h => ⟨h.1, fun x => x⟩) f k hk
   have e : ∀ k, eK qE k → k.size < t.size → NCk (nbE wdF f).1 k ∧ NG (nbE wdF f).1 k := fun k hk h => ⟨(ih k hk (by omega) (by omega)).1, (c k hk).1⟩
   have g : ∀ k, eK qE k → k.size < t.size → BCk (nbE wdF f).2 k ∧ BG (nbE wdF f).2 k := fun k hk h => ⟨(ih k hk (by omega) (by omega)).2, (c k hk).2⟩
   have a : ∀ k ∈ t.kids, k.size < t.size := fun k hk => by
    have : k.size ≤ szs t.kids := T.eF (List.mem_map.2 ⟨k, hk, rfl⟩)
    have := bA t
    omega
   exact ⟨XQ _ _ t b d e g, XX _ _ t b.here.1 b.here.2 (by omega) (fun k hk => e k (b.kid hk) (a k hk)) (fun k hk => g k (b.kid hk) (a k hk))⟩
noncomputable def EE (f : Nat) (t : T) : Int × Int := if t.op = 1 ∧ rtB t 1 false = true then ((KD wdF f t).at', (KD wdF f t).e) else (0, 1)
theorem aIj : mkD [] 0 = [] := rfl
theorem aGe : mP [] = [] := rfl
theorem IsV.aEp {μ : Mem} {b t : Nat} {cs : bP} {x : Int} (h : Bk.sh (.inl ⟨b, t, 1, cs⟩) μ) (hc : lk cs 0 = some (.int .i64 x)) : IsV μ (.slice (some ⟨b, 0, none⟩) 1 1) [x] := by
 obtain ⟨arr, h1, h2, h3⟩ := h
 refine ⟨_, _, rfl, ⟨rfl, fun _ => ⟨_, rfl, fun i y a j v hv => ?_⟩⟩, aD _⟩
 cases i with
 | succ i => simp at a
 | zero =>
   cases a
   cases j with
   | succ j => simp at hv
   | zero =>
     cases hv
     exact ⟨arr, t, (0, 0), h1, rfl, h3 0 _ hc⟩
attribute [local irreducible] wdL anI mP mkD rtB KD G GC GQ GA eN Calls IntKind.wrap Int.decLt Int.decLe
theorem UG (f : Nat) (t : T) (u : Value) (w : World) (μ : Mem) (hμ : MOk μ w) (hk : KR μ t.kids u) (ah : t.size ≤ 80000) (hf : t.size ≤ f) (p : Sh t) (hT : qX μ) (hm : tG μ) :
 aV 25 #[.agg (aY t u).toArray] w (.tuple #[.int .i64 (EE f t).1, .int .i64 (EE f t).2]) := by
 have ou := hk.one
 have j := fun w μc hw (hle : MLe μ μc) => wQ t _ w μc hw (hk.mono hle) (by omega) p (hT.mono hle)
 have g := fun w μc hw (hle : MLe μ μc) => CV t _ w μc hw (hk.mono hle) (by omega)
 unfold EE
 obtain ⟨A, c, rfl, hcap, ag⟩ := hk.form
 refine aE (args := [.agg (aY t (.slice A t.kids.length c)).toArray]) Tryz.func25 rfl Tryz.ntmps25 (by simp) hμ ?_
 by_cases r : t.op = 1
 rotate_left
 ·rw [if_neg (fun h => r h.1)]
  try repeat' (first | refine KZ ?_ | refine NB fun b => ?_)
  all_goals exact uE rfl (cN rfl) (cN rfl) rfl rfl
 cases o : rtB t 1 false with
 | false =>
   rw [if_neg (fun h => by cases h.2)]
   rw [o] at j
   try repeat' (first | refine KZ ?_ | ((with_reducible apply C1); exact rfl; exact EN; exact fun w μc hw l => j w μc hw l.le) | refine NB fun b => ?_)
   all_goals exact uE rfl (cN rfl) (cN rfl) rfl rfl
 | true =>
   rw [if_pos ⟨r, rfl⟩]
   rw [o] at j
   have hq := aKg t 1 false (iJ o) p
   have ai := bA t
   have hlen := gR t.kids
   have d : ∀ k ∈ t.kids, k.size < t.size := fun k hk => by
    have : k.size ≤ szs t.kids := T.eF (List.mem_map.2 ⟨k, hk, rfl⟩)
    omega
   have hN : ∀ k ∈ t.kids, NCk (nbE wdF f).1 k ∧ NG (nbE wdF f).1 k := fun k hk => ⟨(aMg f k (hq.kid hk) (by have := d k hk; omega) (by have := d k hk; omega)).1, (MS (F := FF) (wd := wdF) (q := qE) (fun t h => ⟨h.1, fun x => x⟩) f k (hq.kid hk)).1⟩
   have af : KD wdF f t = oT (nbE wdF f).1 t.kids (VH t) ⟨[], 1, 0, 0⟩ := by unfold KD; rfl
   rw [af]
   have ae : VH t = ⟨qZ t, false, false, false, [1], [], [], false, false, [], true, false⟩ := rfl
   rw [ae]
   generalize qZ t = stc at g ⊢
   try repeat' (first | ((with_reducible show GC _ _ (Code.seq (Code.region 4 _ _) _) _ _ _ _); (apply dF)) | refine KZ ?_ | ((with_reducible apply C1); exact rfl; exact EN; exact fun w μc hw l => j w μc hw l.le) | refine NB fun b => ?_ | ((with_reducible apply PF); exact rfl; exact rfl; intro b))
   rename_i bn bm
   obtain ⟨bx, z⟩ : ∃ y, y = b := ⟨_, rfl⟩
   rw [← z]
   clear z
   refine gcs (XF (l' := [(1, .pointer (some ⟨bn, 0, none⟩)), (4, .pointer (some ⟨bx, 0, none⟩))]) (L' := .inl ⟨bn, 24, 6, idx 0 (aY t (.slice A t.kids.length c))⟩ :: EB bx bm ⟨[], 1, 0, 0⟩ []) PU (by rw [aAx, aIj, aGe]; exact rV (.refl _) (eV (.cells PU) (eV (.refl _) (.nil _)))) ?_)
   have ad : ∀ μ', ER μ' [] ⟨[], 1, 0, 0⟩ := fun μ' => ⟨rfl, fun f hf => by simp at hf⟩
   have aa : SB ⟨[], 1, 0, 0⟩ (szs t.kids) := by
    show 1 + 0 + 2 * szs t.kids ≤ 900000
    omega
   have ab : ∀ k ∈ t.kids, PB ⟨stc, false, false, false, [1], [], [], false, false, [], true, false⟩ k.size := fun k hk => ⟨Nat.succ_pos _, by show 1 + k.size ≤ 90000; have := d k hk; omega, by show 0 + k.size ≤ 90000; have := d k hk; omega, aD _⟩
   try repeat' (refine KZ ?_)
   refine aT 9 _ (by kernel_rfl) rfl (aC aQ) ?_
   all_goals (refine DD 0 ?_; refine DD 1 ?_; refine DD 2 ?_; refine DD 3 ?_)
   refine iF 4 5 (by kernel_rfl) ?dr16_4 ?dr16_5
   case' dr16_4 =>
    (refine D5 ?_; refine K2 49 g ?_; refine D9 ?_)
    all_goals (refine D3 5 ?_; refine D5 ?_; refine NB fun b => ?_; refine D9 ?_; refine DD 6 ?_; refine DD 7 ?_)
    all_goals (refine D3 8 ?_; refine D5 ?_; (refine CF 48 ?_; refine pI rfl ?_; intro μ4 a i; have hv := IsV.aEp (x := 1) i rfl; (with_reducible apply iR 1); (iterate 3 exact rfl); exact EN; exact rfl; exact ad _; exact kJ (nbE wdF f).1 t.kids _ _ ⟨stc, false, false, false, [1], [], [], false, false, [], true, false⟩ ⟨[], 1, 0, 0⟩ _ bx bm hN (hk.mono a) ⟨_, _, _, _, rfl, hv, SsV.nil _, SsV.nil _, SsV.nil _⟩ ab aa (by omega) (hm.mono a); intro v1 μ1 i1 v hR; dsimp only [aL, aP]); refine D9 ?_)
    all_goals refine D8 ?_
   case' dr16_5 =>
    (refine D5 ?_; refine NB fun b => ?_; refine D9 ?_)
    all_goals (refine D3 4 ?_; refine D5 ?_; refine K2 49 g ?_; refine D9 ?_; refine DD 6 ?_; refine DD 7 ?_)
    all_goals (refine D3 8 ?_; refine D5 ?_; (refine CF 48 ?_; refine pI rfl ?_; intro μ4 a i; have hv := IsV.aEp (x := 1) i rfl; (with_reducible apply iR 1); (iterate 3 exact rfl); exact EN; exact rfl; exact ad _; exact kJ (nbE wdF f).1 t.kids _ _ ⟨stc, false, false, false, [1], [], [], false, false, [], true, false⟩ ⟨[], 1, 0, 0⟩ _ bx bm hN (hk.mono a) ⟨_, _, _, _, rfl, hv, SsV.nil _, SsV.nil _, SsV.nil _⟩ ab aa (by omega) (hm.mono a); intro v1 μ1 i1 v hR; dsimp only [aL, aP]); refine D9 ?_)
    all_goals refine D8 ?_
   all_goals generalize oT (nbE wdF f).1 t.kids ⟨stc, false, false, false, [1], [], [], false, false, [], true, false⟩ ⟨[], 1, 0, 0⟩ = s' at hR ⊢
   all_goals try repeat' (refine KZ ?_)
   all_goals refine kV (show _ = _ :: Bk.inl ⟨bx, 95, 4, [(0, .map (some bm)), (1, .int .i64 (s'.regs : Int)), (2, .int .i64 s'.at'), (3, .int .i64 s'.e)]⟩ :: .mp ⟨bm, mkD i1 0, i1.length⟩ :: mP i1 from rfl) ?_
   all_goals
    refine aT 10 _ (by kernel_rfl) rfl (dG (aC aQ)) ?_
    all_goals (refine DD 0 ?_; refine DD 1 ?_; refine DD 2 ?_; refine DD 3 ?_; refine DD 4 ?_; refine DD 5 ?_; refine DD 6 ?_; refine DD 7 ?_; refine DD 8 ?_; refine DD 9 ?_; refine D8 ?_)
   all_goals try repeat' (refine KZ ?_)
   all_goals exact uE rfl (cN rfl) (cN rfl) rfl rfl
end
section
open Go.RowKit Go.Vcg Go.MapKept
theorem zG (k : Int) (l : List Bd) : dU k [] l = l := rfl
theorem wC {k : Int} {xs : List ByteArray} {l : List Bd} {j : Nat} {x : ByteArray} (h : xs[j]? = some x) : dU k (xs.take (j + 1)) l = jN x k (dU k (xs.take j) l) := by
 unfold dU
 rw [bQ, gV, h]
 rfl
theorem kN {α β : Type} (g : β → α → β) {xs : List α} {l : β} {j : Nat} {x : α} (h : xs[j]? = some x) : (xs.take (j + 1)).foldl g l = g ((xs.take j).foldl g l) x := by
 rw [bQ, gV, h]
 rfl
theorem DG (l : List T) (j : Nat) : szs (l.take j) ≤ szs l := by
 have e : szs l = szs (l.take j) + szs (l.drop j) := by rw [← BR, dD]
 omega
attribute [local irreducible] jN dU eP bN anI FB fZ G GC GQ GA eN Calls IntKind.wrap Int.decLt Int.decLe
theorem DB (t : T) (u lv : Value) (l : List Bd) (μ : Mem) (hk : KR μ t.kids u) (hn : t.n = 0 ∨ t.n = 1 ∨ t.n = 2) (hd : ∀ d ∈ t.kids, 1 ≤ d.kids.length) (bb : t.size ≤ 2000) (hl : l.length + szs t.kids ≤ 10000000) :
 RC 62 [lv, .agg (aY t u).toArray] lv l (eP t l) μ := by
 intro w hμ hO
 have ah := dJ hO.diff
 have ou := hk.one
 have bc := bA t
 have au := gR t.kids
 obtain ⟨A, c, rfl, hcap, ag⟩ := hk.form
 generalize ae : eP t l = l'
 unfold eP at ae
 refine cC (args := [lv, .agg (aY t (.slice A t.kids.length c)).toArray]) Tryz.func62 rfl Tryz.ntmps62 (by simp) hμ hO ?_
 refine fW 0 rfl ?_
 rintro Al cl rfl bg
 try repeat' (first | ((with_reducible show GC _ _ (Code.seq (Code.region 1 _ _) _) _ _ _ _); (apply dF)) | refine KZ ?_ | refine NB fun b => ?_)
 refine gcs (iB (ι := Unit) (fun _ => True) (fun _ => μ) (fun _ => [(5, .int .i64 t.n), (3, .pointer (some ⟨b, 0, none⟩)), (0, .slice Al l.length cl)]) (fun _ => [.inl ⟨b, 24, 6, [(5, .slice A t.kids.length c)]⟩, lH (.slice Al l.length cl) l]) ?_ ?_)
 ·rcases hn with hn | hn | hn
  all_goals rw [hn]
  all_goals try repeat' (first | refine KO ?_ | (refine KV (b := by first | exact U1 0 | exact U1 1 | exact U1 2) (c := ?_)) | refine KZ ?_ | refine NB fun b => ?_)
  all_goals exact J1 () trivial
 rintro ⟨⟩ -
 try repeat' (refine KZ ?_)
 refine bW (ι := Nat × Value × Mem) (fun q => q.1 ≤ t.kids.length ∧ MLe μ q.2.2) (fun q => t.kids.length - q.1) (fun q => q.2.2) (fun q => [(18, .int .i64 (q.1 : Int)), (17, .int .i64 (t.kids.length : Int)), (16, .slice A t.kids.length c), (5, .int .i64 t.n), (0, q.2.1)]) (fun q => [lH q.2.1 ((t.kids.take q.1).foldl (fun l d => dU t.n (bD (dM d 0)) l) l)]) (0, .slice Al l.length cl, μ) ⟨aI _, MLe.refl _⟩ (fun a w hs => hs.sel PU (dR (.refl _) (.nil _))) ?_
 rintro ⟨i, v, μi⟩ ⟨hi, hle⟩
 dsimp only at hi hle ⊢
 by_cases hlt : i < t.kids.length
 ·obtain ⟨d, g⟩ : ∃ d, t.kids[i]? = some d := ⟨_, aA hlt⟩
  obtain ⟨ad, x, rfl, ar, bf, av⟩ := ag i d g
  have an := ar.mono hle
  have h := aB g
  have bj := hd d h
  have bi : d.size ≤ szs t.kids := T.eF (List.mem_map.2 ⟨d, h, rfl⟩)
  have bd := jO g
  have aj : ((t.kids.take i).foldl (fun l d => dU t.n (bD (dM d 0)) l) l).length ≤ l.length + szs (t.kids.take i) := by
   have := mY ⟨t.op, t.at', t.n, t.m, t.s, t.kids.take i⟩ l
   unfold eP at this
   exact this
  have e := kN (fun l d => dU t.n (bD (dM d 0)) l) (l := l) g
  generalize (t.kids.take i).foldl (fun l d => dU t.n (bD (dM d 0)) l) l = acc at aj e ⊢
  obtain ⟨A0, c0, rfl, a1, o⟩ := (av.mono hle).form
  obtain ⟨d0, p⟩ : ∃ d0, d.kids[0]? = some d0 := ⟨_, aA (by omega)⟩
  obtain ⟨ad0, x0, rfl, aq, a7, af⟩ := o 0 d0 p
  have aw := iV p
  rw [aw] at e
  have ba := T.fN p
  have bh := kH d0
  have al := fun w μc hw (hle : MLe μi μc) => vO d0 w μc x0 hw (af.mono hle) (by omega)
  try repeat' (first | refine KO ?_ | ((with_reducible apply C3); exact rfl; exact EN; (exact fun w μc hw ak => al w μc hw ak.le); intro v2; (with_reducible apply eU 0); exact rfl; rintro A2 c2 rfl a8) | (refine KV (b := by first | exact U1 i | exact U1 0 | exact U4 an | exact U4 aq) (c := ?_)) | refine KZ ?_ | refine NB fun b => ?_)
  refine oY rfl ?_
  intro μ2 ab z
  have a6 := SsV.mM (xs := bD d0) z rfl rfl
  obtain ⟨A3, c3, e3, hS, bk⟩ := a6
  cases e3
  refine bW (ι := Nat × Value × Mem) (fun q => q.1 ≤ (bD d0).length ∧ MLe μ2 q.2.2) (fun q => (bD d0).length - q.1) (fun q => q.2.2) (fun q => [(28, .int .i64 (q.1 : Int)), (27, .int .i64 ((bD d0).length : Int)), (26, .slice A2 (bD d0).length c2), (18, .int .i64 (i : Int)), (17, .int .i64 (t.kids.length : Int)), (16, .slice (some ad) t.kids.length c), (5, .int .i64 t.n), (0, q.2.1)]) (fun q => [lH q.2.1 (dU t.n ((bD d0).take q.1) acc)]) (0, v, μ2) ⟨aI _, MLe.refl _⟩ (fun a w hs => hs.sel PU (by rw [iY, zG]; exact dR (.refl _) (.nil _))) ?_
  rintro ⟨j, v3, μ3⟩ ⟨hj, f⟩
  dsimp only at hj f ⊢
  by_cases ax : j < (bD d0).length
  ·obtain ⟨ad3, y, rfl, hy, ap⟩ := hS.get ax
   have ao := ap.mono f
   have r := wC (k := t.n) (l := acc) hy
   have ai := nA t.n ((bD d0).take j) acc
   rw [cE] at ai
   generalize dU t.n ((bD d0).take j) acc = acc2 at r ai ⊢
   try repeat' (first | refine KO ?_ | (refine CF 64 ?_; (with_reducible apply pQ 0); (iterate 3 exact rfl); exact EN; exact rfl; (exact DA acc2 _ y t.n _ (by omega)); (intro v4 μ4 aa); (dsimp only [fD])) | (refine KV (b := by first | exact U1 j | exact U3 (ao.at 0 rfl)) (c := ?_)) | refine KZ ?_)
   all_goals rw [← r]
   all_goals exact cP (j + 1, v4, μ4) ⟨by dsimp only; omega, f.trans aa⟩ (by dsimp only; omega) rfl PU (eW _)
  ·have ay : j = (bD d0).length := by omega
   subst ay
   rw [aG (aD _)]
   try repeat' (refine KZ ?_)
   all_goals rw [← e]
   all_goals exact cP (i + 1, v3, μ3) ⟨by dsimp only; omega, (hle.trans ab).trans f⟩ (by dsimp only; omega) rfl PU (eW _)
 ·have az : i = t.kids.length := by omega
  subst az
  rw [aG (aD _)]
  try repeat' (refine KZ ?_)
  all_goals exact nC ah rfl (cN rfl) rfl ae
theorem vF (kids : List T) (fs : Bool) (kv lv : Value) (l : List Bd) (μ : Mem) (hk : KR μ kids kv) (hq : ∀ k ∈ kids, Ks k) (aj : szs kids ≤ 2000) (hl : l.length + szs kids ≤ 10000000) :
 RC 40 [lv, kv, .bool fs] lv l (bN kids fs l) μ := by
 intro w hμ hO
 have ab := dJ hO.diff
 have ag := gR kids
 obtain ⟨A, c, rfl, hcap, aa⟩ := hk.form
 generalize z : bN kids fs l = l'
 unfold bN at z
 refine cC (args := [lv, .slice A kids.length c, .bool fs]) Tryz.func40 rfl Tryz.ntmps40 (by simp) hμ hO ?_
 refine fW 0 rfl ?_
 rintro Al cl rfl al
 try repeat' (refine KZ ?_)
 refine bW (ι := Nat × Value × Mem) (fun q => q.1 ≤ kids.length ∧ MLe μ q.2.2) (fun q => kids.length - q.1) (fun q => q.2.2) (fun q => [(11, .int .i64 (q.1 : Int)), (10, .int .i64 (kids.length : Int)), (9, .slice A kids.length c), (2, .bool fs), (0, q.2.1)]) (fun q => [lH q.2.1 ((kids.take q.1).foldl (fun l t => if t.op = 2 ∧ t.n ≠ 0 then eP t l else if (jG t 1 && fs) = true then jN t.s 3 l else l) l)]) (0, .slice Al l.length cl, μ) ⟨aI _, MLe.refl _⟩ (fun a w hs => hs.sel PU (eW _)) ?_
 rintro ⟨i, v, μi⟩ ⟨hi, hle⟩
 dsimp only at hi hle ⊢
 by_cases hlt : i < kids.length
 ·obtain ⟨d, j⟩ : ∃ d, kids[i]? = some d := ⟨_, aA hlt⟩
  obtain ⟨ad, x, rfl, af, ae, ah⟩ := aa i d j
  have h := af.mono hle
  have y := aB j
  have u := hq d y
  have ak := jO j
  have an := bA d
  have p := iQ (kids.take i) fs l
  have e := kN (fun l (t : T) => if t.op = 2 ∧ t.n ≠ 0 then eP t l else if (jG t 1 && fs) = true then jN t.s 3 l else l) (l := l) j
  unfold bN at p
  generalize (kids.take i).foldl (fun l (t : T) => if t.op = 2 ∧ t.n ≠ 0 then eP t l else if (jG t 1 && fs) = true then jN t.s 3 l else l) l = acc at p e ⊢
  have f := fun (w : World) (μc : Mem) (hw : MOk μc w) => DI d x ae 1 w μc hw
  by_cases o : d.op = 2 ∧ d.n ≠ 0
  ·rw [if_pos o] at e
   try repeat' (first | refine KO ?_ | (refine CF 62 ?_; (with_reducible apply pQ 1); (iterate 3 exact rfl); exact EN; exact rfl; (exact DB d x _ acc _ (ah.mono hle) (u.vn o.1) (u.kc.sub o.1) (by omega) (by omega)); (intro v4 μ4 g); (dsimp only [fD])) | (refine KV (b := by first | exact U1 i | exact U4 h) (c := ?_)) | refine KZ ?_ | refine NB fun b => ?_)
   all_goals rw [← e]
   all_goals exact cP (i + 1, v4, μ4) ⟨by dsimp only; omega, hle.trans g⟩ (by dsimp only; omega) rfl PU (dR (.refl _) (.nil _))
  ·rw [if_neg o] at e
   cases hb : jG d 1 with
   | false =>
     rw [hb] at f
     rw [hb, dX, if_neg (by simp)] at e
     try repeat' (first | refine KO ?_ | refine K2 63 (fun w μc hw r => f w μc hw) ?_ | (refine KV (b := by first | exact U1 i | exact U4 h) (c := ?_)) | refine KZ ?_ | refine NB fun b => ?_ | (refine KB ?_ ?_ <;> intro hp))
     all_goals (rw [← e]; exact cP (i + 1, v, μi) ⟨by dsimp only; omega, hle⟩ (by dsimp only; omega) rfl PU (dR (.refl _) (.nil _)))
   | true =>
     rw [hb] at f
     cases hf : fs with
     | false =>
       subst hf
       rw [hb, cH, if_neg (by simp)] at e
       try repeat' (first | refine KO ?_ | refine K2 63 (fun w μc hw r => f w μc hw) ?_ | (refine KV (b := by first | exact U1 i | exact U4 h) (c := ?_)) | refine KZ ?_ | refine NB fun b => ?_ | (refine KB ?_ ?_ <;> intro hp))
       all_goals (rw [← e]; exact cP (i + 1, v, μi) ⟨by dsimp only; omega, hle⟩ (by dsimp only; omega) rfl PU (dR (.refl _) (.nil _)))
     | true =>
       subst hf
       rw [hb, cH, if_pos rfl] at e
       try repeat' (first | refine KO ?_ | refine K2 63 (fun w μc hw r => f w μc hw) ?_ | (refine CF 64 ?_; (with_reducible apply pQ 1); (iterate 3 exact rfl); exact EN; exact rfl; (exact DA acc _ d.s 3 _ (by omega)); (intro v4 μ4 g); (dsimp only [fD])) | (refine KV (b := by first | exact U1 i | exact U4 h) (c := ?_)) | refine KZ ?_ | refine NB fun b => ?_ | (refine KB ?_ ?_ <;> intro hp))
       all_goals (rw [← e]; exact cP (i + 1, v4, μ4) ⟨by dsimp only; omega, hle.trans g⟩ (by dsimp only; omega) rfl PU (dR (.refl _) (.nil _)))
 ·have ai : i = kids.length := by omega
  subst ai
  rw [aG (aD _)]
  try repeat' (refine KZ ?_)
  all_goals exact nC ab rfl (cN rfl) rfl z
end
section
open Go.RowKit Go.Vcg Go.MapKept
attribute [local irreducible] jN dU eP bN anI FB fZ G GC GQ GA eN Calls IntKind.wrap Int.decLt Int.decLe
theorem vQ : ∀ (f : Nat) (t : T) (u lv : Value) (l : List Bd) (μ : Mem), KR μ t.kids u → eK qS t → t.size ≤ f → t.size ≤ 2000 → l.length + 2000 * t.size ≤ 10000000 →
 RC 161 [lv, .agg (aY t u).toArray] lv l (dV f t l) μ
 | 0, t, _, _, _, _, _, _, h, _, _ => by
   have := bA t
   omega
 | f + 1, t, u, lv, l, μ, hk, hq, hf, ag, hl => by
   intro w hμ hO
   have ab := dJ hO.diff
   have ou := hk.one
   have ap := bA t
   have aj := gR t.kids
   have al := hk
   obtain ⟨A, c, rfl, hcap, ae⟩ := hk.form
   generalize e : dV (f + 1) t l = l'
   unfold dV at e
   refine cC (args := [lv, .agg (aY t (.slice A t.kids.length c)).toArray]) Tryz.func161 rfl Tryz.ntmps161 (by simp) hμ hO ?_
   refine fW 0 rfl ?_
   rintro Al cl rfl au
   by_cases h4 : t.op = 4
   ·rw [if_pos h4] at e
    try repeat' (first | refine KZ ?_ | refine NB fun b => ?_)
    all_goals refine gL (L' := [_]) (dR (.refl _) (.nil _)) ?_
    all_goals exact nC ab rfl (cN rfl) rfl e
   rw [if_neg h4] at e
   have ao := mY t l
   obtain ⟨l1, o, aw⟩ : ∃ l1, (if t.op = 2 ∧ t.n = 0 then eP t l else l) = l1 ∧ l1.length ≤ l.length + szs t.kids := ⟨_, rfl, by split <;> omega⟩
   rw [o] at e
   try repeat' (first | ((with_reducible show GC _ _ (Code.seq (Code.seq (Code.region 3 _ _) _) _) _ _ _ _); (apply dF)) | refine KZ ?_ | refine NB fun b => ?_)
   refine gcs (iB (ι := Value × Mem) (fun q => MLe μ q.2) (fun q => q.2) (fun q => [(3, .pointer (some ⟨b, 0, none⟩)), (0, q.1)]) (fun q => [.inl ⟨b, 24, 6, idx 0 (aY t (.slice A t.kids.length c))⟩, lH q.1 l1]) ?_ ?_)
   ·by_cases y : t.op = 2 ∧ t.n = 0
    ·rw [if_pos y] at o
     try repeat' (first | refine KO ?_ | (refine CF 62 ?_; (with_reducible apply pQ 1); (iterate 3 exact rfl); exact EN; exact rfl; exact DB t (.slice A t.kids.length c) _ l _ al (hq.here.1.vn y.1) (hq.here.1.kc.sub y.1) ag (by omega); intro v4 μ4 j; dsimp only [fD]) | refine KZ ?_)
     all_goals rw [o]
     all_goals exact eX (_, _) j rfl PU (eW _)
    ·rw [if_neg y] at o
     subst o
     try repeat' (first | refine KZ ?_ | (refine KB ?_ ?_ <;> intro hp))
     all_goals exact eX (_, _) (MLe.refl _) rfl PU (eW _)
   rintro ⟨v1, μ1⟩ aa
   dsimp only at aa ⊢
   try repeat' (refine KZ ?_)
   refine bW (ι := Nat × Value × Mem) (fun q => q.1 ≤ t.kids.length ∧ MLe μ q.2.2) (fun q => t.kids.length - q.1) (fun q => q.2.2) (fun q => [(25, .int .i64 (q.1 : Int)), (24, .int .i64 (t.kids.length : Int)), (23, .slice A t.kids.length c), (0, q.2.1)]) (fun q => [lH q.2.1 ((t.kids.take q.1).foldl (fun l k => dV f k l) l1)]) (0, v1, μ1) ⟨aI _, aa⟩ (fun a w hs => hs.sel PU (dR (.refl _) (.nil _))) ?_
   rintro ⟨i, v, μi⟩ ⟨hi, hle⟩
   dsimp only at hi hle ⊢
   by_cases hlt : i < t.kids.length
   ·obtain ⟨d, p⟩ : ∃ d, t.kids[i]? = some d := ⟨_, aA hlt⟩
    obtain ⟨ad, x, rfl, ai, ar, ak⟩ := ae i d p
    have ah := ai.mono hle
    have z := aB p
    have av : d.size ≤ szs t.kids := T.eF (List.mem_map.2 ⟨d, z, rfl⟩)
    have aq := jO p
    have af : ((t.kids.take i).foldl (fun l k => dV f k l) l1).length ≤ l1.length + 2000 * szs (t.kids.take i) := by
     have h2 := nR (fun l k => dV f k l) (fun k => 2000 * k.size) (t.kids.take i) l1 fun k hk a => oX f k a (by
      have : k.size ≤ szs t.kids := T.eF (List.mem_map.2 ⟨k, aZ hk, rfl⟩)
      omega)
     have h3 : ∀ l : List T, (l.map fun k => 2000 * k.size).sum = 2000 * szs l := fun l => by
      induction l with
      | nil => rfl
      | cons x r ih => simp only [aO, dQ, cO, ih]; omega
     rw [h3] at h2
     exact h2
    have g := kN (fun l k => dV f k l) (l := l1) p
    generalize (t.kids.take i).foldl (fun l k => dV f k l) l1 = acc at af g ⊢
    try repeat' (first | refine KO ?_ | (refine CF 161 ?_; (with_reducible apply pQ 1); (iterate 3 exact rfl); exact EN; exact rfl; (exact vQ f d x _ acc _ (ak.mono hle) (hq.kid z) (by omega) (by omega) (by omega)); (intro v4 μ4 j); (dsimp only [fD])) | (refine KV (b := by first | exact U1 i | exact U4 ah) (c := ?_)) | refine KZ ?_ | refine NB fun b => ?_)
    all_goals rw [← g]
    all_goals exact cP (i + 1, v4, μ4) ⟨by dsimp only; omega, hle.trans j⟩ (by dsimp only; omega) rfl PU (dR (.refl _) (.nil _))
   ·have an : i = t.kids.length := by omega
    subst an
    rw [aG (aD _)]
    try repeat' (refine KZ ?_)
    all_goals exact nC ab rfl (cN rfl) rfl e
end
section
open Go.RowKit Go.Vcg Go.MapKept
def PRC (f : FuncId) (args : List Value) (l' : List Bd) (μ : Mem) : Prop := ∀ (w : World), MOk μ w → Go.Vcg.Own μ [] w →
 Calls Tryz.prog f args.toArray w fun e w' => ∃ (v : Value) (μ' : Mem) (i : Value), e = .returned v ∧ lT (kI []) w w' μ [lH i l'] μ' ∧ v = i
theorem aFv {X : Ctx} {ops : Array Oper} {Q : Exit → Act → World → Prop} {rest : List Oper} {μ : Mem} {l : bP} {L : List Bk} {o : Oper} {d : Nat} {f : FuncId} {args : List Value} {bl' : List Bd} (hd : o.dst = some d) (hn : Nat.blt d X.n = true) (hw : gQ ops l o = some true) (hr : Ent Tryz.prog μ l L o f args.toArray) (hc : PRC f args bl' μ)
 (h : ∀ (v : Value) (μ' : Mem), MLe μ μ' → G Tryz.prog X ops Q rest μ' ((d, v) :: l) (lH v bl' :: L)) : G Tryz.prog X ops Q (o :: rest) μ l L :=
 mG (LB := []) (Lr := L) (Ls := fun j => [lH j bl']) (Post := fun _ v j => v = j) 0 hd hn hw hr rfl (fun w hμ b => hc w hμ b) fun v μ' j hle a => by subst a; exact h v μ' hle
theorem KI (b k j : Nat) : Addr.add ⟨b, k, none⟩ j = ⟨b, k + j, none⟩ := by cases j <;> simp [Addr.add]
theorem wA {μ : Mem} {b t sz : Nat} {cs : bP} {ps : List (T × Value)} (h : Bk.sh (.inl ⟨b, t, sz, cs⟩) μ) (hc : ∀ i v, (ps.flatMap xY)[i]? = some v → lk cs i = some v) : Sl xY 6 μ (some ⟨b, 0, none⟩) ps.length ps := by
 obtain ⟨arr, h1, h2, h3⟩ := h
 refine ⟨rfl, fun _ => ⟨_, rfl, fun i y a j v hv => ?_⟩⟩
 have c : j < 6 := by
  have := (List.getElem?_eq_some_iff.1 hv).1
  rw [NE] at this
  exact this
 have h4 := (kR (enc := xY) NE ps i j y a c).trans hv
 have h5 := h3 _ _ (hc _ _ h4)
 have e : (Addr.add ⟨b, 0, none⟩ (i * 6)).add j = ⟨b, i * 6 + j, none⟩ := by rw [KI, KI, bB]
 rw [e]
 exact ⟨arr, t, (0, 0), h1, rfl, h5⟩
attribute [local irreducible] jN dU eP bN dV anI FB fZ G GC GQ GA eN Calls IntKind.wrap Int.decLt Int.decLe
theorem RW (f : Nat) (t : T) (u : Value) (μ : Mem) (hk : KR μ t.kids u) (h4 : t.op = 4) (hq : eK qS t) (hf : t.size ≤ f) (b3 : t.size ≤ 2000) :
 PRC 136 [.agg (aY t u).toArray] (eG f t) μ := by
 intro w hμ hO
 have ag := dJ hO.diff
 have ou := hk.one
 have b4 := bA t
 have bp := hq.here.1.kc.two (.inl h4)
 have e := fun (v : Value) (hv : v.oneCell' = true) (w : World) (μc : Mem) (hw : MOk μc w) => DI t v hv 128 w μc hw
 obtain ⟨bg, -, -⟩ := OB bp
 obtain ⟨A, c, rfl, hcap, ao⟩ := hk.form
 obtain ⟨d0, av⟩ : ∃ d, t.kids[0]? = some d := ⟨_, aA (by omega)⟩
 obtain ⟨d1, au⟩ : ∃ d, t.kids[1]? = some d := ⟨_, aA (by omega)⟩
 obtain ⟨ad, x0, rfl, ai, b8, hx0⟩ := ao 0 d0 av
 obtain ⟨ad1, x1, e1, ab, b7, hx1⟩ := ao 1 d1 au
 cases e1
 have bh := hq.kid (aB av)
 have a6 := hq.kid (aB au)
 generalize z : eG f t = l'
 unfold eG at z
 dsimp only at z
 rw [iV av, iV au] at z bg
 have b9 := kH d0
 have bw := nA 4 (bD d0) []
 rw [bJ] at bw
 have bu := oX f d0 (dU 4 (bD d0) []) (by omega)
 have bi := fun w μc hw (hle : MLe μ μc) => vO d0 w μc x0 hw (hx0.mono hle) (by omega)
 refine cC (args := [.agg (aY t (.slice (some ad) t.kids.length c)).toArray]) Tryz.func136 rfl Tryz.ntmps136 (by simp) hμ hO ?_
 refine nH 40 4 ?_
 try repeat' (first | refine KO ?_ | ((with_reducible apply C3); exact rfl; exact EN; (exact fun w μc hw ap => bi w μc hw ap.le); intro v2; (with_reducible apply eU 0); exact rfl; rintro A2 c2 rfl b0) | (refine KV (b := by first | exact U1 0 | exact U4 ai) (c := ?_)) | refine KZ ?_ | refine NB fun b => ?_)
 refine oY rfl ?_
 intro μ2 bb az
 have bx := SsV.mM (xs := bD d0) az rfl rfl
 obtain ⟨A3, c3, e3, hS, cb⟩ := bx
 cases e3
 refine bW (ι := Nat × Value × Mem) (fun q => q.1 ≤ (bD d0).length ∧ MLe μ2 q.2.2) (fun q => (bD d0).length - q.1) (fun q => q.2.2) (fun q => [(14, .int .i64 (q.1 : Int)), (13, .int .i64 ((bD d0).length : Int)), (12, .slice A2 (bD d0).length c2), (1, .pointer (some ⟨b, 0, none⟩)), (3, q.2.1)]) (fun q => [.inl ⟨b, 24, 6, idx 0 (aY t (.slice (some ad) t.kids.length c))⟩, lH q.2.1 (dU 4 ((bD d0).take q.1) [])]) (0, .slice none 0 0, μ2) ⟨aI _, MLe.refl _⟩ (fun a w hs => hs.sel PU (by rw [iY, zG]; exact eW _)) ?_
 rintro ⟨j, v3, μ3⟩ ⟨hj, aa⟩
 dsimp only at hj aa ⊢
 by_cases bq : j < (bD d0).length
 ·obtain ⟨ad3, y, rfl, hy, bn⟩ := hS.get bq
  have bm := bn.mono aa
  have ax := wC (k := 4) (l := []) hy
  have bd := nA 4 ((bD d0).take j) []
  rw [cE, bJ] at bd
  generalize dU 4 ((bD d0).take j) [] = acc2 at ax bd ⊢
  try repeat' (first | refine KO ?_ | (refine CF 64 ?_; (with_reducible apply pQ 1); (iterate 3 exact rfl); exact EN; exact rfl; (exact DA acc2 _ y 4 _ (by omega)); (intro v4 μ4 o); (dsimp only [fD])) | (refine KV (b := by first | exact U1 j | exact U3 (bm.at 0 rfl)) (c := ?_)) | refine KZ ?_)
  all_goals rw [← ax]
  all_goals exact cP (j + 1, v4, μ4) ⟨by dsimp only; omega, aa.trans o⟩ (by dsimp only; omega) rfl PU (eW _)
 have br : j = (bD d0).length := by omega
 subst br
 rw [aG (aD _)]
 have g := bb.trans aa
 have ai := ai.mono g
 have ab := ab.mono g
 have an := vQ f d0 x0 v3 (dU 4 (bD d0) []) μ3 (hx0.mono g) bh (by omega) (by omega) (by omega)
 generalize dV f d0 (dU 4 (bD d0) []) = l1 at an z bu
 try repeat' (first | ((with_reducible show GC _ _ (Code.seq (Code.seq (Code.region 8 _ _) _) _) _ _ _ _); (apply dF)) | refine KO ?_ | (refine CF 161 ?_; (with_reducible apply pQ 1); (iterate 3 exact rfl); exact EN; exact rfl; (exact an); (intro v4 μ4 o); (dsimp only [fD]); (have ab := ab.mono o)) | (refine KV (b := by first | exact U1 0 | exact U4 ai) (c := ?_)) | refine KZ ?_)
 refine gcs ?_
 have e := e (.slice (some ad) t.kids.length c) rfl
 by_cases ah : d1.op ≠ 6 ∨ jG t 128 = true
 ·rw [if_pos ah] at z
  have aq := vQ f d1 x1 v4 l1 μ4 (hx1.mono (g.trans o)) a6 (by omega) (by omega) (by omega)
  rw [z] at aq
  have a7 := ab
  by_cases h6 : d1.op = 6
  ·have aw : jG t 128 = true := ah.resolve_left (fun h => h h6)
   rw [aw] at e
   try repeat' (first | refine KO ?_ | refine K2 63 (fun w μc hw ap => e w μc hw) ?_ | (refine CF 161 ?_; (with_reducible apply pQ 1); (iterate 3 exact rfl); exact EN; exact rfl; (exact aq); (intro v5 μ5 ba); (dsimp only [fD])) | (refine KV (b := by first | exact U1 1 | exact U4 a7) (c := ?_)) | refine KZ ?_)
   all_goals refine gL (L' := [_]) (dR (.refl _) (.nil _)) ?_
   all_goals exact nC ag rfl (cN rfl) rfl rfl
  ·try repeat' (first | refine KO ?_ | (refine CF 161 ?_; (with_reducible apply pQ 1); (iterate 3 exact rfl); exact EN; exact rfl; (exact aq); (intro v5 μ5 ba); (dsimp only [fD])) | (refine KV (b := by first | exact U1 1 | exact U4 a7) (c := ?_)) | refine KZ ?_)
   all_goals refine gL (L' := [_]) (dR (.refl _) (.nil _)) ?_
   all_goals exact nC ag rfl (cN rfl) rfl rfl
 rw [if_neg ah] at z
 have h6 : d1.op = 6 := by
  by_cases h : d1.op = 6
  ·exact h
  ·exact absurd (.inl h) ah
 have aw : jG t 128 = false := by
  cases hb : jG t 128 with
  | true => exact absurd (.inr hb) ah
  | false => rfl
 rw [aw] at e
 obtain ⟨A5, c5, rfl, bt, ar⟩ := (hx1.mono (g.trans o)).form
 have b1 := bA d1
 have b2 := gR d1.kids
 try repeat' (first | refine KO ?_ | refine K2 63 (fun w μc hw ap => e w μc hw) ?_ | (refine KV (b := by first | exact U1 1 | exact U4 ab) (c := ?_)) | refine KZ ?_)
 refine bW (ι := Nat × Value × Mem) (fun q => q.1 ≤ d1.kids.length ∧ MLe μ4 q.2.2) (fun q => d1.kids.length - q.1) (fun q => q.2.2) (fun q => [(50, .int .i64 (q.1 : Int)), (49, .int .i64 (d1.kids.length : Int)), (48, .slice A5 d1.kids.length c5), (3, q.2.1)]) (fun q => [lH q.2.1 ((d1.kids.take q.1).foldl (fun l k => dV f k (bN [k] true l)) l1)]) (0, v4, μ4) ⟨aI _, MLe.refl _⟩ (fun a w hs => hs.sel PU (dR (.refl _) (.nil _))) ?_
 rintro ⟨i, v, μi⟩ ⟨hi, hle⟩
 dsimp only at hi hle ⊢
 by_cases hlt : i < d1.kids.length
 ·obtain ⟨d, aj⟩ : ∃ d, d1.kids[i]? = some d := ⟨_, aA hlt⟩
  obtain ⟨ad5, x, rfl, bk, b6, bo⟩ := ar i d aj
  have bj := bk.mono hle
  have ak := aB aj
  have ca : d.size ≤ szs d1.kids := T.eF (List.mem_map.2 ⟨d, ak, rfl⟩)
  have b5 := jO aj
  have a1 := a6.kid ak
  have bf : ((d1.kids.take i).foldl (fun l k => dV f k (bN [k] true l)) l1).length ≤ l1.length + 2001 * szs (d1.kids.take i) := by
   have h2 := nR (fun l k => dV f k (bN [k] true l)) (fun k => 2001 * k.size) (d1.kids.take i) l1 fun k hk a => by
    have h7 : k.size ≤ szs d1.kids := T.eF (List.mem_map.2 ⟨k, aZ hk, rfl⟩)
    have h8 := oX f k (bN [k] true a) (by omega)
    have h9 := iQ [k] true a
    have bz : szs [k] = k.size := by simp [szs]
    omega
   have h3 : ∀ l : List T, (l.map fun k => 2001 * k.size).sum = 2001 * szs l := fun l => by
    induction l with
    | nil => rfl
    | cons x r ih => simp only [aO, dQ, cO, ih]; omega
   rw [h3] at h2
   exact h2
  have ae := kN (fun l k => dV f k (bN [k] true l)) (l := l1) aj
  generalize (d1.kids.take i).foldl (fun l k => dV f k (bN [k] true l)) l1 = acc at bf ae ⊢
  have h9 := iQ [d] true acc
  have bz : szs [d] = d.size := by simp [szs]
  have bc := bo.mono hle
  try repeat' (first | refine KO ?_ | (refine CF 40 ?_; (refine pI rfl ?_); (intro μ7 af ay); (with_reducible apply pQ 1); (iterate 3 exact rfl); exact EN; exact rfl; (exact vF [d] true _ _ acc _ (KR.oR (c := 1) (ps := [(d, x)]) (wA ay (fun i v hv => rA hv)) (aD _) (fun p hp => by rw [aR.1 hp]; exact bc.mono af)) (fun k hk => by rw [aR.1 hk]; exact a1.here.1) (by omega) (by omega)); (intro v8 μ8 al); (dsimp only [fD])) | (refine CF 161 ?_; (with_reducible apply pQ 1); (iterate 3 exact rfl); exact EN; exact rfl; (exact vQ f d x _ (bN [d] true acc) _ (bc.mono (af.trans al)) a1 (by omega) (by omega) (by omega)); (intro v9 μ9 a8); (dsimp only [fD])) | (refine KV (b := by first | exact U1 i | exact U4 bj) (c := ?_)) | refine KZ ?_ | refine NB fun b => ?_)
  all_goals rw [← ae]
  all_goals exact cP (i + 1, v9, μ9) ⟨by dsimp only; omega, ((hle.trans af).trans al).trans a8⟩ (by dsimp only; omega) rfl PU (dR (.refl _) (.nil _))
 ·have bs : i = d1.kids.length := by omega
  subst bs
  rw [aG (aD _)]
  try repeat' (refine KZ ?_)
  all_goals exact nC ag rfl (cN rfl) rfl z
end
section
open Go.RowKit Go.Vcg Go.MapKept
theorem FR'.len {q : FW} {s : FS} (h : FR' q s) : q.cs.length = s.scopes.length := by rw [← h.sc, lG]
theorem aM4 (cs : List (Sc × Value)) : (cs.flatMap eE).length = cs.length * 5 := mH (enc := eE) (s := 5) (fun _ => rfl) cs
attribute [local irreducible] jN dU eP bN dV eG anI jE fZ G GC GQ GA eN Calls IntKind.wrap Int.decLt Int.decLe
theorem yP (kind at' : Int) (w0 : Wh) (l : List Bd) (lv : Value) (s : FS) (μ : Mem) (xb cb hb db : Nat) (hs : s.scopes.length ≤ 8000) :
 aNn 39 [.pointer (some ⟨xb, 0, none⟩), .int .i64 kind, .int .i64 at', WV w0, lv] xb cb hb db lv l s (lO kind at' w0 l s) μ (fun v => v = WV (qA w0 s)) := by
 intro w q hμ c e
 have a := dJ e.diff
 have hlen := c.len
 have f := aM4 q.cs
 have e9 : ((q.cs.length + 1 : Nat) : Int) - 1 = (s.scopes.length : Int) := by omega
 refine cC (args := [.pointer (some ⟨xb, 0, none⟩), .int .i64 kind, .int .i64 at', WV w0, lv]) Tryz.func39 rfl Tryz.ntmps39 (by simp) hμ e ?_
 refine kV (congrArg _ (lI xb cb hb db s q)) ?_
 refine fW 0 rfl ?_
 rintro Al cl rfl d
 try repeat' (first | refine KZ ?_ | refine NB fun b => ?_)
 refine aT 18 _ (by kernel_rfl) rfl (dG (aC aQ)) ?_
 all_goals (refine DD 0 ?_; refine DD 1 ?_; refine DD 2 ?_; refine DD 3 ?_; refine DD 5 ?_; refine DD 6 ?_; refine DD 7 ?_; refine DD 8 ?_; refine DD 9 ?_; refine DD 10 ?_; refine DD 11 ?_; refine DD 12 ?_)
 refine iF 4 13 (by kernel_rfl) ?dr17_4 ?dr17_13
 case' dr17_4 =>
  (((with_reducible apply iW); (iterate 4 exact rfl); (((with_reducible apply wP); exact rfl; (repeat first | with_reducible exact fO | with_reducible apply oK); exact rfl))))
  all_goals (refine D3 13 ?_; refine D5 ?_; refine NB fun b => ?_; refine D9 ?_)
  all_goals (refine D3 14 ?_; refine D5 ?_; (((with_reducible apply oZ); (iterate 3 exact rfl); (repeat first | with_reducible exact fE | with_reducible apply fV); (iterate 6 exact rfl); (((with_reducible apply jS); exact rfl; (repeat with_reducible exact fO); exact rfl)); exact rfl; exact gB (by (repeat first | with_reducible exact fS | ((with_reducible apply eY); exact rfl))); omega; omega; intro v; refine lM 5 rfl (by omega) fun g cap hv hcap => ?_; (subst hv))); refine D9 ?_)
  all_goals (refine DD 15 ?_; refine DD 16 ?_; refine D3 17 ?_; refine D5 ?_; refine Y0 ?_; refine D9 ?_; refine D8 ?_)
 case' dr17_13 =>
  (refine D5 ?_; refine NB fun b => ?_; refine D9 ?_)
  all_goals (refine D3 4 ?_; (with_reducible apply iW); (iterate 4 exact rfl); (((with_reducible apply wP); exact rfl; (repeat first | with_reducible exact fO | with_reducible apply oK); exact rfl)))
  all_goals (refine D3 14 ?_; refine D5 ?_; (((with_reducible apply oZ); (iterate 3 exact rfl); (repeat first | with_reducible exact fE | with_reducible apply fV); (iterate 6 exact rfl); (((with_reducible apply jS); exact rfl; (repeat with_reducible exact fO); exact rfl)); exact rfl; exact gB (by (repeat first | with_reducible exact fS | ((with_reducible apply eY); exact rfl))); omega; omega; intro v; refine lM 5 rfl (by omega) fun g cap hv hcap => ?_; (subst hv))); refine D9 ?_)
  all_goals (refine DD 15 ?_; refine DD 16 ?_; refine D3 17 ?_; refine D5 ?_; refine Y0 ?_; refine D9 ?_; refine D8 ?_)
 try repeat' (refine KZ ?_)
 all_goals rw [e9]
 all_goals refine lR ((((dE _ _).cons _).cons _).cons _) ?_
 all_goals refine gC (n' := (q.cs ++ [((⟨w0.scope, w0.fn, kind, at', l⟩ : Sc), Value.slice Al l.length cl)]).length) (xs' := (q.cs ++ [((⟨w0.scope, w0.fn, kind, at', l⟩ : Sc), Value.slice Al l.length cl)]).flatMap eE) 4 rfl (by simp) (by simp) ?_
 all_goals dsimp only [fD, aL]
 all_goals refine aEe (s := lO kind at' w0 l s) (y := .inl ⟨_, 85, 3, [(0, .int .i64 (s.scopes.length : Int)), (1, .int .i64 w0.fn), (2, .bool w0.decl)]⟩) { q with sv := .slice (some ⟨g, 0, none⟩) (q.cs.length + 1) cap, cs := q.cs ++ [((⟨w0.scope, w0.fn, kind, at', l⟩ : Sc), Value.slice Al l.length cl)] } a rfl (by rw [lI]; dsimp only; rw [CP, xW]; exact (by repeat first | exact bS _ (bS _ (eW _)) | (refine dR ?_ ?_; focus (refine jQ.cells ?_; repeat first | exact fM | refine eJ rfl ?_)) | (refine rV ?_ ?_; focus (refine jQ.cells ?_; repeat first | exact fM | refine eJ rfl ?_)))) (RG 0 rfl rfl rfl rfl rfl) rfl ⟨?_, c.ca, c.hd, c.dn⟩ rfl
 all_goals show scs (q.cs ++ [_]) = s.scopes ++ [_]
 all_goals unfold scs
 all_goals rw [bI, ← c.sc]
 all_goals rfl
theorem yK (kind at' : Int) (w0 : Wh) (l : List Bd) (lv : Value) (s : FS) (μ : Mem) (xb cb hb db : Nat) (hs : s.scopes.length ≤ 8000) :
 aNn 84 [.pointer (some ⟨xb, 0, none⟩), .int .i64 kind, .int .i64 at', WV w0, lv] xb cb hb db lv l s (kA kind at' w0 l s) μ (fun v => v = WV (fU w0 l s)) := by
 intro w q hμ c g
 have a := dJ g.diff
 have d := yP kind at' w0 l
 refine cC (args := [.pointer (some ⟨xb, 0, none⟩), .int .i64 kind, .int .i64 at', WV w0, lv]) Tryz.func84 rfl Tryz.ntmps84 (by simp) hμ g ?_
 refine fW 0 rfl ?_
 rintro Al cl rfl e
 unfold kA fU
 by_cases h0 : l.length = 0
 ·rw [if_pos h0, if_pos h0]
  try repeat' (first | refine KZ ?_ | refine NB fun b => ?_)
  all_goals exact vH (s := s) 3 q a rfl (RG 0 rfl rfl rfl rfl rfl) rfl rfl c rfl
 ·rw [if_neg h0, if_neg h0]
  try repeat' (first | refine KO ?_ | (refine CF 39 ?_; (with_reducible apply wI 2); (iterate 3 exact rfl); exact EN; exact rfl; exact c; exact d _ s _ xb cb hb db hs; rintro v1 μ1 i1 f c rfl; dsimp only [aL, aP]) | refine KZ ?_ | refine NB fun b => ?_)
  all_goals exact vH (s := lO kind at' w0 l s) 2 i1 a rfl (RG 0 rfl rfl rfl rfl rfl) rfl rfl c rfl
end
end Go.Proofs.YtlllalmkkaolfaaGreatDoor
