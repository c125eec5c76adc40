/- Compact rules: one function tells what a plain operation yields; memory is found by its block. -/
import Derived.Test.YtlllalmkkaolfaaGreatDoorQab
import Derived.MapKept
set_option maxRecDepth 20000
namespace Go.Vcg
section
open Go.RowKit
section
variable {P : Program} {X : Ctx} {ops : Array Oper} {Q : Exit → Act → World → Prop} {rest : List Oper} {μ μr : Mem} {l : bP} {L Lr : List Bk} {a : Act} {w : World} {o : Oper} {d fuel i : Nat} {listed : Array Bool}
variable {ty : TypeId} {pos : String} {af : Array Edge} {gd : Option (Nat × Bool)} {ds : Option Nat}
def lks (cs : bP) : Nat → Nat → Option (List Value)
 | _, 0 => some []
 | off, n + 1 => match lk cs off with
   | some v => match lks cs (off + 1) n with
     | some vs => some (v :: vs)
     | none => none
   | none => none
theorem IR {cs : bP} : ∀ {n off : Nat} {vs : List Value}, lks cs off n = some vs → LC cs off n vs
 | 0, off, vs, h => by simp [lks] at h; subst h; exact bZ
 | n + 1, off, vs, h => by
   unfold lks at h
   cases e : lk cs off with
   | none => simp [e] at h
   | some v =>
     cases e' : lks cs (off + 1) n with
     | none => simp [e, e'] at h
     | some r => simp [e, e'] at h; subst h; exact bH e (IR e')
def aNd (op : BinOp) (x y : Int) : Option Value := match op with
 | .eql => some (.bool (decide (x = y)))
 | .neq => some (.bool (decide (x ≠ y)))
 | .lss => some (.bool (decide (x < y)))
 | .leq => some (.bool (decide (x ≤ y)))
 | .gtr => some (.bool (decide (y < x)))
 | .geq => some (.bool (decide (y ≤ x)))
 | _ => none
def aNc (op : BinOp) (x y : ByteArray) : Option Value := match op with
 | .eql => some (.bool (decide (x = y)))
 | .neq => some (.bool (decide (x ≠ y)))
 | _ => none
def aNe (op : BinOp) (x y : Bool) : Option Value := match op with
 | .eql => some (.bool (decide (x = y)))
 | .neq => some (.bool (decide (x ≠ y)))
 | _ => none
def OV (P : Program) (t : TypeId) : Bool := match P.underlying t with | some .bool => true | _ => false
def YG (P : Program) (l : bP) (t : TypeId) (ps : List (Nat × Operand)) : Option Value :=
 match iO P t with
 | some s => match nE P t with
   | some z => match Nat.beq (pT z).length s with
     | true => match GN P t with
       | some pl => match vW l ps with
         | some us => match yR pl s us with
           | true => match lks (BH pl us (idx 0 (pT z))) 0 s with
             | some vs => some (.agg vs.toArray)
             | none => none
           | false => none
         | none => none
       | none => none
     | false => none
   | none => none
 | none => none
def aMj (P : Program) (l : bP) : List Operand → List TypeId → Option Value
 | [p], [t] => match ev l p, P.underlying t with
   | some (.string s), some .string => some (.int .i64 s.size)
   | some (.slice _ n _), some (.slice _) => some (.int .i64 n)
   | _, _ => none
 | _, _ => none
def evs (l : bP) : List Operand → Option (List Value)
 | [] => some []
 | x :: r => match ev l x with
   | some v => match evs l r with
     | some vs => some (v :: vs)
     | none => none
   | none => none
theorem UD (h : Rd μ l L a w) : ∀ {xs : List Operand} {vs : List Value}, evs l xs = some vs → xs.map a.eval = vs
 | [], vs, e => by simp [evs] at e; simp [e]
 | x :: r, vs, e => by
   unfold evs at e
   cases b : ev l x with
   | none => simp [b] at e
   | some v =>
     cases hr : evs l r with
     | none => simp [b, hr] at e
     | some us =>
       simp [b, hr] at e
       subst e
       simp [h.eval b, UD h hr]
def pv (P : Program) (l : bP) : Op → Option Value
 | .move x => ev l x
 | .assign x => ev l x
 | .pick c x y => match ev l c with
   | some (.bool true) => ev l x
   | some (.bool false) => ev l y
   | _ => none
 | .fieldAddr t p i => match ev l p with
   | some (.pointer (some ⟨b, k, none⟩)) => match JK P t i with
     | some (_, off) => zT k fun k => some (.pointer (some ⟨b, k + off, none⟩))
     | none => none
   | _ => none
 | .binOp op t p q _ => match ev l p, ev l q with
   | some (.int k x), some (.int k' y) => match decide (k = k') with
     | true => aNd op x y
     | false => none
   | some (.string x), some (.string y) => aNc op x y
   | some (.bool x), some (.bool y) => match OV P t with
     | true => aNe op x y
     | false => none
   | _, _ => none
 | .unOp .not _ p => match ev l p with
   | some (.bool b) => some (.bool (!b))
   | _ => none
 | .extract p i => match ev l p with
   | some (.tuple vs) => SD vs.toList i
   | _ => none
 | .nilCheck p => match ev l p with
   | some (.pointer (some A)) => some (.pointer (some A))
   | _ => none
 | .call ⟨.builtin .len, args, ts⟩ => aMj P l args.toList ts.toList
 | .build t ps => YG P l t ps.toList
 | .makeFunc fn ⟨[]⟩ caps => match evs l caps.toList with
   | some vs => some (.func fn #[] vs.toArray)
   | none => none
 | _ => none
theorem YA {op : BinOp} {p q : Operand} {t t2 : TypeId} {k : IntKind} {x y : Int} {v : Value} (b : ev l p = some (.int k x)) (a : ev l q = some (.int k y)) (h : aNd op x y = some v) : Val P μ l L ⟨ds, .binOp op t p q t2, ty, pos, af, gd⟩ v := by
 cases op <;> simp only [aNd, aM, reduceCtorEq] at h <;> subst h
 ·exact aN7 b a
 ·exact aN1 b a
 ·exact aN3 b a
 ·exact aN4 b a
 ·exact aN5 b a
 ·exact aN6 b a
theorem XZ {op : BinOp} {p q : Operand} {t t2 : TypeId} {x y : ByteArray} {v : Value} (b : ev l p = some (.string x)) (a : ev l q = some (.string y)) (h : aNc op x y = some v) : Val P μ l L ⟨ds, .binOp op t p q t2, ty, pos, af, gd⟩ v := by
 cases op <;> simp only [aNc, aM, reduceCtorEq] at h <;> subst h
 ·exact aLb b a
 ·exact aLa b a
theorem YB {op : BinOp} {p q : Operand} {t t2 : TypeId} {x y : Bool} {v : Value} (ht : OV P t = true) (b : ev l p = some (.bool x)) (a : ev l q = some (.bool y)) (h : aNe op x y = some v) : Val P μ l L ⟨ds, .binOp op t p q t2, ty, pos, af, gd⟩ v := by
 have hu : P.underlying t = some .bool := by
  unfold OV at ht
  split at ht
  ·assumption
  ·cases ht
 cases op <;> simp only [aNe, aM, reduceCtorEq] at h <;> subst h
 ·exact aLf hu b a
 ·exact aLe hu b a
theorem PR {t : TypeId} {ps : Array (Nat × Operand)} {v : Value} (h : YG P l t ps.toList = some v) : Val P μ l L ⟨ds, .build t ps, ty, pos, af, gd⟩ v := by
 unfold YG at h
 repeat' split at h
 all_goals first | (simp only [reduceCtorEq] at h; done) | skip
 rename_i _ s hs _ z f _ hb _ pl c _ us b _ d _ vs a
 simp only [aM] at h
 subst h
 have e : ps = ps.toList.toArray := by simp
 rw [e]
 exact aHm hs f (cR hb) c b d (IR a)
theorem WS {args : Array Operand} {ts : Array TypeId} {v : Value} (h : aMj P l args.toList ts.toList = some v) : Val P μ l L ⟨ds, .call ⟨.builtin .len, args, ts⟩, ty, pos, af, gd⟩ v := by
 unfold aMj at h
 split at h
 ·rename_i p t b ht
  have e : args = #[p] := by rw [← Array.toArray_toList (xs := args), b]
  have e' : ts = #[t] := by rw [← Array.toArray_toList (xs := ts), ht]
  subst e e'
  split at h
  ·rename_i s a hu
   simp only [aM] at h; subst h
   exact aHk a hu
  ·rename_i A n c e a hu
   simp only [aM] at h; subst h
   exact aHl a hu
  ·cases h
 ·cases h
theorem IQ {fn : Fn} {caps : Array Operand} {vs : List Value} (h : evs l caps.toList = some vs) : Val P μ l L ⟨ds, .makeFunc fn #[] caps, ty, pos, af, gd⟩ (.func fn #[] vs.toArray) := fun a w hs => by
 have e := UD hs h
 have : caps.map a.eval = vs.toArray := by
  cases caps
  simpa using e
 simp [execOp, Instr.makeFunc, this]
theorem RL {op : Op} {v : Value} (h : pv P l op = some v) : Val P μ l L ⟨ds, op, ty, pos, af, gd⟩ v := by
 unfold pv at h
 split at h
 ·exact aLc h
 ·exact aDl h
 ·split at h
  ·rename_i hc; exact aDi hc h
  ·rename_i hc; exact aDj hc h
  ·cases h
 ·split at h
  ·rename_i b k a
   split at h
   ·rename_i x off hf
    rw [xD] at h
    simp only [aM] at h; subst h
    exact QH a hf
   ·cases h
  ·cases h
 ·split at h
  ·rename_i k x k' y a c
   split at h
   ·rename_i hk
    have := of_decide_eq_true hk
    subst this
    exact YA a c h
   ·cases h
  ·rename_i x y a c; exact XZ a c h
  ·rename_i x y a c
   split at h
   ·rename_i ht; exact YB ht a c h
   ·cases h
  ·cases h
 ·split at h
  ·rename_i b a
   simp only [aM] at h; subst h
   exact aN0 a
  ·cases h
 ·split at h
  ·rename_i vs a
   have e : vs = vs.toList.toArray := by simp
   rw [e] at a
   exact aA1 a h
  ·cases h
 ·split at h
  ·rename_i A a
   simp only [aM] at h; subst h
   exact UZ a
  ·cases h
 ·exact WS h
 ·exact PR h
 ·split at h
  ·rename_i vs hv
   simp only [aM] at h; subst h
   exact IQ hv
  ·cases h
 ·cases h
def RQ (P : Program) (n : Nat) (ops : Array Oper) (l : bP) (o : Oper) : Option (Nat × Value) := match o.dst with
 | some d => match Nat.blt d n with
   | true => match gQ ops l o with
     | some true => match pv P l o.op with
       | some v => some (d, v)
       | none => none
     | some false => some (d, undef)
     | none => none
   | false => none
 | none => none
theorem g_p {v : Value} (h : RQ P X.n ops l o = some (d, v)) (hg : G P X ops Q rest μ ((d, v) :: l) L) : G P X ops Q (o :: rest) μ l L := by
 unfold RQ at h
 split at h
 ·rename_i d' hd
  split at h
  ·rename_i hn
   split at h
   ·rename_i hw
    split at h
    ·rename_i v' hv
     simp only [aM, cM] at h
     obtain ⟨rfl, rfl⟩ := h
     cases o
     exact aAc hd hn hw (RL hv) hg
    ·cases h
   ·rename_i hw
    simp only [aM, cM] at h
    obtain ⟨rfl, rfl⟩ := h
    exact aM0 hd hn hw hg
   ·cases h
  ·cases h
 ·cases h
def arI (l : bP) (op : Op) : Option Int := match op with
 | .binOp op _ p q _ => match ev l p, ev l q with
   | some (.int .i64 x), some (.int .i64 y) => match op with
     | .add => some (x + y)
     | .sub => some (x - y)
     | .mul => some (x * y)
     | _ => none
   | _, _ => none
 | _ => none
theorem NP {op : Op} {r : Int} (h : arI l op = some r) (hb : -9223372036854775808 ≤ r ∧ r ≤ 9223372036854775807) : Val P μ l L ⟨ds, op, ty, pos, af, gd⟩ (.int .i64 r) := by
 unfold arI at h
 split at h
 ·split at h
  ·rename_i x y b a
   split at h
   ·simp only [aM] at h; subst h; exact aHn b a hb
   ·simp only [aM] at h; subst h; exact aHi b a hb
   ·simp only [aM] at h; subst h; exact aHj b a hb
   ·cases h
  ·cases h
 ·cases h
def YN (n : Nat) (ops : Array Oper) (l : bP) (o : Oper) : Option (Nat × Int) := match o.dst with
 | some d => match Nat.blt d n with
   | true => match gQ ops l o with
     | some true => match arI l o.op with
       | some v => some (d, v)
       | none => none
     | _ => none
   | false => none
 | none => none
theorem aQk {r : Int} (h : YN X.n ops l o = some (d, r)) (hb : -9223372036854775808 ≤ r ∧ r ≤ 9223372036854775807) (hg : G P X ops Q rest μ ((d, .int .i64 r) :: l) L) : G P X ops Q (o :: rest) μ l L := by
 unfold YN at h
 split at h
 ·rename_i d' hd
  split at h
  ·rename_i hn
   split at h
   ·rename_i hw
    split at h
    ·rename_i v' hv
     simp only [aM, cM] at h
     obtain ⟨rfl, rfl⟩ := h
     cases o
     exact aAc hd hn hw (NP hv hb) hg
    ·cases h
   ·cases h
  ·cases h
 ·cases h
def InB (L : List Bk) (b : Nat) (y : Blk) : Prop := ∃ i, gT L i = some (.inl y) ∧ y.b = b
theorem fO {b t sz : Nat} {cs : bP} {L : List Bk} : InB (.inl ⟨b, t, sz, cs⟩ :: L) b ⟨b, t, sz, cs⟩ := ⟨0, rfl, rfl⟩
theorem oK {b : Nat} {y : Blk} {x : Bk} {L : List Bk} (h : InB L b y) : InB (x :: L) b y := by
 obtain ⟨i, h1, h2⟩ := h
 exact ⟨i + 1, h1, h2⟩
def ldv (P : Program) (t : TypeId) (cs : bP) (off : Nat) : Option Value := match oI P t with
 | some false => lk cs off
 | some true => match iO P t with
   | some s => match lks cs off s with
     | some vs => some (.agg vs.toArray)
     | none => none
   | none => none
 | none => none
def tD (n : Nat) (ops : Array Oper) (l : bP) (o : Oper) : Option Nat := match o.dst with
 | some d => match Nat.blt d n with
   | true => match gQ ops l o with
     | some true => some d
     | _ => none
   | false => none
 | none => none
theorem mB {n : Nat} (h : tD n ops l o = some d) : o.dst = some d ∧ Nat.blt d n = true ∧ gQ ops l o = some true := by
 unfold tD at h
 split at h
 ·rename_i d' hd
  split at h
  ·rename_i hn
   split at h
   ·rename_i hw
    simp only [aM] at h
    subst h
    exact ⟨hd, hn, hw⟩
   ·cases h
  ·cases h
 ·cases h
def aIm (l : bP) : Op → Option (TypeId × Nat × Nat)
 | .load t x => match ev l x with
   | some (.pointer (some ⟨b, off, none⟩)) => some (t, b, off)
   | _ => none
 | _ => none
theorem wP {op : Op} {t b off : Nat} {y : Blk} {v : Value} (h : aIm l op = some (t, b, off)) (hb : InB L b y) (hv : ldv P t y.cs off = some v) : Val P μ l L ⟨ds, op, ty, pos, af, gd⟩ v := by
 unfold aIm at h
 split at h
 ·split at h
  ·rename_i t' x _ b' off' d
   simp only [aM, cM] at h
   obtain ⟨rfl, rfl, rfl⟩ := h
   obtain ⟨i, hi, rfl⟩ := hb
   unfold ldv at hv
   split at hv
   ·rename_i c; exact VA i c hi d hv
   ·rename_i c
    split at hv
    ·rename_i s hs
     split at hv
     ·rename_i vs a
      simp only [aM] at hv
      subst hv
      exact VB i c hs hi d (IR a)
     ·cases hv
    ·cases hv
   ·cases hv
  ·cases h
 ·cases h
theorem aQh {t b off : Nat} {y : Blk} {v : Value} (hd : tD X.n ops l o = some d) (h : aIm l o.op = some (t, b, off)) (hb : InB L b y) (hv : ldv P t y.cs off = some v) (hg : G P X ops Q rest μ ((d, v) :: l) L) : G P X ops Q (o :: rest) μ l L := by
 obtain ⟨h1, h2, h3⟩ := mB hd
 cases o
 exact aAc h1 h2 h3 (wP h hb hv) hg
def AV : List Value → Option (List Value)
 | [] => some []
 | v :: r => match AV r with
   | some r' => some (v :: r')
   | none => none
theorem yZ : ∀ {vs us : List Value}, AV vs = some us → us = vs
 | [], us, h => by unfold AV at h; cases h; rfl
 | v :: r, us, h => by
   unfold AV at h
   split at h
   ·rename_i r' hr
    simp only [aM] at h
    subst h
    rw [yZ hr]
   ·cases h
def QB (vs : List Value) : Prop := vs.all (·.oneCell') = true
theorem fS : QB [] := rfl
theorem eY {v : Value} {vs : List Value} (h : v.oneCell' = true) (hr : QB vs) : QB (v :: vs) := by
 unfold QB at *
 rw [kT, h, hr]; rfl
def stop (P : Program) (l : bP) (op : Op) : Option (Nat × Nat × List Value) := match op with
 | .store t q x => match iO P t with
   | some s => match ev l q with
     | some (.pointer (some ⟨b, off, none⟩)) => match ev l x with
       | some v => match AV (pT v) with
         | some vs => match Nat.beq vs.length s with
           | true => some (b, off, vs)
           | false => none
         | none => none
       | none => none
     | _ => none
   | none => none
 | _ => none
def ZK (ops : Array Oper) (l : bP) (o : Oper) : Bool := match o.dst with
 | none => match gQ ops l o with
   | some true => true
   | _ => false
 | some _ => false
def UpB (L : List Bk) (b off : Nat) (vs : List Value) (L' : List Bk) : Prop := ∃ i y, gT L i = some (.inl y) ∧ y.b = b ∧ Nat.ble (off + vs.length) y.sz = true ∧ L' = fD L i (.inl ⟨y.b, y.t, y.sz, yN off vs y.cs⟩)
theorem aDr {b t sz off : Nat} {cs cs' : bP} {vs : List Value} {L : List Bk} (a : Nat.ble (off + vs.length) sz = true) (c : PC off vs cs cs') : UpB (.inl ⟨b, t, sz, cs⟩ :: L) b off vs (.inl ⟨b, t, sz, cs'⟩ :: L) := by
 rw [c.eq]
 exact ⟨0, ⟨b, t, sz, cs⟩, rfl, rfl, a, rfl⟩
theorem aDq {b off : Nat} {vs : List Value} {x : Bk} {L L' : List Bk} (h : UpB L b off vs L') : UpB (x :: L) b off vs (x :: L') := by
 obtain ⟨i, y, h1, h2, h3, rfl⟩ := h
 exact ⟨i + 1, y, h1, h2, h3, rfl⟩
theorem aO8 {b off : Nat} {vs : List Value} {L' : List Bk} (hd : ZK ops l o = true) (h : stop P l o.op = some (b, off, vs)) (h1 : QB vs) (hu : UpB L b off vs L') (hg : G P X ops Q rest μ l L') : G P X ops Q (o :: rest) μ l L := by
 obtain ⟨ds, op, ty, pos, af, gd⟩ := o
 unfold ZK at hd
 split at hd
 ·rename_i c
  split at hd
  ·rename_i hw
   simp only at c
   subst c
   unfold stop at h
   simp only at h
   split at h
   ·split at h
    ·rename_i t q x s hs
     split at h
     ·rename_i b' off' e
      split at h
      ·rename_i v d
       split at h
       ·rename_i vs' hf
        split at h
        ·rename_i hlen
         simp only [aM, cM] at h
         obtain ⟨rfl, rfl, rfl⟩ := h
         have hc := yZ hf
         rw [oE] at hc
         obtain ⟨i, y, hi, rfl, a, rfl⟩ := hu
         have hl := cR hlen
         refine aAd (n := s) i hw hs hi e d (by rw [← hc]; exact hl) (by rw [← hc]; exact h1) (by rw [← hl]; exact a) ?_
         rw [← hc]
         exact hg
        ·cases h
       ·cases h
      ·cases h
     ·cases h
    ·cases h
   ·cases h
  ·cases hd
 ·cases hd
def aId (P : Program) (l : bP) : Op → Option (TypeId × List Value)
 | .box t x => match ev l x with
   | some v => match AV (pT v) with
     | some vs => some (t, vs)
     | none => none
   | none => none
 | .alloc t => match nE P t with
   | some z => match AV (pT z) with
     | some vs => some (t, vs)
     | none => none
   | none => none
 | _ => none
theorem aPu {op : Op} {t : TypeId} {cs : List Value} (h : aId P l op = some (t, cs)) : Alc P μ l L ⟨ds, op, ty, pos, af, gd⟩ (fun b => .pointer (some ⟨b, 0, none⟩)) t cs := by
 unfold aId at h
 split at h
 ·split at h
  ·rename_i t' x _ v a
   split at h
   ·rename_i vs hf
    simp only [aM, cM] at h
    obtain ⟨rfl, rfl⟩ := h
    rw [yZ hf, oE]
    exact aBu a
   ·cases h
  ·cases h
 ·split at h
  ·rename_i t' _ v a
   split at h
   ·rename_i vs hf
    simp only [aM, cM] at h
    obtain ⟨rfl, rfl⟩ := h
    rw [yZ hf, oE]
    exact SL a
   ·cases h
  ·cases h
 ·cases h
theorem aQg {t : TypeId} {cs : List Value} {n : Nat} (hd : tD X.n ops l o = some d) (h : aId P l o.op = some (t, cs)) (hn : zT cs.length some = some n) (hg : ∀ b, G P X ops Q rest μ ((d, .pointer (some ⟨b, 0, none⟩)) :: l) (.inl ⟨b, t, n, idx 0 cs⟩ :: L)) : G P X ops Q (o :: rest) μ l L := by
 obtain ⟨h1, h2, h3⟩ := mB hd
 cases o
 exact aK2 h1 h2 h3 (aPu h) hn hg
def aG8 : List Value → List Value → Option (List Value)
 | [], r => some r
 | u :: us, r => match aG8 us r with
   | some c => some (u :: c)
   | none => none
theorem aAt : ∀ {us r c : List Value}, aG8 us r = some c → c = us ++ r
 | [], r, c, h => by unfold aG8 at h; cases h; rfl
 | u :: us, r, c, h => by
   unfold aG8 at h
   split at h
   ·rename_i c' hc
    simp only [aM] at h
    subst h
    rw [aAt hc]; rfl
   ·cases h
def bsl (l : bP) (s : Nat) : Nat → List (Nat × Operand) → Option (List Value)
 | _, [] => some []
 | i, (j, x) :: ps => match Nat.beq j i with
   | true => match ev l x with
     | some v => match Nat.beq (pT v).length s with
       | true => match bsl l s (i + 1) ps with
         | some r => aG8 (pT v) r
         | none => none
       | false => none
     | none => none
   | false => none
theorem aG3 {s : Nat} : ∀ {ps : List (Nat × Operand)} {i : Nat} {cs : List Value}, bsl l s i ps = some cs → ∃ vs, BP l s i ps vs cs
 | [], i, cs, h => by simp [bsl] at h; subst h; exact ⟨[], aNj⟩
 | (j, x) :: ps, i, cs, h => by
   unfold bsl at h
   split at h
   ·rename_i c
    split at h
    ·rename_i v b
     split at h
     ·rename_i hl
      split at h
      ·rename_i r hr
       obtain ⟨vs, hb⟩ := aG3 hr
       have hc := aAt h
       have a := cR hl
       rw [oE] at hc a
       exact ⟨v :: vs, cR c, b, by simpa using a, r, hc, hb⟩
      ·cases h
     ·cases h
    ·cases h
   ·cases h
def aJ5 (P : Program) (l : bP) : Op → Option (TypeId × Nat × List Value)
 | .buildSlice t n ps => match P.underlying t with
   | some (.slice e) => match iO P e with
     | some s => match nE P e with
       | some _ => match Nat.beq ps.toList.length n with
         | true => match Nat.ble (n * s) 16777216 with
           | true => match bsl l s 0 ps.toList with
             | some cs => some (e, n, cs)
             | none => none
           | false => none
         | false => none
       | none => none
     | none => none
   | _ => none
 | _ => none
theorem aPv {op : Op} {t : TypeId} {n : Nat} {cs : List Value} (h : aJ5 P l op = some (t, n, cs)) : Alc P μ l L ⟨ds, op, ty, pos, af, gd⟩ (fun b => .slice (some ⟨b, 0, none⟩) n n) t cs := by
 unfold aJ5 at h
 split at h
 ·rename_i t' n' ps
  split at h
  ·rename_i e he
   split at h
   ·rename_i s hs
    split at h
    ·rename_i z c
     split at h
     ·rename_i hn
      split at h
      ·rename_i hb
       split at h
       ·rename_i cs' hc
        simp only [aM, cM] at h
        obtain ⟨rfl, rfl, rfl⟩ := h
        obtain ⟨vs, a⟩ := aG3 hc
        have e : ps = ps.toList.toArray := by simp
        rw [e]
        exact OT he hs c (cR hn) hb a
       ·cases h
      ·cases h
     ·cases h
    ·cases h
   ·cases h
  ·cases h
 ·cases h
theorem aQj {t : TypeId} {cs : List Value} {n m : Nat} (hd : tD X.n ops l o = some d) (h : aJ5 P l o.op = some (t, m, cs)) (hn : zT cs.length some = some n) (hg : ∀ b, G P X ops Q rest μ ((d, .slice (some ⟨b, 0, none⟩) m m) :: l) (.inl ⟨b, t, n, idx 0 cs⟩ :: L)) : G P X ops Q (o :: rest) μ l L := by
 obtain ⟨h1, h2, h3⟩ := mB hd
 cases o
 exact aK2 h1 h2 h3 (aPv h) hn hg
theorem NV {op : Op} {x : Operand} {t j : Nat} {A : Addr} {vs : List Value} {v : Value} (h : op = .load t x) (a : oI P t = some false) (b : ev l x = some (.pointer (some (A.add j)))) (hm : eM μ A vs) (hv : SD vs j = some v) : Val P μ l L ⟨ds, op, ty, pos, af, gd⟩ v := by
 subst h
 rw [OS] at hv
 exact jR a b (hm j v hv)
theorem LK {p : Operand} {t : TypeId} {i ft off : Nat} {A : Addr} (hx0 : ev l p = some (.pointer (some A))) (hf : JK P t i = some (ft, off)) : Val P μ l L ⟨ds, .fieldAddr t p i, ty, pos, af, gd⟩ (.pointer (some (A.add off))) := fun a w hs => by
 have e0 := hs.eval hx0
 simp [execOp, e0, EO hf]
theorem aA0 {p q : Operand} {t e : TypeId} {A : Addr} {len cap n k : Nat} (ht : P.underlying t = some (.slice e)) (hs : iO P e = some n)
 (hx0 : ev l p = some (.slice (some A) len cap)) (hx1 : ev l q = some (.int .i64 (k : Int))) (hk : k < len) : Val P μ l L ⟨ds, .indexAddr t p q, ty, pos, af, gd⟩ (.pointer (some (A.add (k * n)))) := YU k ht hs hx0 hx1 rfl hk
def NT (L : List Bk) (r : Rw) (F : Rw → List Bk) : Prop := ∃ i, gT L i = some (.inr r) ∧ ∀ r', F r' = fD L i (.inr r')
theorem fE {v : Value} {e s n : Nat} {xs : List Value} {L : List Bk} : NT (.inr ⟨v, e, s, n, xs⟩ :: L) ⟨v, e, s, n, xs⟩ (fun r => .inr r :: L) := ⟨0, rfl, fun _ => rfl⟩
theorem fV {x : Bk} {L : List Bk} {r : Rw} {F : Rw → List Bk} (h : NT L r F) : NT (x :: L) r (fun r => x :: F r) := by
 obtain ⟨i, h1, h2⟩ := h
 exact ⟨i + 1, h1, fun r' => by show x :: F r' = x :: fD L i (.inr r'); rw [h2]⟩
theorem jS {q : Operand} {y : Blk} {b m c : Nat} {news : List Value} (a : ev l q = some (.slice (some ⟨b, 0, none⟩) m c)) (hb : InB L b y) (hl : lks y.cs 0 y.sz = some news) : Src μ l L q m news := by
 obtain ⟨i, hi, rfl⟩ := hb
 exact aH2 i hi a (IR hl)
theorem oZ {p q : Operand} {t e : TypeId} {s bytes m n : Nat} {z v : Value} {news xs : List Value} {F : Rw → List Bk} (hn : Nat.blt d X.n = true) (hw : gQ ops l ⟨some d, .call { callee := .builtin .append, args := #[p, q], argTypes := #[t, t] }, ty, pos, af, gd⟩ = some true)
 (k : ev l p = some v) (hr : NT L ⟨v, e, s, n, xs⟩ F) (ht : P.underlying t = some (.slice e)) (hs : iO P e = some s) (j : nE P e = some z) (f : z.cells.toList.length = s) (g : BE P e = some bytes) (c : Nat.blt 0 s = true)
 (b : Src μ l L q m news) (hl : news.length = m * s) (h1 : ∀ u ∈ news, u.oneCell' = true) (a : (n + m) * bytes ≤ 140737488355328) (hlen : n + m ≤ 140737488355328)
 (h : ∀ v, G P X ops Q rest μ ((d, v) :: l) (F ⟨v, e, s, n + m, xs ++ news⟩)) :
 G P X ops Q (⟨some d, .call { callee := .builtin .append, args := #[p, q], argTypes := #[t, t] }, ty, pos, af, gd⟩ :: rest) μ l L := by
 obtain ⟨i, hi, o⟩ := hr
 refine TR (r := ⟨v, e, s, n, xs⟩) i hn hw hi ht hs rfl j f g c k b hl h1 a hlen (fun v => ?_)
 rw [← o]
 exact h v
theorem gB {vs : List Value} (h : QB vs) : ∀ u ∈ vs, u.oneCell' = true := by
 unfold QB at h
 simpa only [eD] using h
def PIf (b : Bool) (p q : Prop) : Prop := (b = true → p) ∧ (b = false → q)
theorem aKx {p q : Prop} (h : p) : PIf true p q := ⟨fun _ => h, fun h => by cases h⟩
theorem aKy {p q : Prop} (h : q) : PIf false p q := ⟨fun h => by (cases h), fun _ => h⟩
theorem aMa {b : Bool} {p q : Prop} (hb : b = true) (h : p) : PIf b p q := by subst hb; exact aKx h
theorem aMb {b : Bool} {p q : Prop} (hb : b = false) (h : q) : PIf b p q := by subst hb; exact aKy h
theorem aH9 {b : Bool} {p q : Prop} (h : PIf b q p) : PIf (!b) p q := by
 cases b
 ·exact ⟨fun _ => h.2 rfl, fun h => by cases h⟩
 ·exact ⟨fun h => by (cases h), fun _ => h.1 rfl⟩
theorem aEl {c p q : Prop} {_ : Decidable c} (hc : c) (h : p) : PIf (decide c) p q := ⟨fun _ => h, fun e => absurd hc (of_decide_eq_false e)⟩
theorem aEm {c p q : Prop} {_ : Decidable c} (hc : ¬ c) (h : q) : PIf (decide c) p q := ⟨fun e => absurd (of_decide_eq_true e) hc, fun _ => h⟩
theorem ME {α : Type} (a : α) : ¬ (a ≠ a) := fun h => h rfl
theorem aIa {c p q : Prop} {_ : Decidable c} (h : c → p) (a : ¬ c → q) : PIf (decide c) p q := ⟨fun e => h (of_decide_eq_true e), fun e => a (of_decide_eq_false e)⟩
theorem aOg {b : Bool} {p q : Prop} (h : b = true → p) (a : b = false → q) : PIf b p q := ⟨h, a⟩
theorem aO3 {c : Operand} {x y : Code} {b : Bool} (hc : ev l c = some (.bool b)) (h : PIf b (GC P X x Q μ l L) (GC P X y Q μ l L)) : GC P X (.cond c x y) Q μ l L := PA hc h.1 h.2
def MR (ops : Array Oper) (l : bP) (o : Oper) : Option (Nat × Bool) := match yX ops o with
 | some t => match lk l t with
   | some (.bool b) => some (t, b)
   | _ => none
 | none => none
theorem vU {t : Nat} {b : Bool} (h : MR ops l o = some (t, b)) : yX ops o = some t ∧ lk l t = some (.bool b) := by
 unfold MR at h
 split at h
 ·rename_i t' ht
  split at h
  ·rename_i b' hb
   simp only [aM, cM] at h
   obtain ⟨rfl, rfl⟩ := h
   exact ⟨ht, hb⟩
  ·cases h
 ·cases h
theorem aQi {t : Nat} {b : Bool} (h : MR ops l o = some (t, b)) (hb : KN b) (hg : PIf b (G P X ops Q (o :: rest) μ ((t, .bool true) :: l) L) (G P X ops Q (o :: rest) μ ((t, .bool false) :: l) L)) : G P X ops Q (o :: rest) μ l L :=
 aJj (vU h).1 (vU h).2 hb hg.1 hg.2
theorem g_v {v : Value} (hd : tD X.n ops l o = some d) (hr : Val P μ l L o v) (h : G P X ops Q rest μ ((d, v) :: l) L) : G P X ops Q (o :: rest) μ l L := by
 obtain ⟨h1, h2, h3⟩ := mB hd
 exact aAc h1 h2 h3 hr h
def vX (ops : Array Oper) (listed : Array Bool) (i : Nat) : Bool := Region.noSelect ops && Region.free .any ops listed i && (Region.ready .any ops listed).contains i
theorem FJ (h : vX ops listed i = true) : Region.noSelect ops = true ∧ Region.free .any ops listed i = true ∧ (Region.ready .any ops listed).contains i = true := by
 unfold vX at h
 simp only [aS] at h
 exact ⟨h.1.1, h.1.2, h.2⟩
def GM (P : Program) (n : Nat) (ops : Array Oper) (l : bP) (i : Nat) : Option (Nat × Value) := match uQ ops.toList i with
 | some o => RQ P n ops l o
 | none => none
theorem aO6 (i : Nat) {v : Value} (h : GM P X.n ops l i = some (d, v)) (hk : vX ops listed i = true) (hQ : ∀ c a w, Q (.panic c) (Act.put a (some d) v) w → Q (.panic c) a w)
 (hg : GA P X μr Lr ops Q fuel (listed.setIfInBounds i true) μ ((d, v) :: l) L) : GA P X μr Lr ops Q (fuel + 1) listed μ l L := by
 obtain ⟨k1, k2, k3⟩ := FJ hk
 unfold GM at h
 split at h
 ·rename_i o ho
  unfold RQ at h
  split at h
  ·rename_i d' hd
   split at h
   ·rename_i hn
    split at h
    ·rename_i hw
     split at h
     ·rename_i v' hv
      simp only [aM, cM] at h
      obtain ⟨rfl, rfl⟩ := h
      exact aAb i ho hd hn hw k1 k2 k3 hQ (by cases o; exact RL hv) hg
     ·cases h
    ·rename_i hw
     simp only [aM, cM] at h
     obtain ⟨rfl, rfl⟩ := h
     exact aJe i ho hd hn hw k1 k2 k3 hQ hg
    ·cases h
   ·cases h
  ·cases h
 ·cases h
def DS (n : Nat) (ops : Array Oper) (l : bP) (i : Nat) : Option (Nat × Oper) := match uQ ops.toList i with
 | some o => match tD n ops l o with
   | some d => some (d, o)
   | none => none
 | none => none
theorem RU {n : Nat} (h : DS n ops l i = some (d, o)) : uQ ops.toList i = some o ∧ o.dst = some d ∧ Nat.blt d n = true ∧ gQ ops l o = some true := by
 unfold DS at h
 split at h
 ·rename_i o' ho
  split at h
  ·rename_i d' hd
   simp only [aM, cM] at h
   obtain ⟨rfl, rfl⟩ := h
   obtain ⟨h1, h2, h3⟩ := mB hd
   exact ⟨ho, h1, h2, h3⟩
  ·cases h
 ·cases h
theorem aO5 (i : Nat) {v : Value} (h : DS X.n ops l i = some (d, o)) (hk : vX ops listed i = true) (hQ : ∀ c a w, Q (.panic c) (Act.put a (some d) v) w → Q (.panic c) a w) (hv : Val P μr l Lr o v)
 (hg : GA P X μr Lr ops Q fuel (listed.setIfInBounds i true) μ ((d, v) :: l) L) : GA P X μr Lr ops Q (fuel + 1) listed μ l L := by
 obtain ⟨k1, k2, k3⟩ := FJ hk
 obtain ⟨ho, hd, hn, hw⟩ := RU h
 exact aAb i ho hd hn hw k1 k2 k3 hQ hv hg
theorem aO7 (i : Nat) {t : Nat} {b : Bool} (ho : uQ ops.toList i = some o) (h : MR ops l o = some (t, b)) (hb : KN b) (hg : PIf b (GA P X μr Lr ops Q fuel listed μ ((t, .bool true) :: l) L) (GA P X μr Lr ops Q fuel listed μ ((t, .bool false) :: l) L)) : GA P X μr Lr ops Q fuel listed μ l L :=
 aFu i ho (vU h).1 (vU h).2 hb hg.1 hg.2
def aKi (X : Ctx) {ι : Type} (J : ι → Prop) (μs : ι → Mem) (ls : ι → bP) (Ls : ι → List Bk) (a : Act) (w : World) : Prop := ∃ j, J j ∧ St X (μs j) (ls j) (Ls j) a w
theorem iB {x y : Code} {ι : Type} (J : ι → Prop) (μs : ι → Mem) (ls : ι → bP) (Ls : ι → List Bk) (d : GC P X x (Exit.then (aKi X J μs ls Ls) Q) μ l L) (c : ∀ i, J i → GC P X y Q (μs i) (ls i) (Ls i)) : GC P X (.seq x y) Q μ l L := fun a w hs =>
 wp_seq (wp_mono (d a w hs) fun e a' w' h => by
  cases e with
  | normal => obtain ⟨j, hJ, b⟩ := h; exact c j hJ a' w' b
  | _ => exact h)
end
end
section
open Go.RowKit
section
variable {P : Program} {X : Ctx} {ops : Array Oper} {Q : Exit → Act → World → Prop} {rest : List Oper} {μ μr : Mem} {l : bP} {L Lr : List Bk} {a : Act} {w : World} {o : Oper} {d fuel i : Nat} {listed : Array Bool}
variable {ty : TypeId} {pos : String} {af : Array Edge} {gd : Option (Nat × Bool)} {ds : Option Nat}
def bAt (s : ByteArray) (k : Nat) : Int := ((s.data.toList[k]?).getD 0).toNat
theorem VR {t : TypeId} {s : ByteArray} {k : Nat} (ht : P.underlying t = some .string) (hk : k < s.size) (w : World) : (Instr.index t (.string s) (.int .i64 (k : Int))).run P w = .ok (.int .u8 (bAt s k)) w := by
 have h1 : s[k]? = some s[k] := by simp [hk]
 have h2 : bAt s k = s[k].toNat := by
  unfold bAt
  have : s.data.toList[k]? = some s[k] := by
   rw [Array.getElem?_toList]
   exact Array.getElem?_eq_getElem hk
  rw [this]; rfl
 simp [Instr.index, asIntOf, run_underlying ht, h1, h2]
theorem aDh {p q : Operand} {t : TypeId} {s : ByteArray} {i : Int} (k : Nat) (ht : P.underlying t = some .string) (hx0 : ev l p = some (.string s)) (hx1 : ev l q = some (.int .i64 i)) (hi : i = (k : Int)) (hk : k < s.size) :
 Val P μ l L ⟨ds, .index t p q, ty, pos, af, gd⟩ (.int .u8 (bAt s k)) := fun a w hs => by
 have e0 := hs.eval hx0; have e1 := hs.eval hx1; generalize a.eval = ρ at e0 e1; subst hi; simp [execOp, e0, e1, VR ht hk]
theorem aLd {x y : Operand} {ts : Array TypeId} {i j : Int} (h0 : ev l x = some (.int .i64 i)) (h1 : ev l y = some (.int .i64 j)) : Val P μ l L ⟨ds, .call { callee := .builtin .max, args := #[x, y], argTypes := ts }, ty, pos, af, gd⟩ (.int .i64 (if i < j then j else i)) := fun a w hs => by
 have e0 := hs.eval h0
 have e1 := hs.eval h1
 generalize a.eval = ρ at e0 e1
 simp [execOp, resolve, invoke, builtin, Builtin.max_, Builtin.max2, e0, e1]
abbrev bl (s : ByteArray) : List UInt8 := s.data.toList
theorem BF (s : ByteArray) : (bl s).length = s.size := by simp [bl]
theorem YJ {s t : ByteArray} (h : bl s = bl t) : s = t := by
 cases s; cases t
 simp only [bl] at h
 congr
 exact Array.toList_inj.1 h
theorem YK (s : ByteArray) (a b : Nat) : bl (s.extract a b) = ((bl s).drop a).take (b - a) := by
 simp [bl, ByteArray.data_extract]
theorem aKb {s : ByteArray} {k : Nat} {b : UInt8} (h : (bl s)[k]? = some b) : bAt s k = b.toNat := by
 unfold bAt; rw [h]; rfl
end
end
section
open Go.RowKit
section
variable {P : Program} {μ : Mem} {l : bP} {L : List Bk} {a : Act} {w : World}
def RVs (P : Program) (μ : Mem) (l : bP) (L : List Bk) : List ResultVar → List Value → Prop
 | [], [] => True
 | r :: rs, v :: vs => RV P μ l L r v ∧ RVs P μ l L rs vs
 | _, _ => False
theorem jX : RVs P μ l L [] [] := trivial
theorem iI {r : ResultVar} {rs : List ResultVar} {v : Value} {vs : List Value} (h : RV P μ l L r v) (hs : RVs P μ l L rs vs) : RVs P μ l L (r :: rs) (v :: vs) := ⟨h, hs⟩
theorem BW (hs : Rd μ l L a w) : ∀ {rs : List ResultVar} {vs : List Value}, RVs P μ l L rs vs → (rs.mapM (ResultVar.get a.tmps)).run P w = .ok vs w
 | [], [], _ => by simp
 | r :: rs, v :: vs, h => by
   have h1 := h.1 a w hs
   have h2 := BW hs h.2
   simp [List.mapM_cons, h1, h2]
 | [], _ :: _, h => by cases h
 | _ :: _, [], h => by cases h
theorem RD {fn : Func} {rs : List ResultVar} {vs : List Value} (hr : fn.results = rs.toArray) (h : RVs P μ l L rs vs) (hl : Nat.beq vs.length 1 = false) (hs : Rd μ l L a w) : (results fn a.tmps).run P w = .ok (.tuple vs.toArray) w := by
 have h1 := BW hs h
 have h2 : ¬ vs.length = 1 := Nat.ne_of_beq_eq_false hl
 have e : results fn a.tmps = (do let vs ← rs.toArray.mapM (ResultVar.get a.tmps); pure (if h : vs.size = 1 then vs[0] else .tuple vs)) := by
  unfold results
  rw [hr]
  refine congrArg (fun f => (rs.toArray.mapM f >>= fun vs => pure (if h : vs.size = 1 then vs[0] else .tuple vs) : Sem Value)) ?_
  funext r
  cases r <;> rfl
 rw [e]
 simp only [List.mapM_toArray]
 simp [h1, h2]
theorem DO {fn : Func} {n : Nat} {rs : List ResultVar} {vs : List Value} {v : Value} {w : World} {μ0 : Mem} (hr : fn.results = rs.toArray) (h : RVs P μ l L rs vs) (hl : Nat.beq vs.length 1 = false) (e : .tuple vs.toArray = v) :
 GQ ⟨w, μ0, [], n⟩ (bodyPost P fn (fun e w' => e = .returned v ∧ Below w.heap.size w w')) .ret μ l L := fun a w' hs =>
 ⟨hs.defers.none (by simp), .tuple vs.toArray, RD hr h hl hs.rd, by rw [e], hs.gO.below⟩
end
end
section
open Go.RowKit Go.MapKept
section
variable {P : Program} {X : Ctx} {ops : Array Oper} {Q : Exit → Act → World → Prop} {rest : List Oper} {μ μr : Mem} {l : bP} {L Lr : List Bk} {a : Act} {w : World} {o : Oper} {d fuel i : Nat} {listed : Array Bool}
variable {ty : TypeId} {pos : String} {af : Array Edge} {gd : Option (Nat × Bool)} {ds : Option Nat}
theorem St.aOn (h : St X μ l L a w) (x : Obj) (y : Bk) (hid : Bk.id y = some w.heap.size) (d : Bk.at y (w.alloc x)) : St X μ l (y :: L) a (w.alloc x) := by
 have hold : ∀ b, b < w.heap.size → (w.alloc x).heap[b]? = w.heap[b]? := fun b hb => Below.heap_alloc w _ b hb
 have hlt : ∀ x ∈ L, ∀ b, Bk.id x = some b → b < w.heap.size := fun x c b hb => Bk.lt (h.own x c) hb
 refine ⟨h.size, h.defers, h.slots, ⟨h.gO.os, h.gO.tape, h.gO.output, dO h.gO.size (by simp), fun b hb f => ?_⟩, fun b o hb => ?_, h.from0, h.fresh, fun x c => ?_, fun x c b hb => ?_, fun x c b hb => ?_, ?_⟩
 ·rw [hold b (fB hb h.gO.size)]; exact h.gO.block b hb f
 ·have := h.mem b o hb
  rw [hold b (Array.getElem?_eq_some_iff.1 this).1]; exact this
 ·rcases aW.1 c with rfl | c
  ·exact d
  ·exact Bk.gO (h.own x c) (fun b hb => hold b (hlt x c b hb))
 ·rcases aW.1 c with rfl | c
  ·rw [hid] at hb
   cases hb
   cases hm : μ w.heap.size with
   | none => rfl
   | some o =>
     have := (Array.getElem?_eq_some_iff.1 (h.mem _ _ hm)).1
     omega
  ·exact h.priv x c b hb
 ·rcases aW.1 c with rfl | c
  ·rw [hid] at hb
   cases hb; exact .inr h.gO.size
  ·exact h.new x c b hb
 ·refine List.pairwise_cons.2 ⟨fun y d b hb e => ?_, h.diff⟩
  have h1 := hlt y d b e
  rw [hid] at hb
  have h2 : w.heap.size = b := cX hb
  omega
theorem PF {t : TypeId} (hn : Nat.blt d X.n = true) (hw : gQ ops l ⟨some d, .makeMap t none, ty, pos, af, gd⟩ = some true)
 (h : ∀ b, G P X ops Q rest μ ((d, .map (some b)) :: l) (.mp ⟨b, [], 0⟩ :: L)) : G P X ops Q (⟨some d, .makeMap t none, ty, pos, af, gd⟩ :: rest) μ l L :=
 xS hw fun a w hs => by
  have e : (execOp a.eval ⟨some d, .makeMap t none, ty, pos, af, gd⟩).run P w = .ok (.value (.map (some w.heap.size))) (w.alloc (.map #[] 0)) := by
   simp [execOp, run_makeMap]
  unfold Oper.wp
  rw [e, Oper.upon_value]
  exact h _ _ _ ((hs.aOn (.map #[] 0) (.mp ⟨w.heap.size, [], 0⟩) rfl (heap_alloc_new w _)).put hn _)
def InM (L : List Bk) (b : Nat) (m : Mp) : Prop := ∃ i, gT L i = some (.mp m) ∧ m.b = b
theorem qN {b ck : Nat} {es : List MapEntry} {L : List Bk} : InM (.mp ⟨b, es, ck⟩ :: L) b ⟨b, es, ck⟩ := ⟨0, rfl, rfl⟩
theorem qM {b : Nat} {m : Mp} {x : Bk} {L : List Bk} (h : InM L b m) : InM (x :: L) b m := by
 obtain ⟨i, h1, h2⟩ := h
 exact ⟨i + 1, h1, h2⟩
def UpM (L : List Bk) (b : Nat) (m : Mp) (F : Mp → List Bk) : Prop := ∃ i, gT L i = some (.mp m) ∧ m.b = b ∧ ∀ m', F m' = fD L i (.mp m')
theorem sO {b ck : Nat} {es : List MapEntry} {L : List Bk} : UpM (.mp ⟨b, es, ck⟩ :: L) b ⟨b, es, ck⟩ (fun m => .mp m :: L) := ⟨0, rfl, rfl, fun _ => rfl⟩
theorem tZ {b : Nat} {m : Mp} {x : Bk} {L : List Bk} {F : Mp → List Bk} (h : UpM L b m F) : UpM (x :: L) b m (fun m => x :: F m) := by
 obtain ⟨i, h1, h2, h3⟩ := h
 exact ⟨i + 1, h1, h2, fun m' => by show x :: F m' = x :: fD L i (.mp m'); rw [h3]⟩
theorem tL {t kt et : TypeId} {dk : TypeDesc} {b ck : Nat} {es : List MapEntry} {k v : Value} (ht : P.underlying t = some (.map kt et)) (hk : P.underlying kt = some dk) (a : IsKey dk k)
 (hb : w.heap[b]? = some (.map es.toArray ck)) (hf : Instr.findNow dk k es 0 = some none) : (Instr.mapUpdate t (.map (some b)) k v).run P w = .ok () { w with heap := w.heap.setIfInBounds b (.map (es ++ [MapEntry.mk k v ck]).toArray (ck + 1)) } := by
 simp [Instr.mapUpdate, run_underlying ht, MapKept.run_getObj_map hb, MapKept.run_checkKey hk a, MapKept.run_findKey hk hf, MapKept.run_setObj_map _ hb]
theorem CN {t kt et : TypeId} {dk : TypeDesc} {m k x : Operand} {b ck : Nat} {es : List MapEntry} {kv v : Value} {F : Mp → List Bk} {op : Op} (f : op = .insert t m k x ∨ op = .mapUpdate t m k x) (hw : gQ ops l ⟨none, op, ty, pos, af, gd⟩ = some true) (hm : ev l m = some (.map (some b))) (hk : ev l k = some kv) (j : ev l x = some v)
 (ht : P.underlying t = some (.map kt et)) (g : P.underlying kt = some dk) (d : IsKey dk kv) (hu : UpM L b ⟨b, es, ck⟩ F) (hf : Instr.findNow dk kv es 0 = some none)
 (h : G P X ops Q rest μ l (F ⟨b, es ++ [MapEntry.mk kv v ck], ck + 1⟩)) : G P X ops Q (⟨none, op, ty, pos, af, gd⟩ :: rest) μ l L :=
 xS hw fun a w hs => by
  obtain ⟨i, hi, _, o⟩ := hu
  have hb : w.heap[b]? = some (.map es.toArray ck) := hs.own _ (eS hi)
  have e1 := hs.eval hm; have e2 := hs.eval hk; have e3 := hs.eval j
  have e : (execOp a.eval ⟨none, op, ty, pos, af, gd⟩).run P w = .ok .skip { w with heap := w.heap.setIfInBounds b (.map (es ++ [MapEntry.mk kv v ck]).toArray (ck + 1)) } := by
   generalize a.eval = ρ at e1 e2 e3
   rcases f with rfl | rfl <;> simp [execOp, e1, e2, e3, tL ht g d hb hf]
  unfold Oper.wp
  rw [e, Oper.upon_skip]
  have hlt := (Array.getElem?_eq_some_iff.1 hb).1
  have := hs.upd hi (y := .mp ⟨b, es ++ [MapEntry.mk kv v ck], ck + 1⟩) (w' := { w with heap := w.heap.setIfInBounds b (.map (es ++ [MapEntry.mk kv v ck]).toArray (ck + 1)) }) rfl rfl rfl (by simp)
   (fun c hc hne => by
     have : b ≠ c := fun e => hne (by rw [e]; rfl)
     simp [cZ this])
   (by show (w.heap.setIfInBounds b _)[b]? = _; rw [cJ hlt])
   (fun c hc => .inl hc)
  rw [o] at h
  exact h _ _ this
def pH (P : Program) (et : TypeId) : Option (Option (Nat × Value)) → Option (Value × Bool)
 | some (some (_, v)) => some (v, true)
 | some none => match nE P et with
   | some z => some (z, false)
   | none => none
 | none => none
theorem HL {t kt et : TypeId} {dk : TypeDesc} {b ck : Nat} {es : List MapEntry} {k v : Value} {ok c : Bool} (ht : P.underlying t = some (.map kt et)) (hk : P.underlying kt = some dk) (a : IsKey dk k)
 (hb : w.heap[b]? = some (.map es.toArray ck)) (hf : pH P et (Instr.findNow dk k es 0) = some (v, ok)) : (Instr.lookup t (.map (some b)) k c).run P w = .ok (if c then .tuple #[v, .bool ok] else v) w := by
 cases hr : Instr.findNow dk k es 0 with
 | none => simp [hr, pH] at hf
 | some r =>
   cases r with
   | none =>
     simp only [hr, pH] at hf
     split at hf
     ·rename_i z d
      simp only [aM, cM] at hf
      obtain ⟨rfl, rfl⟩ := hf
      simp [Instr.lookup, run_underlying ht, MapKept.run_getObj_map hb, MapKept.run_checkKey hk a, MapKept.run_findKey hk hr, mZ d]
      try (cases c <;> rfl)
     ·cases hf
   | some r =>
     obtain ⟨j, u⟩ := r
     simp only [hr, pH, aM, cM] at hf
     obtain ⟨rfl, rfl⟩ := hf
     simp [Instr.lookup, run_underlying ht, MapKept.run_getObj_map hb, MapKept.run_checkKey hk a, MapKept.run_findKey hk hr]
     try (cases c <;> rfl)
theorem nM {t kt et : TypeId} {dk : TypeDesc} {m k : Operand} {b ck : Nat} {es : List MapEntry} {kv v : Value} {ok : Bool} (hm : ev l m = some (.map (some b))) (hk : ev l k = some kv) (ht : P.underlying t = some (.map kt et)) (e : P.underlying kt = some dk) (d : IsKey dk kv)
 (hu : InM L b ⟨b, es, ck⟩) (hf : pH P et (Instr.findNow dk kv es 0) = some (v, ok)) : Val P μ l L ⟨ds, .lookup t m k false, ty, pos, af, gd⟩ v := fun a w hs => by
 obtain ⟨i, hi, _⟩ := hu
 have hb : w.heap[b]? = some (.map es.toArray ck) := hs.own _ (eS hi)
 have e1 := hs.eval hm; have e2 := hs.eval hk
 generalize a.eval = ρ at e1 e2
 simp [execOp, e1, e2, HL (c := false) ht e d hb hf]
end
end
section
open Go.RowKit
def kI : List Bk → List Nat
 | [] => []
 | x :: r => match Bk.id x with
   | some b => b :: kI r
   | none => kI r
theorem qL {L : List Bk} {b : Nat} : b ∈ kI L ↔ ∃ x ∈ L, Bk.id x = some b := by
 induction L with
 | nil => simp [kI]
 | cons y r ih =>
   unfold kI
   cases h : Bk.id y with
   | none => simp [ih, h]
   | some c =>
     simp only [aW, ih, exists_eq_or_imp, h, aM]
     constructor
     ·rintro (rfl | h) <;> simp [*]
     ·rintro (rfl | h) <;> simp [*]
structure Own (μ : Mem) (L : List Bk) (w : World) : Prop where
 own : ∀ x ∈ L, Bk.at x w
 priv : ∀ x ∈ L, ∀ b, Bk.id x = some b → μ b = none
 diff : L.Pairwise (fun x y => ∀ b, Bk.id x = some b → Bk.id y ≠ some b)
structure aPj (M : List Nat) (w w' : World) (μ μ' : Mem) : Prop where
 os : w'.os = w.os
 tape : w'.tape = w.tape
 output : w'.output = w.output
 size : w.heap.size ≤ w'.heap.size
 block : ∀ b, b < w.heap.size → b ∉ M → w'.heap[b]? = w.heap[b]?
 le : MLe μ μ'
 ok : MOk μ' w'
 fresh : ∀ b, b < w.heap.size → b ∉ M → μ b = none → μ' b = none
def lT (M : List Nat) (w w' : World) (μ : Mem) (L' : List Bk) (μ' : Mem) : Prop :=
 aPj M w w' μ μ' ∧ Own μ' L' w' ∧ ∀ x ∈ L', ∀ b, Bk.id x = some b → b ∈ M ∨ w.heap.size ≤ b
section
variable {P : Program} {X : Ctx} {ops : Array Oper} {Q : Exit → Act → World → Prop} {rest : List Oper} {μ : Mem} {l : bP} {L : List Bk} {a : Act} {w : World} {o : Oper} {d : Nat}
theorem St.aNk {LB Lr L' : List Bk} {w' : World} {μ' : Mem} (h : St X μ l (LB ++ Lr) a w) (hb : lT (kI LB) w w' μ L' μ') : St X μ' l (L' ++ Lr) a w' := by
 obtain ⟨hg, ho, hn⟩ := hb
 have hd := List.pairwise_append.1 h.diff
 have hlt : ∀ x ∈ LB ++ Lr, ∀ b, Bk.id x = some b → b < w.heap.size := fun x c b hb => Bk.lt (h.own x c) hb
 have e : ∀ b ∈ kI LB, b ∈ X.M ∨ X.w0.heap.size ≤ b := fun b hb => by
  obtain ⟨x, c, d⟩ := qL.1 hb
  exact h.new x (eC _ c) b d
 have hr : ∀ x ∈ Lr, ∀ b, Bk.id x = some b → b ∉ kI LB := fun x c b d hb => by
  obtain ⟨y, j, f⟩ := qL.1 hb
  exact hd.2.2 y j x c b f d
 refine ⟨h.size, h.defers.mono hg.le, h.slots, ⟨hg.os.trans h.gO.os, hg.tape.trans h.gO.tape, hg.output.trans h.gO.output, dO h.gO.size hg.size, fun b hb i => ?_⟩, hg.ok, h.from0.trans hg.le, fun b hb i h0 => ?_, fun x c => ?_, fun x c b d => ?_, fun x c b d => ?_, ?_⟩
 ·have : b ∉ kI LB := fun g => by
   rcases e b g with h1 | h1
   ·exact i h1
   ·omega
  rw [hg.block b (fB hb h.gO.size) this]
  exact h.gO.block b hb i
 ·have : b ∉ kI LB := fun g => by
   rcases e b g with h1 | h1
   ·exact i h1
   ·omega
  exact hg.fresh b (fB hb h.gO.size) this (h.fresh b hb i h0)
 ·rcases List.mem_append.1 c with c | c
  ·exact ho.own x c
  ·exact Bk.gO (h.own x (fR _ c)) fun b hb => hg.block b (hlt x (fR _ c) b hb) (hr x c b hb)
 ·rcases List.mem_append.1 c with c | c
  ·exact ho.priv x c b d
  ·exact hg.fresh b (hlt x (fR _ c) b d) (hr x c b d) (h.priv x (fR _ c) b d)
 ·rcases List.mem_append.1 c with c | c
  ·rcases hn x c b d with h1 | h1
   ·exact e b h1
   ·exact .inr (dO h.gO.size h1)
  ·exact h.new x (fR _ c) b d
 ·refine List.pairwise_append.2 ⟨ho.diff, hd.2.1, fun x c y j b d f => ?_⟩
  rcases hn x c b d with h1 | h1
  ·exact hr y j b f h1
  ·have := hlt y (fR _ j) b f
   omega
def splitB : Nat → List Bk → Option (List Bk × List Bk)
 | 0, L => some ([], L)
 | _ + 1, [] => none
 | k + 1, x :: r => match splitB k r with
   | some (a, b) => some (x :: a, b)
   | none => none
theorem pD : ∀ {k : Nat} {L a b : List Bk}, splitB k L = some (a, b) → L = a ++ b
 | 0, L, a, b, h => by simp [splitB] at h; obtain ⟨rfl, rfl⟩ := h; rfl
 | k + 1, [], a, b, h => by simp [splitB] at h
 | k + 1, x :: r, a, b, h => by
   unfold splitB at h
   split at h
   ·rename_i a' b' he
    cases h
    rw [pD he]
    rfl
   ·cases h
theorem mG {f : FuncId} {vs : Array Value} {ι : Type} {Ls : ι → List Bk} {Post : Mem → Value → ι → Prop} {LB Lr : List Bk} (k : Nat) (hd : o.dst = some d) (hn : Nat.blt d X.n = true) (hw : gQ ops l o = some true) (hr : Ent P μ l L o f vs)
 (hL : splitB k L = some (LB, Lr))
 (hc : ∀ w, MOk μ w → Own μ LB w → Calls P f vs w fun e w' => ∃ v μ' i, e = .returned v ∧ lT (kI LB) w w' μ (Ls i) μ' ∧ Post μ' v i)
 (h : ∀ v μ' i, MLe μ μ' → Post μ' v i → G P X ops Q rest μ' ((d, v) :: l) (Ls i ++ Lr)) : G P X ops Q (o :: rest) μ l L :=
 xS hw fun a w hs => by
  unfold Oper.wp
  rw [hr a w hs.rd, Oper.upon_enter]
  have he := pD hL
  subst he
  have g : Own μ LB w := ⟨fun x b => hs.own x (eC _ b), fun x b => hs.priv x (eC _ b), (List.pairwise_append.1 hs.diff).1⟩
  refine (hc w hs.mem g).mono fun e w' he => ?_
  obtain ⟨v, μ', i, rfl, hb, c⟩ := he
  show wpList P ops Q rest (a.put o.dst v) w'
  rw [hd]
  exact h v μ' i hb.1.le c _ _ ((hs.aNk hb).put hn _)
theorem cC {f : FuncId} {fn : Func} {c : Code} {args : List Value} {n : Nat} {R : Ending → World → Prop} {LB : List Bk} (hf : P.funcs[f]? = some fn) (hb : fn.body = some c) (hn : fn.ntmps = n) (g : args.length ≤ n)
 (hμ : MOk μ w) (d : Own μ LB w) (h : GC P ⟨w, μ, kI LB, n⟩ c (bodyPost P fn R) μ (idx 0 args) LB) : Calls P f args.toArray w R := by
 refine calls_of_wp hf hb (h _ _ ⟨?_, Marks.nil, fun t v hv => ?_, UR.refl _ _, hμ, MLe.refl _, fun _ _ _ h => h, d.own, d.priv, fun x e b a => .inl (qL.2 ⟨x, e, a⟩), d.diff⟩)
 ·simp [hn]; omega
 ·obtain ⟨_, h2⟩ := xG _ _ _ _ hv
  have hlt : t < args.length := by have := (List.getElem?_eq_some_iff.1 h2).1; simpa using this
  simp only [dI] at h2
  rw [jJ (by simpa using hlt)]
  simpa using h2
theorem St.IZ {n : Nat} {μ0 : Mem} {w' : World} {M : List Nat} {L' Lr : List Bk} (hs : St ⟨w, μ0, M, n⟩ μ l (L' ++ Lr) a w') : ∃ μ', lT M w w' μ0 L' μ' ∧ MLe μ μ' := by
 have hd := List.pairwise_append.1 hs.diff
 refine ⟨fun b => if b < w.heap.size then μ b else if b ∈ kI L' then none else w'.heap[b]?, ⟨⟨hs.gO.os, hs.gO.tape, hs.gO.output, hs.gO.size, hs.gO.block, fun b o e => ?_, fun b o e => ?_, fun b hb g h0 => ?_⟩, ⟨fun x f => hs.own x (eC _ f), fun x f b c => ?_, hd.1⟩, fun x f => hs.new x (eC _ f)⟩, fun b o e => ?_⟩
 ·have e2 := hs.from0 b o e
  by_cases hb : b < w.heap.size
  ·simp [hb, e2]
  ·have : b ∉ kI L' := fun d => by
    obtain ⟨x, f, c⟩ := qL.1 d
    rw [hs.priv x (eC _ f) b c] at e2
    cases e2
   simp [hb, this]
   exact hs.mem b o e2
 ·by_cases hb : b < w.heap.size
  ·simp [hb] at e; exact hs.mem b o e
  ·by_cases d : b ∈ kI L'
   ·simp [hb, d] at e
   ·simp [hb, d] at e; exact e
 ·simp [hb]; exact hs.fresh b hb g h0
 ·have := hs.priv x (eC _ f) b c
  by_cases hb : b < w.heap.size
  ·simp [hb, this]
  ·simp [hb, qL.2 ⟨x, f, c⟩]
 ·by_cases hb : b < w.heap.size
  ·simp [hb, e]
  ·have : b ∉ kI L' := fun d => by
    obtain ⟨x, f, c⟩ := qL.1 d
    rw [hs.priv x (eC _ f) b c] at e
    cases e
   simp [hb, this]
   exact hs.mem b o e
theorem GL {fn : Func} {n : Nat} {r : ResultVar} {v : Value} {μ0 : Mem} {M : List Nat} {ι : Type} {Ls : ι → List Bk} {Post : Mem → Value → ι → Prop} {L' Lr : List Bk} (k : Nat) (i : ι) (d : ∀ D, M.count D ≤ 1) (hr : fn.results = #[r]) (h : RV P μ l L r v) (hL : splitB k L = some (L', Lr)) (b : Ls i = L')
 (c : ∀ μ', MLe μ μ' → Post μ' v i) :
 GQ ⟨w, μ0, M, n⟩ (bodyPost P fn (fun e w' => ∃ v μ' i, e = .returned v ∧ lT M w w' μ0 (Ls i) μ' ∧ Post μ' v i)) .ret μ l L := fun a w' hs => by
 have he := pD hL
 subst he
 obtain ⟨μ', hb, hle⟩ := hs.IZ
 subst b
 exact ⟨hs.defers.none d, v, results1 hr h hs.rd, v, μ', i, rfl, hb, c μ' hle⟩
theorem aEf {fn : Func} {n : Nat} {μ0 : Mem} {M : List Nat} {ι : Type} {Ls : ι → List Bk} {Post : Mem → Value → ι → Prop} {L' Lr : List Bk} {e : Exit} (k : Nat) (i : ι) (he : e = .ret ∨ e = .normal) (f : ∀ D, M.count D ≤ 1) (hr : fn.results = #[]) (hL : splitB k L = some (L', Lr)) (c : Ls i = L')
 (d : ∀ μ' v, MLe μ μ' → Post μ' v i) :
 GQ ⟨w, μ0, M, n⟩ (bodyPost P fn (fun e w' => ∃ v μ' i, e = .returned v ∧ lT M w w' μ0 (Ls i) μ' ∧ Post μ' v i)) e μ l L := fun a w' hs => by
 have b := pD hL
 subst b
 obtain ⟨μ', hb, hle⟩ := hs.IZ
 subst c
 have : ∃ v, (results fn a.tmps).run P w' = .ok v w' := by simp [results, hr]
 obtain ⟨v, hv⟩ := this
 rcases he with rfl | rfl
 all_goals exact ⟨hs.defers.none f, v, hv, v, μ', i, rfl, hb, d μ' v hle⟩
end
end
section
open Go.RowKit
theorem dJ : ∀ {L : List Bk}, L.Pairwise (fun x y => ∀ b, Bk.id x = some b → Bk.id y ≠ some b) → ∀ D, (kI L).count D ≤ 1
 | [], _, D => by simp [kI]
 | x :: r, h, D => by
   obtain ⟨h1, h2⟩ := List.pairwise_cons.1 h
   have ih := dJ h2 D
   unfold kI
   cases e : Bk.id x with
   | none => exact ih
   | some c =>
     dsimp only
     rw [List.count_cons]
     by_cases hc : c = D
     ·subst hc
      have : (kI r).count c = 0 := List.count_eq_zero.2 fun hm => by
       obtain ⟨y, d, a⟩ := qL.1 hm
       exact h1 y d c e a
      simp [this]
     ·simp [hc]; exact ih
end
section
open Go.RowKit
inductive jQ : Bk → Bk → Prop
 | refl (x : Bk) : jQ x x
 | cells {b : Nat} {t : TypeId} {sz : Nat} {cs cs' : bP} (h : uK cs' cs) : jQ (.inl ⟨b, t, sz, cs'⟩) (.inl ⟨b, t, sz, cs⟩)
inductive Sel : List Bk → List Bk → Prop
 | nil (L : List Bk) : Sel [] L
 | cons {x y : Bk} {r a b : List Bk} (h : jQ x y) (hr : Sel r (a ++ b)) : Sel (x :: r) (a ++ y :: b)
theorem jQ.id {x y : Bk} (h : jQ x y) : Bk.id x = Bk.id y := by cases h <;> rfl
theorem jQ.at {x y : Bk} {w : World} (h : jQ x y) (a : Bk.at y w) : Bk.at x w := by
 cases h with
 | refl => exact a
 | cells h =>
   obtain ⟨arr, h1, h2, h3⟩ := a
   exact ⟨arr, h1, h2, fun k v hk => h3 k v (h k v hk)⟩
theorem GJ {L' L : List Bk} (h : Sel L' L) : ∀ x ∈ L', ∃ y ∈ L, jQ x y := by
 induction h with
 | nil L => intro x c; cases c
 | cons h hr ih =>
   intro z b
   rcases aW.1 b with rfl | b
   ·exact ⟨_, by simp, h⟩
   ·obtain ⟨y, a, hle⟩ := ih z b
    refine ⟨y, ?_, hle⟩
    rcases List.mem_append.1 a with a | a <;> simp [a]
def Df (x y : Bk) : Prop := ∀ b, Bk.id x = some b → Bk.id y ≠ some b
theorem aD5 {L' L : List Bk} (h : Sel L' L) : L.Pairwise Df → L'.Pairwise Df := by
 induction h with
 | nil L => intro _; exact List.Pairwise.nil
 | @cons x y r a b h hr ih =>
   intro hd
   have g : (y :: (a ++ b)).Pairwise Df := (gH.pairwise_iff (fun {_ _} f b hb i => f b i hb)).1 hd
   obtain ⟨h1, h2⟩ := List.pairwise_cons.1 g
   refine List.pairwise_cons.2 ⟨fun z j c hc d => ?_, ih h2⟩
   obtain ⟨y2, e, hle⟩ := GJ hr z j
   exact h1 y2 e c (by rw [← h.id]; exact hc) (by rw [← hle.id]; exact d)
section
variable {P : Program} {X : Ctx} {Q : Exit → Act → World → Prop} {μ : Mem} {l : bP} {L : List Bk} {a : Act} {w : World}
theorem St.sel {l' : bP} {L' : List Bk} (h : St X μ l L a w) (hl : uK l' l) (hL : Sel L' L) : St X μ l' L' a w :=
 ⟨h.size, h.defers, fun t v hv => h.slots t v (hl t v hv), h.gO, h.mem, h.from0, h.fresh, fun x d => let ⟨y, c, hle⟩ := GJ hL x d; hle.at (h.own y c), fun x d b hb => let ⟨y, c, hle⟩ := GJ hL x d; h.priv y c b (by rw [← hle.id]; exact hb), fun x d b hb => let ⟨y, c, hle⟩ := GJ hL x d; h.new y c b (by rw [← hle.id]; exact hb), aD5 hL h.diff⟩
theorem eX {ι : Type} {J : ι → Prop} {μs : ι → Mem} {ls : ι → bP} {Ls : ι → List Bk} (j : ι) (hJ : J j) (hμ : μs j = μ) (hl : uK (ls j) l) (hL : Sel (Ls j) L) :
 GQ X (Exit.then (aKi X J μs ls Ls) Q) .normal μ l L := fun a w hs => ⟨j, hJ, by rw [hμ]; exact hs.sel hl hL⟩
theorem cP {ι : Type} {J : ι → Prop} {m : ι → Nat} {μs : ι → Mem} {ls : ι → bP} {Ls : ι → List Bk} {i : ι} (j : ι) (hJ : J j) (hm : m j < m i) (hμ : μs j = μ) (hl : uK (ls j) l) (hL : Sel (Ls j) L) :
 GQ X (Exit.then (aHf X J m μs ls Ls i) Q) .normal μ l L := fun a w hs => ⟨j, hJ, hm, by rw [hμ]; exact hs.sel hl hL⟩
theorem XF {c : Code} {l' : bP} {L' : List Bk} (hl : uK l' l) (hL : Sel L' L) (h : GC P X c Q μ l' L') : GC P X c Q μ l L := fun a w hs => h a w (hs.sel hl hL)
theorem IX {e : Exit} {l' : bP} {L' : List Bk} (hl : uK l' l) (hL : Sel L' L) (h : GQ X Q e μ l' L') : GQ X Q e μ l L := fun a w hs => h a w (hs.sel hl hL)
theorem eV {x y : Bk} {r L : List Bk} (h : jQ x y) (hr : Sel r (L)) : Sel (x :: r) (y :: L) := Sel.cons (a := []) h hr
theorem dR {x y : Bk} {y0 : Bk} {r L : List Bk} (h : jQ x y) (hr : Sel r (y0 :: L)) : Sel (x :: r) (y0 :: y :: L) := Sel.cons (a := [y0]) h hr
theorem rV {x y : Bk} {y0 y1 : Bk} {r L : List Bk} (h : jQ x y) (hr : Sel r (y0 :: y1 :: L)) : Sel (x :: r) (y0 :: y1 :: y :: L) := Sel.cons (a := [y0, y1]) h hr
theorem LP {x y : Bk} {y0 y1 y2 : Bk} {r L : List Bk} (h : jQ x y) (hr : Sel r (y0 :: y1 :: y2 :: L)) : Sel (x :: r) (y0 :: y1 :: y2 :: y :: L) := Sel.cons (a := [y0, y1, y2]) h hr
theorem aKo {x y : Bk} {y0 y1 y2 y3 : Bk} {r L : List Bk} (h : jQ x y) (hr : Sel r (y0 :: y1 :: y2 :: y3 :: L)) : Sel (x :: r) (y0 :: y1 :: y2 :: y3 :: y :: L) := Sel.cons (a := [y0, y1, y2, y3]) h hr
theorem aOb {x y : Bk} {y0 y1 y2 y3 y4 y5 : Bk} {r L : List Bk} (h : jQ x y) (hr : Sel r (y0 :: y1 :: y2 :: y3 :: y4 :: y5 :: L)) : Sel (x :: r) (y0 :: y1 :: y2 :: y3 :: y4 :: y5 :: y :: L) := Sel.cons (a := [y0, y1, y2, y3, y4, y5]) h hr
theorem NX : ∀ {L : List Bk} {i : Nat} {x : Bk}, gT L i = some x → fD L i x = L
 | [], _, _, h => by simp [gT] at h
 | y :: r, 0, x, h => by simp [gT] at h; simp [fD, h]
 | y :: r, i + 1, x, h => by simp only [fD]; rw [NX (i := i) (by simpa [gT] using h)]
theorem St.aKt {i : Nat} {v : Value} {e s n n' : Nat} {xs xs' : List Value} (h : St X μ l L a w) (hi : gT L i = some (.inr ⟨v, e, s, n, xs⟩)) (hn : n = n') (b : xs = xs') : St X μ l (fD L i (.inr ⟨v, e, s, n', xs'⟩)) a w := by
 subst hn b
 rw [NX hi]
 exact h
theorem gC {ex : Exit} {v : Value} {e s n n' : Nat} {xs xs' : List Value} (i : Nat) (hi : gT L i = some (.inr ⟨v, e, s, n, xs⟩)) (hn : n = n') (b : xs = xs') (h : GQ X Q ex μ l (fD L i (.inr ⟨v, e, s, n', xs'⟩))) : GQ X Q ex μ l L := fun a w hs => h a w (hs.aKt hi hn b)
theorem nH {c : Code} (e s : Nat) (h : GC P X c Q μ l (.inr ⟨.slice none 0 0, e, s, 0, []⟩ :: L)) : GC P X c Q μ l L := fun a w hs => h a w (hs.vN e s)
def GCs (P : Program) (X : Ctx) (c : Code) (Q : Exit → Act → World → Prop) (μ : Mem) (l : bP) (L : List Bk) : Prop := GC P X c Q μ l L
theorem dF {c : Code} (h : GCs P X c Q μ l L) : GC P X c Q μ l L := h
theorem gcs {c : Code} (h : GC P X c Q μ l L) : GCs P X c Q μ l L := h
end
end
section
open Go.RowKit
section
variable {P : Program} {X : Ctx} {ops : Array Oper} {Q : Exit → Act → World → Prop} {rest : List Oper} {μ μr : Mem} {l : bP} {L Lr : List Bk} {a : Act} {w : World} {o : Oper} {d fuel i : Nat} {listed : Array Bool}
variable {ty : TypeId} {pos : String} {af : Array Edge} {gd : Option (Nat × Bool)} {ds : Option Nat}
theorem Y0 {b off : Nat} {vs : List Value} {L' : List Bk} (hg : G P X ops Q rest μ l L')
 (hd : ZK ops l o = true := by exact rfl)
 (h : stop P l o.op = some (b, off, vs) := by exact rfl)
 (h1 : QB vs := by ((repeat first | with_reducible exact fS | ((with_reducible apply eY); exact rfl)); done))
 (hu : UpB L b off vs L' := by ((repeat first | with_reducible apply aDr | with_reducible apply aDq); exact rfl; (repeat first | with_reducible exact WG | with_reducible apply OP); done)) :
 G P X ops Q (o :: rest) μ l L := aO8 (hd := hd) (h := h) (h1 := h1) (hu := hu) (hg := hg)
theorem J1 {ι : Type} {J : ι → Prop} {μs : ι → Mem} {ls : ι → bP} {Ls : ι → List Bk} (j : ι) (hJ : J j)
 (hμ : μs j = μ := by exact rfl)
 (hl : uK (ls j) l := by ((repeat first | exact fM | refine eJ rfl ?_); done))
 (hL : Sel (Ls j) L := by ((repeat first | exact Sel.nil _ | (refine eV ?_ ?_; focus (first | exact jQ.refl _ | (refine jQ.cells ?_; repeat first | exact fM | refine eJ rfl ?_))) | (refine dR ?_ ?_; focus (first | exact jQ.refl _ | (refine jQ.cells ?_; repeat first | exact fM | refine eJ rfl ?_))) | (refine rV ?_ ?_; focus (first | exact jQ.refl _ | (refine jQ.cells ?_; repeat first | exact fM | refine eJ rfl ?_)))); done)) :
 GQ X (Exit.then (aKi X J μs ls Ls) Q) .normal μ l L := eX (j := j) (hJ := hJ) (hμ := hμ) (hl := hl) (hL := hL)
theorem J2 {ι : Type} {J : ι → Prop} {m : ι → Nat} {μs : ι → Mem} {ls : ι → bP} {Ls : ι → List Bk} {i : ι} (j : ι) (hJ : J j) (hm : m j < m i)
 (hμ : μs j = μ := by exact rfl)
 (hl : uK (ls j) l := by ((repeat first | exact fM | refine eJ rfl ?_); done))
 (hL : Sel (Ls j) L := by ((repeat first | exact Sel.nil _ | (refine eV ?_ ?_; focus (first | exact jQ.refl _ | (refine jQ.cells ?_; repeat first | exact fM | refine eJ rfl ?_))) | (refine dR ?_ ?_; focus (exact jQ.refl _)) | (refine rV ?_ ?_; focus (exact jQ.refl _))); done)) :
 GQ X (Exit.then (aHf X J m μs ls Ls i) Q) .normal μ l L := cP (j := j) (hJ := hJ) (hm := hm) (hμ := hμ) (hl := hl) (hL := hL)
theorem J4 {ι : Type} {J : ι → Prop} {m : ι → Nat} {μs : ι → Mem} {ls : ι → bP} {Ls : ι → List Bk} {i : ι} (j : ι) (hJ : J j) (hm : m j < m i)
 (hμ : μs j = μ := by exact rfl)
 (hl : uK (ls j) l := by ((repeat first | exact fM | refine eJ rfl ?_); done))
 (hL : (Ls j).Sublist L := by ((repeat exact bE _); done)) :
 GQ X (Exit.then (aHf X J m μs ls Ls i) Q) .normal μ l L := GR (j := j) (hJ := hJ) (hm := hm) (hμ := hμ) (hl := hl) (hL := hL)
theorem J5 {l' : bP} {L' : List Bk} (h : St X μ l L a w)
 (hl : uK l' l := by ((repeat first | exact fM | refine eJ rfl ?_); done))
 (hL : Sel L' L := by ((repeat first | exact Sel.nil _ | (refine eV ?_ ?_; focus (first | exact jQ.refl _ | (refine jQ.cells ?_; repeat first | exact fM | refine eJ rfl ?_))) | (refine dR ?_ ?_; focus (exact jQ.refl _))); done)) :
 St X μ l' L' a w := St.sel (h := h) (hl := hl) (hL := hL)
theorem J6 {X : Ctx} {μ : Mem} {l l' : bP} {L L' : List Bk} {a : Act} {w : World} (h : St X μ l L a w)
 (hl : uK l' l := by ((repeat first | exact fM | refine eJ rfl ?_); done))
 (hL : L'.Sublist L := by ((repeat exact bE _); done)) :
 St X μ l' L' a w := St.sub (h := h) (hl := hl) (hL := hL)
theorem D1 {v : Value} (i : Nat) (hg : GA P X μr Lr ops Q fuel (listed.setIfInBounds i true) μ ((d, v) :: l) L)
 (h : GM P X.n ops l i = some (d, v) := by exact rfl)
 (hk : vX ops listed i = true := by kernel_rfl)
 (hQ : ∀ c a w, Q (.panic c) (Act.put a (some d) v) w → Q (.panic c) a w := by exact fun _ _ _ h => h) :
 GA P X μr Lr ops Q (fuel + 1) listed μ l L := aO6 (i := i) (h := h) (hk := hk) (hQ := hQ) (hg := hg)
theorem D3  (i : Nat) (h : eN P X μr Lr ops Q fuel listed i μ l L)
 (hr : Region.ready .any ops listed = [i] := by kernel_rfl) :
 GA P X μr Lr ops Q (fuel + 1) listed μ l L := aJh (i := i) (hr := hr) (h := h)
theorem D5  (h : G P X ops (QA Q (fun a w => Sm μr Lr w ∧ wpAnyH P .any ops Q (Sm μr Lr) fuel (listed.setIfInBounds i true) a w)) [o] μ l L)
 (ho : uQ ops.toList i = some o := by exact rfl) :
 eN P X μr Lr ops Q fuel listed i μ l L := aMz (ho := ho) (h := h)
theorem D6 {i : Nat} (h : GA P X μr Lr ops Q fuel (listed.setIfInBounds i true) μ ((d, undef) :: l) L)
 (ho : uQ ops.toList i = some o := by exact rfl)
 (hd : o.dst = some d := by exact rfl)
 (hn : Nat.blt d X.n = true := by exact rfl)
 (hw : gQ ops l o = some false := by exact rfl) :
 eN P X μr Lr ops Q fuel listed i μ l L := aCr (ho := ho) (hd := hd) (hn := hn) (hw := hw) (h := h)
theorem D7 {t : Nat} {b : Bool} (i : Nat) (hg : PIf b (GA P X μr Lr ops Q fuel listed μ ((t, .bool true) :: l) L) (GA P X μr Lr ops Q fuel listed μ ((t, .bool false) :: l) L))
 (ho : uQ ops.toList i = some o := by exact rfl)
 (h : MR ops l o = some (t, b) := by exact rfl)
 (hb : KN b := by (fail_if_success (with_reducible show KN true)); (fail_if_success (with_reducible show KN false)); exact aOo _) :
 GA P X μr Lr ops Q fuel listed μ l L := aO7 (i := i) (ho := ho) (h := h) (hb := hb) (hg := hg)
theorem D8  (h : GQ X Q .normal μ l L)
 (hr : Region.ready .any ops listed = [] := by kernel_rfl) :
 GA P X μr Lr ops Q fuel listed μ l L := aJf (hr := hr) (h := h)
theorem D9  (h : GA P X μr Lr ops Q fuel listed μ l L)
 (hle : MLe μr μ := by first | exact MLe.refl _ | assumption | (focus (repeat (first | assumption | (apply MLe.trans; rotate_left; assumption)))); done)
 (hLr : Lr.Sublist L := by ((repeat first | exact bE _ | exact aQ | refine aC ?_ | refine dG ?_); done)) :
 G P X ops (QA Q (fun a w => Sm μr Lr w ∧ wpAnyH P .any ops Q (Sm μr Lr) fuel listed a w)) [] μ l L := aFw (hle := hle) (hLr := hLr) (h := h)
theorem EN {A : Prop} (h : A := by first | ((with_reducible apply aAp); kernel_rfl) | ((with_reducible apply aJ2); kernel_rfl; exact rfl) | ((with_reducible apply aJ1); kernel_rfl; exact rfl; exact rfl) | ((with_reducible apply aJ0); kernel_rfl; (iterate 3 exact rfl)) | ((with_reducible apply aJz); kernel_rfl; (iterate 4 exact rfl)) | ((with_reducible apply aJy); kernel_rfl; (iterate 5 exact rfl)) | ((with_reducible apply aGs); exact rfl; (assumption); exact rfl)) : A := h
theorem C1  {f : FuncId} {vs : Array Value} {v : Value} (hd : tD X.n ops l o = some d) (hr : Ent P μ l L o f vs) (hc : ∀ w μc, MOk μc w → LF μc μ L → zI P f vs w v) (h : G P X ops Q rest μ ((d, v) :: l) L) :
 G P X ops Q (o :: rest) μ l L := by
 obtain ⟨h1, h2, h3⟩ := mB hd
 exact MT (hd := h1) (hn := h2) (hw := h3) (hr := hr) (hc := hc) (h := h)
theorem K4 {f : FuncId} {vs : Array Value} {v : Value} (hc : ∀ w μc, MOk μc w → MLe μ μc → zI P f vs w v) (h : G P X ops Q rest μ ((d, v) :: l) L) (hd : tD X.n ops l o = some d := by exact rfl) (hr : Ent P μ l L o f vs := by exact EN) : G P X ops Q (o :: rest) μ l L := C1 hd hr (fun w μc hw a => hc w μc hw a.le) h
theorem F1 (f : FuncId) {qs : Array Operand} {ts : Array TypeId} {vs : Array Value} {v : Value} (hd : tD X.n ops l ⟨ds, .call { callee := .value (.func f), args := qs, argTypes := ts }, ty, pos, af, gd⟩ = some d) (hr : Ent P μ l L ⟨ds, .call { callee := .value (.func f), args := qs, argTypes := ts }, ty, pos, af, gd⟩ f vs) (hc : ∀ w μc, MOk μc w → LF μc μ L → zI P f vs w v) (h : G P X ops Q rest μ ((d, v) :: l) L) :
 G P X ops Q (⟨ds, .call { callee := .value (.func f), args := qs, argTypes := ts }, ty, pos, af, gd⟩ :: rest) μ l L := by
 obtain ⟨h1, h2, h3⟩ := mB hd
 exact MT (hd := h1) (hn := h2) (hw := h3) (hr := hr) (hc := hc) (h := h)
theorem K2 (f : FuncId) {qs : Array Operand} {ts : Array TypeId} {vs : Array Value} {v : Value} (hc : ∀ w μc, MOk μc w → MLe μ μc → zI P f vs w v) (h : G P X ops Q rest μ ((d, v) :: l) L) (hd : tD X.n ops l ⟨ds, .call { callee := .value (.func f), args := qs, argTypes := ts }, ty, pos, af, gd⟩ = some d := by exact rfl) (hr : Ent P μ l L ⟨ds, .call { callee := .value (.func f), args := qs, argTypes := ts }, ty, pos, af, gd⟩ f vs := by exact EN) : G P X ops Q (⟨ds, .call { callee := .value (.func f), args := qs, argTypes := ts }, ty, pos, af, gd⟩ :: rest) μ l L := F1 f hd hr (fun w μc hw a => hc w μc hw a.le) h
theorem K3 (f : FuncId) {qs : Array Operand} {ts : Array TypeId} {vs : Array Value} {v : Value} (hc : ∀ w μc, MOk μc w → LF μc μ L → zI P f vs w v) (h : G P X ops Q rest μ ((d, v) :: l) L) (hd : tD X.n ops l ⟨ds, .call { callee := .value (.func f), args := qs, argTypes := ts }, ty, pos, af, gd⟩ = some d := by exact rfl) (hr : Ent P μ l L ⟨ds, .call { callee := .value (.func f), args := qs, argTypes := ts }, ty, pos, af, gd⟩ f vs := by exact EN) : G P X ops Q (⟨ds, .call { callee := .value (.func f), args := qs, argTypes := ts }, ty, pos, af, gd⟩ :: rest) μ l L := F1 f hd hr hc h
theorem C2  {f : FuncId} {vs : Array Value} {Post : Mem → Value → Prop} (hd : tD X.n ops l o = some d) (hr : Ent P μ l L o f vs) (hc : ∀ w, MOk μ w → Calls P f vs w fun e w' => ∃ v μ', e = .returned v ∧ tB w w' μ μ' ∧ Post μ' v) (h : ∀ v μ', MLe μ μ' → Post μ' v → G P X ops Q rest μ' ((d, v) :: l) L) :
 G P X ops Q (o :: rest) μ l L := by
 obtain ⟨h1, h2, h3⟩ := mB hd
 exact bK (hd := h1) (hn := h2) (hw := h3) (hr := hr) (hc := hc) (h := h)
theorem F2 (f : FuncId) {qs : Array Operand} {ts : Array TypeId} {vs : Array Value} {Post : Mem → Value → Prop} (hd : tD X.n ops l ⟨ds, .call { callee := .value (.func f), args := qs, argTypes := ts }, ty, pos, af, gd⟩ = some d) (hr : Ent P μ l L ⟨ds, .call { callee := .value (.func f), args := qs, argTypes := ts }, ty, pos, af, gd⟩ f vs) (hc : ∀ w, MOk μ w → Calls P f vs w fun e w' => ∃ v μ', e = .returned v ∧ tB w w' μ μ' ∧ Post μ' v) (h : ∀ v μ', MLe μ μ' → Post μ' v → G P X ops Q rest μ' ((d, v) :: l) L) :
 G P X ops Q (⟨ds, .call { callee := .value (.func f), args := qs, argTypes := ts }, ty, pos, af, gd⟩ :: rest) μ l L := by
 obtain ⟨h1, h2, h3⟩ := mB hd
 exact bK (hd := h1) (hn := h2) (hw := h3) (hr := hr) (hc := hc) (h := h)
theorem C3  {f : FuncId} {vs : Array Value} {e s n : Nat} {xs : List Value} (hd : tD X.n ops l o = some d) (hr : Ent P μ l L o f vs) (hc : ∀ w μc, MOk μc w → LF μc μ L → Calls P f vs w (pV w e s n xs)) (h : ∀ v, G P X ops Q rest μ ((d, v) :: l) (.inr ⟨v, e, s, n, xs⟩ :: L)) :
 G P X ops Q (o :: rest) μ l L := by
 obtain ⟨h1, h2, h3⟩ := mB hd
 exact FA (hd := h1) (hn := h2) (hw := h3) (hr := hr) (hc := hc) (h := h)
theorem F3 (f : FuncId) {qs : Array Operand} {ts : Array TypeId} {vs : Array Value} {e s n : Nat} {xs : List Value} (hd : tD X.n ops l ⟨ds, .call { callee := .value (.func f), args := qs, argTypes := ts }, ty, pos, af, gd⟩ = some d) (hr : Ent P μ l L ⟨ds, .call { callee := .value (.func f), args := qs, argTypes := ts }, ty, pos, af, gd⟩ f vs) (hc : ∀ w μc, MOk μc w → LF μc μ L → Calls P f vs w (pV w e s n xs)) (h : ∀ v, G P X ops Q rest μ ((d, v) :: l) (.inr ⟨v, e, s, n, xs⟩ :: L)) :
 G P X ops Q (⟨ds, .call { callee := .value (.func f), args := qs, argTypes := ts }, ty, pos, af, gd⟩ :: rest) μ l L := by
 obtain ⟨h1, h2, h3⟩ := mB hd
 exact FA (hd := h1) (hn := h2) (hw := h3) (hr := hr) (hc := hc) (h := h)
def jW (A B : Prop) : Prop := A → B
def aHe (_ : Nat) (A B : Prop) : Prop := A → B
theorem QW {x y : Code}  :
 jW (GC P X x (Exit.then (y.wp P Q) Q) μ l L) (GC P X (.seq x y) Q μ l L) := fun h => aMx (h := h)
theorem EM {id : Nat} {ops : List Oper}  :
 jW (G P X ops.toArray Q ops μ l L) (GC P X (.region id ops.toArray false) Q μ l L) := fun h => aCq (h := h)
theorem ZE {ops : Array Oper}  :
 jW (GQ X Q .normal μ l L) (G P X ops Q [] μ l L) := fun h => aO9 (h := h)
theorem LR {y : Code}  :
 jW (GC P X y Q μ l L) (GQ X (Exit.then (y.wp P Q) Q) .normal μ l L) := fun h => aI8 (h := h)
theorem HK {id : Nat} {c : Code}  :
 jW (GC P X c (Exit.inBlock id Q) μ l L) (GC P X (.block id c) Q μ l L) := fun h => aFs (h := h)
theorem LU {id : Nat}  :
 jW (GQ X Q (.exit id) μ l L) (GC P X (.exit id) Q μ l L) := fun h => aJd (h := h)
theorem QX   :
 jW (GQ X Q .ret μ l L) (GC P X .ret Q μ l L) := fun h => aMy (h := h)
theorem LS   :
 jW (GQ X Q .normal μ l L) (GC P X .skip Q μ l L) := fun h => aJc (h := h)
theorem wR {K : Act → World → Prop} {i : Nat}  :
 jW (GQ X Q (.exit i) μ l L) (GQ X (Exit.then K Q) (.exit i) μ l L) := fun h => OX (h := h)
theorem zP {K : Act → World → Prop}  :
 jW (GQ X Q .ret μ l L) (GQ X (Exit.then K Q) .ret μ l L) := fun h => TM (h := h)
theorem wD {i : Nat}  :
 jW (GQ X Q .normal μ l L) (GQ X (Exit.inBlock i Q) (.exit i) μ l L) := fun h => KX (h := h)
theorem tJ {i : Nat}  :
 jW (GQ X Q .normal μ l L) (GQ X (Exit.inBlock i Q) .normal μ l L) := fun h => FX (h := h)
theorem wS {i : Nat}  :
 jW (GQ X Q .ret μ l L) (GQ X (Exit.inBlock i Q) .ret μ l L) := fun h => OY (h := h)
theorem ZB {p q : Prop}  :
 jW (p) (PIf true p q) := fun h => aKx (h := h)
theorem ZC {p q : Prop}  :
 jW (q) (PIf false p q) := fun h => aKy (h := h)
theorem LQ {b : Bool} {p q : Prop}  :
 jW (PIf b q p) (PIf (!b) p q) := fun h => aH9 (h := h)
theorem aKr {v : Value} (h : RQ P X.n ops l o = some (d, v)) :
 jW (G P X ops Q rest μ ((d, v) :: l) L) (G P X ops Q (o :: rest) μ l L) := fun hg => g_p (h := h) (hg := hg)
theorem ZD {c : Operand} {x y : Code} {b : Bool} (hc : ev l c = some (.bool b)) :
 jW (PIf b (GC P X x Q μ l L) (GC P X y Q μ l L)) (GC P X (.cond c x y) Q μ l L) := fun h => aO3 (hc := hc) (h := h)
theorem HI {c p q : Prop} {_ : Decidable c} (hc : c) :
 jW (p) (PIf (decide c) p q) := fun h => aEl (hc := hc) (h := h)
theorem HJ {c p q : Prop} {_ : Decidable c} (hc : ¬ c) :
 jW (q) (PIf (decide c) p q) := fun h => aEm (hc := hc) (h := h)
theorem QU {b : Bool} {p q : Prop} (hb : b = true) :
 jW (p) (PIf b p q) := fun h => aMa (hb := hb) (h := h)
theorem QV {b : Bool} {p q : Prop} (hb : b = false) :
 jW (q) (PIf b p q) := fun h => aMb (hb := hb) (h := h)
theorem aLr {r : Int} (h : YN X.n ops l o = some (d, r)) (hb : -9223372036854775808 ≤ r ∧ r ≤ 9223372036854775807) :
 jW (G P X ops Q rest μ ((d, .int .i64 r) :: l) L) (G P X ops Q (o :: rest) μ l L) := fun hg => aQk (h := h) (hb := hb) (hg := hg)
theorem aLo {t b off : Nat} {y : Blk} {v : Value} (hd : tD X.n ops l o = some d) (h : aIm l o.op = some (t, b, off)) (hb : InB L b y) (hv : ldv P t y.cs off = some v) :
 jW (G P X ops Q rest μ ((d, v) :: l) L) (G P X ops Q (o :: rest) μ l L) := fun hg => aQh (hd := hd) (h := h) (hb := hb) (hv := hv) (hg := hg)
theorem aKq {v : Value} (hd : tD X.n ops l o = some d) (hr : Val P μ l L o v) :
 jW (G P X ops Q rest μ ((d, v) :: l) L) (G P X ops Q (o :: rest) μ l L) := fun h => g_v (hd := hd) (hr := hr) (h := h)
theorem aLm {b off : Nat} {vs : List Value} {L' : List Bk} (hd : ZK ops l o = true) (h : stop P l o.op = some (b, off, vs)) (h1 : QB vs) (hu : UpB L b off vs L') :
 jW (G P X ops Q rest μ l L') (G P X ops Q (o :: rest) μ l L) := fun hg => aO8 (hd := hd) (h := h) (h1 := h1) (hu := hu) (hg := hg)
theorem DK {i j : Nat} (hij : Nat.beq j i = false) :
 jW (GQ X Q (.exit j) μ l L) (GQ X (Exit.inBlock i Q) (.exit j) μ l L) := fun h => IY (hij := hij) (h := h)
theorem aLp {t : Nat} {b : Bool} (h : MR ops l o = some (t, b)) (hb : KN b) :
 jW (PIf b (G P X ops Q (o :: rest) μ ((t, .bool true) :: l) L) (G P X ops Q (o :: rest) μ ((t, .bool false) :: l) L)) (G P X ops Q (o :: rest) μ l L) := fun hg => aQi (h := h) (hb := hb) (hg := hg)
theorem aLn {t : TypeId} {cs : List Value} {n : Nat} (hd : tD X.n ops l o = some d) (h : aId P l o.op = some (t, cs)) (hn : zT cs.length some = some n) :
 jW (∀ b, G P X ops Q rest μ ((d, .pointer (some ⟨b, 0, none⟩)) :: l) (.inl ⟨b, t, n, idx 0 cs⟩ :: L)) (G P X ops Q (o :: rest) μ l L) := fun hg => aQg (hd := hd) (h := h) (hn := hn) (hg := hg)
theorem aLq {t : TypeId} {cs : List Value} {n m : Nat} (hd : tD X.n ops l o = some d) (h : aJ5 P l o.op = some (t, m, cs)) (hn : zT cs.length some = some n) :
 jW (∀ b, G P X ops Q rest μ ((d, .slice (some ⟨b, 0, none⟩) m m) :: l) (.inl ⟨b, t, n, idx 0 cs⟩ :: L)) (G P X ops Q (o :: rest) μ l L) := fun hg => aQj (hd := hd) (h := h) (hn := hn) (hg := hg)
theorem aLs {c p q : Prop} {_ : Decidable c} : jW ((c → p) ∧ (¬c → q)) (PIf (decide c) p q) := fun h => aIa h.1 h.2
theorem aPo {b : Bool} {p q : Prop} : jW ((b = true → p) ∧ (b = false → q)) (PIf b p q) := fun h => aOg h.1 h.2
theorem KO {A B : Prop} (h : A)
 (f : jW A B := by first | ((with_reducible (first | apply QW | apply EM | apply ZE | apply LR | apply HK | apply LU | apply QX | apply LS | apply wR | apply zP | apply wD | apply tJ | apply wS | apply ZB | apply ZC | apply LQ))) | ((with_reducible apply aKr); exact rfl) | ((with_reducible apply ZD); exact rfl) | ((with_reducible apply HI); (omega)) | ((with_reducible apply HJ); (first | omega | with_reducible exact ME _)) | ((with_reducible apply QU); exact rfl) | ((with_reducible apply QV); exact rfl)) : B := f h
theorem KZ {A B : Prop} (h : A)
 (f : jW A B := by first | ((with_reducible (first | apply QW | apply EM | apply ZE | apply LR | apply HK | apply LU | apply QX | apply LS | apply wR | apply zP | apply wD | apply tJ | apply wS | apply ZB | apply ZC | apply LQ))) | ((with_reducible apply aKr); exact rfl) | ((with_reducible apply ZD); exact rfl) | ((with_reducible apply HI); (omega)) | ((with_reducible apply HJ); (first | omega | with_reducible exact ME _)) | ((with_reducible apply QU); exact rfl) | ((with_reducible apply QV); exact rfl) | ((with_reducible apply aLr); exact rfl; omega) | ((with_reducible apply aLo); exact rfl; exact rfl; (repeat first | with_reducible exact fO | with_reducible apply oK); exact rfl) | ((with_reducible apply aKq); exact rfl; (((with_reducible apply aKl); exact rfl; exact rfl; (omega)))) | ((with_reducible apply aLm); exact rfl; exact rfl; (repeat first | with_reducible exact fS | ((with_reducible apply eY); (first | exact rfl | assumption))); (repeat first | with_reducible apply aDr | with_reducible apply aDq); exact rfl; (repeat first | with_reducible exact WG | with_reducible apply OP)) | ((with_reducible apply aKq); exact rfl; (first | ((with_reducible apply LK); exact rfl; exact rfl) | ((with_reducible apply aA0); (iterate 4 exact rfl); omega) | ((with_reducible apply aLd); exact rfl; exact rfl) | ((with_reducible apply aDk); exact rfl; exact rfl) | ((with_reducible apply aKl); exact rfl; exact rfl; (omega)) | ((with_reducible apply aDo); (iterate 3 exact rfl); kernel_rfl; kernel_rfl; kernel_rfl; kernel_rfl) | ((with_reducible apply aAz 0); (iterate 3 exact rfl)))) | ((with_reducible apply DK); exact rfl) | ((with_reducible apply aLp); exact rfl; (fail_if_success (with_reducible show KN true)); (fail_if_success (with_reducible show KN false)); exact aOo _)) : B := f h
theorem KB {A B C : Prop} (h1 : A) (h2 : B)
 (f : jW (A ∧ B) C := by with_reducible (first | exact aLs | exact aPo)) : C := f ⟨h1, h2⟩
theorem NB {A : Nat → Prop} {B : Prop} (h : ∀ b, A b)
 (f : jW (∀ b, A b) B := by first | ((with_reducible apply aLn); (iterate 3 exact rfl)) | ((with_reducible apply aLq); (iterate 3 exact rfl))) : B := f h
def aAv (_ : Nat) (B : Prop) : Prop := B
theorem E1 {i : Nat} {v : Value} (h : GM P X.n ops l i = some (d, v)) (hk : vX ops listed i = true) (hQ : ∀ c a w, Q (.panic c) (Act.put a (some d) v) w → Q (.panic c) a w) :
 aHe i (GA P X μr Lr ops Q fuel (listed.setIfInBounds i true) μ ((d, v) :: l) L) (GA P X μr Lr ops Q (fuel + 1) listed μ l L) := fun hg => aO6 (i := i) (h := h) (hk := hk) (hQ := hQ) (hg := hg)
theorem E2 {i : Nat} {v : Value} (h : DS X.n ops l i = some (d, o)) (hk : vX ops listed i = true) (hQ : ∀ c a w, Q (.panic c) (Act.put a (some d) v) w → Q (.panic c) a w) (hv : Val P μr l Lr o v) :
 aHe i (GA P X μr Lr ops Q fuel (listed.setIfInBounds i true) μ ((d, v) :: l) L) (GA P X μr Lr ops Q (fuel + 1) listed μ l L) := fun hg => aO5 (i := i) (h := h) (hk := hk) (hQ := hQ) (hv := hv) (hg := hg)
theorem DD (i : Nat) {A B : Prop} (h : A)
 (f : aHe i A B := by first | ((with_reducible apply E1); exact rfl; kernel_rfl; (exact fun _ _ _ h => h)) | ((with_reducible apply E2); exact rfl; kernel_rfl; (exact fun _ _ _ h => h); (first | ((with_reducible apply LK); exact rfl; exact rfl) | ((with_reducible apply wP); exact rfl; (repeat first | with_reducible exact fO | with_reducible apply oK); exact rfl) | ((with_reducible apply aDn); (iterate 3 exact rfl); kernel_rfl; kernel_rfl; kernel_rfl; kernel_rfl) | ((with_reducible apply NP); exact rfl; omega)))) : B := f h
theorem X1 {k : Nat} {p q : Operand} {t e : TypeId} {A : Addr} {len cap n : Nat} {i : Int} (ht : P.underlying t = some (.slice e)) (hs : iO P e = some n) (hx0 : ev l p = some (.slice (some A) len cap)) (hx1 : ev l q = some (.int .i64 i)) (hi : i = (k : Int)) (hk : k < len) :
 aAv k (Val P μ l L ⟨ds, .indexAddr t p q, ty, pos, af, gd⟩ (.pointer (some (A.add (k * n))))) := YU (k := k) (ht := ht) (hs := hs) (hx0 := hx0) (hx1 := hx1) (hi := hi) (hk := hk)
theorem X2 {k : Nat} {p q : Operand} {t : TypeId} {s : ByteArray} {i : Int} (ht : P.underlying t = some .string) (hx0 : ev l p = some (.string s)) (hx1 : ev l q = some (.int .i64 i)) (hi : i = (k : Int)) (hk : k < s.size) :
 aAv k (Val P μ l L ⟨ds, .index t p q, ty, pos, af, gd⟩ (.int .u8 (bAt s k))) := aDh (k := k) (ht := ht) (hx0 := hx0) (hx1 := hx1) (hi := hi) (hk := hk)
theorem U1 (k : Nat) {B : Prop} (f : aAv k B := by (with_reducible apply X1); (iterate 4 exact rfl); (first | exact rfl | omega); omega) : B := f
theorem U2 (k : Nat) {B : Prop} (f : aAv k B := by (with_reducible apply X2); (iterate 3 exact rfl); (exact rfl); omega) : B := f
theorem U3 {M B : Prop} (hm : M) (f : M → B := by intro h; (with_reducible apply jR); exact rfl; exact rfl; exact h) : B := f hm
theorem U4 {M B : Prop} (hm : M) (f : M → B := by intro h; first | ((with_reducible apply HB); (iterate 3 exact rfl); exact h; exact rfl) | ((with_reducible apply NV); (iterate 3 exact rfl); exact h; exact rfl)) : B := f hm
theorem PU {l l' : bP} (h : uK l' l := by ((repeat first | exact fM | refine eJ rfl ?_); done)) : uK l' l := h
theorem PS {L L' : List Bk} (h : Sel L' L := by ((repeat first | exact Sel.nil _ | (refine eV ?_ ?_; focus (first | exact jQ.refl _ | (refine jQ.cells ?_; repeat first | exact fM | refine eJ rfl ?_))) | (refine dR ?_ ?_; focus (exact jQ.refl _)) | (refine rV ?_ ?_; focus (exact jQ.refl _)) | (refine aOb ?_ ?_; focus (exact jQ.refl _))); done)) : Sel L' L := h
theorem CF (f : FuncId) {qs : Array Operand} {ts : Array TypeId} (h : G P X ops Q (⟨ds, .call { callee := .value (.func f), args := qs, argTypes := ts }, ty, pos, af, gd⟩ :: rest) μ l L) : G P X ops Q (⟨ds, .call { callee := .value (.func f), args := qs, argTypes := ts }, ty, pos, af, gd⟩ :: rest) μ l L := h
theorem DV {v : Value}
 (k : Nat)
 (h1 : DS X.n ops l k = some (d, o) := by exact rfl)
 (h2 : vX ops listed k = true := by kernel_rfl)
 (h3 : ∀ c a w, Q (.panic c) (Act.put a (some d) v) w → Q (.panic c) a w := by exact fun _ _ _ h => h)
 (b : Val P μr l Lr o v)
 (c : GA P X μr Lr ops Q fuel (listed.setIfInBounds k true) μ ((d, v) :: l) L) :
 GA P X μr Lr ops Q (fuel + 1) listed μ l L := aO5 (i := k) (h := h1) (hk := h2) (hQ := h3) (hv := b) (hg := c)
theorem D2 {v : Value} (k : Nat) (h1 : DS X.n ops l k = some (d, o)) (b : Val P μr l Lr o v) (c : GA P X μr Lr ops Q fuel (listed.setIfInBounds k true) μ ((d, v) :: l) L) (h2 : vX ops listed k = true := by kernel_rfl) (h3 : ∀ c a w, Q (.panic c) (Act.put a (some d) v) w → Q (.panic c) a w := by exact fun _ _ _ h => h) : GA P X μr Lr ops Q (fuel + 1) listed μ l L := DV k h1 h2 h3 b c
theorem KV {v : Value}
 (hd : tD X.n ops l o = some d := by exact rfl)
 (b : Val P μ l L o v)
 (c : G P X ops Q rest μ ((d, v) :: l) L) :
 G P X ops Q (o :: rest) μ l L := g_v (hd := hd) (hr := b) (h := c)
theorem K5 {v : Value} (b : Val P μ l L o v) (c : G P X ops Q rest μ ((d, v) :: l) L) (hd : tD X.n ops l o = some d := by exact rfl) : G P X ops Q (o :: rest) μ l L := KV hd b c
end
end
end Go.Vcg
namespace Go.Proofs.YtlllalmkkaolfaaGreatDoor
end Go.Proofs.YtlllalmkkaolfaaGreatDoor
