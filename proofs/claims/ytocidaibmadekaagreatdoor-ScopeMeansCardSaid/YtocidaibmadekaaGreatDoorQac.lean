/- Compact rules: one function tells what a plain operation yields; memory is found by its block. No statement of the seat is proved here. -/
import Derived.Test.YtocidaibmadekaaGreatDoorQab
import Derived.MapKept
set_option maxRecDepth 20000
namespace Go.Vcg
open Go.RowKit
section
variable {P : Program} {X : Ctx} {ops : Array Oper} {Q : Exit → Act → World → Prop} {rest : List Oper} {μ μr : Mem} {l : aI} {L Lr : List Bk} {a : Act} {w : World} {o : Oper} {d fuel i : Nat} {listed : Array Bool}
variable {ty : TypeId} {pos : String} {af : Array Edge} {gd : Option (Nat × Bool)} {ds : Option Nat}
def lks (cs : aI) : Nat → Nat → Option (List Value)
  | _, 0 => some []
  | off, n + 1 => match lk cs off with
    | some v => match lks cs (off + 1) n with
      | some vs => some (v :: vs)
      | none => none
    | none => none
theorem xX {cs : aI} : ∀ {n off : Nat} {vs : List Value}, lks cs off n = some vs → LC cs off n vs
  | 0, off, vs, h => by simp [lks] at h; subst h; exact aJ
  | n + 1, off, vs, h => by
    unfold lks at h
    cases e : lk cs off with
    | none => simp [e] at h
    | some v =>
      cases e' : lks cs (off + 1) n with
      | none => simp [e, e'] at h
      | some r => simp [e, e'] at h; subst h; exact aF e (xX e')
def aC1 (op : BinOp) (x y : Int) : Option Value := match op with
  | .eql => some (.bool (decide (x = y)))
  | .neq => some (.bool (decide (x ≠ y)))
  | .lss => some (.bool (decide (x < y)))
  | .leq => some (.bool (decide (x ≤ y)))
  | .gtr => some (.bool (decide (y < x)))
  | .geq => some (.bool (decide (y ≤ x)))
  | _ => none
def aC0 (op : BinOp) (x y : ByteArray) : Option Value := match op with
  | .eql => some (.bool (decide (x = y)))
  | .neq => some (.bool (decide (x ≠ y)))
  | _ => none
def aC2 (op : BinOp) (x y : Bool) : Option Value := match op with
  | .eql => some (.bool (decide (x = y)))
  | .neq => some (.bool (decide (x ≠ y)))
  | _ => none
def DB (P : Program) (t : TypeId) : Bool := match P.underlying t with | some .bool => true | _ => false
def LK (P : Program) (l : aI) (t : TypeId) (ps : List (Nat × Operand)) : Option Value :=
  match dR P t with
  | some s => match gB P t with
    | some z => match Nat.beq (jF z).length s with
      | true => match wI P t with
        | some pl => match oH l ps with
          | some us => match qN pl s us with
            | true => match lks (sL pl us (idx 0 (jF z))) 0 s with
              | some vs => some (.agg vs.toArray)
              | none => none
            | false => none
          | none => none
        | none => none
      | false => none
    | none => none
  | none => none
def aB7 (P : Program) (l : aI) : List Operand → List TypeId → Option Value
  | [p], [t] => match ev l p, P.underlying t with
    | some (.string s), some .string => some (.int .i64 s.size)
    | some (.slice _ n _), some (.slice _) => some (.int .i64 n)
    | _, _ => none
  | _, _ => none
def evs (l : aI) : List Operand → Option (List Value)
  | [] => some []
  | x :: r => match ev l x with
    | some v => match evs l r with
      | some vs => some (v :: vs)
      | none => none
    | none => none
theorem HL (h : Rd μ l L a w) : ∀ {xs : List Operand} {vs : List Value}, evs l xs = some vs → xs.map a.eval = vs
  | [], vs, e => by simp [evs] at e; simp [e]
  | x :: r, vs, e => by
    unfold evs at e
    cases hx : ev l x with
    | none => simp [hx] at e
    | some v =>
      cases hr : evs l r with
      | none => simp [hx, hr] at e
      | some us =>
        simp [hx, hr] at e
        subst e
        simp [h.eval hx, HL h hr]
def pv (P : Program) (l : aI) : Op → Option Value
  | .move x => ev l x
  | .assign x => ev l x
  | .pick c x y => match ev l c with
    | some (.bool true) => ev l x
    | some (.bool false) => ev l y
    | _ => none
  | .fieldAddr t p i => match ev l p with
    | some (.pointer (some ⟨b, k, none⟩)) => match yM P t i with
      | some (_, off) => rE k fun k => some (.pointer (some ⟨b, k + off, none⟩))
      | none => none
    | _ => none
  | .binOp op t p q _ => match ev l p, ev l q with
    | some (.int k x), some (.int k' y) => match decide (k = k') with
      | true => aC1 op x y
      | false => none
    | some (.string x), some (.string y) => aC0 op x y
    | some (.bool x), some (.bool y) => match DB P t with
      | true => aC2 op x y
      | false => none
    | _, _ => none
  | .unOp .not _ p => match ev l p with
    | some (.bool b) => some (.bool (!b))
    | _ => none
  | .extract p i => match ev l p with
    | some (.tuple vs) => FX vs.toList i
    | _ => none
  | .nilCheck p => match ev l p with
    | some (.pointer (some A)) => some (.pointer (some A))
    | _ => none
  | .call ⟨.builtin .len, args, ts⟩ => aB7 P l args.toList ts.toList
  | .build t ps => LK P l t ps.toList
  | .makeFunc fn ⟨[]⟩ caps => match evs l caps.toList with
    | some vs => some (.func fn #[] vs.toArray)
    | none => none
  | _ => none
theorem LF {op : BinOp} {p q : Operand} {t t2 : TypeId} {k : IntKind} {x y : Int} {v : Value} (hp : ev l p = some (.int k x)) (hq : ev l q = some (.int k y)) (h : aC1 op x y = some v) : Val P μ l L ⟨ds, .binOp op t p q t2, ty, pos, af, gd⟩ v := by
  cases op <;> simp only [aC1, Option.some.injEq, reduceCtorEq] at h <;> subst h
  · exact aDp hp hq
  · exact aDj hp hq
  · exact aDl hp hq
  · exact aDm hp hq
  · exact aDn hp hq
  · exact aDo hp hq
theorem LD {op : BinOp} {p q : Operand} {t t2 : TypeId} {x y : ByteArray} {v : Value} (hp : ev l p = some (.string x)) (hq : ev l q = some (.string y)) (h : aC0 op x y = some v) : Val P μ l L ⟨ds, .binOp op t p q t2, ty, pos, af, gd⟩ v := by
  cases op <;> simp only [aC0, Option.some.injEq, reduceCtorEq] at h <;> subst h
  · exact aA4 hp hq
  · exact aA3 hp hq
theorem LG {op : BinOp} {p q : Operand} {t t2 : TypeId} {x y : Bool} {v : Value} (ht : DB P t = true) (hp : ev l p = some (.bool x)) (hq : ev l q = some (.bool y)) (h : aC2 op x y = some v) : Val P μ l L ⟨ds, .binOp op t p q t2, ty, pos, af, gd⟩ v := by
  have hu : P.underlying t = some .bool := by
    unfold DB at ht
    split at ht
    · assumption
    · cases ht
  cases op <;> simp only [aC2, Option.some.injEq, reduceCtorEq] at h <;> subst h
  · exact aA8 hu hp hq
  · exact aA7 hu hp hq
theorem DY {t : TypeId} {ps : Array (Nat × Operand)} {v : Value} (h : LK P l t ps.toList = some v) : Val P μ l L ⟨ds, .build t ps, ty, pos, af, gd⟩ v := by
  unfold LK at h
  repeat' split at h
  all_goals first | (simp only [reduceCtorEq] at h; done) | skip
  rename_i _ s hs _ z hz _ hb _ pl hpl _ us hus _ hok _ vs hvs
  simp only [Option.some.injEq] at h
  subst h
  have e : ps = ps.toList.toArray := by simp
  rw [e]
  exact WN hs hz (Nat.eq_of_beq_eq_true hb) hpl hus hok (xX hvs)
theorem JR {args : Array Operand} {ts : Array TypeId} {v : Value} (h : aB7 P l args.toList ts.toList = some v) : Val P μ l L ⟨ds, .call ⟨.builtin .len, args, ts⟩, ty, pos, af, gd⟩ v := by
  unfold aB7 at h
  split at h
  · rename_i p t ha ht
    have e : args = #[p] := by rw [← Array.toArray_toList (xs := args), ha]
    have e' : ts = #[t] := by rw [← Array.toArray_toList (xs := ts), ht]
    subst e e'
    split at h
    · rename_i s hp hu
      simp only [Option.some.injEq] at h; subst h
      exact WL hp hu
    · rename_i A n c e hp hu
      simp only [Option.some.injEq] at h; subst h
      exact WM hp hu
    · cases h
  · cases h
theorem xW {fn : Fn} {caps : Array Operand} {vs : List Value} (h : evs l caps.toList = some vs) : Val P μ l L ⟨ds, .makeFunc fn #[] caps, ty, pos, af, gd⟩ (.func fn #[] vs.toArray) := fun a w hs => by
  have e := HL hs h
  have : caps.map a.eval = vs.toArray := by
    cases caps
    simpa using e
  simp [execOp, Instr.makeFunc, this]
theorem FH {op : Op} {v : Value} (h : pv P l op = some v) : Val P μ l L ⟨ds, op, ty, pos, af, gd⟩ v := by
  unfold pv at h
  split at h
  · exact aA5 h
  · exact RN h
  · split at h
    · rename_i hc; exact RJ hc h
    · rename_i hc; exact RL hc h
    · cases h
  · split at h
    · rename_i b k hp
      split at h
      · rename_i x off hf
        rw [pJ] at h
        simp only [Option.some.injEq] at h; subst h
        exact EJ hp hf
      · cases h
    · cases h
  · split at h
    · rename_i k x k' y hp hq
      split at h
      · rename_i hk
        have := of_decide_eq_true hk
        subst this
        exact LF hp hq h
      · cases h
    · rename_i x y hp hq; exact LD hp hq h
    · rename_i x y hp hq
      split at h
      · rename_i ht; exact LG ht hp hq h
      · cases h
    · cases h
  · split at h
    · rename_i b hp
      simp only [Option.some.injEq] at h; subst h
      exact aDi hp
    · cases h
  · split at h
    · rename_i vs hp
      have e : vs = vs.toList.toArray := by simp
      rw [e] at hp
      exact OC hp h
    · cases h
  · split at h
    · rename_i A hp
      simp only [Option.some.injEq] at h; subst h
      exact IB hp
    · cases h
  · exact JR h
  · exact DY h
  · split at h
    · rename_i vs hv
      simp only [Option.some.injEq] at h; subst h
      exact xW hv
    · cases h
  · cases h
def FM (P : Program) (n : Nat) (ops : Array Oper) (l : aI) (o : Oper) : Option (Nat × Value) := match o.dst with
  | some d => match Nat.blt d n with
    | true => match cV ops l o with
      | some true => match pv P l o.op with
        | some v => some (d, v)
        | none => none
      | some false => some (d, undef)
      | none => none
    | false => none
  | none => none
theorem g_p {v : Value} (h : FM P X.n ops l o = some (d, v)) (hg : G P X ops Q rest μ ((d, v) :: l) L) : G P X ops Q (o :: rest) μ l L := by
  unfold FM at h
  split at h
  · rename_i d' hd
    split at h
    · rename_i hn
      split at h
      · rename_i hw
        split at h
        · rename_i v' hv
          simp only [Option.some.injEq, Prod.mk.injEq] at h
          obtain ⟨rfl, rfl⟩ := h
          cases o
          exact MZ hd hn hw (FH hv) hg
        · cases h
      · rename_i hw
        simp only [Option.some.injEq, Prod.mk.injEq] at h
        obtain ⟨rfl, rfl⟩ := h
        exact aCp hd hn hw hg
      · cases h
    · cases h
  · cases h
def arI (l : aI) (op : Op) : Option Int := match op with
  | .binOp op _ p q _ => match ev l p, ev l q with
    | some (.int .i64 x), some (.int .i64 y) => match op with
      | .add => some (x + y)
      | .sub => some (x - y)
      | .mul => some (x * y)
      | _ => none
    | _, _ => none
  | _ => none
theorem BY {op : Op} {r : Int} (h : arI l op = some r) (hb : -9223372036854775808 ≤ r ∧ r ≤ 9223372036854775807) : Val P μ l L ⟨ds, op, ty, pos, af, gd⟩ (.int .i64 r) := by
  unfold arI at h
  split at h
  · split at h
    · rename_i x y hp hq
      split at h
      · simp only [Option.some.injEq] at h; subst h; exact WO hp hq hb
      · simp only [Option.some.injEq] at h; subst h; exact LV hp hq hb
      · simp only [Option.some.injEq] at h; subst h; exact WK hp hq hb
      · cases h
    · cases h
  · cases h
def LQ (n : Nat) (ops : Array Oper) (l : aI) (o : Oper) : Option (Nat × Int) := match o.dst with
  | some d => match Nat.blt d n with
    | true => match cV ops l o with
      | some true => match arI l o.op with
        | some v => some (d, v)
        | none => none
      | _ => none
    | false => none
  | none => none
theorem aF2 {r : Int} (h : LQ X.n ops l o = some (d, r)) (hb : -9223372036854775808 ≤ r ∧ r ≤ 9223372036854775807) (hg : G P X ops Q rest μ ((d, .int .i64 r) :: l) L) : G P X ops Q (o :: rest) μ l L := by
  unfold LQ at h
  split at h
  · rename_i d' hd
    split at h
    · rename_i hn
      split at h
      · rename_i hw
        split at h
        · rename_i v' hv
          simp only [Option.some.injEq, Prod.mk.injEq] at h
          obtain ⟨rfl, rfl⟩ := h
          cases o
          exact MZ hd hn hw (BY hv hb) hg
        · cases h
      · cases h
    · cases h
  · cases h
def InB (L : List Bk) (b : Nat) (y : Blk) : Prop := ∃ i, dE L i = some (.inl y) ∧ y.b = b
theorem cU {b t sz : Nat} {cs : aI} {L : List Bk} : InB (.inl ⟨b, t, sz, cs⟩ :: L) b ⟨b, t, sz, cs⟩ := ⟨0, rfl, rfl⟩
theorem gJ {b : Nat} {y : Blk} {x : Bk} {L : List Bk} (h : InB L b y) : InB (x :: L) b y := by
  obtain ⟨i, h1, h2⟩ := h
  exact ⟨i + 1, h1, h2⟩
def ldv (P : Program) (t : TypeId) (cs : aI) (off : Nat) : Option Value := match jH P t with
  | some false => lk cs off
  | some true => match dR P t with
    | some s => match lks cs off s with
      | some vs => some (.agg vs.toArray)
      | none => none
    | none => none
  | none => none
def oV (n : Nat) (ops : Array Oper) (l : aI) (o : Oper) : Option Nat := match o.dst with
  | some d => match Nat.blt d n with
    | true => match cV ops l o with
      | some true => some d
      | _ => none
    | false => none
  | none => none
theorem fI {n : Nat} (h : oV n ops l o = some d) : o.dst = some d ∧ Nat.blt d n = true ∧ cV ops l o = some true := by
  unfold oV at h
  split at h
  · rename_i d' hd
    split at h
    · rename_i hn
      split at h
      · rename_i hw
        simp only [Option.some.injEq] at h
        subst h
        exact ⟨hd, hn, hw⟩
      · cases h
    · cases h
  · cases h
def XZ (l : aI) : Op → Option (TypeId × Nat × Nat)
  | .load t x => match ev l x with
    | some (.pointer (some ⟨b, off, none⟩)) => some (t, b, off)
    | _ => none
  | _ => none
theorem oX {op : Op} {t b off : Nat} {y : Blk} {v : Value} (h : XZ l op = some (t, b, off)) (hb : InB L b y) (hv : ldv P t y.cs off = some v) : Val P μ l L ⟨ds, op, ty, pos, af, gd⟩ v := by
  unfold XZ at h
  split at h
  · split at h
    · rename_i t' x _ b' off' hx
      simp only [Option.some.injEq, Prod.mk.injEq] at h
      obtain ⟨rfl, rfl, rfl⟩ := h
      obtain ⟨i, hi, rfl⟩ := hb
      unfold ldv at hv
      split at hv
      · rename_i ha; exact ID i ha hi hx hv
      · rename_i ha
        split at hv
        · rename_i s hs
          split at hv
          · rename_i vs hvs
            simp only [Option.some.injEq] at hv
            subst hv
            exact IE i ha hs hi hx (xX hvs)
          · cases hv
        · cases hv
      · cases hv
    · cases h
  · cases h
theorem aFz {t b off : Nat} {y : Blk} {v : Value} (hd : oV X.n ops l o = some d) (h : XZ l o.op = some (t, b, off)) (hb : InB L b y) (hv : ldv P t y.cs off = some v) (hg : G P X ops Q rest μ ((d, v) :: l) L) : G P X ops Q (o :: rest) μ l L := by
  obtain ⟨h1, h2, h3⟩ := fI hd
  cases o
  exact MZ h1 h2 h3 (oX h hb hv) hg
def sF : List Value → Option (List Value)
  | [] => some []
  | v :: r => match sF r with
    | some r' => some (v :: r')
    | none => none
theorem qU : ∀ {vs us : List Value}, sF vs = some us → us = vs
  | [], us, h => by unfold sF at h; cases h; rfl
  | v :: r, us, h => by
    unfold sF at h
    split at h
    · rename_i r' hr
      simp only [Option.some.injEq] at h
      subst h
      rw [qU hr]
    · cases h
def EE (vs : List Value) : Prop := vs.all (·.oneCell') = true
theorem dU : EE [] := rfl
theorem dC {v : Value} {vs : List Value} (h : v.oneCell' = true) (hr : EE vs) : EE (v :: vs) := by
  unfold EE at *
  rw [List.all_cons, h, hr]; rfl
def stop (P : Program) (l : aI) (op : Op) : Option (Nat × Nat × List Value) := match op with
  | .store t q x => match dR P t with
    | some s => match ev l q with
      | some (.pointer (some ⟨b, off, none⟩)) => match ev l x with
        | some v => match sF (jF v) with
          | some vs => match Nat.beq vs.length s with
            | true => some (b, off, vs)
            | false => none
          | none => none
        | none => none
      | _ => none
    | none => none
  | _ => none
def MK (ops : Array Oper) (l : aI) (o : Oper) : Bool := match o.dst with
  | none => match cV ops l o with
    | some true => true
    | _ => false
  | some _ => false
def UpB (L : List Bk) (b off : Nat) (vs : List Value) (L' : List Bk) : Prop := ∃ i y, dE L i = some (.inl y) ∧ y.b = b ∧ Nat.ble (off + vs.length) y.sz = true ∧ L' = dG L i (.inl ⟨y.b, y.t, y.sz, qK off vs y.cs⟩)
theorem IG {b t sz off : Nat} {cs cs' : aI} {vs : List Value} {L : List Bk} (hfit : Nat.ble (off + vs.length) sz = true) (hpc : PC off vs cs cs') : UpB (.inl ⟨b, t, sz, cs⟩ :: L) b off vs (.inl ⟨b, t, sz, cs'⟩ :: L) := by
  rw [hpc.eq]
  exact ⟨0, ⟨b, t, sz, cs⟩, rfl, rfl, hfit, rfl⟩
theorem IF {b off : Nat} {vs : List Value} {x : Bk} {L L' : List Bk} (h : UpB L b off vs L') : UpB (x :: L) b off vs (x :: L') := by
  obtain ⟨i, y, h1, h2, h3, rfl⟩ := h
  exact ⟨i + 1, y, h1, h2, h3, rfl⟩
theorem aEs {b off : Nat} {vs : List Value} {L' : List Bk} (hd : MK ops l o = true) (h : stop P l o.op = some (b, off, vs)) (h1 : EE vs) (hu : UpB L b off vs L') (hg : G P X ops Q rest μ l L') : G P X ops Q (o :: rest) μ l L := by
  obtain ⟨ds, op, ty, pos, af, gd⟩ := o
  unfold MK at hd
  split at hd
  · rename_i hds
    split at hd
    · rename_i hw
      simp only at hds
      subst hds
      unfold stop at h
      simp only at h
      split at h
      · split at h
        · rename_i t q x s hs
          split at h
          · rename_i b' off' hq
            split at h
            · rename_i v hx
              split at h
              · rename_i vs' hf
                split at h
                · rename_i hlen
                  simp only [Option.some.injEq, Prod.mk.injEq] at h
                  obtain ⟨rfl, rfl, rfl⟩ := h
                  have hc := qU hf
                  rw [gU] at hc
                  obtain ⟨i, y, hi, rfl, hfit, rfl⟩ := hu
                  have hl := Nat.eq_of_beq_eq_true hlen
                  refine NA (n := s) i hw hs hi hq hx (by rw [← hc]; exact hl) (by rw [← hc]; exact h1) (by rw [← hl]; exact hfit) ?_
                  rw [← hc]
                  exact hg
                · cases h
              · cases h
            · cases h
          · cases h
        · cases h
      · cases h
    · cases hd
  · cases hd
def XP (P : Program) (l : aI) : Op → Option (TypeId × List Value)
  | .box t x => match ev l x with
    | some v => match sF (jF v) with
      | some vs => some (t, vs)
      | none => none
    | none => none
  | .alloc t => match gB P t with
    | some z => match sF (jF z) with
      | some vs => some (t, vs)
      | none => none
    | none => none
  | _ => none
theorem aFc {op : Op} {t : TypeId} {cs : List Value} (h : XP P l op = some (t, cs)) : Alc P μ l L ⟨ds, op, ty, pos, af, gd⟩ (fun b => .pointer (some ⟨b, 0, none⟩)) t cs := by
  unfold XP at h
  split at h
  · split at h
    · rename_i t' x _ v hx
      split at h
      · rename_i vs hf
        simp only [Option.some.injEq, Prod.mk.injEq] at h
        obtain ⟨rfl, rfl⟩ := h
        rw [qU hf, gU]
        exact OV hx
      · cases h
    · cases h
  · split at h
    · rename_i t' _ v hx
      split at h
      · rename_i vs hf
        simp only [Option.some.injEq, Prod.mk.injEq] at h
        obtain ⟨rfl, rfl⟩ := h
        rw [qU hf, gU]
        exact FZ hx
      · cases h
    · cases h
  · cases h
theorem aFy {t : TypeId} {cs : List Value} {n : Nat} (hd : oV X.n ops l o = some d) (h : XP P l o.op = some (t, cs)) (hn : rE cs.length some = some n) (hg : ∀ b, G P X ops Q rest μ ((d, .pointer (some ⟨b, 0, none⟩)) :: l) (.inl ⟨b, t, n, idx 0 cs⟩ :: L)) : G P X ops Q (o :: rest) μ l L := by
  obtain ⟨h1, h2, h3⟩ := fI hd
  cases o
  exact aAv h1 h2 h3 (aFc h) hn hg
def WB : List Value → List Value → Option (List Value)
  | [], r => some r
  | u :: us, r => match WB us r with
    | some c => some (u :: c)
    | none => none
theorem NU : ∀ {us r c : List Value}, WB us r = some c → c = us ++ r
  | [], r, c, h => by unfold WB at h; cases h; rfl
  | u :: us, r, c, h => by
    unfold WB at h
    split at h
    · rename_i c' hc
      simp only [Option.some.injEq] at h
      subst h
      rw [NU hc]; rfl
    · cases h
def bsl (l : aI) (s : Nat) : Nat → List (Nat × Operand) → Option (List Value)
  | _, [] => some []
  | i, (j, x) :: ps => match Nat.beq j i with
    | true => match ev l x with
      | some v => match Nat.beq (jF v).length s with
        | true => match bsl l s (i + 1) ps with
          | some r => WB (jF v) r
          | none => none
        | false => none
      | none => none
    | false => none
theorem VX {s : Nat} : ∀ {ps : List (Nat × Operand)} {i : Nat} {cs : List Value}, bsl l s i ps = some cs → ∃ vs, BP l s i ps vs cs
  | [], i, cs, h => by simp [bsl] at h; subst h; exact ⟨[], aC7⟩
  | (j, x) :: ps, i, cs, h => by
    unfold bsl at h
    split at h
    · rename_i hj
      split at h
      · rename_i v hx
        split at h
        · rename_i hl
          split at h
          · rename_i r hr
            obtain ⟨vs, hb⟩ := VX hr
            have hc := NU h
            have hl' := Nat.eq_of_beq_eq_true hl
            rw [gU] at hc hl'
            exact ⟨v :: vs, Nat.eq_of_beq_eq_true hj, hx, by simpa using hl', r, hc, hb⟩
          · cases h
        · cases h
      · cases h
    · cases h
def ZY (P : Program) (l : aI) : Op → Option (TypeId × Nat × List Value)
  | .buildSlice t n ps => match P.underlying t with
    | some (.slice e) => match dR P e with
      | some s => match gB P e with
        | some _ => match Nat.beq ps.toList.length n with
          | true => match Nat.ble (n * s) 16777216 with
            | true => match bsl l s 0 ps.toList with
              | some cs => some (e, n, cs)
              | none => none
            | false => none
          | false => none
        | none => none
      | none => none
    | _ => none
  | _ => none
theorem aFd {op : Op} {t : TypeId} {n : Nat} {cs : List Value} (h : ZY P l op = some (t, n, cs)) : Alc P μ l L ⟨ds, op, ty, pos, af, gd⟩ (fun b => .slice (some ⟨b, 0, none⟩) n n) t cs := by
  unfold ZY at h
  split at h
  · rename_i t' n' ps
    split at h
    · rename_i e he
      split at h
      · rename_i s hs
        split at h
        · rename_i z hz
          split at h
          · rename_i hn
            split at h
            · rename_i hb
              split at h
              · rename_i cs' hc
                simp only [Option.some.injEq, Prod.mk.injEq] at h
                obtain ⟨rfl, rfl, rfl⟩ := h
                obtain ⟨vs, hbp⟩ := VX hc
                have e : ps = ps.toList.toArray := by simp
                rw [e]
                exact DA he hs hz (Nat.eq_of_beq_eq_true hn) hb hbp
              · cases h
            · cases h
          · cases h
        · cases h
      · cases h
    · cases h
  · cases h
theorem aF1 {t : TypeId} {cs : List Value} {n m : Nat} (hd : oV X.n ops l o = some d) (h : ZY P l o.op = some (t, m, cs)) (hn : rE cs.length some = some n) (hg : ∀ b, G P X ops Q rest μ ((d, .slice (some ⟨b, 0, none⟩) m m) :: l) (.inl ⟨b, t, n, idx 0 cs⟩ :: L)) : G P X ops Q (o :: rest) μ l L := by
  obtain ⟨h1, h2, h3⟩ := fI hd
  cases o
  exact aAv h1 h2 h3 (aFd h) hn hg
theorem CD {op : Op} {x : Operand} {t j : Nat} {A : Addr} {vs : List Value} {v : Value} (h : op = .load t x) (hag : jH P t = some false) (hx : ev l x = some (.pointer (some (A.add j)))) (hm : cQ μ A vs) (hv : FX vs j = some v) : Val P μ l L ⟨ds, op, ty, pos, af, gd⟩ v := by
  subst h
  rw [CZ] at hv
  exact eC hag hx (hm j v hv)
theorem zZ {p : Operand} {t : TypeId} {i ft off : Nat} {A : Addr} (hx0 : ev l p = some (.pointer (some A))) (hf : yM P t i = some (ft, off)) : Val P μ l L ⟨ds, .fieldAddr t p i, ty, pos, af, gd⟩ (.pointer (some (A.add off))) := fun a w hs => by
  have e0 := hs.eval hx0
  simp [execOp, e0, uZ hf]
theorem OB {p q : Operand} {t e : TypeId} {A : Addr} {len cap n k : Nat} (ht : P.underlying t = some (.slice e)) (hs : dR P e = some n)
    (hx0 : ev l p = some (.slice (some A) len cap)) (hx1 : ev l q = some (.int .i64 (k : Int))) (hk : k < len) : Val P μ l L ⟨ds, .indexAddr t p q, ty, pos, af, gd⟩ (.pointer (some (A.add (k * n)))) := LW k ht hs hx0 hx1 rfl hk
def CB (L : List Bk) (r : Rw) (F : Rw → List Bk) : Prop := ∃ i, dE L i = some (.inr r) ∧ ∀ r', F r' = dG L i (.inr r')
theorem dT {v : Value} {e s n : Nat} {xs : List Value} {L : List Bk} : CB (.inr ⟨v, e, s, n, xs⟩ :: L) ⟨v, e, s, n, xs⟩ (fun r => .inr r :: L) := ⟨0, rfl, fun _ => rfl⟩
theorem eI {x : Bk} {L : List Bk} {r : Rw} {F : Rw → List Bk} (h : CB L r F) : CB (x :: L) r (fun r => x :: F r) := by
  obtain ⟨i, h1, h2⟩ := h
  exact ⟨i + 1, h1, fun r' => by show x :: F r' = x :: dG L i (.inr r'); rw [h2]⟩
theorem gH {q : Operand} {y : Blk} {b m c : Nat} {news : List Value} (hq : ev l q = some (.slice (some ⟨b, 0, none⟩) m c)) (hb : InB L b y) (hl : lks y.cs 0 y.sz = some news) : Src μ l L q m news := by
  obtain ⟨i, hi, rfl⟩ := hb
  exact XF i hi hq (xX hl)
theorem oG {p q : Operand} {t e : TypeId} {s bytes m n : Nat} {z v : Value} {news xs : List Value} {F : Rw → List Bk} (hn : Nat.blt d X.n = true) (hw : cV ops l ⟨some d, .call { callee := .builtin .append, args := #[p, q], argTypes := #[t, t] }, ty, pos, af, gd⟩ = some true)
    (hp : ev l p = some v) (hr : CB L ⟨v, e, s, n, xs⟩ F) (ht : P.underlying t = some (.slice e)) (hs : dR P e = some s) (hz : gB P e = some z) (hzs : z.cells.toList.length = s) (hby : sJ P e = some bytes) (hpos : Nat.blt 0 s = true)
    (hsrc : Src μ l L q m news) (hl : news.length = m * s) (h1 : ∀ u ∈ news, u.oneCell' = true) (hroom : (n + m) * bytes ≤ 140737488355328) (hlen : n + m ≤ 140737488355328)
    (h : ∀ v, G P X ops Q rest μ ((d, v) :: l) (F ⟨v, e, s, n + m, xs ++ news⟩)) :
    G P X ops Q (⟨some d, .call { callee := .builtin .append, args := #[p, q], argTypes := #[t, t] }, ty, pos, af, gd⟩ :: rest) μ l L := by
  obtain ⟨i, hi, hF⟩ := hr
  refine HE (r := ⟨v, e, s, n, xs⟩) i hn hw hi ht hs rfl hz hzs hby hpos hp hsrc hl h1 hroom hlen (fun v => ?_)
  rw [← hF]
  exact h v
theorem eJ {vs : List Value} (h : EE vs) : ∀ u ∈ vs, u.oneCell' = true := by
  unfold EE at h
  simpa only [List.all_eq_true] using h
def PIf (b : Bool) (p q : Prop) : Prop := (b = true → p) ∧ (b = false → q)
theorem aAp {p q : Prop} (h : p) : PIf true p q := ⟨fun _ => h, fun h => by cases h⟩
theorem aAq {p q : Prop} (h : q) : PIf false p q := ⟨fun h => by (cases h), fun _ => h⟩
theorem aBx {b : Bool} {p q : Prop} (hb : b = true) (h : p) : PIf b p q := by subst hb; exact aAp h
theorem aBy {b : Bool} {p q : Prop} (hb : b = false) (h : q) : PIf b p q := by subst hb; exact aAq h
theorem XL {b : Bool} {p q : Prop} (h : PIf b q p) : PIf (!b) p q := by
  cases b
  · exact ⟨fun _ => h.2 rfl, fun h => by cases h⟩
  · exact ⟨fun h => by (cases h), fun _ => h.1 rfl⟩
theorem SV {c p q : Prop} {_ : Decidable c} (hc : c) (h : p) : PIf (decide c) p q := ⟨fun _ => h, fun e => absurd hc (of_decide_eq_false e)⟩
theorem SW {c p q : Prop} {_ : Decidable c} (hc : ¬ c) (h : q) : PIf (decide c) p q := ⟨fun e => absurd (of_decide_eq_true e) hc, fun _ => h⟩
theorem AQ {α : Type} (a : α) : ¬ (a ≠ a) := fun h => h rfl
theorem XM {c p q : Prop} {_ : Decidable c} (h : c → p) (h' : ¬ c → q) : PIf (decide c) p q := ⟨fun e => h (of_decide_eq_true e), fun e => h' (of_decide_eq_false e)⟩
theorem aD0 {b : Bool} {p q : Prop} (h : b = true → p) (h' : b = false → q) : PIf b p q := ⟨h, h'⟩
theorem aEn {c : Operand} {x y : Code} {b : Bool} (hc : ev l c = some (.bool b)) (h : PIf b (GC P X x Q μ l L) (GC P X y Q μ l L)) : GC P X (.cond c x y) Q μ l L := DI hc h.1 h.2
def BB (ops : Array Oper) (l : aI) (o : Oper) : Option (Nat × Bool) := match qQ ops o with
  | some t => match lk l t with
    | some (.bool b) => some (t, b)
    | _ => none
  | none => none
theorem oF {t : Nat} {b : Bool} (h : BB ops l o = some (t, b)) : qQ ops o = some t ∧ lk l t = some (.bool b) := by
  unfold BB at h
  split at h
  · rename_i t' ht
    split at h
    · rename_i b' hb
      simp only [Option.some.injEq, Prod.mk.injEq] at h
      obtain ⟨rfl, rfl⟩ := h
      exact ⟨ht, hb⟩
    · cases h
  · cases h
theorem aF0 {t : Nat} {b : Bool} (h : BB ops l o = some (t, b)) (hb : zN b) (hg : PIf b (G P X ops Q (o :: rest) μ ((t, .bool true) :: l) L) (G P X ops Q (o :: rest) μ ((t, .bool false) :: l) L)) : G P X ops Q (o :: rest) μ l L :=
  ZH (oF h).1 (oF h).2 hb hg.1 hg.2
theorem g_v {v : Value} (hd : oV X.n ops l o = some d) (hr : Val P μ l L o v) (h : G P X ops Q rest μ ((d, v) :: l) L) : G P X ops Q (o :: rest) μ l L := by
  obtain ⟨h1, h2, h3⟩ := fI hd
  exact MZ h1 h2 h3 hr h
def pY (ops : Array Oper) (listed : Array Bool) (i : Nat) : Bool := Region.noSelect ops && Region.free .any ops listed i && (Region.ready .any ops listed).contains i
theorem vS (h : pY ops listed i = true) : Region.noSelect ops = true ∧ Region.free .any ops listed i = true ∧ (Region.ready .any ops listed).contains i = true := by
  unfold pY at h
  simp only [Bool.and_eq_true] at h
  exact ⟨h.1.1, h.1.2, h.2⟩
def wH (P : Program) (n : Nat) (ops : Array Oper) (l : aI) (i : Nat) : Option (Nat × Value) := match nH ops.toList i with
  | some o => FM P n ops l o
  | none => none
theorem aEq (i : Nat) {v : Value} (h : wH P X.n ops l i = some (d, v)) (hk : pY ops listed i = true) (hQ : ∀ c a w, Q (.panic c) (Act.put a (some d) v) w → Q (.panic c) a w)
    (hg : GA P X μr Lr ops Q fuel (listed.setIfInBounds i true) μ ((d, v) :: l) L) : GA P X μr Lr ops Q (fuel + 1) listed μ l L := by
  obtain ⟨k1, k2, k3⟩ := vS hk
  unfold wH at h
  split at h
  · rename_i o ho
    unfold FM at h
    split at h
    · rename_i d' hd
      split at h
      · rename_i hn
        split at h
        · rename_i hw
          split at h
          · rename_i v' hv
            simp only [Option.some.injEq, Prod.mk.injEq] at h
            obtain ⟨rfl, rfl⟩ := h
            exact MY i ho hd hn hw k1 k2 k3 hQ (by cases o; exact FH hv) hg
          · cases h
        · rename_i hw
          simp only [Option.some.injEq, Prod.mk.injEq] at h
          obtain ⟨rfl, rfl⟩ := h
          exact ZD i ho hd hn hw k1 k2 k3 hQ hg
        · cases h
      · cases h
    · cases h
  · cases h
def xQ (n : Nat) (ops : Array Oper) (l : aI) (i : Nat) : Option (Nat × Oper) := match nH ops.toList i with
  | some o => match oV n ops l o with
    | some d => some (d, o)
    | none => none
  | none => none
theorem FO {n : Nat} (h : xQ n ops l i = some (d, o)) : nH ops.toList i = some o ∧ o.dst = some d ∧ Nat.blt d n = true ∧ cV ops l o = some true := by
  unfold xQ at h
  split at h
  · rename_i o' ho
    split at h
    · rename_i d' hd
      simp only [Option.some.injEq, Prod.mk.injEq] at h
      obtain ⟨rfl, rfl⟩ := h
      obtain ⟨h1, h2, h3⟩ := fI hd
      exact ⟨ho, h1, h2, h3⟩
    · cases h
  · cases h
theorem aEp (i : Nat) {v : Value} (h : xQ X.n ops l i = some (d, o)) (hk : pY ops listed i = true) (hQ : ∀ c a w, Q (.panic c) (Act.put a (some d) v) w → Q (.panic c) a w) (hv : Val P μr l Lr o v)
    (hg : GA P X μr Lr ops Q fuel (listed.setIfInBounds i true) μ ((d, v) :: l) L) : GA P X μr Lr ops Q (fuel + 1) listed μ l L := by
  obtain ⟨k1, k2, k3⟩ := vS hk
  obtain ⟨ho, hd, hn, hw⟩ := FO h
  exact MY i ho hd hn hw k1 k2 k3 hQ hv hg
theorem aEr (i : Nat) {t : Nat} {b : Bool} (ho : nH ops.toList i = some o) (h : BB ops l o = some (t, b)) (hb : zN b) (hg : PIf b (GA P X μr Lr ops Q fuel listed μ ((t, .bool true) :: l) L) (GA P X μr Lr ops Q fuel listed μ ((t, .bool false) :: l) L)) : GA P X μr Lr ops Q fuel listed μ l L :=
  UH i ho (oF h).1 (oF h).2 hb hg.1 hg.2
def aAe (X : Ctx) {ι : Type} (J : ι → Prop) (μs : ι → Mem) (ls : ι → aI) (Ls : ι → List Bk) (a : Act) (w : World) : Prop := ∃ j, J j ∧ St X (μs j) (ls j) (Ls j) a w
theorem dY {x y : Code} {ι : Type} (J : ι → Prop) (μs : ι → Mem) (ls : ι → aI) (Ls : ι → List Bk) (hx : GC P X x (Exit.then (aAe X J μs ls Ls) Q) μ l L) (hy : ∀ i, J i → GC P X y Q (μs i) (ls i) (Ls i)) : GC P X (.seq x y) Q μ l L := fun a w hs =>
  wp_seq (wp_mono (hx a w hs) fun e a' w' h => by
    cases e with
    | normal => obtain ⟨j, hJ, hst⟩ := h; exact hy j hJ a' w' hst
    | _ => exact h)
end
end Go.Vcg
set_option maxRecDepth 20000
namespace Go.Vcg
open Go.RowKit
section
variable {P : Program} {X : Ctx} {ops : Array Oper} {Q : Exit → Act → World → Prop} {rest : List Oper} {μ μr : Mem} {l : aI} {L Lr : List Bk} {a : Act} {w : World} {o : Oper} {d fuel i : Nat} {listed : Array Bool}
variable {ty : TypeId} {pos : String} {af : Array Edge} {gd : Option (Nat × Bool)} {ds : Option Nat}
def bAt (s : ByteArray) (k : Nat) : Int := ((s.data.toList[k]?).getD 0).toNat
theorem IU {t : TypeId} {s : ByteArray} {k : Nat} (ht : P.underlying t = some .string) (hk : k < s.size) (w : World) : (Instr.index t (.string s) (.int .i64 (k : Int))).run P w = .ok (.int .u8 (bAt s k)) w := by
  have h1 : s[k]? = some s[k] := by simp [hk]
  have h2 : bAt s k = s[k].toNat := by
    unfold bAt
    have : s.data.toList[k]? = some s[k] := by
      rw [Array.getElem?_toList]
      exact Array.getElem?_eq_getElem hk
    rw [this]; rfl
  simp [Instr.index, asIntOf, run_underlying ht, h1, h2]
theorem RH {p q : Operand} {t : TypeId} {s : ByteArray} {i : Int} (k : Nat) (ht : P.underlying t = some .string) (hx0 : ev l p = some (.string s)) (hx1 : ev l q = some (.int .i64 i)) (hi : i = (k : Int)) (hk : k < s.size) :
    Val P μ l L ⟨ds, .index t p q, ty, pos, af, gd⟩ (.int .u8 (bAt s k)) := fun a w hs => by
  have e0 := hs.eval hx0; have e1 := hs.eval hx1; generalize a.eval = ρ at e0 e1; subst hi; simp [execOp, e0, e1, IU ht hk]
theorem aA6 {x y : Operand} {ts : Array TypeId} {i j : Int} (h0 : ev l x = some (.int .i64 i)) (h1 : ev l y = some (.int .i64 j)) : Val P μ l L ⟨ds, .call { callee := .builtin .max, args := #[x, y], argTypes := ts }, ty, pos, af, gd⟩ (.int .i64 (if i < j then j else i)) := fun a w hs => by
  have e0 := hs.eval h0
  have e1 := hs.eval h1
  generalize a.eval = ρ at e0 e1
  simp [execOp, resolve, invoke, builtin, Builtin.max_, Builtin.max2, e0, e1]
abbrev bl (s : ByteArray) : List UInt8 := s.data.toList
theorem sK (s : ByteArray) : (bl s).length = s.size := by simp [bl]
theorem LN {s t : ByteArray} (h : bl s = bl t) : s = t := by
  cases s; cases t
  simp only [bl] at h
  congr
  exact Array.toList_inj.1 h
theorem LO (s : ByteArray) (a b : Nat) : bl (s.extract a b) = ((bl s).drop a).take (b - a) := by
  simp [bl, ByteArray.data_extract]
theorem aAa {s : ByteArray} {k : Nat} {b : UInt8} (h : (bl s)[k]? = some b) : bAt s k = b.toNat := by
  unfold bAt; rw [h]; rfl
end
end Go.Vcg
set_option maxRecDepth 20000
namespace Go.Vcg
open Go.RowKit
section
variable {P : Program} {μ : Mem} {l : aI} {L : List Bk} {a : Act} {w : World}
def RVs (P : Program) (μ : Mem) (l : aI) (L : List Bk) : List ResultVar → List Value → Prop
  | [], [] => True
  | r :: rs, v :: vs => RV P μ l L r v ∧ RVs P μ l L rs vs
  | _, _ => False
theorem sU : RVs P μ l L [] [] := trivial
theorem pB {r : ResultVar} {rs : List ResultVar} {v : Value} {vs : List Value} (h : RV P μ l L r v) (hs : RVs P μ l L rs vs) : RVs P μ l L (r :: rs) (v :: vs) := ⟨h, hs⟩
theorem sV (hs : Rd μ l L a w) : ∀ {rs : List ResultVar} {vs : List Value}, RVs P μ l L rs vs → (rs.mapM (ResultVar.get a.tmps)).run P w = .ok vs w
  | [], [], _ => by simp
  | r :: rs, v :: vs, h => by
    have h1 := h.1 a w hs
    have h2 := sV hs h.2
    simp [List.mapM_cons, h1, h2]
  | [], _ :: _, h => by cases h
  | _ :: _, [], h => by cases h
theorem FD {fn : Func} {rs : List ResultVar} {vs : List Value} (hr : fn.results = rs.toArray) (h : RVs P μ l L rs vs) (hl : Nat.beq vs.length 1 = false) (hs : Rd μ l L a w) : (results fn a.tmps).run P w = .ok (.tuple vs.toArray) w := by
  have h1 := sV hs h
  have h2 : ¬ vs.length = 1 := Nat.ne_of_beq_eq_false hl
  have e : results fn a.tmps = (do let vs ← rs.toArray.mapM (ResultVar.get a.tmps); pure (if h : vs.size = 1 then vs[0] else .tuple vs)) := by
    unfold results
    rw [hr]
    refine congrArg (fun f => (rs.toArray.mapM f >>= fun vs => pure (if h : vs.size = 1 then vs[0] else .tuple vs) : Sem Value)) ?_
    funext r
    cases r <;> rfl
  rw [e]
  simp only [List.mapM_toArray]
  simp [h1, h2]
theorem IY {fn : Func} {n : Nat} {rs : List ResultVar} {vs : List Value} {v : Value} {w : World} {μ0 : Mem} (hr : fn.results = rs.toArray) (h : RVs P μ l L rs vs) (hl : Nat.beq vs.length 1 = false) (e : .tuple vs.toArray = v) :
    GQ ⟨w, μ0, [], n⟩ (bodyPost P fn (fun e w' => e = .returned v ∧ Below w.heap.size w w')) .ret μ l L := fun a w' hs =>
  ⟨hs.defers.none (by simp), .tuple vs.toArray, FD hr h hl hs.rd, by rw [e], hs.cO.below⟩
end
end Go.Vcg
set_option maxRecDepth 20000
namespace Go.Vcg
open Go.RowKit Go.MapKept
section
variable {P : Program} {X : Ctx} {ops : Array Oper} {Q : Exit → Act → World → Prop} {rest : List Oper} {μ μr : Mem} {l : aI} {L Lr : List Bk} {a : Act} {w : World} {o : Oper} {d fuel i : Nat} {listed : Array Bool}
variable {ty : TypeId} {pos : String} {af : Array Edge} {gd : Option (Nat × Bool)} {ds : Option Nat}
theorem St.aFb (h : St X μ l L a w) (x : Obj) (y : Bk) (hid : Bk.id y = some w.heap.size) (hy : Bk.at y (w.alloc x)) : St X μ l (y :: L) a (w.alloc x) := by
  have hold : ∀ b, b < w.heap.size → (w.alloc x).heap[b]? = w.heap[b]? := fun b hb => Below.heap_alloc w _ b hb
  have hlt : ∀ x ∈ L, ∀ b, Bk.id x = some b → b < w.heap.size := fun x hx b hb => Bk.lt (h.own x hx) hb
  refine ⟨h.size, h.defers, h.slots, ⟨h.cO.os, h.cO.tape, h.cO.output, Nat.le_trans h.cO.size (by simp), fun b hb hM => ?_⟩, fun b o hb => ?_, h.from0, h.fresh, fun x hx => ?_, fun x hx b hb => ?_, fun x hx b hb => ?_, ?_⟩
  · rw [hold b (Nat.lt_of_lt_of_le hb h.cO.size)]; exact h.cO.block b hb hM
  · have := h.mem b o hb
    rw [hold b (Array.getElem?_eq_some_iff.1 this).1]; exact this
  · rcases List.mem_cons.1 hx with rfl | hx
    · exact hy
    · exact Bk.cO (h.own x hx) (fun b hb => hold b (hlt x hx b hb))
  · rcases List.mem_cons.1 hx with rfl | hx
    · rw [hid] at hb
      cases hb
      cases hm : μ w.heap.size with
      | none => rfl
      | some o =>
        have := (Array.getElem?_eq_some_iff.1 (h.mem _ _ hm)).1
        omega
    · exact h.priv x hx b hb
  · rcases List.mem_cons.1 hx with rfl | hx
    · rw [hid] at hb
      cases hb; exact .inr h.cO.size
    · exact h.new x hx b hb
  · refine List.pairwise_cons.2 ⟨fun y hy b hb hb' => ?_, h.diff⟩
    have h1 := hlt y hy b hb'
    rw [hid] at hb
    have h2 : w.heap.size = b := Option.some.inj hb
    omega
theorem DK {t : TypeId} (hn : Nat.blt d X.n = true) (hw : cV ops l ⟨some d, .makeMap t none, ty, pos, af, gd⟩ = some true)
    (h : ∀ b, G P X ops Q rest μ ((d, .map (some b)) :: l) (.mp ⟨b, [], 0⟩ :: L)) : G P X ops Q (⟨some d, .makeMap t none, ty, pos, af, gd⟩ :: rest) μ l L :=
  qY hw fun a w hs => by
    have e : (execOp a.eval ⟨some d, .makeMap t none, ty, pos, af, gd⟩).run P w = .ok (.value (.map (some w.heap.size))) (w.alloc (.map #[] 0)) := by
      simp [execOp, run_makeMap]
    unfold Oper.wp
    rw [e, Oper.upon_value]
    exact h _ _ _ ((hs.aFb (.map #[] 0) (.mp ⟨w.heap.size, [], 0⟩) rfl (heap_alloc_new w _)).put hn _)
def InM (L : List Bk) (b : Nat) (m : Mp) : Prop := ∃ i, dE L i = some (.mp m) ∧ m.b = b
theorem jU {b ck : Nat} {es : List MapEntry} {L : List Bk} : InM (.mp ⟨b, es, ck⟩ :: L) b ⟨b, es, ck⟩ := ⟨0, rfl, rfl⟩
theorem jT {b : Nat} {m : Mp} {x : Bk} {L : List Bk} (h : InM L b m) : InM (x :: L) b m := by
  obtain ⟨i, h1, h2⟩ := h
  exact ⟨i + 1, h1, h2⟩
def UpM (L : List Bk) (b : Nat) (m : Mp) (F : Mp → List Bk) : Prop := ∃ i, dE L i = some (.mp m) ∧ m.b = b ∧ ∀ m', F m' = dG L i (.mp m')
theorem lS {b ck : Nat} {es : List MapEntry} {L : List Bk} : UpM (.mp ⟨b, es, ck⟩ :: L) b ⟨b, es, ck⟩ (fun m => .mp m :: L) := ⟨0, rfl, rfl, fun _ => rfl⟩
theorem mW {b : Nat} {m : Mp} {x : Bk} {L : List Bk} {F : Mp → List Bk} (h : UpM L b m F) : UpM (x :: L) b m (fun m => x :: F m) := by
  obtain ⟨i, h1, h2, h3⟩ := h
  exact ⟨i + 1, h1, h2, fun m' => by show x :: F m' = x :: dG L i (.mp m'); rw [h3]⟩
theorem mK {t kt et : TypeId} {dk : TypeDesc} {b ck : Nat} {es : List MapEntry} {k v : Value} (ht : P.underlying t = some (.map kt et)) (hk : P.underlying kt = some dk) (hkey : IsKey dk k)
    (hb : w.heap[b]? = some (.map es.toArray ck)) (hf : Instr.findNow dk k es 0 = some none) : (Instr.mapUpdate t (.map (some b)) k v).run P w = .ok () { w with heap := w.heap.setIfInBounds b (.map (es ++ [MapEntry.mk k v ck]).toArray (ck + 1)) } := by
  simp [Instr.mapUpdate, run_underlying ht, MapKept.run_getObj_map hb, MapKept.run_checkKey hk hkey, MapKept.run_findKey hk hf, MapKept.run_setObj_map _ hb]
theorem tI {t kt et : TypeId} {dk : TypeDesc} {m k x : Operand} {b ck : Nat} {es : List MapEntry} {kv v : Value} {F : Mp → List Bk} {op : Op} (hop : op = .insert t m k x ∨ op = .mapUpdate t m k x) (hw : cV ops l ⟨none, op, ty, pos, af, gd⟩ = some true) (hm : ev l m = some (.map (some b))) (hk : ev l k = some kv) (hx : ev l x = some v)
    (ht : P.underlying t = some (.map kt et)) (hkt : P.underlying kt = some dk) (hkey : IsKey dk kv) (hu : UpM L b ⟨b, es, ck⟩ F) (hf : Instr.findNow dk kv es 0 = some none)
    (h : G P X ops Q rest μ l (F ⟨b, es ++ [MapEntry.mk kv v ck], ck + 1⟩)) : G P X ops Q (⟨none, op, ty, pos, af, gd⟩ :: rest) μ l L :=
  qY hw fun a w hs => by
    obtain ⟨i, hi, _, hF⟩ := hu
    have hb : w.heap[b]? = some (.map es.toArray ck) := hs.own _ (bO hi)
    have e1 := hs.eval hm; have e2 := hs.eval hk; have e3 := hs.eval hx
    have e : (execOp a.eval ⟨none, op, ty, pos, af, gd⟩).run P w = .ok .skip { w with heap := w.heap.setIfInBounds b (.map (es ++ [MapEntry.mk kv v ck]).toArray (ck + 1)) } := by
      generalize a.eval = ρ at e1 e2 e3
      rcases hop with rfl | rfl <;> simp [execOp, e1, e2, e3, mK ht hkt hkey hb hf]
    unfold Oper.wp
    rw [e, Oper.upon_skip]
    have hlt := (Array.getElem?_eq_some_iff.1 hb).1
    have := hs.upd hi (y := .mp ⟨b, es ++ [MapEntry.mk kv v ck], ck + 1⟩) (w' := { w with heap := w.heap.setIfInBounds b (.map (es ++ [MapEntry.mk kv v ck]).toArray (ck + 1)) }) rfl rfl rfl (by simp)
      (fun c hc hne => by
        have : b ≠ c := fun e => hne (by rw [e]; rfl)
        simp [Array.getElem?_setIfInBounds_ne this])
      (by show (w.heap.setIfInBounds b _)[b]? = _; rw [Array.getElem?_setIfInBounds_self_of_lt hlt])
      (fun c hc => .inl hc)
    rw [hF] at h
    exact h _ _ this
def iS (P : Program) (et : TypeId) : Option (Option (Nat × Value)) → Option (Value × Bool)
  | some (some (_, v)) => some (v, true)
  | some none => match gB P et with
    | some z => some (z, false)
    | none => none
  | none => none
theorem xF {t kt et : TypeId} {dk : TypeDesc} {b ck : Nat} {es : List MapEntry} {k v : Value} {ok c : Bool} (ht : P.underlying t = some (.map kt et)) (hk : P.underlying kt = some dk) (hkey : IsKey dk k)
    (hb : w.heap[b]? = some (.map es.toArray ck)) (hf : iS P et (Instr.findNow dk k es 0) = some (v, ok)) : (Instr.lookup t (.map (some b)) k c).run P w = .ok (if c then .tuple #[v, .bool ok] else v) w := by
  cases hr : Instr.findNow dk k es 0 with
  | none => simp [hr, iS] at hf
  | some r =>
    cases r with
    | none =>
      simp only [hr, iS] at hf
      split at hf
      · rename_i z hz
        simp only [Option.some.injEq, Prod.mk.injEq] at hf
        obtain ⟨rfl, rfl⟩ := hf
        simp [Instr.lookup, run_underlying ht, MapKept.run_getObj_map hb, MapKept.run_checkKey hk hkey, MapKept.run_findKey hk hr, fZ hz]
        try (cases c <;> rfl)
      · cases hf
    | some r =>
      obtain ⟨j, u⟩ := r
      simp only [hr, iS, Option.some.injEq, Prod.mk.injEq] at hf
      obtain ⟨rfl, rfl⟩ := hf
      simp [Instr.lookup, run_underlying ht, MapKept.run_getObj_map hb, MapKept.run_checkKey hk hkey, MapKept.run_findKey hk hr]
      try (cases c <;> rfl)
theorem gG {t kt et : TypeId} {dk : TypeDesc} {m k : Operand} {b ck : Nat} {es : List MapEntry} {kv v : Value} {ok : Bool} (hm : ev l m = some (.map (some b))) (hk : ev l k = some kv) (ht : P.underlying t = some (.map kt et)) (hkt : P.underlying kt = some dk) (hkey : IsKey dk kv)
    (hu : InM L b ⟨b, es, ck⟩) (hf : iS P et (Instr.findNow dk kv es 0) = some (v, ok)) : Val P μ l L ⟨ds, .lookup t m k false, ty, pos, af, gd⟩ v := fun a w hs => by
  obtain ⟨i, hi, _⟩ := hu
  have hb : w.heap[b]? = some (.map es.toArray ck) := hs.own _ (bO hi)
  have e1 := hs.eval hm; have e2 := hs.eval hk
  generalize a.eval = ρ at e1 e2
  simp [execOp, e1, e2, xF (c := false) ht hkt hkey hb hf]
end
end Go.Vcg
set_option maxRecDepth 20000
namespace Go.Vcg
open Go.RowKit
def eS : List Bk → List Nat
  | [] => []
  | x :: r => match Bk.id x with
    | some b => b :: eS r
    | none => eS r
theorem jR {L : List Bk} {b : Nat} : b ∈ eS L ↔ ∃ x ∈ L, Bk.id x = some b := by
  induction L with
  | nil => simp [eS]
  | cons y r ih =>
    unfold eS
    cases h : Bk.id y with
    | none => simp [ih, h]
    | some c =>
      simp only [List.mem_cons, ih, exists_eq_or_imp, h, Option.some.injEq]
      constructor
      · rintro (rfl | h) <;> simp [*]
      · rintro (rfl | h) <;> simp [*]
structure Own (μ : Mem) (L : List Bk) (w : World) : Prop where
  own : ∀ x ∈ L, Bk.at x w
  priv : ∀ x ∈ L, ∀ b, Bk.id x = some b → μ b = none
  diff : L.Pairwise (fun x y => ∀ b, Bk.id x = some b → Bk.id y ≠ some b)
structure aE3 (M : List Nat) (w w' : World) (μ μ' : Mem) : Prop where
  os : w'.os = w.os
  tape : w'.tape = w.tape
  output : w'.output = w.output
  size : w.heap.size ≤ w'.heap.size
  block : ∀ b, b < w.heap.size → b ∉ M → w'.heap[b]? = w.heap[b]?
  le : MLe μ μ'
  ok : MOk μ' w'
  fresh : ∀ b, b < w.heap.size → b ∉ M → μ b = none → μ' b = none
def fY (M : List Nat) (w w' : World) (μ : Mem) (L' : List Bk) (μ' : Mem) : Prop :=
  aE3 M w w' μ μ' ∧ Own μ' L' w' ∧ ∀ x ∈ L', ∀ b, Bk.id x = some b → b ∈ M ∨ w.heap.size ≤ b
section
variable {P : Program} {X : Ctx} {ops : Array Oper} {Q : Exit → Act → World → Prop} {rest : List Oper} {μ : Mem} {l : aI} {L : List Bk} {a : Act} {w : World} {o : Oper} {d : Nat}
theorem St.aC8 {LB Lr L' : List Bk} {w' : World} {μ' : Mem} (h : St X μ l (LB ++ Lr) a w) (hb : fY (eS LB) w w' μ L' μ') : St X μ' l (L' ++ Lr) a w' := by
  obtain ⟨hg, ho, hn⟩ := hb
  have hd := List.pairwise_append.1 h.diff
  have hlt : ∀ x ∈ LB ++ Lr, ∀ b, Bk.id x = some b → b < w.heap.size := fun x hx b hb => Bk.lt (h.own x hx) hb
  have hids : ∀ b ∈ eS LB, b ∈ X.M ∨ X.w0.heap.size ≤ b := fun b hb => by
    obtain ⟨x, hx, hxb⟩ := jR.1 hb
    exact h.new x (List.mem_append_left _ hx) b hxb
  have hr : ∀ x ∈ Lr, ∀ b, Bk.id x = some b → b ∉ eS LB := fun x hx b hxb hb => by
    obtain ⟨y, hy, hyb⟩ := jR.1 hb
    exact hd.2.2 y hy x hx b hyb hxb
  refine ⟨h.size, h.defers.mono hg.le, h.slots, ⟨hg.os.trans h.cO.os, hg.tape.trans h.cO.tape, hg.output.trans h.cO.output, Nat.le_trans h.cO.size hg.size, fun b hb hM => ?_⟩, hg.ok, h.from0.trans hg.le, fun b hb hM h0 => ?_, fun x hx => ?_, fun x hx b hxb => ?_, fun x hx b hxb => ?_, ?_⟩
  · have : b ∉ eS LB := fun hbi => by
      rcases hids b hbi with h1 | h1
      · exact hM h1
      · omega
    rw [hg.block b (Nat.lt_of_lt_of_le hb h.cO.size) this]
    exact h.cO.block b hb hM
  · have : b ∉ eS LB := fun hbi => by
      rcases hids b hbi with h1 | h1
      · exact hM h1
      · omega
    exact hg.fresh b (Nat.lt_of_lt_of_le hb h.cO.size) this (h.fresh b hb hM h0)
  · rcases List.mem_append.1 hx with hx | hx
    · exact ho.own x hx
    · exact Bk.cO (h.own x (List.mem_append_right _ hx)) fun b hb => hg.block b (hlt x (List.mem_append_right _ hx) b hb) (hr x hx b hb)
  · rcases List.mem_append.1 hx with hx | hx
    · exact ho.priv x hx b hxb
    · exact hg.fresh b (hlt x (List.mem_append_right _ hx) b hxb) (hr x hx b hxb) (h.priv x (List.mem_append_right _ hx) b hxb)
  · rcases List.mem_append.1 hx with hx | hx
    · rcases hn x hx b hxb with h1 | h1
      · exact hids b h1
      · exact .inr (Nat.le_trans h.cO.size h1)
    · exact h.new x (List.mem_append_right _ hx) b hxb
  · refine List.pairwise_append.2 ⟨ho.diff, hd.2.1, fun x hx y hy b hxb hyb => ?_⟩
    rcases hn x hx b hxb with h1 | h1
    · exact hr y hy b hyb h1
    · have := hlt y (List.mem_append_right _ hy) b hyb
      omega
def splitB : Nat → List Bk → Option (List Bk × List Bk)
  | 0, L => some ([], L)
  | _ + 1, [] => none
  | k + 1, x :: r => match splitB k r with
    | some (a, b) => some (x :: a, b)
    | none => none
theorem iO : ∀ {k : Nat} {L a b : List Bk}, splitB k L = some (a, b) → L = a ++ b
  | 0, L, a, b, h => by simp [splitB] at h; obtain ⟨rfl, rfl⟩ := h; rfl
  | k + 1, [], a, b, h => by simp [splitB] at h
  | k + 1, x :: r, a, b, h => by
    unfold splitB at h
    split at h
    · rename_i a' b' he
      cases h
      rw [iO he]
      rfl
    · cases h
theorem mP {f : FuncId} {vs : Array Value} {ι : Type} {Ls : ι → List Bk} {Post : Mem → Value → ι → Prop} {LB Lr : List Bk} (k : Nat) (hd : o.dst = some d) (hn : Nat.blt d X.n = true) (hw : cV ops l o = some true) (hr : Ent P μ l L o f vs)
    (hL : splitB k L = some (LB, Lr))
    (hc : ∀ w, MOk μ w → Own μ LB w → Calls P f vs w fun e w' => ∃ v μ' i, e = .returned v ∧ fY (eS LB) w w' μ (Ls i) μ' ∧ Post μ' v i)
    (h : ∀ v μ' i, MLe μ μ' → Post μ' v i → G P X ops Q rest μ' ((d, v) :: l) (Ls i ++ Lr)) : G P X ops Q (o :: rest) μ l L :=
  qY hw fun a w hs => by
    unfold Oper.wp
    rw [hr a w hs.rd, Oper.upon_enter]
    have he := iO hL
    subst he
    have hO : Own μ LB w := ⟨fun x hx => hs.own x (List.mem_append_left _ hx), fun x hx => hs.priv x (List.mem_append_left _ hx), (List.pairwise_append.1 hs.diff).1⟩
    refine (hc w hs.mem hO).mono fun e w' he => ?_
    obtain ⟨v, μ', i, rfl, hb, hp⟩ := he
    show wpList P ops Q rest (a.put o.dst v) w'
    rw [hd]
    exact h v μ' i hb.1.le hp _ _ ((hs.aC8 hb).put hn _)
theorem aS {f : FuncId} {fn : Func} {c : Code} {args : List Value} {n : Nat} {R : Ending → World → Prop} {LB : List Bk} (hf : P.funcs[f]? = some fn) (hb : fn.body = some c) (hn : fn.ntmps = n) (hsz : args.length ≤ n)
    (hμ : MOk μ w) (hO : Own μ LB w) (h : GC P ⟨w, μ, eS LB, n⟩ c (bodyPost P fn R) μ (idx 0 args) LB) : Calls P f args.toArray w R := by
  refine calls_of_wp hf hb (h _ _ ⟨?_, Marks.nil, fun t v hv => ?_, HW.refl _ _, hμ, MLe.refl _, fun _ _ _ h => h, hO.own, hO.priv, fun x hx b hxb => .inl (jR.2 ⟨x, hx, hxb⟩), hO.diff⟩)
  · simp [hn]; omega
  · obtain ⟨_, h2⟩ := pM _ _ _ _ hv
    have hlt : t < args.length := by have := (List.getElem?_eq_some_iff.1 h2).1; simpa using this
    simp only [Nat.sub_zero] at h2
    rw [Array.getElem?_append_left (by simpa using hlt)]
    simpa using h2
theorem St.yE {n : Nat} {μ0 : Mem} {w' : World} {M : List Nat} {L' Lr : List Bk} (hs : St ⟨w, μ0, M, n⟩ μ l (L' ++ Lr) a w') : ∃ μ', fY M w w' μ0 L' μ' ∧ MLe μ μ' := by
  have hd := List.pairwise_append.1 hs.diff
  refine ⟨fun b => if b < w.heap.size then μ b else if b ∈ eS L' then none else w'.heap[b]?, ⟨⟨hs.cO.os, hs.cO.tape, hs.cO.output, hs.cO.size, hs.cO.block, fun b o e => ?_, fun b o e => ?_, fun b hb hM h0 => ?_⟩, ⟨fun x hx => hs.own x (List.mem_append_left _ hx), fun x hx b hxb => ?_, hd.1⟩, fun x hx => hs.new x (List.mem_append_left _ hx)⟩, fun b o e => ?_⟩
  · have e2 := hs.from0 b o e
    by_cases hb : b < w.heap.size
    · simp [hb, e2]
    · have : b ∉ eS L' := fun hbi => by
        obtain ⟨x, hx, hxb⟩ := jR.1 hbi
        rw [hs.priv x (List.mem_append_left _ hx) b hxb] at e2
        cases e2
      simp [hb, this]
      exact hs.mem b o e2
  · by_cases hb : b < w.heap.size
    · simp [hb] at e; exact hs.mem b o e
    · by_cases hbi : b ∈ eS L'
      · simp [hb, hbi] at e
      · simp [hb, hbi] at e; exact e
  · simp [hb]; exact hs.fresh b hb hM h0
  · have := hs.priv x (List.mem_append_left _ hx) b hxb
    by_cases hb : b < w.heap.size
    · simp [hb, this]
    · simp [hb, jR.2 ⟨x, hx, hxb⟩]
  · by_cases hb : b < w.heap.size
    · simp [hb, e]
    · have : b ∉ eS L' := fun hbi => by
        obtain ⟨x, hx, hxb⟩ := jR.1 hbi
        rw [hs.priv x (List.mem_append_left _ hx) b hxb] at e
        cases e
      simp [hb, this]
      exact hs.mem b o e
theorem CS {fn : Func} {n : Nat} {r : ResultVar} {v : Value} {μ0 : Mem} {M : List Nat} {ι : Type} {Ls : ι → List Bk} {Post : Mem → Value → ι → Prop} {L' Lr : List Bk} (k : Nat) (i : ι) (hM : ∀ D, M.count D ≤ 1) (hr : fn.results = #[r]) (h : RV P μ l L r v) (hL : splitB k L = some (L', Lr)) (hLs : Ls i = L')
    (hp : ∀ μ', MLe μ μ' → Post μ' v i) :
    GQ ⟨w, μ0, M, n⟩ (bodyPost P fn (fun e w' => ∃ v μ' i, e = .returned v ∧ fY M w w' μ0 (Ls i) μ' ∧ Post μ' v i)) .ret μ l L := fun a w' hs => by
  have he := iO hL
  subst he
  obtain ⟨μ', hb, hle⟩ := hs.yE
  subst hLs
  exact ⟨hs.defers.none hM, v, results1 hr h hs.rd, v, μ', i, rfl, hb, hp μ' hle⟩
theorem SS {fn : Func} {n : Nat} {μ0 : Mem} {M : List Nat} {ι : Type} {Ls : ι → List Bk} {Post : Mem → Value → ι → Prop} {L' Lr : List Bk} {e : Exit} (k : Nat) (i : ι) (he : e = .ret ∨ e = .normal) (hM : ∀ D, M.count D ≤ 1) (hr : fn.results = #[]) (hL : splitB k L = some (L', Lr)) (hLs : Ls i = L')
    (hp : ∀ μ' v, MLe μ μ' → Post μ' v i) :
    GQ ⟨w, μ0, M, n⟩ (bodyPost P fn (fun e w' => ∃ v μ' i, e = .returned v ∧ fY M w w' μ0 (Ls i) μ' ∧ Post μ' v i)) e μ l L := fun a w' hs => by
  have he' := iO hL
  subst he'
  obtain ⟨μ', hb, hle⟩ := hs.yE
  subst hLs
  have : ∃ v, (results fn a.tmps).run P w' = .ok v w' := by simp [results, hr]
  obtain ⟨v, hv⟩ := this
  rcases he with rfl | rfl
  all_goals exact ⟨hs.defers.none hM, v, hv, v, μ', i, rfl, hb, hp μ' v hle⟩
end
end Go.Vcg
set_option maxRecDepth 20000
namespace Go.Vcg
open Go.RowKit
theorem bG : ∀ {L : List Bk}, L.Pairwise (fun x y => ∀ b, Bk.id x = some b → Bk.id y ≠ some b) → ∀ D, (eS L).count D ≤ 1
  | [], _, D => by simp [eS]
  | x :: r, h, D => by
    obtain ⟨h1, h2⟩ := List.pairwise_cons.1 h
    have ih := bG h2 D
    unfold eS
    cases hx : Bk.id x with
    | none => exact ih
    | some c =>
      dsimp only
      rw [List.count_cons]
      by_cases hc : c = D
      · subst hc
        have : (eS r).count c = 0 := List.count_eq_zero.2 fun hm => by
          obtain ⟨y, hy, hyb⟩ := jR.1 hm
          exact h1 y hy c hx hyb
        simp [this]
      · simp [hc]; exact ih
end Go.Vcg
set_option maxRecDepth 20000
namespace Go.Vcg
open Go.RowKit
inductive eL : Bk → Bk → Prop
  | refl (x : Bk) : eL x x
  | cells {b : Nat} {t : TypeId} {sz : Nat} {cs cs' : aI} (h : nC cs' cs) : eL (.inl ⟨b, t, sz, cs'⟩) (.inl ⟨b, t, sz, cs⟩)
inductive Sel : List Bk → List Bk → Prop
  | nil (L : List Bk) : Sel [] L
  | cons {x y : Bk} {r a b : List Bk} (h : eL x y) (hr : Sel r (a ++ b)) : Sel (x :: r) (a ++ y :: b)
theorem eL.id {x y : Bk} (h : eL x y) : Bk.id x = Bk.id y := by cases h <;> rfl
theorem eL.at {x y : Bk} {w : World} (h : eL x y) (hy : Bk.at y w) : Bk.at x w := by
  cases h with
  | refl => exact hy
  | cells h =>
    obtain ⟨arr, h1, h2, h3⟩ := hy
    exact ⟨arr, h1, h2, fun k v hk => h3 k v (h k v hk)⟩
theorem wG {L' L : List Bk} (h : Sel L' L) : ∀ x ∈ L', ∃ y ∈ L, eL x y := by
  induction h with
  | nil L => intro x hx; cases hx
  | cons h hr ih =>
    intro z hz
    rcases List.mem_cons.1 hz with rfl | hz
    · exact ⟨_, by simp, h⟩
    · obtain ⟨y, hy, hle⟩ := ih z hz
      refine ⟨y, ?_, hle⟩
      rcases List.mem_append.1 hy with hy | hy <;> simp [hy]
def Df (x y : Bk) : Prop := ∀ b, Bk.id x = some b → Bk.id y ≠ some b
theorem SD {L' L : List Bk} (h : Sel L' L) : L.Pairwise Df → L'.Pairwise Df := by
  induction h with
  | nil L => intro _; exact List.Pairwise.nil
  | @cons x y r a b h hr ih =>
    intro hd
    have hd2 : (y :: (a ++ b)).Pairwise Df := (List.perm_middle.pairwise_iff (fun {_ _} hxy b hb hb' => hxy b hb' hb)).1 hd
    obtain ⟨h1, h2⟩ := List.pairwise_cons.1 hd2
    refine List.pairwise_cons.2 ⟨fun z hz c hc hzc => ?_, ih h2⟩
    obtain ⟨y2, hy2, hle⟩ := wG hr z hz
    exact h1 y2 hy2 c (by rw [← h.id]; exact hc) (by rw [← hle.id]; exact hzc)
section
variable {P : Program} {X : Ctx} {Q : Exit → Act → World → Prop} {μ : Mem} {l : aI} {L : List Bk} {a : Act} {w : World}
theorem St.sel {l' : aI} {L' : List Bk} (h : St X μ l L a w) (hl : nC l' l) (hL : Sel L' L) : St X μ l' L' a w :=
  ⟨h.size, h.defers, fun t v hv => h.slots t v (hl t v hv), h.cO, h.mem, h.from0, h.fresh, fun x hx => let ⟨y, hy, hle⟩ := wG hL x hx; hle.at (h.own y hy), fun x hx b hb => let ⟨y, hy, hle⟩ := wG hL x hx; h.priv y hy b (by rw [← hle.id]; exact hb), fun x hx b hb => let ⟨y, hy, hle⟩ := wG hL x hx; h.new y hy b (by rw [← hle.id]; exact hb), SD hL h.diff⟩
theorem cD {ι : Type} {J : ι → Prop} {μs : ι → Mem} {ls : ι → aI} {Ls : ι → List Bk} (j : ι) (hJ : J j) (hμ : μs j = μ) (hl : nC (ls j) l) (hL : Sel (Ls j) L) :
    GQ X (Exit.then (aAe X J μs ls Ls) Q) .normal μ l L := fun a w hs => ⟨j, hJ, by rw [hμ]; exact hs.sel hl hL⟩
theorem bD {ι : Type} {J : ι → Prop} {m : ι → Nat} {μs : ι → Mem} {ls : ι → aI} {Ls : ι → List Bk} {i : ι} (j : ι) (hJ : J j) (hm : m j < m i) (hμ : μs j = μ) (hl : nC (ls j) l) (hL : Sel (Ls j) L) :
    GQ X (Exit.then (WH X J m μs ls Ls i) Q) .normal μ l L := fun a w hs => ⟨j, hJ, hm, by rw [hμ]; exact hs.sel hl hL⟩
theorem KC {c : Code} {l' : aI} {L' : List Bk} (hl : nC l' l) (hL : Sel L' L) (h : GC P X c Q μ l' L') : GC P X c Q μ l L := fun a w hs => h a w (hs.sel hl hL)
theorem DF {e : Exit} {l' : aI} {L' : List Bk} (hl : nC l' l) (hL : Sel L' L) (h : GQ X Q e μ l' L') : GQ X Q e μ l L := fun a w hs => h a w (hs.sel hl hL)
theorem bW {x y : Bk} {r L : List Bk} (h : eL x y) (hr : Sel r (L)) : Sel (x :: r) (y :: L) := Sel.cons (a := []) h hr
theorem bH {x y : Bk} {y0 : Bk} {r L : List Bk} (h : eL x y) (hr : Sel r (y0 :: L)) : Sel (x :: r) (y0 :: y :: L) := Sel.cons (a := [y0]) h hr
theorem oN {x y : Bk} {y0 y1 : Bk} {r L : List Bk} (h : eL x y) (hr : Sel r (y0 :: y1 :: L)) : Sel (x :: r) (y0 :: y1 :: y :: L) := Sel.cons (a := [y0, y1]) h hr
theorem AD {x y : Bk} {y0 y1 y2 : Bk} {r L : List Bk} (h : eL x y) (hr : Sel r (y0 :: y1 :: y2 :: L)) : Sel (x :: r) (y0 :: y1 :: y2 :: y :: L) := Sel.cons (a := [y0, y1, y2]) h hr
theorem aAj {x y : Bk} {y0 y1 y2 y3 : Bk} {r L : List Bk} (h : eL x y) (hr : Sel r (y0 :: y1 :: y2 :: y3 :: L)) : Sel (x :: r) (y0 :: y1 :: y2 :: y3 :: y :: L) := Sel.cons (a := [y0, y1, y2, y3]) h hr
theorem aDu {x y : Bk} {y0 y1 y2 y3 y4 y5 : Bk} {r L : List Bk} (h : eL x y) (hr : Sel r (y0 :: y1 :: y2 :: y3 :: y4 :: y5 :: L)) : Sel (x :: r) (y0 :: y1 :: y2 :: y3 :: y4 :: y5 :: y :: L) := Sel.cons (a := [y0, y1, y2, y3, y4, y5]) h hr
theorem CG : ∀ {L : List Bk} {i : Nat} {x : Bk}, dE L i = some x → dG L i x = L
  | [], _, _, h => by simp [dE] at h
  | y :: r, 0, x, h => by simp [dE] at h; simp [dG, h]
  | y :: r, i + 1, x, h => by simp only [dG]; rw [CG (i := i) (by simpa [dE] using h)]
theorem St.aDw {i : Nat} {v : Value} {e s n n' : Nat} {xs xs' : List Value} (h : St X μ l L a w) (hi : dE L i = some (.inr ⟨v, e, s, n, xs⟩)) (hn : n = n') (hx : xs = xs') : St X μ l (dG L i (.inr ⟨v, e, s, n', xs'⟩)) a w := by
  subst hn hx
  rw [CG hi]
  exact h
theorem fF {ex : Exit} {v : Value} {e s n n' : Nat} {xs xs' : List Value} (i : Nat) (hi : dE L i = some (.inr ⟨v, e, s, n, xs⟩)) (hn : n = n') (hx : xs = xs') (h : GQ X Q ex μ l (dG L i (.inr ⟨v, e, s, n', xs'⟩))) : GQ X Q ex μ l L := fun a w hs => h a w (hs.aDw hi hn hx)
theorem qT {c : Code} (e s : Nat) (h : GC P X c Q μ l (.inr ⟨.slice none 0 0, e, s, 0, []⟩ :: L)) : GC P X c Q μ l L := fun a w hs => h a w (hs.uJ e s)
def GCs (P : Program) (X : Ctx) (c : Code) (Q : Exit → Act → World → Prop) (μ : Mem) (l : aI) (L : List Bk) : Prop := GC P X c Q μ l L
theorem bF {c : Code} (h : GCs P X c Q μ l L) : GC P X c Q μ l L := h
theorem gcs {c : Code} (h : GC P X c Q μ l L) : GCs P X c Q μ l L := h
end
end Go.Vcg
set_option maxRecDepth 20000
namespace Go.Vcg
open Go.RowKit
section
variable {P : Program} {X : Ctx} {ops : Array Oper} {Q : Exit → Act → World → Prop} {rest : List Oper} {μ μr : Mem} {l : aI} {L Lr : List Bk} {a : Act} {w : World} {o : Oper} {d fuel i : Nat} {listed : Array Bool}
variable {ty : TypeId} {pos : String} {af : Array Edge} {gd : Option (Nat × Bool)} {ds : Option Nat}
theorem Y0 {b off : Nat} {vs : List Value} {L' : List Bk} (hg : G P X ops Q rest μ l L')
    (hd : MK ops l o = true := by first | exact rfl | fail)
    (h : stop P l o.op = some (b, off, vs) := by first | exact rfl | fail)
    (h1 : EE vs := by first | (repeat first | with_reducible exact dU | ((with_reducible apply dC); (exact rfl))); done | fail)
    (hu : UpB L b off vs L' := by first | (repeat first | with_reducible apply IG | with_reducible apply IF); exact rfl; (repeat first | with_reducible exact CW | with_reducible apply wJ); done | fail) :
    G P X ops Q (o :: rest) μ l L := aEs (hd := hd) (h := h) (h1 := h1) (hu := hu) (hg := hg)
theorem J1 {ι : Type} {J : ι → Prop} {μs : ι → Mem} {ls : ι → aI} {Ls : ι → List Bk} (j : ι) (hJ : J j)
    (hμ : μs j = μ := by first | exact rfl | fail)
    (hl : nC (ls j) l := by first | (repeat first | exact cI | refine bR rfl ?_); done | fail)
    (hL : Sel (Ls j) L := by first | (repeat first | exact Sel.nil _ | (refine bW ?_ ?_; focus (first | exact eL.refl _ | (refine eL.cells ?_; repeat first | exact cI | refine bR rfl ?_))) | (refine bH ?_ ?_; focus (first | exact eL.refl _ | (refine eL.cells ?_; repeat first | exact cI | refine bR rfl ?_)))); done | fail) :
    GQ X (Exit.then (aAe X J μs ls Ls) Q) .normal μ l L := cD (j := j) (hJ := hJ) (hμ := hμ) (hl := hl) (hL := hL)
theorem J2 {ι : Type} {J : ι → Prop} {m : ι → Nat} {μs : ι → Mem} {ls : ι → aI} {Ls : ι → List Bk} {i : ι} (j : ι) (hJ : J j) (hm : m j < m i)
    (hμ : μs j = μ := by first | exact rfl | fail)
    (hl : nC (ls j) l := by first | (repeat first | exact cI | refine bR rfl ?_); done | fail)
    (hL : Sel (Ls j) L := by first | (repeat first | exact Sel.nil _ | (refine bW ?_ ?_; focus (first | exact eL.refl _ | (refine eL.cells ?_; repeat first | exact cI | refine bR rfl ?_))) | (refine bH ?_ ?_; focus (exact eL.refl _)) | (refine oN ?_ ?_; focus (exact eL.refl _))); done | fail) :
    GQ X (Exit.then (WH X J m μs ls Ls i) Q) .normal μ l L := bD (j := j) (hJ := hJ) (hm := hm) (hμ := hμ) (hl := hl) (hL := hL)
theorem J4 {ι : Type} {J : ι → Prop} {m : ι → Nat} {μs : ι → Mem} {ls : ι → aI} {Ls : ι → List Bk} {i : ι} (j : ι) (hJ : J j) (hm : m j < m i)
    (hμ : μs j = μ := by first | exact rfl | fail)
    (hl : nC (ls j) l := by first | (repeat first | exact cI | refine bR rfl ?_); done | fail)
    (hL : (Ls j).Sublist L := by first | (repeat exact List.Sublist.refl _); done | fail) :
    GQ X (Exit.then (WH X J m μs ls Ls i) Q) .normal μ l L := wL (j := j) (hJ := hJ) (hm := hm) (hμ := hμ) (hl := hl) (hL := hL)
theorem J5 {l' : aI} {L' : List Bk} (h : St X μ l L a w)
    (hl : nC l' l := by first | (repeat first | exact cI | refine bR rfl ?_); done | fail)
    (hL : Sel L' L := by first | (repeat first | exact Sel.nil _ | (refine bW ?_ ?_; focus (first | exact eL.refl _ | (refine eL.cells ?_; repeat first | exact cI | refine bR rfl ?_)))); done | fail) :
    St X μ l' L' a w := St.sel (h := h) (hl := hl) (hL := hL)
theorem J6 {X : Ctx} {μ : Mem} {l l' : aI} {L L' : List Bk} {a : Act} {w : World} (h : St X μ l L a w)
    (hl : nC l' l := by first | (repeat first | exact cI | refine bR rfl ?_); done | fail)
    (hL : L'.Sublist L := by first | (repeat exact List.Sublist.refl _); done | fail) :
    St X μ l' L' a w := St.sub (h := h) (hl := hl) (hL := hL)
theorem D1 {v : Value} (i : Nat) (hg : GA P X μr Lr ops Q fuel (listed.setIfInBounds i true) μ ((d, v) :: l) L)
    (h : wH P X.n ops l i = some (d, v) := by first | exact rfl | fail)
    (hk : pY ops listed i = true := by first | kernel_rfl | fail)
    (hQ : ∀ c a w, Q (.panic c) (Act.put a (some d) v) w → Q (.panic c) a w := by exact fun _ _ _ h => h) :
    GA P X μr Lr ops Q (fuel + 1) listed μ l L := aEq (i := i) (h := h) (hk := hk) (hQ := hQ) (hg := hg)
theorem D3  (i : Nat) (h : bX P X μr Lr ops Q fuel listed i μ l L)
    (hr : Region.ready .any ops listed = [i] := by first | kernel_rfl | fail) :
    GA P X μr Lr ops Q (fuel + 1) listed μ l L := ZF (i := i) (hr := hr) (h := h)
theorem D5  (h : G P X ops (QA Q (fun a w => Sm μr Lr w ∧ wpAnyH P .any ops Q (Sm μr Lr) fuel (listed.setIfInBounds i true) a w)) [o] μ l L)
    (ho : nH ops.toList i = some o := by first | exact rfl | fail) :
    bX P X μr Lr ops Q fuel listed i μ l L := aCo (ho := ho) (h := h)
theorem D6 {i : Nat} (h : GA P X μr Lr ops Q fuel (listed.setIfInBounds i true) μ ((d, undef) :: l) L)
    (ho : nH ops.toList i = some o := by first | exact rfl | fail)
    (hd : o.dst = some d := by first | exact rfl | fail)
    (hn : Nat.blt d X.n = true := by first | exact rfl | fail)
    (hw : cV ops l o = some false := by first | exact rfl | fail) :
    bX P X μr Lr ops Q fuel listed i μ l L := QI (ho := ho) (hd := hd) (hn := hn) (hw := hw) (h := h)
theorem D7 {t : Nat} {b : Bool} (i : Nat) (hg : PIf b (GA P X μr Lr ops Q fuel listed μ ((t, .bool true) :: l) L) (GA P X μr Lr ops Q fuel listed μ ((t, .bool false) :: l) L))
    (ho : nH ops.toList i = some o := by first | exact rfl | fail)
    (h : BB ops l o = some (t, b) := by first | exact rfl | fail)
    (hb : zN b := by (fail_if_success (with_reducible show zN true)); (fail_if_success (with_reducible show zN false)); exact aD7 _) :
    GA P X μr Lr ops Q fuel listed μ l L := aEr (i := i) (ho := ho) (h := h) (hb := hb) (hg := hg)
theorem D8  (h : GQ X Q .normal μ l L)
    (hr : Region.ready .any ops listed = [] := by first | kernel_rfl | fail) :
    GA P X μr Lr ops Q fuel listed μ l L := ZE (hr := hr) (h := h)
theorem D9  (h : GA P X μr Lr ops Q fuel listed μ l L)
    (hle : MLe μr μ := by first | exact MLe.refl _ | assumption | (focus (repeat (first | assumption | (apply MLe.trans; rotate_left; assumption)))); done | fail)
    (hLr : Lr.Sublist L := by first | (repeat first | exact List.Sublist.refl _ | exact List.nil_sublist _ | refine List.Sublist.cons_cons _ ?_ | refine List.Sublist.cons _ ?_); done | fail) :
    G P X ops (QA Q (fun a w => Sm μr Lr w ∧ wpAnyH P .any ops Q (Sm μr Lr) fuel listed a w)) [] μ l L := UJ (hle := hle) (hLr := hLr) (h := h)
theorem EN {A : Prop} (h : A := by first | ((with_reducible apply NO); kernel_rfl) | ((with_reducible apply aQ); kernel_rfl; exact rfl) | ((with_reducible apply fW); kernel_rfl; exact rfl; exact rfl) | ((with_reducible apply aU); kernel_rfl; (iterate 3 exact rfl)) | ((with_reducible apply bZ); kernel_rfl; (iterate 4 exact rfl)) | ((with_reducible apply VO); exact rfl; (assumption); exact rfl) | fail) : A := h
theorem C1  {f : FuncId} {vs : Array Value} {v : Value} (hd : oV X.n ops l o = some d) (hr : Ent P μ l L o f vs) (hc : ∀ w μc, MOk μc w → EC μc μ L → Calls P f vs w fun e w' => e = .returned v ∧ Below w.heap.size w w') (h : G P X ops Q rest μ ((d, v) :: l) L) :
    G P X ops Q (o :: rest) μ l L := by
  obtain ⟨h1, h2, h3⟩ := fI hd
  exact BE (hd := h1) (hn := h2) (hw := h3) (hr := hr) (hc := hc) (h := h)
theorem F1 (f : FuncId) {qs : Array Operand} {ts : Array TypeId} {vs : Array Value} {v : Value} (hd : oV X.n ops l ⟨ds, .call { callee := .value (.func f), args := qs, argTypes := ts }, ty, pos, af, gd⟩ = some d) (hr : Ent P μ l L ⟨ds, .call { callee := .value (.func f), args := qs, argTypes := ts }, ty, pos, af, gd⟩ f vs) (hc : ∀ w μc, MOk μc w → EC μc μ L → Calls P f vs w fun e w' => e = .returned v ∧ Below w.heap.size w w') (h : G P X ops Q rest μ ((d, v) :: l) L) :
    G P X ops Q (⟨ds, .call { callee := .value (.func f), args := qs, argTypes := ts }, ty, pos, af, gd⟩ :: rest) μ l L := by
  obtain ⟨h1, h2, h3⟩ := fI hd
  exact BE (hd := h1) (hn := h2) (hw := h3) (hr := hr) (hc := hc) (h := h)
theorem C2  {f : FuncId} {vs : Array Value} {Post : Mem → Value → Prop} (hd : oV X.n ops l o = some d) (hr : Ent P μ l L o f vs) (hc : ∀ w, MOk μ w → Calls P f vs w fun e w' => ∃ v μ', e = .returned v ∧ oM w w' μ μ' ∧ Post μ' v) (h : ∀ v μ', MLe μ μ' → Post μ' v → G P X ops Q rest μ' ((d, v) :: l) L) :
    G P X ops Q (o :: rest) μ l L := by
  obtain ⟨h1, h2, h3⟩ := fI hd
  exact aG (hd := h1) (hn := h2) (hw := h3) (hr := hr) (hc := hc) (h := h)
theorem F2 (f : FuncId) {qs : Array Operand} {ts : Array TypeId} {vs : Array Value} {Post : Mem → Value → Prop} (hd : oV X.n ops l ⟨ds, .call { callee := .value (.func f), args := qs, argTypes := ts }, ty, pos, af, gd⟩ = some d) (hr : Ent P μ l L ⟨ds, .call { callee := .value (.func f), args := qs, argTypes := ts }, ty, pos, af, gd⟩ f vs) (hc : ∀ w, MOk μ w → Calls P f vs w fun e w' => ∃ v μ', e = .returned v ∧ oM w w' μ μ' ∧ Post μ' v) (h : ∀ v μ', MLe μ μ' → Post μ' v → G P X ops Q rest μ' ((d, v) :: l) L) :
    G P X ops Q (⟨ds, .call { callee := .value (.func f), args := qs, argTypes := ts }, ty, pos, af, gd⟩ :: rest) μ l L := by
  obtain ⟨h1, h2, h3⟩ := fI hd
  exact aG (hd := h1) (hn := h2) (hw := h3) (hr := hr) (hc := hc) (h := h)
theorem C3  {f : FuncId} {vs : Array Value} {e s n : Nat} {xs : List Value} (hd : oV X.n ops l o = some d) (hr : Ent P μ l L o f vs) (hc : ∀ w μc, MOk μc w → EC μc μ L → Calls P f vs w (mV w e s n xs)) (h : ∀ v, G P X ops Q rest μ ((d, v) :: l) (.inr ⟨v, e, s, n, xs⟩ :: L)) :
    G P X ops Q (o :: rest) μ l L := by
  obtain ⟨h1, h2, h3⟩ := fI hd
  exact vN (hd := h1) (hn := h2) (hw := h3) (hr := hr) (hc := hc) (h := h)
theorem F3 (f : FuncId) {qs : Array Operand} {ts : Array TypeId} {vs : Array Value} {e s n : Nat} {xs : List Value} (hd : oV X.n ops l ⟨ds, .call { callee := .value (.func f), args := qs, argTypes := ts }, ty, pos, af, gd⟩ = some d) (hr : Ent P μ l L ⟨ds, .call { callee := .value (.func f), args := qs, argTypes := ts }, ty, pos, af, gd⟩ f vs) (hc : ∀ w μc, MOk μc w → EC μc μ L → Calls P f vs w (mV w e s n xs)) (h : ∀ v, G P X ops Q rest μ ((d, v) :: l) (.inr ⟨v, e, s, n, xs⟩ :: L)) :
    G P X ops Q (⟨ds, .call { callee := .value (.func f), args := qs, argTypes := ts }, ty, pos, af, gd⟩ :: rest) μ l L := by
  obtain ⟨h1, h2, h3⟩ := fI hd
  exact vN (hd := h1) (hn := h2) (hw := h3) (hr := hr) (hc := hc) (h := h)
def dX (A B : Prop) : Prop := A → B
def WG (_ : Nat) (A B : Prop) : Prop := A → B
theorem EY {x y : Code}  :
    dX (GC P X x (Exit.then (y.wp P Q) Q) μ l L) (GC P X (.seq x y) Q μ l L) := fun h => aCm (h := h)
theorem uY {id : Nat} {ops : List Oper}  :
    dX (G P X ops.toArray Q ops μ l L) (GC P X (.region id ops.toArray false) Q μ l L) := fun h => QH (h := h)
theorem MD {ops : Array Oper}  :
    dX (GQ X Q .normal μ l L) (G P X ops Q [] μ l L) := fun h => aEt (h := h)
theorem AF {y : Code}  :
    dX (GC P X y Q μ l L) (GQ X (Exit.then (y.wp P Q) Q) .normal μ l L) := fun h => YX (h := h)
theorem xE {id : Nat} {c : Code}  :
    dX (GC P X c (Exit.inBlock id Q) μ l L) (GC P X (.block id c) Q μ l L) := fun h => UF (h := h)
theorem AH {id : Nat}  :
    dX (GQ X Q (.exit id) μ l L) (GC P X (.exit id) Q μ l L) := fun h => ZC (h := h)
theorem EZ   :
    dX (GQ X Q .ret μ l L) (GC P X .ret Q μ l L) := fun h => aCn (h := h)
theorem AG   :
    dX (GQ X Q .normal μ l L) (GC P X .skip Q μ l L) := fun h => ZB (h := h)
theorem oZ {K : Act → World → Prop} {i : Nat}  :
    dX (GQ X Q (.exit i) μ l L) (GQ X (Exit.then K Q) (.exit i) μ l L) := fun h => DE (h := h)
theorem rA {K : Act → World → Prop}  :
    dX (GQ X Q .ret μ l L) (GQ X (Exit.then K Q) .ret μ l L) := fun h => GZ (h := h)
theorem oO {i : Nat}  :
    dX (GQ X Q .normal μ l L) (GQ X (Exit.inBlock i Q) (.exit i) μ l L) := fun h => zT (h := h)
theorem mI {i : Nat}  :
    dX (GQ X Q .normal μ l L) (GQ X (Exit.inBlock i Q) .normal μ l L) := fun h => wB (h := h)
theorem pA {i : Nat}  :
    dX (GQ X Q .ret μ l L) (GQ X (Exit.inBlock i Q) .ret μ l L) := fun h => DG (h := h)
theorem MA {p q : Prop}  :
    dX (p) (PIf true p q) := fun h => aAp (h := h)
theorem MB {p q : Prop}  :
    dX (q) (PIf false p q) := fun h => aAq (h := h)
theorem AE {b : Bool} {p q : Prop}  :
    dX (PIf b q p) (PIf (!b) p q) := fun h => XL (h := h)
theorem aAl {v : Value} (h : FM P X.n ops l o = some (d, v)) :
    dX (G P X ops Q rest μ ((d, v) :: l) L) (G P X ops Q (o :: rest) μ l L) := fun hg => g_p (h := h) (hg := hg)
theorem MC {c : Operand} {x y : Code} {b : Bool} (hc : ev l c = some (.bool b)) :
    dX (PIf b (GC P X x Q μ l L) (GC P X y Q μ l L)) (GC P X (.cond c x y) Q μ l L) := fun h => aEn (hc := hc) (h := h)
theorem xC {c p q : Prop} {_ : Decidable c} (hc : c) :
    dX (p) (PIf (decide c) p q) := fun h => SV (hc := hc) (h := h)
theorem xD {c p q : Prop} {_ : Decidable c} (hc : ¬ c) :
    dX (q) (PIf (decide c) p q) := fun h => SW (hc := hc) (h := h)
theorem SF {b : Bool} {p q : Prop} (hb : b = true) :
    dX (p) (PIf b p q) := fun h => aBx (hb := hb) (h := h)
theorem SG {b : Bool} {p q : Prop} (hb : b = false) :
    dX (q) (PIf b p q) := fun h => aBy (hb := hb) (h := h)
theorem SK {r : Int} (h : LQ X.n ops l o = some (d, r)) (hb : -9223372036854775808 ≤ r ∧ r ≤ 9223372036854775807) :
    dX (G P X ops Q rest μ ((d, .int .i64 r) :: l) L) (G P X ops Q (o :: rest) μ l L) := fun hg => aF2 (h := h) (hb := hb) (hg := hg)
theorem SJ {t b off : Nat} {y : Blk} {v : Value} (hd : oV X.n ops l o = some d) (h : XZ l o.op = some (t, b, off)) (hb : InB L b y) (hv : ldv P t y.cs off = some v) :
    dX (G P X ops Q rest μ ((d, v) :: l) L) (G P X ops Q (o :: rest) μ l L) := fun hg => aFz (hd := hd) (h := h) (hb := hb) (hv := hv) (hg := hg)
theorem aAk {v : Value} (hd : oV X.n ops l o = some d) (hr : Val P μ l L o v) :
    dX (G P X ops Q rest μ ((d, v) :: l) L) (G P X ops Q (o :: rest) μ l L) := fun h => g_v (hd := hd) (hr := hr) (h := h)
theorem SH {b off : Nat} {vs : List Value} {L' : List Bk} (hd : MK ops l o = true) (h : stop P l o.op = some (b, off, vs)) (h1 : EE vs) (hu : UpB L b off vs L') :
    dX (G P X ops Q rest μ l L') (G P X ops Q (o :: rest) μ l L) := fun hg => aEs (hd := hd) (h := h) (h1 := h1) (hu := hu) (hg := hg)
theorem tY {i j : Nat} (hij : Nat.beq j i = false) :
    dX (GQ X Q (.exit j) μ l L) (GQ X (Exit.inBlock i Q) (.exit j) μ l L) := fun h => yD (hij := hij) (h := h)
theorem aBg {t : Nat} {b : Bool} (h : BB ops l o = some (t, b)) (hb : zN b) :
    dX (PIf b (G P X ops Q (o :: rest) μ ((t, .bool true) :: l) L) (G P X ops Q (o :: rest) μ ((t, .bool false) :: l) L)) (G P X ops Q (o :: rest) μ l L) := fun hg => aF0 (h := h) (hb := hb) (hg := hg)
theorem aBf {t : TypeId} {cs : List Value} {n : Nat} (hd : oV X.n ops l o = some d) (h : XP P l o.op = some (t, cs)) (hn : rE cs.length some = some n) :
    dX (∀ b, G P X ops Q rest μ ((d, .pointer (some ⟨b, 0, none⟩)) :: l) (.inl ⟨b, t, n, idx 0 cs⟩ :: L)) (G P X ops Q (o :: rest) μ l L) := fun hg => aFy (hd := hd) (h := h) (hn := hn) (hg := hg)
theorem aBh {t : TypeId} {cs : List Value} {n m : Nat} (hd : oV X.n ops l o = some d) (h : ZY P l o.op = some (t, m, cs)) (hn : rE cs.length some = some n) :
    dX (∀ b, G P X ops Q rest μ ((d, .slice (some ⟨b, 0, none⟩) m m) :: l) (.inl ⟨b, t, n, idx 0 cs⟩ :: L)) (G P X ops Q (o :: rest) μ l L) := fun hg => aF1 (hd := hd) (h := h) (hn := hn) (hg := hg)
theorem aBi {c p q : Prop} {_ : Decidable c} : dX ((c → p) ∧ (¬c → q)) (PIf (decide c) p q) := fun h => XM h.1 h.2
theorem aE7 {b : Bool} {p q : Prop} : dX ((b = true → p) ∧ (b = false → q)) (PIf b p q) := fun h => aD0 h.1 h.2
theorem KO {A B : Prop} (h : A)
    (f : dX A B := by first | ((with_reducible (first | apply EY | apply uY | apply MD | apply AF | apply xE | apply AH | apply EZ | apply AG | apply oZ | apply rA | apply oO | apply mI | apply pA | apply MA | apply MB | apply AE))) | ((with_reducible apply aAl); exact rfl) | ((with_reducible apply MC); exact rfl) | ((with_reducible apply xC); (omega)) | ((with_reducible apply xD); (first | omega | with_reducible exact AQ _)) | ((with_reducible apply SF); exact rfl) | ((with_reducible apply SG); exact rfl) | fail) : B := f h
theorem KK {A B : Prop} (h : A)
    (f : dX A B := by first | ((with_reducible (first | apply EY | apply uY | apply MD | apply AF | apply xE | apply AH | apply EZ | apply AG | apply oZ | apply rA | apply oO | apply mI | apply pA | apply MA | apply MB | apply AE))) | ((with_reducible apply aAl); exact rfl) | ((with_reducible apply MC); exact rfl) | ((with_reducible apply xC); (omega)) | ((with_reducible apply xD); (first | omega | with_reducible exact AQ _)) | ((with_reducible apply SK); exact rfl; omega) | ((with_reducible apply SJ); exact rfl; exact rfl; (repeat first | with_reducible exact cU | with_reducible apply gJ); exact rfl) | ((with_reducible apply aAk); exact rfl; (((with_reducible apply aAg); exact rfl; exact rfl; (omega)))) | ((with_reducible apply SH); exact rfl; exact rfl; (repeat first | with_reducible exact dU | ((with_reducible apply dC); (first | exact rfl | assumption))); (repeat first | with_reducible apply IG | with_reducible apply IF); exact rfl; (repeat first | with_reducible exact CW | with_reducible apply wJ)) | fail) : B := f h
theorem KI {A B : Prop} (h : A)
    (f : dX A B := by first | ((with_reducible apply SK); exact rfl; omega) | ((with_reducible apply SJ); exact rfl; exact rfl; (repeat first | with_reducible exact cU | with_reducible apply gJ); exact rfl) | ((with_reducible apply aAk); exact rfl; (first | ((with_reducible apply zZ); exact rfl; exact rfl) | ((with_reducible apply OB); (iterate 4 exact rfl); omega) | ((with_reducible apply aA6); exact rfl; exact rfl) | ((with_reducible apply RM); exact rfl; exact rfl) | ((with_reducible apply aAg); exact rfl; exact rfl; (omega)) | ((with_reducible apply RP); (iterate 3 exact rfl); kernel_rfl; kernel_rfl; kernel_rfl; kernel_rfl))) | ((with_reducible apply SH); exact rfl; exact rfl; (repeat first | with_reducible exact dU | ((with_reducible apply dC); (first | exact rfl | assumption))); (repeat first | with_reducible apply IG | with_reducible apply IF); exact rfl; (repeat first | with_reducible exact CW | with_reducible apply wJ)) | ((with_reducible apply tY); exact rfl) | fail) : B := f h
theorem KG {A B : Prop} (h : A)
    (f : dX A B := by (with_reducible apply aBg); exact rfl; (fail_if_success (with_reducible show zN true)); (fail_if_success (with_reducible show zN false)); exact aD7 _) : B := f h
theorem KB {A B C : Prop} (h1 : A) (h2 : B)
    (f : dX (A ∧ B) C := by with_reducible (first | exact aBi | exact aE7 | fail)) : C := f ⟨h1, h2⟩
theorem NB {A : Nat → Prop} {B : Prop} (h : ∀ b, A b)
    (f : dX (∀ b, A b) B := by first | ((with_reducible apply aBf); (iterate 3 exact rfl)) | ((with_reducible apply aBh); (iterate 3 exact rfl)) | fail) : B := f h
def NW (_ : Nat) (B : Prop) : Prop := B
theorem E1 {i : Nat} {v : Value} (h : wH P X.n ops l i = some (d, v)) (hk : pY ops listed i = true) (hQ : ∀ c a w, Q (.panic c) (Act.put a (some d) v) w → Q (.panic c) a w) :
    WG i (GA P X μr Lr ops Q fuel (listed.setIfInBounds i true) μ ((d, v) :: l) L) (GA P X μr Lr ops Q (fuel + 1) listed μ l L) := fun hg => aEq (i := i) (h := h) (hk := hk) (hQ := hQ) (hg := hg)
theorem E2 {i : Nat} {v : Value} (h : xQ X.n ops l i = some (d, o)) (hk : pY ops listed i = true) (hQ : ∀ c a w, Q (.panic c) (Act.put a (some d) v) w → Q (.panic c) a w) (hv : Val P μr l Lr o v) :
    WG i (GA P X μr Lr ops Q fuel (listed.setIfInBounds i true) μ ((d, v) :: l) L) (GA P X μr Lr ops Q (fuel + 1) listed μ l L) := fun hg => aEp (i := i) (h := h) (hk := hk) (hQ := hQ) (hv := hv) (hg := hg)
theorem DD (i : Nat) {A B : Prop} (h : A)
    (f : WG i A B := by first | ((with_reducible apply E1); exact rfl; kernel_rfl; (exact fun _ _ _ h => h)) | ((with_reducible apply E2); exact rfl; kernel_rfl; (exact fun _ _ _ h => h); (first | ((with_reducible apply zZ); exact rfl; exact rfl) | ((with_reducible apply oX); exact rfl; (repeat first | with_reducible exact cU | with_reducible apply gJ); exact rfl) | ((with_reducible apply BY); exact rfl; omega))) | fail) : B := f h
theorem X1 {k : Nat} {p q : Operand} {t e : TypeId} {A : Addr} {len cap n : Nat} {i : Int} (ht : P.underlying t = some (.slice e)) (hs : dR P e = some n) (hx0 : ev l p = some (.slice (some A) len cap)) (hx1 : ev l q = some (.int .i64 i)) (hi : i = (k : Int)) (hk : k < len) :
    NW k (Val P μ l L ⟨ds, .indexAddr t p q, ty, pos, af, gd⟩ (.pointer (some (A.add (k * n))))) := LW (k := k) (ht := ht) (hs := hs) (hx0 := hx0) (hx1 := hx1) (hi := hi) (hk := hk)
theorem X2 {k : Nat} {p q : Operand} {t : TypeId} {s : ByteArray} {i : Int} (ht : P.underlying t = some .string) (hx0 : ev l p = some (.string s)) (hx1 : ev l q = some (.int .i64 i)) (hi : i = (k : Int)) (hk : k < s.size) :
    NW k (Val P μ l L ⟨ds, .index t p q, ty, pos, af, gd⟩ (.int .u8 (bAt s k))) := RH (k := k) (ht := ht) (hx0 := hx0) (hx1 := hx1) (hi := hi) (hk := hk)
theorem U1 (k : Nat) {B : Prop} (f : NW k B := by (with_reducible apply X1); (iterate 4 exact rfl); (first | exact rfl | omega); omega) : B := f
theorem U2 (k : Nat) {B : Prop} (f : NW k B := by (with_reducible apply X2); (iterate 3 exact rfl); (exact rfl); omega) : B := f
theorem U3 {M B : Prop} (hm : M) (f : M → B := by intro h; (with_reducible apply eC); exact rfl; exact rfl; exact h) : B := f hm
theorem U4 {M B : Prop} (hm : M) (f : M → B := by intro h; first | ((with_reducible apply wT); (iterate 3 exact rfl); exact h; exact rfl) | ((with_reducible apply CD); (iterate 3 exact rfl); exact h; exact rfl) | fail) : B := f hm
theorem PU {l l' : aI} (h : nC l' l := by first | (repeat first | exact cI | refine bR rfl ?_); done | fail) : nC l' l := h
theorem PS {L L' : List Bk} (h : Sel L' L := by first | (repeat first | exact Sel.nil _ | (refine bW ?_ ?_; focus (exact eL.refl _)) | (refine bH ?_ ?_; focus (exact eL.refl _)) | (refine oN ?_ ?_; focus (exact eL.refl _)) | (refine aDu ?_ ?_; focus (exact eL.refl _))); done | fail) : Sel L' L := h
theorem CF (f : FuncId) {qs : Array Operand} {ts : Array TypeId} (h : G P X ops Q (⟨ds, .call { callee := .value (.func f), args := qs, argTypes := ts }, ty, pos, af, gd⟩ :: rest) μ l L) : G P X ops Q (⟨ds, .call { callee := .value (.func f), args := qs, argTypes := ts }, ty, pos, af, gd⟩ :: rest) μ l L := h
theorem DV {v : Value}
    (k : Nat)
    (h1 : xQ X.n ops l k = some (d, o) := by first | exact rfl | fail)
    (h2 : pY ops listed k = true := by first | kernel_rfl | fail)
    (h3 : ∀ c a w, Q (.panic c) (Act.put a (some d) v) w → Q (.panic c) a w := by exact fun _ _ _ h => h)
    (b : Val P μr l Lr o v)
    (c : GA P X μr Lr ops Q fuel (listed.setIfInBounds k true) μ ((d, v) :: l) L) :
    GA P X μr Lr ops Q (fuel + 1) listed μ l L := aEp (i := k) (h := h1) (hk := h2) (hQ := h3) (hv := b) (hg := c)
theorem KV {v : Value}
    (hd : oV X.n ops l o = some d := by first | exact rfl | fail)
    (b : Val P μ l L o v)
    (c : G P X ops Q rest μ ((d, v) :: l) L) :
    G P X ops Q (o :: rest) μ l L := g_v (hd := hd) (hr := b) (h := c)
end
end Go.Vcg
namespace Go.Proofs.YtocidaibmadekaaGreatDoor
end Go.Proofs.YtocidaibmadekaaGreatDoor
