/- More rules: a slice compared with nil. -/
import Derived.Test.YtoclmkdfcafhfaaGreatDoorZac
import Derived.MapKept
set_option maxRecDepth 20000
namespace Go.Vcg
section
open Go.RowKit
section
variable {P : Program} {X : Ctx} {ops : Array Oper} {Q : Exit → Act → World → Prop} {rest : List Oper} {μ μr : Mem} {l : aF} {L Lr : List Bk} {a : Act} {w : World} {o : Oper} {d fuel i : Nat} {listed : Array Bool}
variable {ty : TypeId} {pos : String} {af : Array Edge} {gd : Option (Nat × Bool)} {ds : Option Nat}
theorem uU (w : World) (k : Nat) (t e : TypeId) (A : Option Addr) (n c : Nat) (ht : P.underlying t = some (.slice e)) : (Op.equalIn (k + 1) t (.slice A n c) (.slice none 0 0)).run P w = .ok A.isNone w := by
  unfold Op.equalIn
  cases A <;> simp [run_underlying ht]
theorem RI {p : Operand} {t t2 e : TypeId} {A : Option Addr} {n c : Nat} (ht : P.underlying t = some (.slice e)) (hx : ev l p = some (.slice A n c)) : Val P μ l L ⟨ds, .binOp .eql t p (.const (.slice none 0 0)) t2, ty, pos, af, gd⟩ (.bool A.isNone) := fun a w hs => by
  have e0 := hs.eval hx
  have e1 : a.eval (.const (.slice none 0 0)) = .slice none 0 0 := rfl
  generalize a.eval = ρ at e0 e1
  have h := uU (P := P) w 9999 t e A n c ht
  simp [execOp, e0, e1, eqGuard, binOp, Op.equal, Op.maxDepth, h]
end
end
section
open Go.RowKit
section
variable {P : Program} {X : Ctx} {ops : Array Oper} {Q : Exit → Act → World → Prop} {rest : List Oper} {μ μr : Mem} {l : aF} {a : Act} {w : World} {o : Oper} {d fuel i : Nat} {listed : Array Bool}
theorem St.cells {L L' : List Bk} {i : Nat} {b t sz : Nat} {cs cs' : aF} (h : St X μ l L a w) (hi : cO L i = some (.inl ⟨b, t, sz, cs⟩)) (hs : lH cs' cs) (hL : dY L i (.inl ⟨b, t, sz, cs'⟩) = L') : St X μ l L' a w := by
  rw [← hL]
  refine h.upd (w' := w) hi rfl rfl rfl (Nat.le_refl _) (fun _ _ _ => rfl) ?_ (fun b hb => .inl hb)
  obtain ⟨arr, h1, h2, h3⟩ := h.own _ (bP hi)
  exact ⟨arr, h1, h2, fun k v hk => h3 k v (hs k v hk)⟩
end
end
section
open Go.RowKit
section
variable {P : Program} {X : Ctx} {ops : Array Oper} {Q : Exit → Act → World → Prop} {rest : List Oper} {μ μr : Mem} {l : aF} {L Lr : List Bk} {a : Act} {w : World} {o : Oper} {d fuel i : Nat} {listed : Array Bool}
variable {ty : TypeId} {pos : String} {af : Array Edge} {gd : Option (Nat × Bool)} {ds : Option Nat}
def lks (cs : aF) : Nat → Nat → Option (List Value)
  | _, 0 => some []
  | off, n + 1 => match lk cs off with
    | some v => match lks cs (off + 1) n with
      | some vs => some (v :: vs)
      | none => none
    | none => none
theorem FY {cs : aF} : ∀ {n off : Nat} {vs : List Value}, lks cs off n = some vs → LC cs off n vs
  | 0, off, vs, h => by simp [lks] at h; subst h; exact tQ
  | n + 1, off, vs, h => by
    unfold lks at h
    cases e : lk cs off with
    | none => simp [e] at h
    | some v =>
      cases e' : lks cs (off + 1) n with
      | none => simp [e, e'] at h
      | some r => simp [e, e'] at h; subst h; exact sJ e (FY e')
def aFm (op : BinOp) (x y : Int) : Option Value := match op with
  | .eql => some (.bool (decide (x = y)))
  | .neq => some (.bool (decide (x ≠ y)))
  | .lss => some (.bool (decide (x < y)))
  | .leq => some (.bool (decide (x ≤ y)))
  | .gtr => some (.bool (decide (y < x)))
  | .geq => some (.bool (decide (y ≤ x)))
  | _ => none
def aFl (op : BinOp) (x y : ByteArray) : Option Value := match op with
  | .eql => some (.bool (decide (x = y)))
  | .neq => some (.bool (decide (x ≠ y)))
  | _ => none
def aFn (op : BinOp) (x y : Bool) : Option Value := match op with
  | .eql => some (.bool (decide (x = y)))
  | .neq => some (.bool (decide (x ≠ y)))
  | _ => none
def GD (P : Program) (t : TypeId) : Bool := match P.underlying t with | some .bool => true | _ => false
def QR (P : Program) (l : aF) (t : TypeId) (ps : List (Nat × Operand)) : Option Value :=
  match bA P t with
  | some s => match cH P t with
    | some z => match Nat.beq (iG z).length s with
      | true => match lN P t with
        | some pl => match nV l ps with
          | some us => match pU pl s us with
            | true => match lks (rN pl us (idx 0 (iG z))) 0 s with
              | some vs => some (.agg vs.toArray)
              | none => none
            | false => none
          | none => none
        | none => none
      | false => none
    | none => none
  | none => none
def aE3 (P : Program) (l : aF) : List Operand → List TypeId → Option Value
  | [p], [t] => match ev l p, P.underlying t with
    | some (.string s), some .string => some (.int .i64 s.size)
    | some (.slice _ n _), some (.slice _) => some (.int .i64 n)
    | _, _ => none
  | _, _ => none
def evs (l : aF) : List Operand → Option (List Value)
  | [] => some []
  | x :: r => match ev l x with
    | some v => match evs l r with
      | some vs => some (v :: vs)
      | none => none
    | none => none
theorem LN (h : Rd μ l L a w) : ∀ {xs : List Operand} {vs : List Value}, evs l xs = some vs → xs.map a.eval = vs
  | [], vs, e => by simp [evs] at e; simp [e]
  | x :: r, vs, e => by
    unfold evs at e
    cases hx : ev l x with
    | none => simp [hx] at e
    | some v =>
      cases hr : evs l r with
      | none => simp [hx, hr] at e
      | some us =>
        simp [hx, hr] at e
        subst e
        simp [h.eval hx, LN h hr]
def pv (P : Program) (l : aF) : Op → Option Value
  | .move x => ev l x
  | .assign x => ev l x
  | .pick c x y => match ev l c with
    | some (.bool true) => ev l x
    | some (.bool false) => ev l y
    | _ => none
  | .fieldAddr t p i => match ev l p with
    | some (.pointer (some ⟨b, k, none⟩)) => match pF P t i with
      | some (_, off) => qL k fun k => some (.pointer (some ⟨b, k + off, none⟩))
      | none => none
    | _ => none
  | .binOp op t p q _ => match ev l p, ev l q with
    | some (.int k x), some (.int k' y) => match decide (k = k') with
      | true => aFm op x y
      | false => none
    | some (.string x), some (.string y) => aFl op x y
    | some (.bool x), some (.bool y) => match GD P t with
      | true => aFn op x y
      | false => none
    | _, _ => none
  | .unOp .not _ p => match ev l p with
    | some (.bool b) => some (.bool (!b))
    | _ => none
  | .extract p i => match ev l p with
    | some (.tuple vs) => JP vs.toList i
    | _ => none
  | .nilCheck p => match ev l p with
    | some (.pointer (some A)) => some (.pointer (some A))
    | _ => none
  | .call ⟨.builtin .len, args, ts⟩ => aE3 P l args.toList ts.toList
  | .build t ps => QR P l t ps.toList
  | .makeFunc fn ⟨[]⟩ caps => match evs l caps.toList with
    | some vs => some (.func fn #[] vs.toArray)
    | none => none
  | _ => none
theorem QP {op : BinOp} {p q : Operand} {t t2 : TypeId} {k : IntKind} {x y : Int} {v : Value} (hp : ev l p = some (.int k x)) (hq : ev l q = some (.int k y)) (h : aFm op x y = some v) : Val P μ l L ⟨ds, .binOp op t p q t2, ty, pos, af, gd⟩ v := by
  cases op <;> simp only [aFm, Option.some.injEq, reduceCtorEq] at h <;> subst h
  · exact aF5 hp hq
  · exact aFy hp hq
  · exact aF1 hp hq
  · exact aF2 hp hq
  · exact aF3 hp hq
  · exact aF4 hp hq
theorem QO {op : BinOp} {p q : Operand} {t t2 : TypeId} {x y : ByteArray} {v : Value} (hp : ev l p = some (.string x)) (hq : ev l q = some (.string y)) (h : aFl op x y = some v) : Val P μ l L ⟨ds, .binOp op t p q t2, ty, pos, af, gd⟩ v := by
  cases op <;> simp only [aFl, Option.some.injEq, reduceCtorEq] at h <;> subst h
  · exact aD4 hp hq
  · exact aD3 hp hq
theorem QQ {op : BinOp} {p q : Operand} {t t2 : TypeId} {x y : Bool} {v : Value} (ht : GD P t = true) (hp : ev l p = some (.bool x)) (hq : ev l q = some (.bool y)) (h : aFn op x y = some v) : Val P μ l L ⟨ds, .binOp op t p q t2, ty, pos, af, gd⟩ v := by
  have hu : P.underlying t = some .bool := by
    unfold GD at ht
    split at ht
    · assumption
    · cases ht
  cases op <;> simp only [aFn, Option.some.injEq, reduceCtorEq] at h <;> subst h
  · exact aD7 hu hp hq
  · exact aD6 hu hp hq
theorem GW {t : TypeId} {ps : Array (Nat × Operand)} {v : Value} (h : QR P l t ps.toList = some v) : Val P μ l L ⟨ds, .build t ps, ty, pos, af, gd⟩ v := by
  unfold QR at h
  repeat' split at h
  all_goals first | (simp only [reduceCtorEq] at h; done) | skip
  rename_i _ s hs _ z hz _ hb _ pl hpl _ us hus _ hok _ vs hvs
  simp only [Option.some.injEq] at h
  subst h
  have e : ps = ps.toList.toArray := by simp
  rw [e]
  exact aBl hs hz (Nat.eq_of_beq_eq_true hb) hpl hus hok (FY hvs)
theorem PO {args : Array Operand} {ts : Array TypeId} {v : Value} (h : aE3 P l args.toList ts.toList = some v) : Val P μ l L ⟨ds, .call ⟨.builtin .len, args, ts⟩, ty, pos, af, gd⟩ v := by
  unfold aE3 at h
  split at h
  · rename_i p t ha ht
    have e : args = #[p] := by rw [← Array.toArray_toList (xs := args), ha]
    have e' : ts = #[t] := by rw [← Array.toArray_toList (xs := ts), ht]
    subst e e'
    split at h
    · rename_i s hp hu
      simp only [Option.some.injEq] at h; subst h
      exact aBh hp hu
    · rename_i A n c e hp hu
      simp only [Option.some.injEq] at h; subst h
      exact aBi hp hu
    · cases h
  · cases h
theorem yI {fn : Fn} {caps : Array Operand} {vs : List Value} (h : evs l caps.toList = some vs) : Val P μ l L ⟨ds, .makeFunc fn #[] caps, ty, pos, af, gd⟩ (.func fn #[] vs.toArray) := fun a w hs => by
  have e := LN hs h
  have : caps.map a.eval = vs.toArray := by
    cases caps
    simpa using e
  simp [execOp, Instr.makeFunc, this]
theorem IU {op : Op} {v : Value} (h : pv P l op = some v) : Val P μ l L ⟨ds, op, ty, pos, af, gd⟩ v := by
  unfold pv at h
  split at h
  · exact aD5 h
  · exact XN h
  · split at h
    · rename_i hc; exact XK hc h
    · rename_i hc; exact XL hc h
    · cases h
  · split at h
    · rename_i b k hp
      split at h
      · rename_i x off hf
        rw [eR] at h
        simp only [Option.some.injEq] at h; subst h
        exact HI hp hf
      · cases h
    · cases h
  · split at h
    · rename_i k x k' y hp hq
      split at h
      · rename_i hk
        have := of_decide_eq_true hk
        subst this
        exact QP hp hq h
      · cases h
    · rename_i x y hp hq; exact QO hp hq h
    · rename_i x y hp hq
      split at h
      · rename_i ht; exact QQ ht hp hq h
      · cases h
    · cases h
  · split at h
    · rename_i b hp
      simp only [Option.some.injEq] at h; subst h
      exact aFx hp
    · cases h
  · split at h
    · rename_i vs hp
      have e : vs = vs.toList.toArray := by simp
      rw [e] at hp
      exact UI hp h
    · cases h
  · split at h
    · rename_i A hp
      simp only [Option.some.injEq] at h; subst h
      exact MS hp
    · cases h
  · exact PO h
  · exact GW h
  · split at h
    · rename_i vs hv
      simp only [Option.some.injEq] at h; subst h
      exact yI hv
    · cases h
  · cases h
def IW (P : Program) (n : Nat) (ops : Array Oper) (l : aF) (o : Oper) : Option (Nat × Value) := match o.dst with
  | some d => match Nat.blt d n with
    | true => match dH ops l o with
      | some true => match pv P l o.op with
        | some v => some (d, v)
        | none => none
      | some false => some (d, undef)
      | none => none
    | false => none
  | none => none
theorem g_p {v : Value} (h : IW P X.n ops l o = some (d, v)) (hg : G P X ops Q rest μ ((d, v) :: l) L) : G P X ops Q (o :: rest) μ l L := by
  unfold IW at h
  split at h
  · rename_i d' hd
    split at h
    · rename_i hn
      split at h
      · rename_i hw
        split at h
        · rename_i v' hv
          simp only [Option.some.injEq, Prod.mk.injEq] at h
          obtain ⟨rfl, rfl⟩ := h
          cases o
          exact TQ hd hn hw (IU hv) hg
        · cases h
      · rename_i hw
        simp only [Option.some.injEq, Prod.mk.injEq] at h
        obtain ⟨rfl, rfl⟩ := h
        exact aFa hd hn hw hg
      · cases h
    · cases h
  · cases h
def arI (l : aF) (op : Op) : Option Int := match op with
  | .binOp op _ p q _ => match ev l p, ev l q with
    | some (.int .i64 x), some (.int .i64 y) => match op with
      | .add => some (x + y)
      | .sub => some (x - y)
      | .mul => some (x * y)
      | _ => none
    | _, _ => none
  | _ => none
theorem DU {op : Op} {r : Int} (h : arI l op = some r) (hb : -9223372036854775808 ≤ r ∧ r ≤ 9223372036854775807) : Val P μ l L ⟨ds, op, ty, pos, af, gd⟩ (.int .i64 r) := by
  unfold arI at h
  split at h
  · split at h
    · rename_i x y hp hq
      split at h
      · simp only [Option.some.injEq] at h; subst h; exact aBn hp hq hb
      · simp only [Option.some.injEq] at h; subst h; exact aBf hp hq hb
      · simp only [Option.some.injEq] at h; subst h; exact aBg hp hq hb
      · cases h
    · cases h
  · cases h
def QX (n : Nat) (ops : Array Oper) (l : aF) (o : Oper) : Option (Nat × Int) := match o.dst with
  | some d => match Nat.blt d n with
    | true => match dH ops l o with
      | some true => match arI l o.op with
        | some v => some (d, v)
        | none => none
      | _ => none
    | false => none
  | none => none
theorem aHk {r : Int} (h : QX X.n ops l o = some (d, r)) (hb : -9223372036854775808 ≤ r ∧ r ≤ 9223372036854775807) (hg : G P X ops Q rest μ ((d, .int .i64 r) :: l) L) : G P X ops Q (o :: rest) μ l L := by
  unfold QX at h
  split at h
  · rename_i d' hd
    split at h
    · rename_i hn
      split at h
      · rename_i hw
        split at h
        · rename_i v' hv
          simp only [Option.some.injEq, Prod.mk.injEq] at h
          obtain ⟨rfl, rfl⟩ := h
          cases o
          exact TQ hd hn hw (DU hv hb) hg
        · cases h
      · cases h
    · cases h
  · cases h
def InB (L : List Bk) (b : Nat) (y : Blk) : Prop := ∃ i, cO L i = some (.inl y) ∧ y.b = b
theorem bG {b t sz : Nat} {cs : aF} {L : List Bk} : InB (.inl ⟨b, t, sz, cs⟩ :: L) b ⟨b, t, sz, cs⟩ := ⟨0, rfl, rfl⟩
theorem dJ {b : Nat} {y : Blk} {x : Bk} {L : List Bk} (h : InB L b y) : InB (x :: L) b y := by
  obtain ⟨i, h1, h2⟩ := h
  exact ⟨i + 1, h1, h2⟩
def ldv (P : Program) (t : TypeId) (cs : aF) (off : Nat) : Option Value := match eU P t with
  | some false => lk cs off
  | some true => match bA P t with
    | some s => match lks cs off s with
      | some vs => some (.agg vs.toArray)
      | none => none
    | none => none
  | none => none
def oV (n : Nat) (ops : Array Oper) (l : aF) (o : Oper) : Option Nat := match o.dst with
  | some d => match Nat.blt d n with
    | true => match dH ops l o with
      | some true => some d
      | _ => none
    | false => none
  | none => none
theorem fP {n : Nat} (h : oV n ops l o = some d) : o.dst = some d ∧ Nat.blt d n = true ∧ dH ops l o = some true := by
  unfold oV at h
  split at h
  · rename_i d' hd
    split at h
    · rename_i hn
      split at h
      · rename_i hw
        simp only [Option.some.injEq] at h
        subst h
        exact ⟨hd, hn, hw⟩
      · cases h
    · cases h
  · cases h
def aCq (l : aF) : Op → Option (TypeId × Nat × Nat)
  | .load t x => match ev l x with
    | some (.pointer (some ⟨b, off, none⟩)) => some (t, b, off)
    | _ => none
  | _ => none
theorem iQ {op : Op} {t b off : Nat} {y : Blk} {v : Value} (h : aCq l op = some (t, b, off)) (hb : InB L b y) (hv : ldv P t y.cs off = some v) : Val P μ l L ⟨ds, op, ty, pos, af, gd⟩ v := by
  unfold aCq at h
  split at h
  · split at h
    · rename_i t' x _ b' off' hx
      simp only [Option.some.injEq, Prod.mk.injEq] at h
      obtain ⟨rfl, rfl, rfl⟩ := h
      obtain ⟨i, hi, rfl⟩ := hb
      unfold ldv at hv
      split at hv
      · rename_i ha; exact vX i ha hi hx hv
      · rename_i ha
        split at hv
        · rename_i s hs
          split at hv
          · rename_i vs hvs
            simp only [Option.some.injEq] at hv
            subst hv
            exact MU i ha hs hi hx (FY hvs)
          · cases hv
        · cases hv
      · cases hv
    · cases h
  · cases h
theorem aHh {t b off : Nat} {y : Blk} {v : Value} (hd : oV X.n ops l o = some d) (h : aCq l o.op = some (t, b, off)) (hb : InB L b y) (hv : ldv P t y.cs off = some v) (hg : G P X ops Q rest μ ((d, v) :: l) L) : G P X ops Q (o :: rest) μ l L := by
  obtain ⟨h1, h2, h3⟩ := fP hd
  cases o
  exact TQ h1 h2 h3 (iQ h hb hv) hg
def rI : List Value → Option (List Value)
  | [] => some []
  | v :: r => match rI r with
    | some r' => some (v :: r')
    | none => none
theorem qC : ∀ {vs us : List Value}, rI vs = some us → us = vs
  | [], us, h => by unfold rI at h; cases h; rfl
  | v :: r, us, h => by
    unfold rI at h
    split at h
    · rename_i r' hr
      simp only [Option.some.injEq] at h
      subst h
      rw [qC hr]
    · cases h
def GY (vs : List Value) : Prop := vs.all (·.oneCell') = true
theorem bH : GY [] := rfl
theorem aU {v : Value} {vs : List Value} (h : v.oneCell' = true) (hr : GY vs) : GY (v :: vs) := by
  unfold GY at *
  rw [List.all_cons, h, hr]; rfl
def stop (P : Program) (l : aF) (op : Op) : Option (Nat × Nat × List Value) := match op with
  | .store t q x => match bA P t with
    | some s => match ev l q with
      | some (.pointer (some ⟨b, off, none⟩)) => match ev l x with
        | some v => match rI (iG v) with
          | some vs => match Nat.beq vs.length s with
            | true => some (b, off, vs)
            | false => none
          | none => none
        | none => none
      | _ => none
    | none => none
  | _ => none
def SN (ops : Array Oper) (l : aF) (o : Oper) : Bool := match o.dst with
  | none => match dH ops l o with
    | some true => true
    | _ => false
  | some _ => false
def UpB (L : List Bk) (b off : Nat) (vs : List Value) (L' : List Bk) : Prop := ∃ i y, cO L i = some (.inl y) ∧ y.b = b ∧ Nat.ble (off + vs.length) y.sz = true ∧ L' = dY L i (.inl ⟨y.b, y.t, y.sz, pT off vs y.cs⟩)
theorem iD {b t sz off : Nat} {cs cs' : aF} {vs : List Value} {L : List Bk} (hfit : Nat.ble (off + vs.length) sz = true) (hpc : PC off vs cs cs') : UpB (.inl ⟨b, t, sz, cs⟩ :: L) b off vs (.inl ⟨b, t, sz, cs'⟩ :: L) := by
  rw [hpc.eq]
  exact ⟨0, ⟨b, t, sz, cs⟩, rfl, rfl, hfit, rfl⟩
theorem iC {b off : Nat} {vs : List Value} {x : Bk} {L L' : List Bk} (h : UpB L b off vs L') : UpB (x :: L) b off vs (x :: L') := by
  obtain ⟨i, y, h1, h2, h3, rfl⟩ := h
  exact ⟨i + 1, y, h1, h2, h3, rfl⟩
theorem sN {b off : Nat} {vs : List Value} {L' : List Bk} (hd : SN ops l o = true) (h : stop P l o.op = some (b, off, vs)) (h1 : GY vs) (hu : UpB L b off vs L') (hg : G P X ops Q rest μ l L') : G P X ops Q (o :: rest) μ l L := by
  obtain ⟨ds, op, ty, pos, af, gd⟩ := o
  unfold SN at hd
  split at hd
  · rename_i hds
    split at hd
    · rename_i hw
      simp only at hds
      subst hds
      unfold stop at h
      simp only at h
      split at h
      · split at h
        · rename_i t q x s hs
          split at h
          · rename_i b' off' hq
            split at h
            · rename_i v hx
              split at h
              · rename_i vs' hf
                split at h
                · rename_i hlen
                  simp only [Option.some.injEq, Prod.mk.injEq] at h
                  obtain ⟨rfl, rfl, rfl⟩ := h
                  have hc := qC hf
                  rw [fS] at hc
                  obtain ⟨i, y, hi, rfl, hfit, rfl⟩ := hu
                  have hl := Nat.eq_of_beq_eq_true hlen
                  refine aC0 (n := s) i hw hs hi hq hx (by rw [← hc]; exact hl) (by rw [← hc]; exact h1) (by rw [← hl]; exact hfit) ?_
                  rw [← hc]
                  exact hg
                · cases h
              · cases h
            · cases h
          · cases h
        · cases h
      · cases h
    · cases hd
  · cases hd
def aCc (P : Program) (l : aF) : Op → Option (TypeId × List Value)
  | .box t x => match ev l x with
    | some v => match rI (iG v) with
      | some vs => some (t, vs)
      | none => none
    | none => none
  | .alloc t => match cH P t with
    | some z => match rI (iG z) with
      | some vs => some (t, vs)
      | none => none
    | none => none
  | _ => none
theorem aHb {op : Op} {t : TypeId} {cs : List Value} (h : aCc P l op = some (t, cs)) : Alc P μ l L ⟨ds, op, ty, pos, af, gd⟩ (fun b => .pointer (some ⟨b, 0, none⟩)) t cs := by
  unfold aCc at h
  split at h
  · split at h
    · rename_i t' x _ v hx
      split at h
      · rename_i vs hf
        simp only [Option.some.injEq, Prod.mk.injEq] at h
        obtain ⟨rfl, rfl⟩ := h
        rw [qC hf, fS]
        exact WC hx
      · cases h
    · cases h
  · split at h
    · rename_i t' _ v hx
      split at h
      · rename_i vs hf
        simp only [Option.some.injEq, Prod.mk.injEq] at h
        obtain ⟨rfl, rfl⟩ := h
        rw [qC hf, fS]
        exact JU hx
      · cases h
    · cases h
  · cases h
theorem aHf {t : TypeId} {cs : List Value} {n : Nat} (hd : oV X.n ops l o = some d) (h : aCc P l o.op = some (t, cs)) (hn : qL cs.length some = some n) (hg : ∀ b, G P X ops Q rest μ ((d, .pointer (some ⟨b, 0, none⟩)) :: l) (.inl ⟨b, t, n, idx 0 cs⟩ :: L)) : G P X ops Q (o :: rest) μ l L := by
  obtain ⟨h1, h2, h3⟩ := fP hd
  cases o
  exact aDy h1 h2 h3 (aHb h) hn hg
def aA9 : List Value → List Value → Option (List Value)
  | [], r => some r
  | u :: us, r => match aA9 us r with
    | some c => some (u :: c)
    | none => none
theorem UD : ∀ {us r c : List Value}, aA9 us r = some c → c = us ++ r
  | [], r, c, h => by unfold aA9 at h; cases h; rfl
  | u :: us, r, c, h => by
    unfold aA9 at h
    split at h
    · rename_i c' hc
      simp only [Option.some.injEq] at h
      subst h
      rw [UD hc]; rfl
    · cases h
def bsl (l : aF) (s : Nat) : Nat → List (Nat × Operand) → Option (List Value)
  | _, [] => some []
  | i, (j, x) :: ps => match Nat.beq j i with
    | true => match ev l x with
      | some v => match Nat.beq (iG v).length s with
        | true => match bsl l s (i + 1) ps with
          | some r => aA9 (iG v) r
          | none => none
        | false => none
      | none => none
    | false => none
theorem aA3 {s : Nat} : ∀ {ps : List (Nat × Operand)} {i : Nat} {cs : List Value}, bsl l s i ps = some cs → ∃ vs, BP l s i ps vs cs
  | [], i, cs, h => by simp [bsl] at h; subst h; exact ⟨[], aFo⟩
  | (j, x) :: ps, i, cs, h => by
    unfold bsl at h
    split at h
    · rename_i hj
      split at h
      · rename_i v hx
        split at h
        · rename_i hl
          split at h
          · rename_i r hr
            obtain ⟨vs, hb⟩ := aA3 hr
            have hc := UD h
            have hl' := Nat.eq_of_beq_eq_true hl
            rw [fS] at hc hl'
            exact ⟨v :: vs, Nat.eq_of_beq_eq_true hj, hx, by simpa using hl', r, hc, hb⟩
          · cases h
        · cases h
      · cases h
    · cases h
def aDb (P : Program) (l : aF) : Op → Option (TypeId × Nat × List Value)
  | .buildSlice t n ps => match P.underlying t with
    | some (.slice e) => match bA P e with
      | some s => match cH P e with
        | some _ => match Nat.beq ps.toList.length n with
          | true => match Nat.ble (n * s) 16777216 with
            | true => match bsl l s 0 ps.toList with
              | some cs => some (e, n, cs)
              | none => none
            | false => none
          | false => none
        | none => none
      | none => none
    | _ => none
  | _ => none
theorem aHc {op : Op} {t : TypeId} {n : Nat} {cs : List Value} (h : aDb P l op = some (t, n, cs)) : Alc P μ l L ⟨ds, op, ty, pos, af, gd⟩ (fun b => .slice (some ⟨b, 0, none⟩) n n) t cs := by
  unfold aDb at h
  split at h
  · rename_i t' n' ps
    split at h
    · rename_i e he
      split at h
      · rename_i s hs
        split at h
        · rename_i z hz
          split at h
          · rename_i hn
            split at h
            · rename_i hb
              split at h
              · rename_i cs' hc
                simp only [Option.some.injEq, Prod.mk.injEq] at h
                obtain ⟨rfl, rfl, rfl⟩ := h
                obtain ⟨vs, hbp⟩ := aA3 hc
                have e : ps = ps.toList.toArray := by simp
                rw [e]
                exact FW he hs hz (Nat.eq_of_beq_eq_true hn) hb hbp
              · cases h
            · cases h
          · cases h
        · cases h
      · cases h
    · cases h
  · cases h
theorem aHj {t : TypeId} {cs : List Value} {n m : Nat} (hd : oV X.n ops l o = some d) (h : aDb P l o.op = some (t, m, cs)) (hn : qL cs.length some = some n) (hg : ∀ b, G P X ops Q rest μ ((d, .slice (some ⟨b, 0, none⟩) m m) :: l) (.inl ⟨b, t, n, idx 0 cs⟩ :: L)) : G P X ops Q (o :: rest) μ l L := by
  obtain ⟨h1, h2, h3⟩ := fP hd
  cases o
  exact aDy h1 h2 h3 (aHc h) hn hg
theorem aBj {op : Op} {x : Operand} {t j : Nat} {A : Addr} {vs : List Value} {v : Value} (h : op = .load t x) (hag : eU P t = some false) (hx : ev l x = some (.pointer (some (A.add j)))) (hm : gI μ A vs) (hv : JP vs j = some v) : Val P μ l L ⟨ds, op, ty, pos, af, gd⟩ v := by
  subst h
  rw [FR] at hv
  exact AS hag hx (hm j v hv)
theorem AT {p : Operand} {t : TypeId} {i ft off : Nat} {A : Addr} (hx0 : ev l p = some (.pointer (some A))) (hf : pF P t i = some (ft, off)) : Val P μ l L ⟨ds, .fieldAddr t p i, ty, pos, af, gd⟩ (.pointer (some (A.add off))) := fun a w hs => by
  have e0 := hs.eval hx0
  simp [execOp, e0, jW hf]
def zS (L : List Bk) (r : Rw) (F : Rw → List Bk) : Prop := ∃ i, cO L i = some (.inr r) ∧ ∀ r', F r' = dY L i (.inr r')
theorem cF {v : Value} {e s n : Nat} {xs : List Value} {L : List Bk} : zS (.inr ⟨v, e, s, n, xs⟩ :: L) ⟨v, e, s, n, xs⟩ (fun r => .inr r :: L) := ⟨0, rfl, fun _ => rfl⟩
theorem cQ {x : Bk} {L : List Bk} {r : Rw} {F : Rw → List Bk} (h : zS L r F) : zS (x :: L) r (fun r => x :: F r) := by
  obtain ⟨i, h1, h2⟩ := h
  exact ⟨i + 1, h1, fun r' => by show x :: F r' = x :: dY L i (.inr r'); rw [h2]⟩
theorem eZ {q : Operand} {y : Blk} {b m c : Nat} {news : List Value} (hq : ev l q = some (.slice (some ⟨b, 0, none⟩) m c)) (hb : InB L b y) (hl : lks y.cs 0 y.sz = some news) : Src μ l L q m news := by
  obtain ⟨i, hi, rfl⟩ := hb
  exact aBt i hi hq (FY hl)
theorem lI {p q : Operand} {t e : TypeId} {s bytes m n : Nat} {z v : Value} {news xs : List Value} {F : Rw → List Bk} (hn : Nat.blt d X.n = true) (hw : dH ops l ⟨some d, .call { callee := .builtin .append, args := #[p, q], argTypes := #[t, t] }, ty, pos, af, gd⟩ = some true)
    (hp : ev l p = some v) (hr : zS L ⟨v, e, s, n, xs⟩ F) (ht : P.underlying t = some (.slice e)) (hs : bA P e = some s) (hz : cH P e = some z) (hzs : z.cells.toList.length = s) (hby : dF P e = some bytes) (hpos : Nat.blt 0 s = true)
    (hsrc : Src μ l L q m news) (hl : news.length = m * s) (h1 : ∀ u ∈ news, u.oneCell' = true) (hroom : (n + m) * bytes ≤ 140737488355328) (hlen : n + m ≤ 140737488355328)
    (h : ∀ v, G P X ops Q rest μ ((d, v) :: l) (F ⟨v, e, s, n + m, xs ++ news⟩)) :
    G P X ops Q (⟨some d, .call { callee := .builtin .append, args := #[p, q], argTypes := #[t, t] }, ty, pos, af, gd⟩ :: rest) μ l L := by
  obtain ⟨i, hi, hF⟩ := hr
  refine LF (r := ⟨v, e, s, n, xs⟩) i hn hw hi ht hs rfl hz hzs hby hpos hp hsrc hl h1 hroom hlen (fun v => ?_)
  rw [← hF]
  exact h v
theorem dP {vs : List Value} (h : GY vs) : ∀ u ∈ vs, u.oneCell' = true := by
  unfold GY at h
  simpa only [List.all_eq_true] using h
def PIf (b : Bool) (p q : Prop) : Prop := (b = true → p) ∧ (b = false → q)
theorem aDq {p q : Prop} (h : p) : PIf true p q := ⟨fun _ => h, fun h => by cases h⟩
theorem aDr {p q : Prop} (h : q) : PIf false p q := ⟨fun h => by (cases h), fun _ => h⟩
theorem aEt {b : Bool} {p q : Prop} (hb : b = true) (h : p) : PIf b p q := by subst hb; exact aDq h
theorem aEu {b : Bool} {p q : Prop} (hb : b = false) (h : q) : PIf b p q := by subst hb; exact aDr h
theorem aB5 {b : Bool} {p q : Prop} (h : PIf b q p) : PIf (!b) p q := by
  cases b
  · exact ⟨fun _ => h.2 rfl, fun h => by cases h⟩
  · exact ⟨fun h => by (cases h), fun _ => h.1 rfl⟩
theorem ZB {c p q : Prop} {_ : Decidable c} (hc : c) (h : p) : PIf (decide c) p q := ⟨fun _ => h, fun e => absurd hc (of_decide_eq_false e)⟩
theorem ZC {c p q : Prop} {_ : Decidable c} (hc : ¬ c) (h : q) : PIf (decide c) p q := ⟨fun e => absurd (of_decide_eq_true e) hc, fun _ => h⟩
theorem WA {α : Type} (a : α) : ¬ (a ≠ a) := fun h => h rfl
theorem aB6 {c p q : Prop} {_ : Decidable c} (h : c → p) (h' : ¬ c → q) : PIf (decide c) p q := ⟨fun e => h (of_decide_eq_true e), fun e => h' (of_decide_eq_false e)⟩
theorem aGh {b : Bool} {p q : Prop} (h : b = true → p) (h' : b = false → q) : PIf b p q := ⟨h, h'⟩
theorem aGp {c : Operand} {x y : Code} {b : Bool} (hc : ev l c = some (.bool b)) (h : PIf b (GC P X x Q μ l L) (GC P X y Q μ l L)) : GC P X (.cond c x y) Q μ l L := GK hc h.1 h.2
def DF (ops : Array Oper) (l : aF) (o : Oper) : Option (Nat × Bool) := match qA ops o with
  | some t => match lk l t with
    | some (.bool b) => some (t, b)
    | _ => none
  | none => none
theorem nR {t : Nat} {b : Bool} (h : DF ops l o = some (t, b)) : qA ops o = some t ∧ lk l t = some (.bool b) := by
  unfold DF at h
  split at h
  · rename_i t' ht
    split at h
    · rename_i b' hb
      simp only [Option.some.injEq, Prod.mk.injEq] at h
      obtain ⟨rfl, rfl⟩ := h
      exact ⟨ht, hb⟩
    · cases h
  · cases h
theorem aHi {t : Nat} {b : Bool} (h : DF ops l o = some (t, b)) (hb : zT b) (hg : PIf b (G P X ops Q (o :: rest) μ ((t, .bool true) :: l) L) (G P X ops Q (o :: rest) μ ((t, .bool false) :: l) L)) : G P X ops Q (o :: rest) μ l L :=
  aC3 (nR h).1 (nR h).2 hb hg.1 hg.2
theorem g_v {v : Value} (hd : oV X.n ops l o = some d) (hr : Val P μ l L o v) (h : G P X ops Q rest μ ((d, v) :: l) L) : G P X ops Q (o :: rest) μ l L := by
  obtain ⟨h1, h2, h3⟩ := fP hd
  exact TQ h1 h2 h3 hr h
def pH (ops : Array Oper) (listed : Array Bool) (i : Nat) : Bool := Region.noSelect ops && Region.free .any ops listed i && (Region.ready .any ops listed).contains i
theorem uS (h : pH ops listed i = true) : Region.noSelect ops = true ∧ Region.free .any ops listed i = true ∧ (Region.ready .any ops listed).contains i = true := by
  unfold pH at h
  simp only [Bool.and_eq_true] at h
  exact ⟨h.1.1, h.1.2, h.2⟩
def vF (P : Program) (n : Nat) (ops : Array Oper) (l : aF) (i : Nat) : Option (Nat × Value) := match mW ops.toList i with
  | some o => IW P n ops l o
  | none => none
theorem aGs (i : Nat) {v : Value} (h : vF P X.n ops l i = some (d, v)) (hk : pH ops listed i = true) (hQ : ∀ c a w, Q (.panic c) (Act.put a (some d) v) w → Q (.panic c) a w)
    (hg : GA P X μr Lr ops Q fuel (listed.setIfInBounds i true) μ ((d, v) :: l) L) : GA P X μr Lr ops Q (fuel + 1) listed μ l L := by
  obtain ⟨k1, k2, k3⟩ := uS hk
  unfold vF at h
  split at h
  · rename_i o ho
    unfold IW at h
    split at h
    · rename_i d' hd
      split at h
      · rename_i hn
        split at h
        · rename_i hw
          split at h
          · rename_i v' hv
            simp only [Option.some.injEq, Prod.mk.injEq] at h
            obtain ⟨rfl, rfl⟩ := h
            exact TP i ho hd hn hw k1 k2 k3 hQ (by cases o; exact IU hv) hg
          · cases h
        · rename_i hw
          simp only [Option.some.injEq, Prod.mk.injEq] at h
          obtain ⟨rfl, rfl⟩ := h
          exact aCw i ho hd hn hw k1 k2 k3 hQ hg
        · cases h
      · cases h
    · cases h
  · cases h
def xS (n : Nat) (ops : Array Oper) (l : aF) (i : Nat) : Option (Nat × Oper) := match mW ops.toList i with
  | some o => match oV n ops l o with
    | some d => some (d, o)
    | none => none
  | none => none
theorem JH {n : Nat} (h : xS n ops l i = some (d, o)) : mW ops.toList i = some o ∧ o.dst = some d ∧ Nat.blt d n = true ∧ dH ops l o = some true := by
  unfold xS at h
  split at h
  · rename_i o' ho
    split at h
    · rename_i d' hd
      simp only [Option.some.injEq, Prod.mk.injEq] at h
      obtain ⟨rfl, rfl⟩ := h
      obtain ⟨h1, h2, h3⟩ := fP hd
      exact ⟨ho, h1, h2, h3⟩
    · cases h
  · cases h
theorem aGr (i : Nat) {v : Value} (h : xS X.n ops l i = some (d, o)) (hk : pH ops listed i = true) (hQ : ∀ c a w, Q (.panic c) (Act.put a (some d) v) w → Q (.panic c) a w) (hv : Val P μr l Lr o v)
    (hg : GA P X μr Lr ops Q fuel (listed.setIfInBounds i true) μ ((d, v) :: l) L) : GA P X μr Lr ops Q (fuel + 1) listed μ l L := by
  obtain ⟨k1, k2, k3⟩ := uS hk
  obtain ⟨ho, hd, hn, hw⟩ := JH h
  exact TP i ho hd hn hw k1 k2 k3 hQ hv hg
theorem aGt (i : Nat) {t : Nat} {b : Bool} (ho : mW ops.toList i = some o) (h : DF ops l o = some (t, b)) (hb : zT b) (hg : PIf b (GA P X μr Lr ops Q fuel listed μ ((t, .bool true) :: l) L) (GA P X μr Lr ops Q fuel listed μ ((t, .bool false) :: l) L)) : GA P X μr Lr ops Q fuel listed μ l L :=
  aAk i ho (nR h).1 (nR h).2 hb hg.1 hg.2
def XD (X : Ctx) {ι : Type} (J : ι → Prop) (μs : ι → Mem) (ls : ι → aF) (Ls : ι → List Bk) (a : Act) (w : World) : Prop := ∃ j, J j ∧ St X (μs j) (ls j) (Ls j) a w
theorem cM {x y : Code} {ι : Type} (J : ι → Prop) (μs : ι → Mem) (ls : ι → aF) (Ls : ι → List Bk) (hx : GC P X x (Exit.then (XD X J μs ls Ls) Q) μ l L) (hy : ∀ i, J i → GC P X y Q (μs i) (ls i) (Ls i)) : GC P X (.seq x y) Q μ l L := fun a w hs =>
  wp_seq (wp_mono (hx a w hs) fun e a' w' h => by
    cases e with
    | normal => obtain ⟨j, hJ, hst⟩ := h; exact hy j hJ a' w' hst
    | _ => exact h)
theorem aCt {ι : Type} {J : ι → Prop} {μs : ι → Mem} {ls : ι → aF} {Ls : ι → List Bk} (j : ι) (hJ : J j) (hμ : μs j = μ) (hl : lH (ls j) l) (hL : (Ls j).Sublist L) :
    GQ X (Exit.then (XD X J μs ls Ls) Q) .normal μ l L := fun a w hs => ⟨j, hJ, by rw [hμ]; exact hs.sub hl hL⟩
end
end
section
open Go.RowKit
section
variable {P : Program} {X : Ctx} {ops : Array Oper} {Q : Exit → Act → World → Prop} {rest : List Oper} {μ μr : Mem} {l : aF} {L Lr : List Bk} {a : Act} {w : World} {o : Oper} {d fuel i : Nat} {listed : Array Bool}
variable {ty : TypeId} {pos : String} {af : Array Edge} {gd : Option (Nat × Bool)} {ds : Option Nat}
def bAt (s : ByteArray) (k : Nat) : Int := ((s.data.toList[k]?).getD 0).toNat
theorem QW (s : ByteArray) (k : Nat) : 0 ≤ bAt s k := by unfold bAt; omega
theorem aA8 (s : ByteArray) (k : Nat) : bAt s k ≤ 255 := by
  unfold bAt
  have := ((s.data.toList[k]?).getD 0).toNat_lt
  omega
theorem NN {t : TypeId} {s : ByteArray} {k : Nat} (ht : P.underlying t = some .string) (hk : k < s.size) (w : World) : (Instr.index t (.string s) (.int .i64 (k : Int))).run P w = .ok (.int .u8 (bAt s k)) w := by
  have h1 : s[k]? = some s[k] := by simp [hk]
  have h2 : bAt s k = s[k].toNat := by
    unfold bAt
    have : s.data.toList[k]? = some s[k] := by
      rw [Array.getElem?_toList]
      exact Array.getElem?_eq_getElem hk
    rw [this]; rfl
  simp [Instr.index, asIntOf, run_underlying ht, h1, h2]
theorem HG {p q : Operand} {t : TypeId} {s : ByteArray} {i : Int} (k : Nat) (ht : P.underlying t = some .string) (hx0 : ev l p = some (.string s)) (hx1 : ev l q = some (.int .i64 i)) (hi : i = (k : Int)) (hk : k < s.size) :
    Val P μ l L ⟨ds, .index t p q, ty, pos, af, gd⟩ (.int .u8 (bAt s k)) := fun a w hs => by
  have e0 := hs.eval hx0; have e1 := hs.eval hx1; generalize a.eval = ρ at e0 e1; subst hi; simp [execOp, e0, e1, NN ht hk]
theorem MP {p q : Operand} {t : TypeId} {s : ByteArray} {k : Nat} (ht : P.underlying t = some .string) (hx0 : ev l p = some (.string s)) (hx1 : ev l q = some (.int .i64 (k : Int))) (hk : k < s.size) :
    Val P μ l L ⟨ds, .index t p q, ty, pos, af, gd⟩ (.int .u8 (bAt s k)) := HG k ht hx0 hx1 rfl hk
theorem wrap_u8 {x : Int} (h : 0 ≤ x ∧ x ≤ 255) : IntKind.wrap .u8 x = x := by
  simp only [IntKind.wrap]
  simp [IntKind.signed, IntKind.bits]
  omega
theorem wrap_i64 {x : Int} (h : -9223372036854775808 ≤ x ∧ x ≤ 9223372036854775807) : IntKind.wrap .i64 x = x := by
  simp only [IntKind.wrap]
  simp [IntKind.signed, IntKind.bits]
  omega
def arB (l : aF) (op : Op) : Option Int := match op with
  | .binOp op _ p q _ => match ev l p, ev l q with
    | some (.int .u8 x), some (.int .u8 y) => match op with
      | .add => some (x + y)
      | .sub => some (x - y)
      | _ => none
    | _, _ => none
  | _ => none
theorem uB {op : Op} {r : Int} (h : arB l op = some r) (hb : 0 ≤ r ∧ r ≤ 255) : Val P μ l L ⟨ds, op, ty, pos, af, gd⟩ (.int .u8 r) := by
  unfold arB at h
  split at h
  · split at h
    · rename_i x y hp hq
      split at h
      · simp only [Option.some.injEq] at h; subst h
        rw [show (Value.int .u8 (x + y)) = .int .u8 (IntKind.wrap .u8 (x + y)) by rw [wrap_u8 hb]]
        exact aDe hp hq
      · simp only [Option.some.injEq] at h; subst h
        rw [show (Value.int .u8 (x - y)) = .int .u8 (IntKind.wrap .u8 (x - y)) by rw [wrap_u8 hb]]
        exact XF hp hq
      · cases h
    · cases h
  · cases h
theorem MV {p : Operand} {t u : TypeId} {k : IntKind} {x : Int} {de : TypeDesc} (hx0 : ev l p = some (.int k x)) (ht : P.underlying t = some de) (hu : P.underlying u = some (.int .i64)) (hb : -9223372036854775808 ≤ x ∧ x ≤ 9223372036854775807) : Val P μ l L ⟨ds, .convert t u p, ty, pos, af, gd⟩ (.int .i64 x) := by
  have := XM (P := P) (μ := μ) (L := L) (ds := ds) (ty := ty) (pos := pos) (af := af) (gd := gd) hx0 ht hu
  rw [wrap_i64 hb] at this
  exact this
theorem RH {p : Operand} {t : TypeId} {x : Int} (hx0 : ev l p = some (.int .i64 x)) (hb : -9223372036854775808 ≤ -x ∧ -x ≤ 9223372036854775807) : Val P μ l L ⟨ds, .unOp .neg t p, ty, pos, af, gd⟩ (.int .i64 (-x)) := by
  rw [show (Value.int .i64 (-x)) = .int .i64 (IntKind.wrap .i64 (-x)) by rw [wrap_i64 hb]]
  exact aFz hx0
theorem RE {p q : Operand} {t t2 : TypeId} {x y : Int} (hx0 : ev l p = some (.int .i64 x)) (hx1 : ev l q = some (.int .i64 y)) (hy : y ≠ 0) (hb : -9223372036854775808 ≤ x.tdiv y ∧ x.tdiv y ≤ 9223372036854775807) : Val P μ l L ⟨ds, .binOp .quo t p q t2, ty, pos, af, gd⟩ (.int .i64 (x.tdiv y)) := by
  rw [show (Value.int .i64 (x.tdiv y)) = .int .i64 (IntKind.wrap .i64 (x.tdiv y)) by rw [wrap_i64 hb]]
  exact XJ hx0 hx1 hy
abbrev bl (s : ByteArray) : List UInt8 := s.data.toList
theorem aZ (s : ByteArray) : (bl s).length = s.size := by simp [bl]
theorem lF {s t : ByteArray} (h : bl s = bl t) : s = t := by
  cases s; cases t
  simp only [bl] at h
  congr
  exact Array.toList_inj.1 h
theorem bX (s : ByteArray) (a b : Nat) : bl (s.extract a b) = ((bl s).drop a).take (b - a) := by
  simp [bl, ByteArray.data_extract]
theorem jT {s : ByteArray} {k : Nat} {b : UInt8} (h : (bl s)[k]? = some b) : bAt s k = b.toNat := by
  unfold bAt; rw [h]; rfl
theorem jA (s : ByteArray) : s = ⟨#[]⟩ ↔ bl s = [] := by
  constructor
  · rintro rfl; rfl
  · intro h; exact lF (by rw [h])
end
end
section
open Go.RowKit
section
variable {P : Program} {μ : Mem} {l : aF} {L : List Bk} {ds : Option Nat} {ty : TypeId} {pos : String} {af : Array Edge} {gd : Option (Nat × Bool)}
end
section
variable {P : Program} {μ : Mem} {l : aF} {L : List Bk} {ds : Option Nat} {ty : TypeId} {pos : String} {af : Array Edge} {gd : Option (Nat × Bool)}
end
section
variable {P : Program} {μ : Mem} {l : aF} {L : List Bk} {a : Act} {w : World}
def RVs (P : Program) (μ : Mem) (l : aF) (L : List Bk) : List ResultVar → List Value → Prop
  | [], [] => True
  | r :: rs, v :: vs => RV P μ l L r v ∧ RVs P μ l L rs vs
  | _, _ => False
theorem aJ : RVs P μ l L [] [] := trivial
theorem aE {r : ResultVar} {rs : List ResultVar} {v : Value} {vs : List Value} (h : RV P μ l L r v) (hs : RVs P μ l L rs vs) : RVs P μ l L (r :: rs) (v :: vs) := ⟨h, hs⟩
theorem rZ (hs : Rd μ l L a w) : ∀ {rs : List ResultVar} {vs : List Value}, RVs P μ l L rs vs → (rs.mapM (ResultVar.get a.tmps)).run P w = .ok vs w
  | [], [], _ => by simp
  | r :: rs, v :: vs, h => by
    have h1 := h.1 a w hs
    have h2 := rZ hs h.2
    simp [List.mapM_cons, h1, h2]
  | [], _ :: _, h => by cases h
  | _ :: _, [], h => by cases h
theorem xG {fn : Func} {rs : List ResultVar} {vs : List Value} (hr : fn.results = rs.toArray) (h : RVs P μ l L rs vs) (hl : Nat.beq vs.length 1 = false) (hs : Rd μ l L a w) : (results fn a.tmps).run P w = .ok (.tuple vs.toArray) w := by
  have h1 := rZ hs h
  have h2 : ¬ vs.length = 1 := Nat.ne_of_beq_eq_false hl
  have e : results fn a.tmps = (do let vs ← rs.toArray.mapM (ResultVar.get a.tmps); pure (if h : vs.size = 1 then vs[0] else .tuple vs)) := by
    unfold results
    rw [hr]
    refine congrArg (fun f => (rs.toArray.mapM f >>= fun vs => pure (if h : vs.size = 1 then vs[0] else .tuple vs) : Sem Value)) ?_
    funext r
    cases r <;> rfl
  rw [e]
  simp only [List.mapM_toArray]
  simp [h1, h2]
theorem bD {fn : Func} {n : Nat} {rs : List ResultVar} {vs : List Value} {v : Value} {w : World} {μ0 : Mem} (hr : fn.results = rs.toArray) (h : RVs P μ l L rs vs) (hl : Nat.beq vs.length 1 = false) (e : .tuple vs.toArray = v) :
    GQ ⟨w, μ0, [], n⟩ (bodyPost P fn (fun e w' => e = .returned v ∧ Below w.heap.size w w')) .ret μ l L := fun a w' hs =>
  ⟨hs.defers.none (by simp), .tuple vs.toArray, xG hr h hl hs.rd, by rw [e], hs.aT.below⟩
end
end
section
open Go.RowKit Go.MapKept
section
variable {P : Program} {X : Ctx} {ops : Array Oper} {Q : Exit → Act → World → Prop} {rest : List Oper} {μ μr : Mem} {l : aF} {L Lr : List Bk} {a : Act} {w : World} {o : Oper} {d fuel i : Nat} {listed : Array Bool}
variable {ty : TypeId} {pos : String} {af : Array Edge} {gd : Option (Nat × Bool)} {ds : Option Nat}
theorem St.aGk (h : St X μ l L a w) (x : Obj) (y : Bk) (hid : Bk.id y = some w.heap.size) (hy : Bk.at y (w.alloc x)) : St X μ l (y :: L) a (w.alloc x) := by
  have hold : ∀ b, b < w.heap.size → (w.alloc x).heap[b]? = w.heap[b]? := fun b hb => Below.heap_alloc w _ b hb
  have hlt : ∀ x ∈ L, ∀ b, Bk.id x = some b → b < w.heap.size := fun x hx b hb => Bk.lt (h.own x hx) hb
  refine ⟨h.size, h.defers, h.slots, ⟨h.aT.os, h.aT.tape, h.aT.output, Nat.le_trans h.aT.size (by simp), fun b hb hM => ?_⟩, fun b o hb => ?_, h.from0, h.fresh, fun x hx => ?_, fun x hx b hb => ?_, fun x hx b hb => ?_, ?_⟩
  · rw [hold b (Nat.lt_of_lt_of_le hb h.aT.size)]; exact h.aT.block b hb hM
  · have := h.mem b o hb
    rw [hold b (Array.getElem?_eq_some_iff.1 this).1]; exact this
  · rcases List.mem_cons.1 hx with rfl | hx
    · exact hy
    · exact Bk.aT (h.own x hx) (fun b hb => hold b (hlt x hx b hb))
  · rcases List.mem_cons.1 hx with rfl | hx
    · rw [hid] at hb
      cases hb
      cases hm : μ w.heap.size with
      | none => rfl
      | some o =>
        have := (Array.getElem?_eq_some_iff.1 (h.mem _ _ hm)).1
        omega
    · exact h.priv x hx b hb
  · rcases List.mem_cons.1 hx with rfl | hx
    · rw [hid] at hb
      cases hb; exact .inr h.aT.size
    · exact h.new x hx b hb
  · refine List.pairwise_cons.2 ⟨fun y hy b hb hb' => ?_, h.diff⟩
    have h1 := hlt y hy b hb'
    rw [hid] at hb
    have h2 : w.heap.size = b := Option.some.inj hb
    omega
theorem aC2 {t : TypeId} (hn : Nat.blt d X.n = true) (hw : dH ops l ⟨some d, .makeMap t none, ty, pos, af, gd⟩ = some true)
    (h : ∀ b, G P X ops Q rest μ ((d, .map (some b)) :: l) (.mp ⟨b, [], 0⟩ :: L)) : G P X ops Q (⟨some d, .makeMap t none, ty, pos, af, gd⟩ :: rest) μ l L :=
  qG hw fun a w hs => by
    have e : (execOp a.eval ⟨some d, .makeMap t none, ty, pos, af, gd⟩).run P w = .ok (.value (.map (some w.heap.size))) (w.alloc (.map #[] 0)) := by
      simp [execOp, run_makeMap]
    unfold Oper.wp
    rw [e, Oper.upon_value]
    exact h _ _ _ ((hs.aGk (.map #[] 0) (.mp ⟨w.heap.size, [], 0⟩) rfl (heap_alloc_new w _)).put hn _)
def UpM (L : List Bk) (b : Nat) (m : Mp) (F : Mp → List Bk) : Prop := ∃ i, cO L i = some (.mp m) ∧ m.b = b ∧ ∀ m', F m' = dY L i (.mp m')
theorem aD9 {b ck : Nat} {es : List MapEntry} {L : List Bk} : UpM (.mp ⟨b, es, ck⟩ :: L) b ⟨b, es, ck⟩ (fun m => .mp m :: L) := ⟨0, rfl, rfl, fun _ => rfl⟩
theorem iU {t kt et : TypeId} {dk : TypeDesc} {b ck : Nat} {es : List MapEntry} {k v : Value} (ht : P.underlying t = some (.map kt et)) (hk : P.underlying kt = some dk) (hkey : IsKey dk k)
    (hb : w.heap[b]? = some (.map es.toArray ck)) (hf : Instr.findNow dk k es 0 = some none) : (Instr.mapUpdate t (.map (some b)) k v).run P w = .ok () { w with heap := w.heap.setIfInBounds b (.map (es ++ [MapEntry.mk k v ck]).toArray (ck + 1)) } := by
  simp [Instr.mapUpdate, run_underlying ht, MapKept.run_getObj_map hb, MapKept.run_checkKey hk hkey, MapKept.run_findKey hk hf, MapKept.run_setObj_map _ hb]
theorem aAm {t kt et : TypeId} {dk : TypeDesc} {m k x : Operand} {b ck : Nat} {es : List MapEntry} {kv v : Value} {F : Mp → List Bk} {op : Op} (hop : op = .insert t m k x ∨ op = .mapUpdate t m k x) (hw : dH ops l ⟨none, op, ty, pos, af, gd⟩ = some true) (hm : ev l m = some (.map (some b))) (hk : ev l k = some kv) (hx : ev l x = some v)
    (ht : P.underlying t = some (.map kt et)) (hkt : P.underlying kt = some dk) (hkey : IsKey dk kv) (hu : UpM L b ⟨b, es, ck⟩ F) (hf : Instr.findNow dk kv es 0 = some none)
    (h : G P X ops Q rest μ l (F ⟨b, es ++ [MapEntry.mk kv v ck], ck + 1⟩)) : G P X ops Q (⟨none, op, ty, pos, af, gd⟩ :: rest) μ l L :=
  qG hw fun a w hs => by
    obtain ⟨i, hi, _, hF⟩ := hu
    have hb : w.heap[b]? = some (.map es.toArray ck) := hs.own _ (bP hi)
    have e1 := hs.eval hm; have e2 := hs.eval hk; have e3 := hs.eval hx
    have e : (execOp a.eval ⟨none, op, ty, pos, af, gd⟩).run P w = .ok .skip { w with heap := w.heap.setIfInBounds b (.map (es ++ [MapEntry.mk kv v ck]).toArray (ck + 1)) } := by
      generalize a.eval = ρ at e1 e2 e3
      rcases hop with rfl | rfl <;> simp [execOp, e1, e2, e3, iU ht hkt hkey hb hf]
    unfold Oper.wp
    rw [e, Oper.upon_skip]
    have hlt := (Array.getElem?_eq_some_iff.1 hb).1
    have := hs.upd hi (y := .mp ⟨b, es ++ [MapEntry.mk kv v ck], ck + 1⟩) (w' := { w with heap := w.heap.setIfInBounds b (.map (es ++ [MapEntry.mk kv v ck]).toArray (ck + 1)) }) rfl rfl rfl (by simp)
      (fun c hc hne => by
        have : b ≠ c := fun e => hne (by rw [e]; rfl)
        simp [Array.getElem?_setIfInBounds_ne this])
      (by show (w.heap.setIfInBounds b _)[b]? = _; rw [Array.getElem?_setIfInBounds_self_of_lt hlt])
      (fun c hc => .inl hc)
    rw [hF] at h
    exact h _ _ this
def kA (P : Program) (et : TypeId) : Option (Option (Nat × Value)) → Option (Value × Bool)
  | some (some (_, v)) => some (v, true)
  | some none => match cH P et with
    | some z => some (z, false)
    | none => none
  | none => none
theorem gB {t kt et : TypeId} {dk : TypeDesc} {b ck : Nat} {es : List MapEntry} {k v : Value} {ok c : Bool} (ht : P.underlying t = some (.map kt et)) (hk : P.underlying kt = some dk) (hkey : IsKey dk k)
    (hb : w.heap[b]? = some (.map es.toArray ck)) (hf : kA P et (Instr.findNow dk k es 0) = some (v, ok)) : (Instr.lookup t (.map (some b)) k c).run P w = .ok (if c then .tuple #[v, .bool ok] else v) w := by
  cases hr : Instr.findNow dk k es 0 with
  | none => simp [hr, kA] at hf
  | some r =>
    cases r with
    | none =>
      simp only [hr, kA] at hf
      split at hf
      · rename_i z hz
        simp only [Option.some.injEq, Prod.mk.injEq] at hf
        obtain ⟨rfl, rfl⟩ := hf
        simp [Instr.lookup, run_underlying ht, MapKept.run_getObj_map hb, MapKept.run_checkKey hk hkey, MapKept.run_findKey hk hr, aK hz]
        try (cases c <;> rfl)
      · cases hf
    | some r =>
      obtain ⟨j, u⟩ := r
      simp only [hr, kA, Option.some.injEq, Prod.mk.injEq] at hf
      obtain ⟨rfl, rfl⟩ := hf
      simp [Instr.lookup, run_underlying ht, MapKept.run_getObj_map hb, MapKept.run_checkKey hk hkey, MapKept.run_findKey hk hr]
      try (cases c <;> rfl)
end
end
end Go.Vcg
namespace Go.Proofs.YtoclmkdfcafhfaaGreatDoor
end Go.Proofs.YtoclmkdfcafhfaaGreatDoor
