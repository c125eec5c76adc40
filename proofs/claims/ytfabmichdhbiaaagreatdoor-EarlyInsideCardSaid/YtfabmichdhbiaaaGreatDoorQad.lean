/- More rules: a slice compared with nil. (and what leans on it). No statement of the seat is proved here. -/
import Derived.Test.YtfabmichdhbiaaaGreatDoorQac
import Derived.MapKept
set_option maxRecDepth 20000
namespace Go.Vcg
open Go.RowKit
section
variable {P : Program} {X : Ctx} {ops : Array Oper} {Q : Exit → Act → World → Prop} {rest : List Oper} {μ μr : Mem} {l : Slots} {L Lr : List Bk} {a : Act} {w : World} {o : Oper} {d fuel i : Nat} {listed : Array Bool}
variable {ty : TypeId} {pos : String} {af : Array Edge} {gd : Option (Nat × Bool)} {ds : Option Nat}
theorem run_equalIn_nil (w : World) (k : Nat) (t e : TypeId) (A : Option Addr) (n c : Nat) (ht : P.underlying t = some (.slice e)) : (Op.equalIn (k + 1) t (.slice A n c) (.slice none 0 0)).run P w = .ok A.isNone w := by
  unfold Op.equalIn
  cases A <;> simp [run_underlying ht]
theorem v_isnil {p : Operand} {t t2 e : TypeId} {A : Option Addr} {n c : Nat} (ht : P.underlying t = some (.slice e)) (hx : ev l p = some (.slice A n c)) : Val P μ l L ⟨ds, .binOp .eql t p (.const (.slice none 0 0)) t2, ty, pos, af, gd⟩ (.bool A.isNone) := fun a w hs => by
  have e0 := hs.eval hx
  have e1 : a.eval (.const (.slice none 0 0)) = .slice none 0 0 := rfl
  generalize a.eval = ρ at e0 e1
  have h := run_equalIn_nil (P := P) w 9999 t e A n c ht
  simp [execOp, e0, e1, eqGuard, binOp, Op.equal, Op.maxDepth, h]
theorem sl_lit {α : Type} {enc : α → List Value} {sz n : Nat} {μ : Mem} {l : List α} {x : Blk} (h : Bk.sh (.inl x) μ) (hn : l.length = n) (he : ∀ y ∈ l, (enc y).length = sz) (hc : LC x.cs 0 (n * sz) (l.flatMap enc)) : Sl enc sz μ (some ⟨x.b, 0, none⟩) n l := by
  refine Sl.of_own h hn (fun i y hy j v hj => ?_)
  have key : ∀ (xs : List α) (i : Nat) (x : α), (∀ x ∈ xs, (enc x).length = sz) → xs[i]? = some x → ∀ j v, (enc x)[j]? = some v → (xs.flatMap enc)[i * sz + j]? = some v := by
    intro xs
    induction xs with
    | nil => intro i x _ h; simp at h
    | cons y xs ih =>
      intro i x he hi j v hj
      have hy := he y (by simp)
      cases i with
      | zero =>
        simp at hi; subst hi
        simp only [List.flatMap_cons, Nat.zero_mul, Nat.zero_add]
        rw [List.getElem?_append_left (List.getElem?_eq_some_iff.1 hj).1]; exact hj
      | succ i =>
        simp only [List.flatMap_cons]
        rw [List.getElem?_append_right (by rw [hy, Nat.add_mul]; omega), hy, show (i + 1) * sz + j - sz = i * sz + j by rw [Nat.add_mul]; omega]
        exact ih i x (fun z hz => he z (by simp [hz])) (by simpa using hi) j v hj
  simpa using hc.get _ v (key l i y he hy j v hj)
end
end Go.Vcg
set_option maxRecDepth 20000
namespace Go.Vcg
open Go.RowKit
section
variable {P : Program} {X : Ctx} {ops : Array Oper} {Q : Exit → Act → World → Prop} {rest : List Oper} {μ μr : Mem} {l : Slots} {a : Act} {w : World} {o : Oper} {d fuel i : Nat} {listed : Array Bool}
theorem St.cells {L L' : List Bk} {i : Nat} {b t sz : Nat} {cs cs' : Slots} (h : St X μ l L a w) (hi : nthB L i = some (.inl ⟨b, t, sz, cs⟩)) (hs : SubS cs' cs) (hL : updB L i (.inl ⟨b, t, sz, cs'⟩) = L') : St X μ l L' a w := by
  rw [← hL]
  refine h.upd (w' := w) hi rfl rfl rfl (Nat.le_refl _) (fun _ _ _ => rfl) ?_ (fun b hb => .inl hb)
  obtain ⟨arr, h1, h2, h3⟩ := h.own _ (nthB_mem hi)
  exact ⟨arr, h1, h2, fun k v hk => h3 k v (hs k v hk)⟩
end
end Go.Vcg
set_option maxRecDepth 20000
namespace Go.Vcg
open Go.RowKit
section
variable {P : Program} {X : Ctx} {ops : Array Oper} {Q : Exit → Act → World → Prop} {rest : List Oper} {μ μr : Mem} {l : Slots} {L Lr : List Bk} {a : Act} {w : World} {o : Oper} {d fuel i : Nat} {listed : Array Bool}
variable {ty : TypeId} {pos : String} {af : Array Edge} {gd : Option (Nat × Bool)} {ds : Option Nat}
def lks (cs : Slots) : Nat → Nat → Option (List Value)
  | _, 0 => some []
  | off, n + 1 => match lk cs off with
    | some v => match lks cs (off + 1) n with
      | some vs => some (v :: vs)
      | none => none
    | none => none
theorem lks_lc {cs : Slots} : ∀ {n off : Nat} {vs : List Value}, lks cs off n = some vs → LC cs off n vs
  | 0, off, vs, h => by simp [lks] at h; subst h; exact lc_nil
  | n + 1, off, vs, h => by
    unfold lks at h
    cases e : lk cs off with
    | none => simp [e] at h
    | some v =>
      cases e' : lks cs (off + 1) n with
      | none => simp [e, e'] at h
      | some r => simp [e, e'] at h; subst h; exact lc_cons e (lks_lc e')
def cmpI (op : BinOp) (x y : Int) : Option Value := match op with
  | .eql => some (.bool (decide (x = y)))
  | .neq => some (.bool (decide (x ≠ y)))
  | .lss => some (.bool (decide (x < y)))
  | .leq => some (.bool (decide (x ≤ y)))
  | .gtr => some (.bool (decide (y < x)))
  | .geq => some (.bool (decide (y ≤ x)))
  | _ => none
def cmpS (op : BinOp) (x y : ByteArray) : Option Value := match op with
  | .eql => some (.bool (decide (x = y)))
  | .neq => some (.bool (decide (x ≠ y)))
  | _ => none
def cmpB (op : BinOp) (x y : Bool) : Option Value := match op with
  | .eql => some (.bool (decide (x = y)))
  | .neq => some (.bool (decide (x ≠ y)))
  | _ => none
def isBoolT (P : Program) (t : TypeId) : Bool := match P.underlying t with | some .bool => true | _ => false
def buildV (P : Program) (l : Slots) (t : TypeId) (ps : List (Nat × Operand)) : Option Value :=
  match sizeT P t with
  | some s => match zeroT P t with
    | some z => match Nat.beq (cellsL z).length s with
      | true => match placesT P t with
        | some pl => match evParts l ps with
          | some us => match okParts pl s us with
            | true => match lks (bcells pl us (idx 0 (cellsL z))) 0 s with
              | some vs => some (.agg vs.toArray)
              | none => none
            | false => none
          | none => none
        | none => none
      | false => none
    | none => none
  | none => none
def lenV (P : Program) (l : Slots) : List Operand → List TypeId → Option Value
  | [p], [t] => match ev l p, P.underlying t with
    | some (.string s), some .string => some (.int .i64 s.size)
    | some (.slice _ n _), some (.slice _) => some (.int .i64 n)
    | _, _ => none
  | _, _ => none
def evs (l : Slots) : List Operand → Option (List Value)
  | [] => some []
  | x :: r => match ev l x with
    | some v => match evs l r with
      | some vs => some (v :: vs)
      | none => none
    | none => none
theorem evs_spec (h : Rd μ l L a w) : ∀ {xs : List Operand} {vs : List Value}, evs l xs = some vs → xs.map a.eval = vs
  | [], vs, e => by simp [evs] at e; simp [e]
  | x :: r, vs, e => by
    unfold evs at e
    cases hx : ev l x with
    | none => simp [hx] at e
    | some v =>
      cases hr : evs l r with
      | none => simp [hx, hr] at e
      | some us =>
        simp [hx, hr] at e
        subst e
        simp [h.eval hx, evs_spec h hr]
def pv (P : Program) (l : Slots) : Op → Option Value
  | .move x => ev l x
  | .assign x => ev l x
  | .pick c x y => match ev l c with
    | some (.bool true) => ev l x
    | some (.bool false) => ev l y
    | _ => none
  | .fieldAddr t p i => match ev l p with
    | some (.pointer (some ⟨b, k, none⟩)) => match fieldT P t i with
      | some (_, off) => nat16 k fun k => some (.pointer (some ⟨b, k + off, none⟩))
      | none => none
    | _ => none
  | .binOp op t p q _ => match ev l p, ev l q with
    | some (.int k x), some (.int k' y) => match decide (k = k') with
      | true => cmpI op x y
      | false => none
    | some (.string x), some (.string y) => cmpS op x y
    | some (.bool x), some (.bool y) => match isBoolT P t with
      | true => cmpB op x y
      | false => none
    | _, _ => none
  | .unOp .not _ p => match ev l p with
    | some (.bool b) => some (.bool (!b))
    | _ => none
  | .extract p i => match ev l p with
    | some (.tuple vs) => nthV vs.toList i
    | _ => none
  | .nilCheck p => match ev l p with
    | some (.pointer (some A)) => some (.pointer (some A))
    | _ => none
  | .call ⟨.builtin .len, args, ts⟩ => lenV P l args.toList ts.toList
  | .build t ps => buildV P l t ps.toList
  | .makeFunc fn ⟨[]⟩ caps => match evs l caps.toList with
    | some vs => some (.func fn #[] vs.toArray)
    | none => none
  | _ => none
theorem cmpI_sound {op : BinOp} {p q : Operand} {t t2 : TypeId} {k : IntKind} {x y : Int} {v : Value} (hp : ev l p = some (.int k x)) (hq : ev l q = some (.int k y)) (h : cmpI op x y = some v) : Val P μ l L ⟨ds, .binOp op t p q t2, ty, pos, af, gd⟩ v := by
  cases op <;> simp only [cmpI, Option.some.injEq, reduceCtorEq] at h <;> subst h
  · exact v_eql hp hq
  · exact v_neq hp hq
  · exact v_lss hp hq
  · exact v_leq hp hq
  · exact v_gtr hp hq
  · exact v_geq hp hq
theorem cmpS_sound {op : BinOp} {p q : Operand} {t t2 : TypeId} {x y : ByteArray} {v : Value} (hp : ev l p = some (.string x)) (hq : ev l q = some (.string y)) (h : cmpS op x y = some v) : Val P μ l L ⟨ds, .binOp op t p q t2, ty, pos, af, gd⟩ v := by
  cases op <;> simp only [cmpS, Option.some.injEq, reduceCtorEq] at h <;> subst h
  · exact v_seql hp hq
  · exact v_sneq hp hq
theorem cmpB_sound {op : BinOp} {p q : Operand} {t t2 : TypeId} {x y : Bool} {v : Value} (ht : isBoolT P t = true) (hp : ev l p = some (.bool x)) (hq : ev l q = some (.bool y)) (h : cmpB op x y = some v) : Val P μ l L ⟨ds, .binOp op t p q t2, ty, pos, af, gd⟩ v := by
  have hu : P.underlying t = some .bool := by
    unfold isBoolT at ht
    split at ht
    · assumption
    · cases ht
  cases op <;> simp only [cmpB, Option.some.injEq, reduceCtorEq] at h <;> subst h
  · exact v_beql hu hp hq
  · exact v_bneq hu hp hq
theorem buildV_sound {t : TypeId} {ps : Array (Nat × Operand)} {v : Value} (h : buildV P l t ps.toList = some v) : Val P μ l L ⟨ds, .build t ps, ty, pos, af, gd⟩ v := by
  unfold buildV at h
  repeat' split at h
  all_goals first | (simp only [reduceCtorEq] at h; done) | skip
  rename_i _ s hs _ z hz _ hb _ pl hpl _ us hus _ hok _ vs hvs
  simp only [Option.some.injEq] at h
  subst h
  have e : ps = ps.toList.toArray := by simp
  rw [e]
  exact v_build hs hz (Nat.eq_of_beq_eq_true hb) hpl hus hok (lks_lc hvs)
theorem lenV_sound {args : Array Operand} {ts : Array TypeId} {v : Value} (h : lenV P l args.toList ts.toList = some v) : Val P μ l L ⟨ds, .call ⟨.builtin .len, args, ts⟩, ty, pos, af, gd⟩ v := by
  unfold lenV at h
  split at h
  · rename_i p t ha ht
    have e : args = #[p] := by rw [← Array.toArray_toList (xs := args), ha]
    have e' : ts = #[t] := by rw [← Array.toArray_toList (xs := ts), ht]
    subst e e'
    split at h
    · rename_i s hp hu
      simp only [Option.some.injEq] at h; subst h
      exact v_len_s hp hu
    · rename_i A n c e hp hu
      simp only [Option.some.injEq] at h; subst h
      exact v_len_l hp hu
    · cases h
  · cases h
theorem makeFunc_sound {fn : Fn} {caps : Array Operand} {vs : List Value} (h : evs l caps.toList = some vs) : Val P μ l L ⟨ds, .makeFunc fn #[] caps, ty, pos, af, gd⟩ (.func fn #[] vs.toArray) := fun a w hs => by
  have e := evs_spec hs h
  have : caps.map a.eval = vs.toArray := by
    cases caps
    simpa using e
  simp [execOp, Instr.makeFunc, this]
theorem pv_sound {op : Op} {v : Value} (h : pv P l op = some v) : Val P μ l L ⟨ds, op, ty, pos, af, gd⟩ v := by
  unfold pv at h
  split at h
  · exact v_move h
  · exact v_assign h
  · split at h
    · rename_i hc; exact v_pick_t hc h
    · rename_i hc; exact v_pick_f hc h
    · cases h
  · split at h
    · rename_i b k hp
      split at h
      · rename_i x off hf
        rw [nat16_eq] at h
        simp only [Option.some.injEq] at h; subst h
        exact v_field_lit hp hf
      · cases h
    · cases h
  · split at h
    · rename_i k x k' y hp hq
      split at h
      · rename_i hk
        have := of_decide_eq_true hk
        subst this
        exact cmpI_sound hp hq h
      · cases h
    · rename_i x y hp hq; exact cmpS_sound hp hq h
    · rename_i x y hp hq
      split at h
      · rename_i ht; exact cmpB_sound ht hp hq h
      · cases h
    · cases h
  · split at h
    · rename_i b hp
      simp only [Option.some.injEq] at h; subst h
      exact v_not hp
    · cases h
  · split at h
    · rename_i vs hp
      have e : vs = vs.toList.toArray := by simp
      rw [e] at hp
      exact v_extract hp h
    · cases h
  · split at h
    · rename_i A hp
      simp only [Option.some.injEq] at h; subst h
      exact v_nilCheck hp
    · cases h
  · exact lenV_sound h
  · exact buildV_sound h
  · split at h
    · rename_i vs hv
      simp only [Option.some.injEq] at h; subst h
      exact makeFunc_sound hv
    · cases h
  · cases h
def pstep (P : Program) (n : Nat) (ops : Array Oper) (l : Slots) (o : Oper) : Option (Nat × Value) := match o.dst with
  | some d => match Nat.blt d n with
    | true => match wants ops l o with
      | some true => match pv P l o.op with
        | some v => some (d, v)
        | none => none
      | some false => some (d, undef)
      | none => none
    | false => none
  | none => none
theorem g_p {v : Value} (h : pstep P X.n ops l o = some (d, v)) (hg : G P X ops Q rest μ ((d, v) :: l) L) : G P X ops Q (o :: rest) μ l L := by
  unfold pstep at h
  split at h
  · rename_i d' hd
    split at h
    · rename_i hn
      split at h
      · rename_i hw
        split at h
        · rename_i v' hv
          simp only [Option.some.injEq, Prod.mk.injEq] at h
          obtain ⟨rfl, rfl⟩ := h
          cases o
          exact g_val hd hn hw (pv_sound hv) hg
        · cases h
      · rename_i hw
        simp only [Option.some.injEq, Prod.mk.injEq] at h
        obtain ⟨rfl, rfl⟩ := h
        exact g_skip hd hn hw hg
      · cases h
    · cases h
  · cases h
def arI (l : Slots) (op : Op) : Option Int := match op with
  | .binOp op _ p q _ => match ev l p, ev l q with
    | some (.int .i64 x), some (.int .i64 y) => match op with
      | .add => some (x + y)
      | .sub => some (x - y)
      | .mul => some (x * y)
      | _ => none
    | _, _ => none
  | _ => none
theorem arI_sound {op : Op} {r : Int} (h : arI l op = some r) (hb : -9223372036854775808 ≤ r ∧ r ≤ 9223372036854775807) : Val P μ l L ⟨ds, op, ty, pos, af, gd⟩ (.int .i64 r) := by
  unfold arI at h
  split at h
  · split at h
    · rename_i x y hp hq
      split at h
      · simp only [Option.some.injEq] at h; subst h; exact v_add_i hp hq hb
      · simp only [Option.some.injEq] at h; subst h; exact v_sub_i hp hq hb
      · simp only [Option.some.injEq] at h; subst h; exact v_mul_i hp hq hb
      · cases h
    · cases h
  · cases h
def arstep (n : Nat) (ops : Array Oper) (l : Slots) (o : Oper) : Option (Nat × Int) := match o.dst with
  | some d => match Nat.blt d n with
    | true => match wants ops l o with
      | some true => match arI l o.op with
        | some v => some (d, v)
        | none => none
      | _ => none
    | false => none
  | none => none
theorem g_ar {r : Int} (h : arstep X.n ops l o = some (d, r)) (hb : -9223372036854775808 ≤ r ∧ r ≤ 9223372036854775807) (hg : G P X ops Q rest μ ((d, .int .i64 r) :: l) L) : G P X ops Q (o :: rest) μ l L := by
  unfold arstep at h
  split at h
  · rename_i d' hd
    split at h
    · rename_i hn
      split at h
      · rename_i hw
        split at h
        · rename_i v' hv
          simp only [Option.some.injEq, Prod.mk.injEq] at h
          obtain ⟨rfl, rfl⟩ := h
          cases o
          exact g_val hd hn hw (arI_sound hv hb) hg
        · cases h
      · cases h
    · cases h
  · cases h
def InB (L : List Bk) (b : Nat) (y : Blk) : Prop := ∃ i, nthB L i = some (.inl y) ∧ y.b = b
theorem inb_hd {b t sz : Nat} {cs : Slots} {L : List Bk} : InB (.inl ⟨b, t, sz, cs⟩ :: L) b ⟨b, t, sz, cs⟩ := ⟨0, rfl, rfl⟩
theorem inb_tl {b : Nat} {y : Blk} {x : Bk} {L : List Bk} (h : InB L b y) : InB (x :: L) b y := by
  obtain ⟨i, h1, h2⟩ := h
  exact ⟨i + 1, h1, h2⟩
def ldv (P : Program) (t : TypeId) (cs : Slots) (off : Nat) : Option Value := match aggOf P t with
  | some false => lk cs off
  | some true => match sizeT P t with
    | some s => match lks cs off s with
      | some vs => some (.agg vs.toArray)
      | none => none
    | none => none
  | none => none
def pdst (n : Nat) (ops : Array Oper) (l : Slots) (o : Oper) : Option Nat := match o.dst with
  | some d => match Nat.blt d n with
    | true => match wants ops l o with
      | some true => some d
      | _ => none
    | false => none
  | none => none
theorem pdst_spec {n : Nat} (h : pdst n ops l o = some d) : o.dst = some d ∧ Nat.blt d n = true ∧ wants ops l o = some true := by
  unfold pdst at h
  split at h
  · rename_i d' hd
    split at h
    · rename_i hn
      split at h
      · rename_i hw
        simp only [Option.some.injEq] at h
        subst h
        exact ⟨hd, hn, hw⟩
      · cases h
    · cases h
  · cases h
def ldop (l : Slots) : Op → Option (TypeId × Nat × Nat)
  | .load t x => match ev l x with
    | some (.pointer (some ⟨b, off, none⟩)) => some (t, b, off)
    | _ => none
  | _ => none
theorem v_ld {op : Op} {t b off : Nat} {y : Blk} {v : Value} (h : ldop l op = some (t, b, off)) (hb : InB L b y) (hv : ldv P t y.cs off = some v) : Val P μ l L ⟨ds, op, ty, pos, af, gd⟩ v := by
  unfold ldop at h
  split at h
  · split at h
    · rename_i t' x _ b' off' hx
      simp only [Option.some.injEq, Prod.mk.injEq] at h
      obtain ⟨rfl, rfl, rfl⟩ := h
      obtain ⟨i, hi, rfl⟩ := hb
      unfold ldv at hv
      split at hv
      · rename_i ha; exact v_load_own i ha hi hx hv
      · rename_i ha
        split at hv
        · rename_i s hs
          split at hv
          · rename_i vs hvs
            simp only [Option.some.injEq] at hv
            subst hv
            exact v_load_agg i ha hs hi hx (lks_lc hvs)
          · cases hv
        · cases hv
      · cases hv
    · cases h
  · cases h
theorem g_ld {t b off : Nat} {y : Blk} {v : Value} (hd : pdst X.n ops l o = some d) (h : ldop l o.op = some (t, b, off)) (hb : InB L b y) (hv : ldv P t y.cs off = some v) (hg : G P X ops Q rest μ ((d, v) :: l) L) : G P X ops Q (o :: rest) μ l L := by
  obtain ⟨h1, h2, h3⟩ := pdst_spec hd
  cases o
  exact g_val h1 h2 h3 (v_ld h hb hv) hg
def forceL : List Value → Option (List Value)
  | [] => some []
  | v :: r => match forceL r with
    | some r' => some (v :: r')
    | none => none
theorem forceL_eq : ∀ {vs us : List Value}, forceL vs = some us → us = vs
  | [], us, h => by unfold forceL at h; cases h; rfl
  | v :: r, us, h => by
    unfold forceL at h
    split at h
    · rename_i r' hr
      simp only [Option.some.injEq] at h
      subst h
      rw [forceL_eq hr]
    · cases h
def Ones (vs : List Value) : Prop := vs.all (·.oneCell') = true
theorem ones_nil : Ones [] := rfl
theorem ones_cons {v : Value} {vs : List Value} (h : v.oneCell' = true) (hr : Ones vs) : Ones (v :: vs) := by
  unfold Ones at *
  rw [List.all_cons, h, hr]; rfl
def stop (P : Program) (l : Slots) (op : Op) : Option (Nat × Nat × List Value) := match op with
  | .store t q x => match sizeT P t with
    | some s => match ev l q with
      | some (.pointer (some ⟨b, off, none⟩)) => match ev l x with
        | some v => match forceL (cellsL v) with
          | some vs => match Nat.beq vs.length s with
            | true => some (b, off, vs)
            | false => none
          | none => none
        | none => none
      | _ => none
    | none => none
  | _ => none
def pnone (ops : Array Oper) (l : Slots) (o : Oper) : Bool := match o.dst with
  | none => match wants ops l o with
    | some true => true
    | _ => false
  | some _ => false
def UpB (L : List Bk) (b off : Nat) (vs : List Value) (L' : List Bk) : Prop := ∃ i y, nthB L i = some (.inl y) ∧ y.b = b ∧ Nat.ble (off + vs.length) y.sz = true ∧ L' = updB L i (.inl ⟨y.b, y.t, y.sz, pushCells off vs y.cs⟩)
theorem upb_hd {b t sz off : Nat} {cs cs' : Slots} {vs : List Value} {L : List Bk} (hfit : Nat.ble (off + vs.length) sz = true) (hpc : PC off vs cs cs') : UpB (.inl ⟨b, t, sz, cs⟩ :: L) b off vs (.inl ⟨b, t, sz, cs'⟩ :: L) := by
  rw [hpc.eq]
  exact ⟨0, ⟨b, t, sz, cs⟩, rfl, rfl, hfit, rfl⟩
theorem upb_tl {b off : Nat} {vs : List Value} {x : Bk} {L L' : List Bk} (h : UpB L b off vs L') : UpB (x :: L) b off vs (x :: L') := by
  obtain ⟨i, y, h1, h2, h3, rfl⟩ := h
  exact ⟨i + 1, y, h1, h2, h3, rfl⟩
theorem g_st {b off : Nat} {vs : List Value} {L' : List Bk} (hd : pnone ops l o = true) (h : stop P l o.op = some (b, off, vs)) (h1 : Ones vs) (hu : UpB L b off vs L') (hg : G P X ops Q rest μ l L') : G P X ops Q (o :: rest) μ l L := by
  obtain ⟨ds, op, ty, pos, af, gd⟩ := o
  unfold pnone at hd
  split at hd
  · rename_i hds
    split at hd
    · rename_i hw
      simp only at hds
      subst hds
      unfold stop at h
      simp only at h
      split at h
      · split at h
        · rename_i t q x s hs
          split at h
          · rename_i b' off' hq
            split at h
            · rename_i v hx
              split at h
              · rename_i vs' hf
                split at h
                · rename_i hlen
                  simp only [Option.some.injEq, Prod.mk.injEq] at h
                  obtain ⟨rfl, rfl, rfl⟩ := h
                  have hc := forceL_eq hf
                  rw [cellsL_eq] at hc
                  obtain ⟨i, y, hi, rfl, hfit, rfl⟩ := hu
                  have hl := Nat.eq_of_beq_eq_true hlen
                  refine g_store (n := s) i hw hs hi hq hx (by rw [← hc]; exact hl) (by rw [← hc]; exact h1) (by rw [← hl]; exact hfit) ?_
                  rw [← hc]
                  exact hg
                · cases h
              · cases h
            · cases h
          · cases h
        · cases h
      · cases h
    · cases hd
  · cases hd
def nwop (P : Program) (l : Slots) : Op → Option (TypeId × List Value)
  | .box t x => match ev l x with
    | some v => match forceL (cellsL v) with
      | some vs => some (t, vs)
      | none => none
    | none => none
  | .alloc t => match zeroT P t with
    | some z => match forceL (cellsL z) with
      | some vs => some (t, vs)
      | none => none
    | none => none
  | _ => none
theorem n_nw {op : Op} {t : TypeId} {cs : List Value} (h : nwop P l op = some (t, cs)) : Alc P μ l L ⟨ds, op, ty, pos, af, gd⟩ (fun b => .pointer (some ⟨b, 0, none⟩)) t cs := by
  unfold nwop at h
  split at h
  · split at h
    · rename_i t' x _ v hx
      split at h
      · rename_i vs hf
        simp only [Option.some.injEq, Prod.mk.injEq] at h
        obtain ⟨rfl, rfl⟩ := h
        rw [forceL_eq hf, cellsL_eq]
        exact n_box_any hx
      · cases h
    · cases h
  · split at h
    · rename_i t' _ v hx
      split at h
      · rename_i vs hf
        simp only [Option.some.injEq, Prod.mk.injEq] at h
        obtain ⟨rfl, rfl⟩ := h
        rw [forceL_eq hf, cellsL_eq]
        exact n_alloc_any hx
      · cases h
    · cases h
  · cases h
theorem g_nw {t : TypeId} {cs : List Value} {n : Nat} (hd : pdst X.n ops l o = some d) (h : nwop P l o.op = some (t, cs)) (hn : nat16 cs.length some = some n) (hg : ∀ b, G P X ops Q rest μ ((d, .pointer (some ⟨b, 0, none⟩)) :: l) (.inl ⟨b, t, n, idx 0 cs⟩ :: L)) : G P X ops Q (o :: rest) μ l L := by
  obtain ⟨h1, h2, h3⟩ := pdst_spec hd
  cases o
  exact g_new h1 h2 h3 (n_nw h) hn hg
def appF : List Value → List Value → Option (List Value)
  | [], r => some r
  | u :: us, r => match appF us r with
    | some c => some (u :: c)
    | none => none
theorem appF_eq : ∀ {us r c : List Value}, appF us r = some c → c = us ++ r
  | [], r, c, h => by unfold appF at h; cases h; rfl
  | u :: us, r, c, h => by
    unfold appF at h
    split at h
    · rename_i c' hc
      simp only [Option.some.injEq] at h
      subst h
      rw [appF_eq hc]; rfl
    · cases h
def bsl (l : Slots) (s : Nat) : Nat → List (Nat × Operand) → Option (List Value)
  | _, [] => some []
  | i, (j, x) :: ps => match Nat.beq j i with
    | true => match ev l x with
      | some v => match Nat.beq (cellsL v).length s with
        | true => match bsl l s (i + 1) ps with
          | some r => appF (cellsL v) r
          | none => none
        | false => none
      | none => none
    | false => none
theorem bsl_bp {s : Nat} : ∀ {ps : List (Nat × Operand)} {i : Nat} {cs : List Value}, bsl l s i ps = some cs → ∃ vs, BP l s i ps vs cs
  | [], i, cs, h => by simp [bsl] at h; subst h; exact ⟨[], bp_nil⟩
  | (j, x) :: ps, i, cs, h => by
    unfold bsl at h
    split at h
    · rename_i hj
      split at h
      · rename_i v hx
        split at h
        · rename_i hl
          split at h
          · rename_i r hr
            obtain ⟨vs, hb⟩ := bsl_bp hr
            have hc := appF_eq h
            have hl' := Nat.eq_of_beq_eq_true hl
            rw [cellsL_eq] at hc hl'
            exact ⟨v :: vs, Nat.eq_of_beq_eq_true hj, hx, by simpa using hl', r, hc, hb⟩
          · cases h
        · cases h
      · cases h
    · cases h
def bsop (P : Program) (l : Slots) : Op → Option (TypeId × Nat × List Value)
  | .buildSlice t n ps => match P.underlying t with
    | some (.slice e) => match sizeT P e with
      | some s => match zeroT P e with
        | some _ => match Nat.beq ps.toList.length n with
          | true => match Nat.ble (n * s) 16777216 with
            | true => match bsl l s 0 ps.toList with
              | some cs => some (e, n, cs)
              | none => none
            | false => none
          | false => none
        | none => none
      | none => none
    | _ => none
  | _ => none
theorem n_bs {op : Op} {t : TypeId} {n : Nat} {cs : List Value} (h : bsop P l op = some (t, n, cs)) : Alc P μ l L ⟨ds, op, ty, pos, af, gd⟩ (fun b => .slice (some ⟨b, 0, none⟩) n n) t cs := by
  unfold bsop at h
  split at h
  · rename_i t' n' ps
    split at h
    · rename_i e he
      split at h
      · rename_i s hs
        split at h
        · rename_i z hz
          split at h
          · rename_i hn
            split at h
            · rename_i hb
              split at h
              · rename_i cs' hc
                simp only [Option.some.injEq, Prod.mk.injEq] at h
                obtain ⟨rfl, rfl, rfl⟩ := h
                obtain ⟨vs, hbp⟩ := bsl_bp hc
                have e : ps = ps.toList.toArray := by simp
                rw [e]
                exact n_buildSlice he hs hz (Nat.eq_of_beq_eq_true hn) hb hbp
              · cases h
            · cases h
          · cases h
        · cases h
      · cases h
    · cases h
  · cases h
theorem g_bs {t : TypeId} {cs : List Value} {n m : Nat} (hd : pdst X.n ops l o = some d) (h : bsop P l o.op = some (t, m, cs)) (hn : nat16 cs.length some = some n) (hg : ∀ b, G P X ops Q rest μ ((d, .slice (some ⟨b, 0, none⟩) m m) :: l) (.inl ⟨b, t, n, idx 0 cs⟩ :: L)) : G P X ops Q (o :: rest) μ l L := by
  obtain ⟨h1, h2, h3⟩ := pdst_spec hd
  cases o
  exact g_new h1 h2 h3 (n_bs h) hn hg
theorem v_ld_sh {op : Op} {x : Operand} {t j : Nat} {A : Addr} {vs : List Value} {v : Value} (h : op = .load t x) (hag : aggOf P t = some false) (hx : ev l x = some (.pointer (some (A.add j)))) (hm : MCells μ A vs) (hv : nthV vs j = some v) : Val P μ l L ⟨ds, op, ty, pos, af, gd⟩ v := by
  subst h
  rw [nthV_eq] at hv
  exact v_load_sh hag hx (hm j v hv)
theorem v_field_n {p : Operand} {t : TypeId} {i ft off : Nat} {A : Addr} (hx0 : ev l p = some (.pointer (some A))) (hf : fieldT P t i = some (ft, off)) : Val P μ l L ⟨ds, .fieldAddr t p i, ty, pos, af, gd⟩ (.pointer (some (A.add off))) := fun a w hs => by
  have e0 := hs.eval hx0
  simp [execOp, e0, run_fieldAt hf]
theorem v_index_n {p q : Operand} {t e : TypeId} {A : Addr} {len cap n k : Nat} (ht : P.underlying t = some (.slice e)) (hs : sizeT P e = some n)
    (hx0 : ev l p = some (.slice (some A) len cap)) (hx1 : ev l q = some (.int .i64 (k : Int))) (hk : k < len) : Val P μ l L ⟨ds, .indexAddr t p q, ty, pos, af, gd⟩ (.pointer (some (A.add (k * n)))) := v_index k ht hs hx0 hx1 rfl hk
def RowUp (L : List Bk) (r : Rw) (F : Rw → List Bk) : Prop := ∃ i, nthB L i = some (.inr r) ∧ ∀ r', F r' = updB L i (.inr r')
theorem rowup_hd {v : Value} {e s n : Nat} {xs : List Value} {L : List Bk} : RowUp (.inr ⟨v, e, s, n, xs⟩ :: L) ⟨v, e, s, n, xs⟩ (fun r => .inr r :: L) := ⟨0, rfl, fun _ => rfl⟩
theorem rowup_tl {x : Bk} {L : List Bk} {r : Rw} {F : Rw → List Bk} (h : RowUp L r F) : RowUp (x :: L) r (fun r => x :: F r) := by
  obtain ⟨i, h1, h2⟩ := h
  exact ⟨i + 1, h1, fun r' => by show x :: F r' = x :: updB L i (.inr r'); rw [h2]⟩
theorem src_in {q : Operand} {y : Blk} {b m c : Nat} {news : List Value} (hq : ev l q = some (.slice (some ⟨b, 0, none⟩) m c)) (hb : InB L b y) (hl : lks y.cs 0 y.sz = some news) : Src μ l L q m news := by
  obtain ⟨i, hi, rfl⟩ := hb
  exact src_own i hi hq (lks_lc hl)
theorem g_ap {p q : Operand} {t e : TypeId} {s bytes m n : Nat} {z v : Value} {news xs : List Value} {F : Rw → List Bk} (hn : Nat.blt d X.n = true) (hw : wants ops l ⟨some d, .call { callee := .builtin .append, args := #[p, q], argTypes := #[t, t] }, ty, pos, af, gd⟩ = some true)
    (hp : ev l p = some v) (hr : RowUp L ⟨v, e, s, n, xs⟩ F) (ht : P.underlying t = some (.slice e)) (hs : sizeT P e = some s) (hz : zeroT P e = some z) (hzs : z.cells.toList.length = s) (hby : bytesT P e = some bytes) (hpos : Nat.blt 0 s = true)
    (hsrc : Src μ l L q m news) (hl : news.length = m * s) (h1 : ∀ u ∈ news, u.oneCell' = true) (hroom : (n + m) * bytes ≤ 140737488355328) (hlen : n + m ≤ 140737488355328)
    (h : ∀ v, G P X ops Q rest μ ((d, v) :: l) (F ⟨v, e, s, n + m, xs ++ news⟩)) :
    G P X ops Q (⟨some d, .call { callee := .builtin .append, args := #[p, q], argTypes := #[t, t] }, ty, pos, af, gd⟩ :: rest) μ l L := by
  obtain ⟨i, hi, hF⟩ := hr
  refine g_append_at (r := ⟨v, e, s, n, xs⟩) i hn hw hi ht hs rfl hz hzs hby hpos hp hsrc hl h1 hroom hlen (fun v => ?_)
  rw [← hF]
  exact h v
theorem ones_mem {vs : List Value} (h : Ones vs) : ∀ u ∈ vs, u.oneCell' = true := by
  unfold Ones at h
  simpa only [List.all_eq_true] using h
def PIf (b : Bool) (p q : Prop) : Prop := (b = true → p) ∧ (b = false → q)
theorem pif_t {p q : Prop} (h : p) : PIf true p q := ⟨fun _ => h, fun h => by cases h⟩
theorem pif_f {p q : Prop} (h : q) : PIf false p q := ⟨fun h => by (cases h), fun _ => h⟩
theorem pif_tt {b : Bool} {p q : Prop} (hb : b = true) (h : p) : PIf b p q := by subst hb; exact pif_t h
theorem pif_ff {b : Bool} {p q : Prop} (hb : b = false) (h : q) : PIf b p q := by subst hb; exact pif_f h
theorem pif_not {b : Bool} {p q : Prop} (h : PIf b q p) : PIf (!b) p q := by
  cases b
  · exact ⟨fun _ => h.2 rfl, fun h => by cases h⟩
  · exact ⟨fun h => by (cases h), fun _ => h.1 rfl⟩
theorem pif_decT {c p q : Prop} {_ : Decidable c} (hc : c) (h : p) : PIf (decide c) p q := ⟨fun _ => h, fun e => absurd hc (of_decide_eq_false e)⟩
theorem pif_decF {c p q : Prop} {_ : Decidable c} (hc : ¬ c) (h : q) : PIf (decide c) p q := ⟨fun e => absurd (of_decide_eq_true e) hc, fun _ => h⟩
theorem ne_self_f {α : Type} (a : α) : ¬ (a ≠ a) := fun h => h rfl
theorem pif_dec {c p q : Prop} {_ : Decidable c} (h : c → p) (h' : ¬ c → q) : PIf (decide c) p q := ⟨fun e => h (of_decide_eq_true e), fun e => h' (of_decide_eq_false e)⟩
theorem pif_b {b : Bool} {p q : Prop} (h : b = true → p) (h' : b = false → q) : PIf b p q := ⟨h, h'⟩
theorem gc_if {c : Operand} {x y : Code} {b : Bool} (hc : ev l c = some (.bool b)) (h : PIf b (GC P X x Q μ l L) (GC P X y Q μ l L)) : GC P X (.cond c x y) Q μ l L := gc_cond_bool hc h.1 h.2
def gtest (ops : Array Oper) (l : Slots) (o : Oper) : Option (Nat × Bool) := match guardSlot ops o with
  | some t => match lk l t with
    | some (.bool b) => some (t, b)
    | _ => none
  | none => none
theorem gtest_spec {t : Nat} {b : Bool} (h : gtest ops l o = some (t, b)) : guardSlot ops o = some t ∧ lk l t = some (.bool b) := by
  unfold gtest at h
  split at h
  · rename_i t' ht
    split at h
    · rename_i b' hb
      simp only [Option.some.injEq, Prod.mk.injEq] at h
      obtain ⟨rfl, rfl⟩ := h
      exact ⟨ht, hb⟩
    · cases h
  · cases h
theorem g_if {t : Nat} {b : Bool} (h : gtest ops l o = some (t, b)) (hb : NLit b) (hg : PIf b (G P X ops Q (o :: rest) μ ((t, .bool true) :: l) L) (G P X ops Q (o :: rest) μ ((t, .bool false) :: l) L)) : G P X ops Q (o :: rest) μ l L :=
  g_guard (gtest_spec h).1 (gtest_spec h).2 hb hg.1 hg.2
theorem g_v {v : Value} (hd : pdst X.n ops l o = some d) (hr : Val P μ l L o v) (h : G P X ops Q rest μ ((d, v) :: l) L) : G P X ops Q (o :: rest) μ l L := by
  obtain ⟨h1, h2, h3⟩ := pdst_spec hd
  exact g_val h1 h2 h3 hr h
def drawOk (ops : Array Oper) (listed : Array Bool) (i : Nat) : Bool := Region.noSelect ops && Region.free .any ops listed i && (Region.ready .any ops listed).contains i
theorem drawOk_spec (h : drawOk ops listed i = true) : Region.noSelect ops = true ∧ Region.free .any ops listed i = true ∧ (Region.ready .any ops listed).contains i = true := by
  unfold drawOk at h
  simp only [Bool.and_eq_true] at h
  exact ⟨h.1.1, h.1.2, h.2⟩
def pstepAt (P : Program) (n : Nat) (ops : Array Oper) (l : Slots) (i : Nat) : Option (Nat × Value) := match nthO ops.toList i with
  | some o => pstep P n ops l o
  | none => none
theorem ga_p (i : Nat) {v : Value} (h : pstepAt P X.n ops l i = some (d, v)) (hk : drawOk ops listed i = true) (hQ : ∀ c a w, Q (.panic c) (Act.put a (some d) v) w → Q (.panic c) a w)
    (hg : GA P X μr Lr ops Q fuel (listed.setIfInBounds i true) μ ((d, v) :: l) L) : GA P X μr Lr ops Q (fuel + 1) listed μ l L := by
  obtain ⟨k1, k2, k3⟩ := drawOk_spec hk
  unfold pstepAt at h
  split at h
  · rename_i o ho
    unfold pstep at h
    split at h
    · rename_i d' hd
      split at h
      · rename_i hn
        split at h
        · rename_i hw
          split at h
          · rename_i v' hv
            simp only [Option.some.injEq, Prod.mk.injEq] at h
            obtain ⟨rfl, rfl⟩ := h
            exact ga_take i ho hd hn hw k1 k2 k3 hQ (by cases o; exact pv_sound hv) hg
          · cases h
        · rename_i hw
          simp only [Option.some.injEq, Prod.mk.injEq] at h
          obtain ⟨rfl, rfl⟩ := h
          exact ga_skip i ho hd hn hw k1 k2 k3 hQ hg
        · cases h
      · cases h
    · cases h
  · cases h
def pdstAt (n : Nat) (ops : Array Oper) (l : Slots) (i : Nat) : Option (Nat × Oper) := match nthO ops.toList i with
  | some o => match pdst n ops l o with
    | some d => some (d, o)
    | none => none
  | none => none
theorem pdstAt_spec {n : Nat} (h : pdstAt n ops l i = some (d, o)) : nthO ops.toList i = some o ∧ o.dst = some d ∧ Nat.blt d n = true ∧ wants ops l o = some true := by
  unfold pdstAt at h
  split at h
  · rename_i o' ho
    split at h
    · rename_i d' hd
      simp only [Option.some.injEq, Prod.mk.injEq] at h
      obtain ⟨rfl, rfl⟩ := h
      obtain ⟨h1, h2, h3⟩ := pdst_spec hd
      exact ⟨ho, h1, h2, h3⟩
    · cases h
  · cases h
theorem ga_v (i : Nat) {v : Value} (h : pdstAt X.n ops l i = some (d, o)) (hk : drawOk ops listed i = true) (hQ : ∀ c a w, Q (.panic c) (Act.put a (some d) v) w → Q (.panic c) a w) (hv : Val P μr l Lr o v)
    (hg : GA P X μr Lr ops Q fuel (listed.setIfInBounds i true) μ ((d, v) :: l) L) : GA P X μr Lr ops Q (fuel + 1) listed μ l L := by
  obtain ⟨k1, k2, k3⟩ := drawOk_spec hk
  obtain ⟨ho, hd, hn, hw⟩ := pdstAt_spec h
  exact ga_take i ho hd hn hw k1 k2 k3 hQ hv hg
theorem ga_if (i : Nat) {t : Nat} {b : Bool} (ho : nthO ops.toList i = some o) (h : gtest ops l o = some (t, b)) (hb : NLit b) (hg : PIf b (GA P X μr Lr ops Q fuel listed μ ((t, .bool true) :: l) L) (GA P X μr Lr ops Q fuel listed μ ((t, .bool false) :: l) L)) : GA P X μr Lr ops Q fuel listed μ l L :=
  ga_guard i ho (gtest_spec h).1 (gtest_spec h).2 hb hg.1 hg.2
def Join (X : Ctx) {ι : Type} (J : ι → Prop) (μs : ι → Mem) (ls : ι → Slots) (Ls : ι → List Bk) (a : Act) (w : World) : Prop := ∃ j, J j ∧ St X (μs j) (ls j) (Ls j) a w
theorem gc_join {x y : Code} {ι : Type} (J : ι → Prop) (μs : ι → Mem) (ls : ι → Slots) (Ls : ι → List Bk) (hx : GC P X x (Exit.then (Join X J μs ls Ls) Q) μ l L) (hy : ∀ i, J i → GC P X y Q (μs i) (ls i) (Ls i)) : GC P X (.seq x y) Q μ l L := fun a w hs =>
  wp_seq (wp_mono (hx a w hs) fun e a' w' h => by
    cases e with
    | normal => obtain ⟨j, hJ, hst⟩ := h; exact hy j hJ a' w' hst
    | _ => exact h)
end
end Go.Vcg
set_option maxRecDepth 20000
namespace Go.Vcg
open Go.RowKit
section
variable {P : Program} {X : Ctx} {ops : Array Oper} {Q : Exit → Act → World → Prop} {rest : List Oper} {μ μr : Mem} {l : Slots} {L Lr : List Bk} {a : Act} {w : World} {o : Oper} {d fuel i : Nat} {listed : Array Bool}
variable {ty : TypeId} {pos : String} {af : Array Edge} {gd : Option (Nat × Bool)} {ds : Option Nat}
def bAt (s : ByteArray) (k : Nat) : Int := ((s.data.toList[k]?).getD 0).toNat
theorem run_sindex {t : TypeId} {s : ByteArray} {k : Nat} (ht : P.underlying t = some .string) (hk : k < s.size) (w : World) : (Instr.index t (.string s) (.int .i64 (k : Int))).run P w = .ok (.int .u8 (bAt s k)) w := by
  have h1 : s[k]? = some s[k] := by simp [hk]
  have h2 : bAt s k = s[k].toNat := by
    unfold bAt
    have : s.data.toList[k]? = some s[k] := by
      rw [Array.getElem?_toList]
      exact Array.getElem?_eq_getElem hk
    rw [this]; rfl
  simp [Instr.index, asIntOf, run_underlying ht, h1, h2]
theorem v_sindex {p q : Operand} {t : TypeId} {s : ByteArray} {i : Int} (k : Nat) (ht : P.underlying t = some .string) (hx0 : ev l p = some (.string s)) (hx1 : ev l q = some (.int .i64 i)) (hi : i = (k : Int)) (hk : k < s.size) :
    Val P μ l L ⟨ds, .index t p q, ty, pos, af, gd⟩ (.int .u8 (bAt s k)) := fun a w hs => by
  have e0 := hs.eval hx0; have e1 := hs.eval hx1; generalize a.eval = ρ at e0 e1; subst hi; simp [execOp, e0, e1, run_sindex ht hk]
theorem v_sindex_n {p q : Operand} {t : TypeId} {s : ByteArray} {k : Nat} (ht : P.underlying t = some .string) (hx0 : ev l p = some (.string s)) (hx1 : ev l q = some (.int .i64 (k : Int))) (hk : k < s.size) :
    Val P μ l L ⟨ds, .index t p q, ty, pos, af, gd⟩ (.int .u8 (bAt s k)) := v_sindex k ht hx0 hx1 rfl hk
theorem wrap_u8 {x : Int} (h : 0 ≤ x ∧ x ≤ 255) : IntKind.wrap .u8 x = x := by
  simp only [IntKind.wrap]
  simp [IntKind.signed, IntKind.bits]
  omega
theorem wrap_i64 {x : Int} (h : -9223372036854775808 ≤ x ∧ x ≤ 9223372036854775807) : IntKind.wrap .i64 x = x := by
  simp only [IntKind.wrap]
  simp [IntKind.signed, IntKind.bits]
  omega
def arB (l : Slots) (op : Op) : Option Int := match op with
  | .binOp op _ p q _ => match ev l p, ev l q with
    | some (.int .u8 x), some (.int .u8 y) => match op with
      | .add => some (x + y)
      | .sub => some (x - y)
      | _ => none
    | _, _ => none
  | _ => none
theorem arB_sound {op : Op} {r : Int} (h : arB l op = some r) (hb : 0 ≤ r ∧ r ≤ 255) : Val P μ l L ⟨ds, op, ty, pos, af, gd⟩ (.int .u8 r) := by
  unfold arB at h
  split at h
  · split at h
    · rename_i x y hp hq
      split at h
      · simp only [Option.some.injEq] at h; subst h
        rw [show (Value.int .u8 (x + y)) = .int .u8 (IntKind.wrap .u8 (x + y)) by rw [wrap_u8 hb]]
        exact v_add hp hq
      · simp only [Option.some.injEq] at h; subst h
        rw [show (Value.int .u8 (x - y)) = .int .u8 (IntKind.wrap .u8 (x - y)) by rw [wrap_u8 hb]]
        exact v_sub hp hq
      · cases h
    · cases h
  · cases h
theorem v_conv_int {p : Operand} {t u : TypeId} {k : IntKind} {x : Int} {de : TypeDesc} (hx0 : ev l p = some (.int k x)) (ht : P.underlying t = some de) (hu : P.underlying u = some (.int .i64)) (hb : -9223372036854775808 ≤ x ∧ x ≤ 9223372036854775807) : Val P μ l L ⟨ds, .convert t u p, ty, pos, af, gd⟩ (.int .i64 x) := by
  have := v_conv (P := P) (μ := μ) (L := L) (ds := ds) (ty := ty) (pos := pos) (af := af) (gd := gd) hx0 ht hu
  rw [wrap_i64 hb] at this
  exact this
theorem v_neg_i {p : Operand} {t : TypeId} {x : Int} (hx0 : ev l p = some (.int .i64 x)) (hb : -9223372036854775808 ≤ -x ∧ -x ≤ 9223372036854775807) : Val P μ l L ⟨ds, .unOp .neg t p, ty, pos, af, gd⟩ (.int .i64 (-x)) := by
  rw [show (Value.int .i64 (-x)) = .int .i64 (IntKind.wrap .i64 (-x)) by rw [wrap_i64 hb]]
  exact v_neg hx0
theorem v_quo_i {p q : Operand} {t t2 : TypeId} {x y : Int} (hx0 : ev l p = some (.int .i64 x)) (hx1 : ev l q = some (.int .i64 y)) (hy : y ≠ 0) (hb : -9223372036854775808 ≤ x.tdiv y ∧ x.tdiv y ≤ 9223372036854775807) : Val P μ l L ⟨ds, .binOp .quo t p q t2, ty, pos, af, gd⟩ (.int .i64 (x.tdiv y)) := by
  rw [show (Value.int .i64 (x.tdiv y)) = .int .i64 (IntKind.wrap .i64 (x.tdiv y)) by rw [wrap_i64 hb]]
  exact v_quo hx0 hx1 hy
theorem v_max2 {x y : Operand} {ts : Array TypeId} {i j : Int} (h0 : ev l x = some (.int .i64 i)) (h1 : ev l y = some (.int .i64 j)) : Val P μ l L ⟨ds, .call { callee := .builtin .max, args := #[x, y], argTypes := ts }, ty, pos, af, gd⟩ (.int .i64 (if i < j then j else i)) := fun a w hs => by
  have e0 := hs.eval h0
  have e1 := hs.eval h1
  generalize a.eval = ρ at e0 e1
  simp [execOp, resolve, invoke, builtin, Builtin.max_, Builtin.max2, e0, e1]
def fieldV (P : Program) (t : TypeId) (i : Nat) (vs : List Value) : Option Value := match P.underlying t with
  | some (.struct fs) => match fs[i]? with
    | some f => match aggOf P f.type with
      | some false => nat16 f.offset fun k => nthV vs k
      | _ => none
    | none => none
  | _ => none
theorem v_fieldv {p : Operand} {t : TypeId} {i : Nat} {vs : List Value} {v : Value} (hx0 : ev l p = some (.agg vs.toArray)) (hf : fieldV P t i vs = some v) : Val P μ l L ⟨ds, .field t p i, ty, pos, af, gd⟩ v := fun a w hs => by
  have e0 := hs.eval hx0
  generalize a.eval = ρ at e0
  unfold fieldV at hf
  split at hf
  · rename_i fs hu
    split at hf
    · rename_i f hi
      split at hf
      · rename_i hag
        rw [nat16_eq, nthV_eq] at hf
        have : (part f.type vs.toArray f.offset).run P w = .ok v w := run_partScalar hag (by simpa using hf)
        simp [execOp, e0, Instr.field, run_underlying hu, hi, asAgg, this]
      · cases hf
    · cases hf
  · cases hf
abbrev bl (s : ByteArray) : List UInt8 := s.data.toList
theorem bl_len (s : ByteArray) : (bl s).length = s.size := by simp [bl]
theorem bl_inj {s t : ByteArray} (h : bl s = bl t) : s = t := by
  cases s; cases t
  simp only [bl] at h
  congr
  exact Array.toList_inj.1 h
theorem bl_extract (s : ByteArray) (a b : Nat) : bl (s.extract a b) = ((bl s).drop a).take (b - a) := by
  simp [bl, ByteArray.data_extract]
theorem bAt_get {s : ByteArray} {k : Nat} {b : UInt8} (h : (bl s)[k]? = some b) : bAt s k = b.toNat := by
  unfold bAt; rw [h]; rfl
end
end Go.Vcg
set_option maxRecDepth 20000
namespace Go.Vcg
open Go.RowKit
section
variable {P : Program} {μ : Mem} {l : Slots} {L : List Bk} {ds : Option Nat} {ty : TypeId} {pos : String} {af : Array Edge} {gd : Option (Nat × Bool)}
end
section
variable {P : Program} {μ : Mem} {l : Slots} {L : List Bk} {ds : Option Nat} {ty : TypeId} {pos : String} {af : Array Edge} {gd : Option (Nat × Bool)}
end
section
variable {P : Program} {μ : Mem} {l : Slots} {L : List Bk} {a : Act} {w : World}
end
end Go.Vcg
set_option maxRecDepth 20000
namespace Go.Vcg
open Go.RowKit Go.MapKept
section
variable {P : Program} {X : Ctx} {ops : Array Oper} {Q : Exit → Act → World → Prop} {rest : List Oper} {μ μr : Mem} {l : Slots} {L Lr : List Bk} {a : Act} {w : World} {o : Oper} {d fuel i : Nat} {listed : Array Bool}
variable {ty : TypeId} {pos : String} {af : Array Edge} {gd : Option (Nat × Bool)} {ds : Option Nat}
theorem St.newB (h : St X μ l L a w) (x : Obj) (y : Bk) (hid : Bk.id y = some w.heap.size) (hy : Bk.at y (w.alloc x)) : St X μ l (y :: L) a (w.alloc x) := by
  have hold : ∀ b, b < w.heap.size → (w.alloc x).heap[b]? = w.heap[b]? := fun b hb => Below.heap_alloc w _ b hb
  have hlt : ∀ x ∈ L, ∀ b, Bk.id x = some b → b < w.heap.size := fun x hx b hb => Bk.lt (h.own x hx) hb
  refine ⟨h.size, h.defers, h.slots, ⟨h.keep.os, h.keep.tape, h.keep.output, Nat.le_trans h.keep.size (by simp), fun b hb hM => ?_⟩, fun b o hb => ?_, h.from0, h.fresh, fun x hx => ?_, fun x hx b hb => ?_, fun x hx b hb => ?_, ?_⟩
  · rw [hold b (Nat.lt_of_lt_of_le hb h.keep.size)]; exact h.keep.block b hb hM
  · have := h.mem b o hb
    rw [hold b (Array.getElem?_eq_some_iff.1 this).1]; exact this
  · rcases List.mem_cons.1 hx with rfl | hx
    · exact hy
    · exact Bk.keep (h.own x hx) (fun b hb => hold b (hlt x hx b hb))
  · rcases List.mem_cons.1 hx with rfl | hx
    · rw [hid] at hb
      cases hb
      cases hm : μ w.heap.size with
      | none => rfl
      | some o =>
        have := (Array.getElem?_eq_some_iff.1 (h.mem _ _ hm)).1
        omega
    · exact h.priv x hx b hb
  · rcases List.mem_cons.1 hx with rfl | hx
    · rw [hid] at hb
      cases hb; exact .inr h.keep.size
    · exact h.new x hx b hb
  · refine List.pairwise_cons.2 ⟨fun y hy b hb hb' => ?_, h.diff⟩
    have h1 := hlt y hy b hb'
    rw [hid] at hb
    have h2 : w.heap.size = b := Option.some.inj hb
    omega
theorem g_mkmap {t : TypeId} (hn : Nat.blt d X.n = true) (hw : wants ops l ⟨some d, .makeMap t none, ty, pos, af, gd⟩ = some true)
    (h : ∀ b, G P X ops Q rest μ ((d, .map (some b)) :: l) (.mp ⟨b, [], 0⟩ :: L)) : G P X ops Q (⟨some d, .makeMap t none, ty, pos, af, gd⟩ :: rest) μ l L :=
  g_wp hw fun a w hs => by
    have e : (execOp a.eval ⟨some d, .makeMap t none, ty, pos, af, gd⟩).run P w = .ok (.value (.map (some w.heap.size))) (w.alloc (.map #[] 0)) := by
      simp [execOp, run_makeMap]
    unfold Oper.wp
    rw [e, Oper.upon_value]
    exact h _ _ _ ((hs.newB (.map #[] 0) (.mp ⟨w.heap.size, [], 0⟩) rfl (heap_alloc_new w _)).put hn _)
def InM (L : List Bk) (b : Nat) (m : Mp) : Prop := ∃ i, nthB L i = some (.mp m) ∧ m.b = b
theorem inm_hd {b ck : Nat} {es : List MapEntry} {L : List Bk} : InM (.mp ⟨b, es, ck⟩ :: L) b ⟨b, es, ck⟩ := ⟨0, rfl, rfl⟩
theorem inm_tl {b : Nat} {m : Mp} {x : Bk} {L : List Bk} (h : InM L b m) : InM (x :: L) b m := by
  obtain ⟨i, h1, h2⟩ := h
  exact ⟨i + 1, h1, h2⟩
def UpM (L : List Bk) (b : Nat) (m : Mp) (F : Mp → List Bk) : Prop := ∃ i, nthB L i = some (.mp m) ∧ m.b = b ∧ ∀ m', F m' = updB L i (.mp m')
theorem upm_hd {b ck : Nat} {es : List MapEntry} {L : List Bk} : UpM (.mp ⟨b, es, ck⟩ :: L) b ⟨b, es, ck⟩ (fun m => .mp m :: L) := ⟨0, rfl, rfl, fun _ => rfl⟩
theorem upm_tl {b : Nat} {m : Mp} {x : Bk} {L : List Bk} {F : Mp → List Bk} (h : UpM L b m F) : UpM (x :: L) b m (fun m => x :: F m) := by
  obtain ⟨i, h1, h2, h3⟩ := h
  exact ⟨i + 1, h1, h2, fun m' => by show x :: F m' = x :: updB L i (.mp m'); rw [h3]⟩
theorem run_mapUpdate_new {t kt et : TypeId} {dk : TypeDesc} {b ck : Nat} {es : List MapEntry} {k v : Value} (ht : P.underlying t = some (.map kt et)) (hk : P.underlying kt = some dk) (hkey : IsKey dk k)
    (hb : w.heap[b]? = some (.map es.toArray ck)) (hf : Instr.findNow dk k es 0 = some none) : (Instr.mapUpdate t (.map (some b)) k v).run P w = .ok () { w with heap := w.heap.setIfInBounds b (.map (es ++ [MapEntry.mk k v ck]).toArray (ck + 1)) } := by
  simp [Instr.mapUpdate, run_underlying ht, MapKept.run_getObj_map hb, MapKept.run_checkKey hk hkey, MapKept.run_findKey hk hf, MapKept.run_setObj_map _ hb]
theorem g_mapset {t kt et : TypeId} {dk : TypeDesc} {m k x : Operand} {b ck : Nat} {es : List MapEntry} {kv v : Value} {F : Mp → List Bk} {op : Op} (hop : op = .insert t m k x ∨ op = .mapUpdate t m k x) (hw : wants ops l ⟨none, op, ty, pos, af, gd⟩ = some true) (hm : ev l m = some (.map (some b))) (hk : ev l k = some kv) (hx : ev l x = some v)
    (ht : P.underlying t = some (.map kt et)) (hkt : P.underlying kt = some dk) (hkey : IsKey dk kv) (hu : UpM L b ⟨b, es, ck⟩ F) (hf : Instr.findNow dk kv es 0 = some none)
    (h : G P X ops Q rest μ l (F ⟨b, es ++ [MapEntry.mk kv v ck], ck + 1⟩)) : G P X ops Q (⟨none, op, ty, pos, af, gd⟩ :: rest) μ l L :=
  g_wp hw fun a w hs => by
    obtain ⟨i, hi, _, hF⟩ := hu
    have hb : w.heap[b]? = some (.map es.toArray ck) := hs.own _ (nthB_mem hi)
    have e1 := hs.eval hm; have e2 := hs.eval hk; have e3 := hs.eval hx
    have e : (execOp a.eval ⟨none, op, ty, pos, af, gd⟩).run P w = .ok .skip { w with heap := w.heap.setIfInBounds b (.map (es ++ [MapEntry.mk kv v ck]).toArray (ck + 1)) } := by
      generalize a.eval = ρ at e1 e2 e3
      rcases hop with rfl | rfl <;> simp [execOp, e1, e2, e3, run_mapUpdate_new ht hkt hkey hb hf]
    unfold Oper.wp
    rw [e, Oper.upon_skip]
    have hlt := (Array.getElem?_eq_some_iff.1 hb).1
    have := hs.upd hi (y := .mp ⟨b, es ++ [MapEntry.mk kv v ck], ck + 1⟩) (w' := { w with heap := w.heap.setIfInBounds b (.map (es ++ [MapEntry.mk kv v ck]).toArray (ck + 1)) }) rfl rfl rfl (by simp)
      (fun c hc hne => by
        have : b ≠ c := fun e => hne (by rw [e]; rfl)
        simp [Array.getElem?_setIfInBounds_ne this])
      (by show (w.heap.setIfInBounds b _)[b]? = _; rw [Array.getElem?_setIfInBounds_self_of_lt hlt])
      (fun c hc => .inl hc)
    rw [hF] at h
    exact h _ _ this
def lookV (P : Program) (et : TypeId) : Option (Option (Nat × Value)) → Option (Value × Bool)
  | some (some (_, v)) => some (v, true)
  | some none => match zeroT P et with
    | some z => some (z, false)
    | none => none
  | none => none
theorem run_lookup_own {t kt et : TypeId} {dk : TypeDesc} {b ck : Nat} {es : List MapEntry} {k v : Value} {ok c : Bool} (ht : P.underlying t = some (.map kt et)) (hk : P.underlying kt = some dk) (hkey : IsKey dk k)
    (hb : w.heap[b]? = some (.map es.toArray ck)) (hf : lookV P et (Instr.findNow dk k es 0) = some (v, ok)) : (Instr.lookup t (.map (some b)) k c).run P w = .ok (if c then .tuple #[v, .bool ok] else v) w := by
  cases hr : Instr.findNow dk k es 0 with
  | none => simp [hr, lookV] at hf
  | some r =>
    cases r with
    | none =>
      simp only [hr, lookV] at hf
      split at hf
      · rename_i z hz
        simp only [Option.some.injEq, Prod.mk.injEq] at hf
        obtain ⟨rfl, rfl⟩ := hf
        simp [Instr.lookup, run_underlying ht, MapKept.run_getObj_map hb, MapKept.run_checkKey hk hkey, MapKept.run_findKey hk hr, run_zeroValue hz]
        try (cases c <;> rfl)
      · cases hf
    | some r =>
      obtain ⟨j, u⟩ := r
      simp only [hr, lookV, Option.some.injEq, Prod.mk.injEq] at hf
      obtain ⟨rfl, rfl⟩ := hf
      simp [Instr.lookup, run_underlying ht, MapKept.run_getObj_map hb, MapKept.run_checkKey hk hkey, MapKept.run_findKey hk hr]
      try (cases c <;> rfl)
theorem v_lookup {t kt et : TypeId} {dk : TypeDesc} {m k : Operand} {b ck : Nat} {es : List MapEntry} {kv v : Value} {ok : Bool} (hm : ev l m = some (.map (some b))) (hk : ev l k = some kv) (ht : P.underlying t = some (.map kt et)) (hkt : P.underlying kt = some dk) (hkey : IsKey dk kv)
    (hu : InM L b ⟨b, es, ck⟩) (hf : lookV P et (Instr.findNow dk kv es 0) = some (v, ok)) : Val P μ l L ⟨ds, .lookup t m k false, ty, pos, af, gd⟩ v := fun a w hs => by
  obtain ⟨i, hi, _⟩ := hu
  have hb : w.heap[b]? = some (.map es.toArray ck) := hs.own _ (nthB_mem hi)
  have e1 := hs.eval hm; have e2 := hs.eval hk
  generalize a.eval = ρ at e1 e2
  simp [execOp, e1, e2, run_lookup_own (c := false) ht hkt hkey hb hf]
theorem v_lookup2 {t kt et : TypeId} {dk : TypeDesc} {m k : Operand} {b ck : Nat} {es : List MapEntry} {kv v : Value} {ok : Bool} (hm : ev l m = some (.map (some b))) (hk : ev l k = some kv) (ht : P.underlying t = some (.map kt et)) (hkt : P.underlying kt = some dk) (hkey : IsKey dk kv)
    (hu : InM L b ⟨b, es, ck⟩) (hf : lookV P et (Instr.findNow dk kv es 0) = some (v, ok)) : Val P μ l L ⟨ds, .lookup t m k true, ty, pos, af, gd⟩ (.tuple #[v, .bool ok]) := fun a w hs => by
  obtain ⟨i, hi, _⟩ := hu
  have hb : w.heap[b]? = some (.map es.toArray ck) := hs.own _ (nthB_mem hi)
  have e1 := hs.eval hm; have e2 := hs.eval hk
  generalize a.eval = ρ at e1 e2
  simp [execOp, e1, e2, run_lookup_own (c := true) ht hkt hkey hb hf]
end
end Go.Vcg
