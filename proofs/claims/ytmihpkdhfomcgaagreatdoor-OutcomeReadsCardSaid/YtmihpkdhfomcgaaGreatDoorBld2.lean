/- strings.Builder in the symbolic state: its writers as rules. No statement of the seat is proved here. -/
import Derived.Test.YtmihpkdhfomcgaaGreatDoorBld
set_option maxRecDepth 20000
namespace Go.Vcg
open Go.RowKit
section
variable {P : Program} {X : Ctx} {ops : Array Oper} {Q : Exit → Act → World → Prop} {rest : List Oper} {μ : Mem} {l : Slots} {L : List Bk} {a : Act} {w : World} {o : Oper}
def NotRow (u : TypeId) : List Bk → Bool
  | [] => true
  | .inl x :: r => !(Nat.beq x.t u) && NotRow u r
  | _ :: _ => false
theorem NotRow.at {u : TypeId} : ∀ {L : List Bk}, NotRow u L = true → ∀ x ∈ L, ∃ y : Blk, x = .inl y ∧ y.t ≠ u
  | .inl y :: r, h, x, hx => by
    simp only [NotRow, Bool.and_eq_true, Bool.not_eq_true'] at h
    rcases List.mem_cons.1 hx with rfl | hx
    · exact ⟨y, rfl, Nat.ne_of_beq_eq_false h.1⟩
    · exact NotRow.at h.2 x hx
  | .inr _ :: _, h, _, _ => by simp [NotRow] at h
  | .mp _ :: _, h, _, _ => by simp [NotRow] at h
  | .it _ _ _ _ _ :: _, h, _, _ => by simp [NotRow] at h
theorem St.build {T u : TypeId} {k : Nat} {p v : Value} {bs : List Value} {Lr : List Bk} (h : St X μ l (.inl ⟨k, T, 2, [(0, p), (1, v)]⟩ :: .inr ⟨v, u, 1, bs.length, bs⟩ :: Lr) a w) (hM : X.M = []) (hTu : T ≠ u) : Lib.BuilderAt T u X.w0.heap.size k p bs w := by
  obtain ⟨arr, hh, hsz, hcs⟩ := h.own _ (List.Mem.head _)
  have h0 : arr[0]? = some p := hcs 0 p rfl
  have h1 : arr[1]? = some v := hcs 1 v rfl
  have harr : arr = #[p, v] := by
    apply Array.ext_getElem?
    intro i
    match i with
    | 0 => simpa using h0
    | 1 => simpa using h1
    | i + 2 => rw [Array.getElem?_eq_none (by simp only at hsz; omega), Array.getElem?_eq_none (by simp)]
  subst harr
  have hk : X.w0.heap.size ≤ k := by
    rcases h.new _ (List.Mem.head _) k rfl with h' | h'
    · rw [hM] at h'; simp at h'
    · exact h'
  have hown : w.ownsRow 0 u 1 v bs.length bs := h.own _ (List.Mem.tail _ (List.Mem.head _))
  have hown' : w.ownsRow X.w0.heap.size u 1 v bs.length bs := by
    refine ⟨hown.1, hown.2.imp (fun h => h) ?_⟩
    rintro ⟨g, cap, cur, hv', _, h3⟩
    refine ⟨g, cap, cur, hv', ?_, h3⟩
    rcases h.new _ (List.Mem.tail _ (List.Mem.head _)) g (by simp [Bk.id, hv', Value.ownBlock]) with h' | h'
    · rw [hM] at h'; simp at h'
    · exact h'
  exact ⟨hk, v, hh, hown', Lib.ownBlock_ne hown' hh hTu⟩
/-- the fresh builder with its row -/
theorem gc_nilRow {c : Code} {y : Bk} (e s : TypeId) (h : GC P X c Q μ l (y :: .inr ⟨.slice none 0 0, e, s, 0, []⟩ :: L)) : GC P X c Q μ l (y :: L) := fun a w hs =>
  h a w ((hs.nilRow e s).perm (List.Perm.swap _ _ _))
/-- what the builder holds, as a string: the memory of the call's own is let go -/
theorem g_bstring {T u : TypeId} {k : Nat} {p v : Value} {bs : List Value} {Lr : List Bk} {f : FuncId} {vs : Array Value} {rv : Value} {d : Nat} (hd : o.dst = some d) (hn : Nat.blt d X.n = true) (hw : wants ops l o = some true) (hM : X.M = []) (hμ : ∀ b, X.w0.heap.size ≤ b → μ b = none) (hTu : T ≠ u)
    (hr : Ent P μ l (.inl ⟨k, T, 2, [(0, p), (1, v)]⟩ :: .inr ⟨v, u, 1, bs.length, bs⟩ :: Lr) o f vs)
    (hc : ∀ w, Lib.BuilderAt T u X.w0.heap.size k p bs w → X.w0.heap.size ≤ w.heap.size → Calls P f vs w fun e w' => e = .returned rv ∧ Below X.w0.heap.size w w')
    (h : G P X ops Q rest μ ((d, rv) :: l) []) :
    G P X ops Q (o :: rest) μ l (.inl ⟨k, T, 2, [(0, p), (1, v)]⟩ :: .inr ⟨v, u, 1, bs.length, bs⟩ :: Lr) :=
  g_wp hw fun a w hs => by
    unfold Oper.wp
    rw [hr a w hs.rd, Oper.upon_enter]
    refine (hc w (hs.build hM hTu) hs.keep.size).mono fun en w' he => ?_
    obtain ⟨rfl, hbel⟩ := he
    show wpList P ops Q rest (a.put o.dst rv) w'
    rw [hd]
    refine h _ _ (St.put ⟨hs.size, hs.defers, hs.slots, ?_, ?_, hs.from0, hs.fresh, fun x hx => (by cases hx), fun x hx => (by cases hx), fun x hx => (by cases hx), List.Pairwise.nil⟩ hn _)
    · exact ⟨hbel.os.trans hs.keep.os, hbel.tape.trans hs.keep.tape, hbel.output.trans hs.keep.output, Nat.le_trans hs.keep.size hbel.size, fun b hb' hn => (hbel.block b hb').trans (hs.keep.block b hb' hn)⟩
    · intro b ob hbo
      rcases Nat.lt_or_ge b X.w0.heap.size with hlt | hge
      · exact (hbel.block b hlt).trans (hs.mem b ob hbo)
      · rw [hμ b hge] at hbo; cases hbo
theorem mok_none {μ : Mem} {w : World} (h : MOk μ w) : ∀ b, w.heap.size ≤ b → μ b = none := fun b hb => by
  cases hm : μ b with
  | none => rfl
  | some o => have := (Array.getElem?_eq_some_iff.1 (h b o hm)).1; omega
end
end Go.Vcg
namespace Go.Vcg
open Go.RowKit
section
variable {P : Program} {μ : Mem} {l : Slots} {L : List Bk} {ds : Option Nat} {ty : TypeId} {pos : String} {af : Array Edge} {gd : Option (Nat × Bool)}
theorem run_bound8 {k : Nat} {y : Nat} {c : BoundsCode} (h : k ≤ y) (w : World) : (Instr.sliceBound (.int .u8 (k : Int)) y c).run P w = .ok k w := by
  have : (0 : Int) ≤ k ∧ (k : Int) ≤ y := by omega
  simp [Instr.sliceBound, asIntOf, this]
theorem v_shr8 {p : Operand} {t t2 : TypeId} {x : Int} (hx0 : ev l p = some (.int .u8 x)) : Val P μ l L ⟨ds, .binOp .shr t p (.const (.int .u64 4)) t2, ty, pos, af, gd⟩ (.int .u8 (x / 16)) :=
  fun a w hs => by
    have e0 := hs.eval hx0
    have e1 := hs.eval (x := .const (.int .u64 4)) rfl
    generalize a.eval = ρ at e0 e1
    simp [execOp, e0, e1, eqGuard, binOp, Op.shift, IntKind.bits]
    rw [Int.fdiv_eq_ediv_of_nonneg _ (by decide)]
theorem and15 (x : Int) (h : 0 ≤ x ∧ x ≤ 255) : IntKind.wrap .u8 ((BitVec.ofInt 8 x &&& BitVec.ofInt 8 15).toNat : Int) = x % 16 := by
  obtain ⟨n, rfl⟩ : ∃ n : Nat, x = n := ⟨x.toNat, by omega⟩
  have hn : n < 256 := by omega
  have : (BitVec.ofInt 8 (n : Int) &&& BitVec.ofInt 8 15).toNat = n % 16 := by
    have h15 : BitVec.ofInt 8 15 = 15#8 := rfl
    rw [h15, BitVec.toNat_and, BitVec.ofInt_natCast, BitVec.toNat_ofNat, BitVec.toNat_ofNat]
    rw [Nat.mod_eq_of_lt (by omega : n < 2 ^ 8), show 15 % 2 ^ 8 = 2 ^ 4 - 1 from rfl, Nat.and_two_pow_sub_one_eq_mod]
  rw [this, wrap_u8 (by omega)]
  omega
theorem v_andk8 {p q : Operand} {t t2 : TypeId} {k : IntKind} {x y : Int} (hx0 : ev l p = some (.int k x)) (hx1 : ev l q = some (.int k y)) : Val P μ l L ⟨ds, .binOp .and t p q t2, ty, pos, af, gd⟩ (.int k (k.wrap (BitVec.ofInt k.bits x &&& BitVec.ofInt k.bits y).toNat)) :=
  fun a w hs => by have e0 := hs.eval hx0; have e1 := hs.eval hx1; generalize a.eval = ρ at e0 e1; simp [execOp, e0, e1, eqGuard, binOp, Op.intBits]
theorem v_and8 {p : Operand} {t t2 : TypeId} {x : Int} (hx0 : ev l p = some (.int .u8 x)) (h : 0 ≤ x ∧ x ≤ 255) : Val P μ l L ⟨ds, .binOp .and t p (.const (.int .u8 15)) t2, ty, pos, af, gd⟩ (.int .u8 (x % 16)) := by
  rw [← and15 x h]
  exact v_andk8 hx0 rfl
end
end Go.Vcg
namespace Go.Proofs.YtmihpkdhfomcgaaGreatDoor
open Go.Shelf Go.RowKit Go.Vcg
open Go.Lib (byteCells)
theorem bExtra169 : Builder.Extra Tryz.prog Tryz.lays169_ren := {
  sizeBuilder := by kernel_rfl
  liesBuilder := by kernel_rfl
  t5 := by kernel_rfl
  a5 := Go.Vcg.run_isAgg (by kernel_rfl)
  z5 := Go.Vcg.run_sizeOf (by kernel_rfl)
  v5 := Go.Vcg.run_zeroValue (by kernel_rfl)
  infoByte := by kernel_rfl
  cellsByte := by kernel_rfl
  sizeByte := by kernel_rfl
  neB5 := by decide }
theorem byteCells_app (a b : List UInt8) : byteCells (a ++ b) = byteCells a ++ byteCells b := by simp [byteCells]
section
variable {X : Ctx} {ops : Array Oper} {Q : Exit → Act → World → Prop} {rest : List Oper} {μ : Mem} {l : Slots} {L : List Bk} {o : Oper} {d : Nat}
abbrev Bld (k : Nat) (p v : Value) (out : List UInt8) (Lr : List Bk) : List Bk := .inl ⟨k, 85, 2, [(0, p), (1, v)]⟩ :: .inr ⟨v, 5, 1, out.length, byteCells out⟩ :: Lr
def IsP (k : Nat) (p : Value) : Prop := p = .pointer none ∨ p = .pointer (some ⟨k, 0, none⟩)
theorem IsP.is {k B : Nat} {p : Value} {T u : TypeId} {bs : List Value} {w : World} (h : IsP k p) (hb : Lib.BuilderAt T u B k p bs w) : Lib.IsBuilder T u B k bs w := by
  rcases h with rfl | rfl
  · exact .inl hb
  · exact .inr hb
theorem len_cells (out : List UInt8) : out.length = (byteCells out).length := by simp [byteCells]
theorem g_bstr {k : Nat} {p v : Value} {out : List UInt8} {Lr : List Bk} (hd : o.dst = some d) (hn : Nat.blt d X.n = true) (hw : wants ops l o = some true)
    (hr : Ent Tryz.prog μ l (Bld k p v out Lr) o 44 #[.pointer (some ⟨k, 0, none⟩)])
    (hM : X.M = []) (hμ : ∀ b, X.w0.heap.size ≤ b → μ b = none) (hp : IsP k p)
    (h : G Tryz.prog X ops Q rest μ ((d, .string ⟨out.toArray⟩) :: l) []) : G Tryz.prog X ops Q (o :: rest) μ l (Bld k p v out Lr) := by
  unfold Bld at hr ⊢
  rw [len_cells] at hr ⊢
  refine g_bstring hd hn hw hM hμ (by decide) hr (fun w hb hs => ?_) h
  exact Any.Builder_String_any Tryz.lays169 bExtra169 X.w0.heap.size k out w (hp.is hb) hs
end
end Go.Proofs.YtmihpkdhfomcgaaGreatDoor
