/- More rules: bytes of strings, small integers. No statement of the seat is proved here. -/
import Derived.Test.YtmihpkdhfomcgaaGreatDoorVp
set_option maxRecDepth 20000
namespace Go.Vcg
open Go.RowKit
section
variable {P : Program} {X : Ctx} {ops : Array Oper} {Q : Exit → Act → World → Prop} {rest : List Oper} {μ μr : Mem} {l : Slots} {L Lr : List Bk} {a : Act} {w : World} {o : Oper} {d fuel i : Nat} {listed : Array Bool}
variable {ty : TypeId} {pos : String} {af : Array Edge} {gd : Option (Nat × Bool)} {ds : Option Nat}

/-- the byte at an index, as a number -/
def bAt (s : ByteArray) (k : Nat) : Int := ((s.data.toList[k]?).getD 0).toNat
theorem bAt_lo (s : ByteArray) (k : Nat) : 0 ≤ bAt s k := by unfold bAt; omega
theorem bAt_hi (s : ByteArray) (k : Nat) : bAt s k ≤ 255 := by
  unfold bAt
  have := ((s.data.toList[k]?).getD 0).toNat_lt
  omega
theorem run_sindex {t : TypeId} {s : ByteArray} {k : Nat} (ht : P.underlying t = some .string) (hk : k < s.size) (w : World) : (Instr.index t (.string s) (.int .i64 (k : Int))).run P w = .ok (.int .u8 (bAt s k)) w := by
  have h1 : s[k]? = some s[k] := by simp [hk]
  have h2 : bAt s k = s[k].toNat := by
    unfold bAt
    have : s.data.toList[k]? = some s[k] := by
      rw [Array.getElem?_toList]
      exact Array.getElem?_eq_getElem hk
    rw [this]; rfl
  simp [Instr.index, asIntOf, run_underlying ht, h1, h2]
theorem v_sindex {p q : Operand} {t : TypeId} {s : ByteArray} {i : Int} (k : Nat) (ht : P.underlying t = some .string) (hx0 : ev l p = some (.string s)) (hx1 : ev l q = some (.int .i64 i)) (hi : i = (k : Int)) (hk : k < s.size) :
    Val P μ l L ⟨ds, .index t p q, ty, pos, af, gd⟩ (.int .u8 (bAt s k)) := fun a w hs => by
  have e0 := hs.eval hx0; have e1 := hs.eval hx1; generalize a.eval = ρ at e0 e1; subst hi; simp [execOp, e0, e1, run_sindex ht hk]
theorem v_sindex_n {p q : Operand} {t : TypeId} {s : ByteArray} {k : Nat} (ht : P.underlying t = some .string) (hx0 : ev l p = some (.string s)) (hx1 : ev l q = some (.int .i64 (k : Int))) (hk : k < s.size) :
    Val P μ l L ⟨ds, .index t p q, ty, pos, af, gd⟩ (.int .u8 (bAt s k)) := v_sindex k ht hx0 hx1 rfl hk

theorem wrap_u8 {x : Int} (h : 0 ≤ x ∧ x ≤ 255) : IntKind.wrap .u8 x = x := by
  simp only [IntKind.wrap]
  simp [IntKind.signed, IntKind.bits]
  omega
theorem wrap_i64 {x : Int} (h : -9223372036854775808 ≤ x ∧ x ≤ 9223372036854775807) : IntKind.wrap .i64 x = x := by
  simp only [IntKind.wrap]
  simp [IntKind.signed, IntKind.bits]
  omega
/-- sums, differences of bytes, if they do not wrap -/
def arB (l : Slots) (op : Op) : Option Int := match op with
  | .binOp op _ p q _ => match ev l p, ev l q with
    | some (.int .u8 x), some (.int .u8 y) => match op with
      | .add => some (x + y)
      | .sub => some (x - y)
      | _ => none
    | _, _ => none
  | _ => none
theorem arB_sound {op : Op} {r : Int} (h : arB l op = some r) (hb : 0 ≤ r ∧ r ≤ 255) : Val P μ l L ⟨ds, op, ty, pos, af, gd⟩ (.int .u8 r) := by
  unfold arB at h
  split at h
  · split at h
    · rename_i x y hp hq
      split at h
      · simp only [Option.some.injEq] at h; subst h
        rw [show (Value.int .u8 (x + y)) = .int .u8 (IntKind.wrap .u8 (x + y)) by rw [wrap_u8 hb]]
        exact v_add hp hq
      · simp only [Option.some.injEq] at h; subst h
        rw [show (Value.int .u8 (x - y)) = .int .u8 (IntKind.wrap .u8 (x - y)) by rw [wrap_u8 hb]]
        exact v_sub hp hq
      · cases h
    · cases h
  · cases h
/-- a small integer made an int -/
theorem v_conv_int {p : Operand} {t u : TypeId} {k : IntKind} {x : Int} {de : TypeDesc} (hx0 : ev l p = some (.int k x)) (ht : P.underlying t = some de) (hu : P.underlying u = some (.int .i64)) (hb : -9223372036854775808 ≤ x ∧ x ≤ 9223372036854775807) : Val P μ l L ⟨ds, .convert t u p, ty, pos, af, gd⟩ (.int .i64 x) := by
  have := v_conv (P := P) (μ := μ) (L := L) (ds := ds) (ty := ty) (pos := pos) (af := af) (gd := gd) hx0 ht hu
  rw [wrap_i64 hb] at this
  exact this

theorem v_neg_i {p : Operand} {t : TypeId} {x : Int} (hx0 : ev l p = some (.int .i64 x)) (hb : -9223372036854775808 ≤ -x ∧ -x ≤ 9223372036854775807) : Val P μ l L ⟨ds, .unOp .neg t p, ty, pos, af, gd⟩ (.int .i64 (-x)) := by
  rw [show (Value.int .i64 (-x)) = .int .i64 (IntKind.wrap .i64 (-x)) by rw [wrap_i64 hb]]
  exact v_neg hx0
theorem v_quo_i {p q : Operand} {t t2 : TypeId} {x y : Int} (hx0 : ev l p = some (.int .i64 x)) (hx1 : ev l q = some (.int .i64 y)) (hy : y ≠ 0) (hb : -9223372036854775808 ≤ x.tdiv y ∧ x.tdiv y ≤ 9223372036854775807) : Val P μ l L ⟨ds, .binOp .quo t p q t2, ty, pos, af, gd⟩ (.int .i64 (x.tdiv y)) := by
  rw [show (Value.int .i64 (x.tdiv y)) = .int .i64 (IntKind.wrap .i64 (x.tdiv y)) by rw [wrap_i64 hb]]
  exact v_quo hx0 hx1 hy
theorem v_max2 {x y : Operand} {ts : Array TypeId} {i j : Int} (h0 : ev l x = some (.int .i64 i)) (h1 : ev l y = some (.int .i64 j)) : Val P μ l L ⟨ds, .call { callee := .builtin .max, args := #[x, y], argTypes := ts }, ty, pos, af, gd⟩ (.int .i64 (if i < j then j else i)) := fun a w hs => by
  have e0 := hs.eval h0
  have e1 := hs.eval h1
  generalize a.eval = ρ at e0 e1
  simp [execOp, resolve, invoke, builtin, Builtin.max_, Builtin.max2, e0, e1]
/-- a field of a struct's value -/
def fieldV (P : Program) (t : TypeId) (i : Nat) (vs : List Value) : Option Value := match P.underlying t with
  | some (.struct fs) => match fs[i]? with
    | some f => match aggOf P f.type with
      | some false => nat16 f.offset fun k => nthV vs k
      | _ => none
    | none => none
  | _ => none
theorem v_fieldv {p : Operand} {t : TypeId} {i : Nat} {vs : List Value} {v : Value} (hx0 : ev l p = some (.agg vs.toArray)) (hf : fieldV P t i vs = some v) : Val P μ l L ⟨ds, .field t p i, ty, pos, af, gd⟩ v := fun a w hs => by
  have e0 := hs.eval hx0
  generalize a.eval = ρ at e0
  unfold fieldV at hf
  split at hf
  · rename_i fs hu
    split at hf
    · rename_i f hi
      split at hf
      · rename_i hag
        rw [nat16_eq, nthV_eq] at hf
        have : (part f.type vs.toArray f.offset).run P w = .ok v w := run_partScalar hag (by simpa using hf)
        simp [execOp, e0, Instr.field, run_underlying hu, hi, asAgg, this]
      · cases hf
    · cases hf
  · cases hf

/-! strings as lists of bytes -/
abbrev bl (s : ByteArray) : List UInt8 := s.data.toList
theorem bl_len (s : ByteArray) : (bl s).length = s.size := by simp [bl]
theorem bl_inj {s t : ByteArray} (h : bl s = bl t) : s = t := by
  cases s; cases t
  simp only [bl] at h
  congr
  exact Array.toList_inj.1 h
theorem bl_extract (s : ByteArray) (a b : Nat) : bl (s.extract a b) = ((bl s).drop a).take (b - a) := by
  simp [bl, ByteArray.data_extract]
theorem bAt_get {s : ByteArray} {k : Nat} {b : UInt8} (h : (bl s)[k]? = some b) : bAt s k = b.toNat := by
  unfold bAt; rw [h]; rfl
theorem bl_empty_iff (s : ByteArray) : s = ⟨#[]⟩ ↔ bl s = [] := by
  constructor
  · rintro rfl; rfl
  · intro h; exact bl_inj (by rw [h])
end
end Go.Vcg
