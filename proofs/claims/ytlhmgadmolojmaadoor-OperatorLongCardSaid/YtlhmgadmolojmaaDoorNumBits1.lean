/- Bits of numbers of 32 bits: the plain laws; rules for the operators. -/
import Derived.Test.YtlhmgadmolojmaaDoorNumRef5
set_option maxRecDepth 20000
namespace Go.Vcg
open Go.RowKit
theorem bmod32 (x : Int) : x.bmod 4294967296 = (x + 2147483648) % 4294967296 - 2147483648 := by
  rw [Int.bmod_def]; split <;> omega
theorem wrap_i32 (x : Int) : IntKind.wrap .i32 x = (BitVec.ofInt 32 x).toInt := by
  rw [BitVec.toInt_ofInt]
  show _ = x.bmod 4294967296
  rw [bmod32]
  simp [IntKind.wrap, IntKind.signed, IntKind.bits]
  split <;> omega
theorem wrap_u32 (x : Int) : IntKind.wrap .u32 x = ((BitVec.ofInt 32 x).toNat : Int) := by
  rw [BitVec.toNat_ofInt]
  simp [IntKind.wrap, IntKind.signed, IntKind.bits]
  omega
theorem wrap_u64 (x : Int) : IntKind.wrap .u64 x = x % 18446744073709551616 := by
  simp [IntKind.wrap, IntKind.signed, IntKind.bits]
theorem ofInt_congr {x y : Int} (h : x % 4294967296 = y % 4294967296) : BitVec.ofInt 32 x = BitVec.ofInt 32 y := by
  apply BitVec.eq_of_toNat_eq
  rw [BitVec.toNat_ofInt, BitVec.toNat_ofInt]
  show (x % 4294967296).toNat = (y % 4294967296).toNat
  rw [h]
theorem low_eq (n : Int) : IntKind.wrap .i32 (IntKind.wrap .u32 (IntKind.wrap .u64 n)) = (BitVec.ofInt 32 n).toInt := by
  rw [wrap_i32, wrap_u32, wrap_u64]
  congr 1
  have h1 : ((BitVec.ofInt 32 (n % 18446744073709551616)).toNat : Int) = n % 4294967296 := by
    rw [BitVec.toNat_ofInt]
    show (((n % 18446744073709551616) % 4294967296).toNat : Int) = _
    omega
  rw [h1]
  exact ofInt_congr (by omega)
theorem ofInt_toNat (r : BitVec 32) : BitVec.ofInt 32 (r.toNat : Int) = r := by
  apply BitVec.eq_of_toNat_eq
  rw [BitVec.toNat_ofInt]
  have := r.isLt
  show ((r.toNat : Int) % 4294967296).toNat = _
  omega
theorem wrap_back (r : BitVec 32) : IntKind.wrap .i32 (r.toNat : Int) = r.toInt := by rw [wrap_i32, ofInt_toNat]
theorem u32_toInt (r : BitVec 32) : IntKind.wrap .u32 r.toInt = (r.toNat : Int) := by rw [wrap_u32, BitVec.ofInt_toInt]
theorem shl_eq (r : BitVec 32) (k : Nat) : IntKind.wrap .i32 (IntKind.wrap .u32 ((r.toNat : Int) * 2 ^ k)) = (r <<< k).toInt := by
  rw [wrap_i32, wrap_u32, ofInt_toNat]
  congr 1
  apply BitVec.eq_of_toNat_eq
  rw [BitVec.toNat_ofInt, BitVec.toNat_shiftLeft, Nat.shiftLeft_eq]
  show (((r.toNat : Int) * 2 ^ k) % 4294967296).toNat = r.toNat * 2 ^ k % 4294967296
  have : ((r.toNat : Int) * 2 ^ k) = ((r.toNat * 2 ^ k : Nat) : Int) := by simp
  rw [this]
  omega
theorem shr_eq (r : BitVec 32) (k : Nat) : r.toInt.fdiv (2 ^ k) = (r.sshiftRight k).toInt := by
  rw [BitVec.toInt_sshiftRight, Int.shiftRight_eq_div_pow, Int.fdiv_eq_ediv_of_nonneg _ (Int.le_of_lt (Int.pow_pos (by decide)))]
  simp
def bN (r : BitVec 32) (i : Nat) : Nat := r.toNat / 2 ^ i % 2
theorem bN_eq (r : BitVec 32) (i : Nat) : bN r i = (r.getLsbD i).toNat := by
  unfold bN
  rw [BitVec.getLsbD, Nat.testBit_eq_decide_div_mod_eq]
  have := Nat.mod_two_eq_zero_or_one (r.toNat / 2 ^ i)
  rcases this with h | h <;> rw [h] <;> rfl
theorem bN_and (x y : BitVec 32) (i : Nat) : bN (x &&& y) i = bN x i * bN y i := by
  rw [bN_eq, bN_eq, bN_eq, BitVec.getLsbD_and]
  cases x.getLsbD i <;> cases y.getLsbD i <;> rfl
theorem bN_or (x y : BitVec 32) (i : Nat) : bN (x ||| y) i = max (bN x i) (bN y i) := by
  rw [bN_eq, bN_eq, bN_eq, BitVec.getLsbD_or]
  cases x.getLsbD i <;> cases y.getLsbD i <;> rfl
theorem bN_xor (x y : BitVec 32) (i : Nat) : bN (x ^^^ y) i = (bN x i + bN y i) % 2 := by
  rw [bN_eq, bN_eq, bN_eq, BitVec.getLsbD_xor]
  cases x.getLsbD i <;> cases y.getLsbD i <;> rfl
theorem bN_shl (x : BitVec 32) (k i : Nat) (hi : i < 32) : bN (x <<< k) i = if i < k then 0 else bN x (i - k) := by
  rw [bN_eq, BitVec.getLsbD_shiftLeft]
  by_cases h : i < k
  · simp [h]
  · simp [h, hi, bN_eq]
theorem bN_shr (x : BitVec 32) (k i : Nat) (hi : i < 32) : bN (x.sshiftRight k) i = bN x (min (i + k) 31) := by
  rw [bN_eq, BitVec.getLsbD_sshiftRight, bN_eq]
  by_cases h : k + i < 32
  · have : min (i + k) 31 = k + i := by omega
    rw [this]
    simp [h, show ¬ 32 ≤ i by omega]
  · have : min (i + k) 31 = 31 := by omega
    rw [this]
    simp [h, show ¬ 32 ≤ i by omega, BitVec.msb_eq_getLsbD_last]
theorem horner (r : BitVec 32) (i : Nat) : r.toNat / 2 ^ (i + 1) * 2 + bN r i = r.toNat / 2 ^ i := by
  unfold bN
  rw [Nat.pow_succ, ← Nat.div_div_eq_div_mul]
  omega
theorem top0 (r : BitVec 32) : r.toNat / 2 ^ 32 = 0 := Nat.div_eq_of_lt r.isLt

section
variable {P : Program} {μ : Mem} {l : Slots} {L : List Bk} {ds : Option Nat} {ty : TypeId} {pos : String} {af : Array Edge} {gd : Option (Nat × Bool)}
theorem v_andk {p q : Operand} {t t2 : TypeId} {k : IntKind} {x y : Int} (hx0 : ev l p = some (.int k x)) (hx1 : ev l q = some (.int k y)) : Val P μ l L ⟨ds, .binOp .and t p q t2, ty, pos, af, gd⟩ (.int k (k.wrap (BitVec.ofInt k.bits x &&& BitVec.ofInt k.bits y).toNat)) :=
  fun a w hs => by have e0 := hs.eval hx0; have e1 := hs.eval hx1; generalize a.eval = ρ at e0 e1; simp [execOp, e0, e1, eqGuard, binOp, Op.intBits]
theorem v_and32 {p q : Operand} {t t2 : TypeId} {x y : BitVec 32} (hx0 : ev l p = some (.int .i32 x.toInt)) (hx1 : ev l q = some (.int .i32 y.toInt)) : Val P μ l L ⟨ds, .binOp .and t p q t2, ty, pos, af, gd⟩ (.int .i32 (x &&& y).toInt) := by
  have h : IntKind.wrap .i32 ((BitVec.ofInt 32 x.toInt &&& BitVec.ofInt 32 y.toInt).toNat : Int) = (x &&& y).toInt := by rw [BitVec.ofInt_toInt, BitVec.ofInt_toInt, wrap_back]
  rw [← h]
  exact v_andk hx0 hx1
theorem v_ork {p q : Operand} {t t2 : TypeId} {k : IntKind} {x y : Int} (hx0 : ev l p = some (.int k x)) (hx1 : ev l q = some (.int k y)) : Val P μ l L ⟨ds, .binOp .or t p q t2, ty, pos, af, gd⟩ (.int k (k.wrap (BitVec.ofInt k.bits x ||| BitVec.ofInt k.bits y).toNat)) :=
  fun a w hs => by have e0 := hs.eval hx0; have e1 := hs.eval hx1; generalize a.eval = ρ at e0 e1; simp [execOp, e0, e1, eqGuard, binOp, Op.intBits]
theorem v_or32 {p q : Operand} {t t2 : TypeId} {x y : BitVec 32} (hx0 : ev l p = some (.int .i32 x.toInt)) (hx1 : ev l q = some (.int .i32 y.toInt)) : Val P μ l L ⟨ds, .binOp .or t p q t2, ty, pos, af, gd⟩ (.int .i32 (x ||| y).toInt) := by
  have h : IntKind.wrap .i32 ((BitVec.ofInt 32 x.toInt ||| BitVec.ofInt 32 y.toInt).toNat : Int) = (x ||| y).toInt := by rw [BitVec.ofInt_toInt, BitVec.ofInt_toInt, wrap_back]
  rw [← h]
  exact v_ork hx0 hx1
theorem v_xork {p q : Operand} {t t2 : TypeId} {k : IntKind} {x y : Int} (hx0 : ev l p = some (.int k x)) (hx1 : ev l q = some (.int k y)) : Val P μ l L ⟨ds, .binOp .xor t p q t2, ty, pos, af, gd⟩ (.int k (k.wrap (BitVec.ofInt k.bits x ^^^ BitVec.ofInt k.bits y).toNat)) :=
  fun a w hs => by have e0 := hs.eval hx0; have e1 := hs.eval hx1; generalize a.eval = ρ at e0 e1; simp [execOp, e0, e1, eqGuard, binOp, Op.intBits]
theorem v_xor32 {p q : Operand} {t t2 : TypeId} {x y : BitVec 32} (hx0 : ev l p = some (.int .i32 x.toInt)) (hx1 : ev l q = some (.int .i32 y.toInt)) : Val P μ l L ⟨ds, .binOp .xor t p q t2, ty, pos, af, gd⟩ (.int .i32 (x ^^^ y).toInt) := by
  have h : IntKind.wrap .i32 ((BitVec.ofInt 32 x.toInt ^^^ BitVec.ofInt 32 y.toInt).toNat : Int) = (x ^^^ y).toInt := by rw [BitVec.ofInt_toInt, BitVec.ofInt_toInt, wrap_back]
  rw [← h]
  exact v_xork hx0 hx1
theorem v_cu32 {p : Operand} {t u : TypeId} {x : BitVec 32} {de : TypeDesc} (hx0 : ev l p = some (.int .i32 x.toInt)) (ht : P.underlying t = some de) (hu : P.underlying u = some (.int .u32)) : Val P μ l L ⟨ds, .convert t u p, ty, pos, af, gd⟩ (.int .u32 (x.toNat : Int)) := by
  rw [← u32_toInt]
  exact v_conv hx0 ht hu
theorem v_ci32 {p : Operand} {t u : TypeId} {x : BitVec 32} {de : TypeDesc} (hx0 : ev l p = some (.int .u32 (x.toNat : Int))) (ht : P.underlying t = some de) (hu : P.underlying u = some (.int .i32)) : Val P μ l L ⟨ds, .convert t u p, ty, pos, af, gd⟩ (.int .i32 x.toInt) := by
  rw [← wrap_back]
  exact v_conv hx0 ht hu
theorem v_shl32 {p q : Operand} {t t2 : TypeId} {x : BitVec 32} {k : Nat} (hx0 : ev l p = some (.int .u32 (x.toNat : Int))) (hx1 : ev l q = some (.int .u32 (k : Int))) (hk : k < 32) : Val P μ l L ⟨ds, .binOp .shl t p q t2, ty, pos, af, gd⟩ (.int .u32 ((x <<< k).toNat : Int)) :=
  fun a w hs => by
    have e0 := hs.eval hx0; have e1 := hs.eval hx1; generalize a.eval = ρ at e0 e1
    have h : IntKind.wrap .u32 ((x.toNat : Int) * 2 ^ k) = ((x <<< k).toNat : Int) := by
      rw [wrap_u32]
      congr 1
      rw [BitVec.toNat_ofInt, BitVec.toNat_shiftLeft, Nat.shiftLeft_eq]
      show (((x.toNat : Int) * 2 ^ k) % 4294967296).toNat = x.toNat * 2 ^ k % 4294967296
      have : ((x.toNat : Int) * 2 ^ k) = ((x.toNat * 2 ^ k : Nat) : Int) := by simp
      rw [this]
      omega
    have hn : min k 32 = k := by omega
    have h0 : ¬ (k : Int) < 0 := by omega
    simp only [execOp, e0, e1, eqGuard, binOp, Op.shift, IntKind.bits, h0, if_false, Int.toNat_natCast, hn, h]
    simp
theorem v_shr32 {p q : Operand} {t t2 : TypeId} {x : BitVec 32} {k : Nat} (hx0 : ev l p = some (.int .i32 x.toInt)) (hx1 : ev l q = some (.int .u32 (k : Int))) (hk : k < 32) : Val P μ l L ⟨ds, .binOp .shr t p q t2, ty, pos, af, gd⟩ (.int .i32 (x.sshiftRight k).toInt) :=
  fun a w hs => by
    have e0 := hs.eval hx0; have e1 := hs.eval hx1; generalize a.eval = ρ at e0 e1
    have h := shr_eq x k
    have hn : min k 32 = k := by omega
    have h0 : ¬ (k : Int) < 0 := by omega
    simp only [execOp, e0, e1, eqGuard, binOp, Op.shift, IntKind.bits, h0, if_false, Int.toNat_natCast, hn, h]
    simp
end
end Go.Vcg
