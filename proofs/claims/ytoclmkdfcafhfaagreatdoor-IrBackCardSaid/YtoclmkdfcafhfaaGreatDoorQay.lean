/- Package literal: a string literal is read. -/
import Derived.Test.YtoclmkdfcafhfaaGreatDoorQax
import Derived.Laws.BytesArg
set_option maxRecDepth 20000
set_option maxHeartbeats 2000000
namespace Go.Vcg
open Go.RowKit
open Go.Lib (byteCells)
section
variable {P : Program} {X : Ctx} {Q : Exit → Act → World → Prop} {μ : Mem} {l : Slots} {L : List Bk}
theorem gc_rounds {c : Code} (n : Nat) (h : GC P X c (Exit.then (Code.rounds P c Q n) Q) μ l L) : GC P X (.loop c) Q μ l L := fun a w hs => wp_loop_rounds (n + 1) (h a w hs)
theorem gq_round {c : Code} {n : Nat} (h : GC P X c (Exit.then (Code.rounds P c Q n) Q) μ l L) : GQ X (Exit.then (Code.rounds P c Q (n + 1)) Q) .normal μ l L := fun a w hs => h a w hs
variable {ty : TypeId} {pos : String} {af : Array Edge} {gd : Option (Nat × Bool)} {ds : Option Nat}
theorem v_shl8 {p : Operand} {t t2 : TypeId} {x : Int} (hx0 : ev l p = some (.int .u8 x)) (h : 0 ≤ x ∧ x ≤ 15) : Val P μ l L ⟨ds, .binOp .shl t p (.const (.int .u64 4)) t2, ty, pos, af, gd⟩ (.int .u8 (x * 16)) :=
  fun a w hs => by
    have e0 := hs.eval hx0
    have e1 := hs.eval (x := .const (.int .u64 4)) rfl
    generalize a.eval = ρ at e0 e1
    simp [execOp, e0, e1, eqGuard, binOp, Op.shift, IntKind.bits]
    exact wrap_u8 (by omega)
theorem v_orr {p q : Operand} {t t2 : TypeId} {k : IntKind} {x y : Int} (hx0 : ev l p = some (.int k x)) (hx1 : ev l q = some (.int k y)) : Val P μ l L ⟨ds, .binOp .or t p q t2, ty, pos, af, gd⟩ (.int k (k.wrap (BitVec.ofInt k.bits x ||| BitVec.ofInt k.bits y).toNat)) :=
  fun a w hs => by have e0 := hs.eval hx0; have e1 := hs.eval hx1; generalize a.eval = ρ at e0 e1; simp [execOp, e0, e1, eqGuard, binOp, Op.intBits]
theorem or16 : ∀ x, x < 16 → ∀ y, y < 16 → IntKind.wrap .u8 ((BitVec.ofInt 8 ((x : Nat) * 16 : Int) ||| BitVec.ofInt 8 ((y : Nat) : Int)).toNat : Int) = (x : Int) * 16 + (y : Int) := by decide +kernel
theorem v_or8 {p q : Operand} {t t2 : TypeId} {z y : Int} (x : Nat) (hx0 : ev l p = some (.int .u8 z)) (hx1 : ev l q = some (.int .u8 y)) (hz : z = (x : Int) * 16) (h : x < 16) (h2 : 0 ≤ y ∧ y ≤ 15) : Val P μ l L ⟨ds, .binOp .or t p q t2, ty, pos, af, gd⟩ (.int .u8 ((x : Int) * 16 + y)) := by
  obtain ⟨m, rfl⟩ : ∃ m : Nat, y = m := ⟨y.toNat, by omega⟩
  subst hz
  rw [← or16 x h m (by omega)]
  exact v_orr hx0 hx1
theorem strOf_bytes (bs : List UInt8) : strOfNums (bs.map fun b => (b.toNat : Int)) = ⟨bs.toArray⟩ := by
  unfold strOfNums
  rw [List.map_map]
  congr 2
  conv => rhs; rw [← List.map_id bs]
  refine List.map_congr_left fun b _ => ?_
  show UInt8.ofNat ((b.toNat : Int).toNat) = b
  simp
theorem v_rowstr {p : Operand} {src dst e e2 : TypeId} {n : Nat} {v : Value} {bs : List UInt8} (i : Nat) (hs : P.underlying src = some (.slice e)) (he : P.underlying e = some (.int .u8)) (hd : P.underlying dst = some .string) (hi : nthB L i = some (.inr ⟨v, e2, 1, n, byteCells bs⟩)) (hp : ev l p = some v) :
    Val P μ l L ⟨ds, .convert src dst p, ty, pos, af, gd⟩ (.string ⟨bs.toArray⟩) := fun a w hr => by
  have hown : w.ownsRow 0 e2 1 v n (byteCells bs) := hr.own _ (nthB_mem hi)
  have e1 := hr.eval hp
  have hlen : bs.length = n := by have := hown.1; simpa [byteCells] using this
  have hrun : (convert src dst v).run P w = .ok (.string ⟨bs.toArray⟩) w := by
    rcases hown.2 with ⟨rfl, rfl⟩ | ⟨g, cap, cur, rfl, _⟩
    · have hb : bs = [] := List.eq_nil_of_length_eq_zero hlen
      subst hb
      exact run_convert_bytes_nil w src e hs he 0 0 dst hd
    · have := run_convert_bytes_arg (P := P) w src e hs he g 0 n cap (bs.map fun b => (b.toNat : Int)) (by simpa using hlen) (fun j hj => by
        have hjb : j < bs.length := by omega
        have h2 : (byteCells bs)[j]? = some (.int .u8 (bs[j].toNat : Int)) := by simp [byteCells, hjb]
        rw [Nat.zero_add, hr.rowCell (nthB_mem hi) h2]
        simp [hjb]) dst hd
      rw [strOf_bytes] at this
      exact this
  generalize a.eval = ρ at e1
  simp [execOp, e1, hrun]
end
end Go.Vcg
namespace Go.Proofs.YtoclmkdfcafhfaaGreatDoor
open Go.RowKit Go.Vcg Ou
open Go.Lib (byteCells)
theorem ofB_size (l : List UInt8) : (ofB l).size = l.length := by simp [ofB, ByteArray.size]
theorem drop_c {s : ByteArray} {i : Nat} {c : UInt8} (h : (bl s)[i]? = some c) : (bl s).drop i = c :: (bl s).drop (i + 1) := by
  obtain ⟨h1, h2⟩ := List.getElem?_eq_some_iff.1 h
  rw [List.drop_eq_getElem_cons h1, h2]
theorem drop_n (s : ByteArray) (i : Nat) : ((bl s).drop i).length = s.size - i := by rw [List.length_drop, bl_len]
def digV (c : UInt8) : Int × Bool := match hexV c with
  | some d => (d, true)
  | none => (0, false)
theorem hexV_le {c : UInt8} {d : Nat} (h : hexV c = some d) : d < 16 := by
  unfold hexV at h
  repeat' split at h
  all_goals first | cases h | skip
  all_goals omega
def oneV (n : Nat) (r : Except Int (UInt8 × List UInt8)) : List Value := match r with
  | .ok (b, u) => [.int .u8 b.toNat, .int .i64 ((n - u.length : Nat) : Int), .int .i64 0]
  | .error e => [.int .u8 0, .int .i64 0, .int .i64 e]
attribute [local irreducible] G GC GQ GA GAop Calls IntKind.wrap Int.decLt Int.decLe
theorem ldigit_spec (x : Int) (c : UInt8) (hx : x = c.toNat) (w : World) (μ : Mem) (hμ : MOk μ w) : Calls Tryz.prog 177 #[.int .u8 x] w fun e w' => e = .returned (.tuple #[.int .u8 (digV c).1, .bool (digV c).2]) ∧ Below w.heap.size w w' := by
  subst hx
  have hc := c.toNat_lt
  refine call_intro (args := [.int .u8 c.toNat]) Tryz.func177 rfl Tryz.ntmps177 (by simp) hμ ?_
  have h0 : digV c = if 48 ≤ c.toNat ∧ c.toNat ≤ 57 then ((c.toNat : Int) - 48, true) else if 97 ≤ c.toNat ∧ c.toNat ≤ 102 then ((c.toNat : Int) - 97 + 10, true) else if 65 ≤ c.toNat ∧ c.toNat ≤ 70 then ((c.toNat : Int) - 65 + 10, true) else (0, false) := by
    unfold digV hexV
    by_cases h1 : 48 ≤ c.toNat ∧ c.toNat ≤ 57
    · rw [if_pos h1, if_pos h1]; dsimp only; congr 1; omega
    rw [if_neg h1, if_neg h1]
    by_cases h2 : 97 ≤ c.toNat ∧ c.toNat ≤ 102
    · rw [if_pos h2, if_pos h2]; dsimp only; congr 1; omega
    rw [if_neg h2, if_neg h2]
    by_cases h3 : 65 ≤ c.toNat ∧ c.toNat ≤ 70
    · rw [if_pos h3, if_pos h3]; dsimp only; congr 1; omega
    rw [if_neg h3, if_neg h3]
  rw [h0]
  by_cases h1 : 48 ≤ c.toNat ∧ c.toNat ≤ 57
  · rw [if_pos h1]
    repeat' (first | refine KK ?_ | (refine KB ?_ ?_ <;> intro hp) | refine KG ?_ | fail)
    all_goals first | (exfalso; omega) | exact ret_vn rfl (by repeat first | exact rvs_nil | refine rvs_cons (by first | exact rv_tmp rfl | exact (RG 0 rfl rfl rfl rfl rfl) | exact (RG 1 rfl rfl rfl rfl rfl) | exact (RG 2 rfl rfl rfl rfl rfl) | exact (RG 3 rfl rfl rfl rfl rfl)) ?_) rfl rfl
  rw [if_neg h1]
  by_cases h2 : 97 ≤ c.toNat ∧ c.toNat ≤ 102
  · rw [if_pos h2]
    repeat' (first | refine KK ?_ | (refine KB ?_ ?_ <;> intro hp) | refine KG ?_ | fail)
    all_goals first | (exfalso; omega) | exact ret_vn rfl (by repeat first | exact rvs_nil | refine rvs_cons (by first | exact rv_tmp rfl | exact (RG 0 rfl rfl rfl rfl rfl) | exact (RG 1 rfl rfl rfl rfl rfl) | exact (RG 2 rfl rfl rfl rfl rfl) | exact (RG 3 rfl rfl rfl rfl rfl)) ?_) rfl rfl
  rw [if_neg h2]
  by_cases h3 : 65 ≤ c.toNat ∧ c.toNat ≤ 70
  · rw [if_pos h3]
    repeat' (first | refine KK ?_ | (refine KB ?_ ?_ <;> intro hp) | refine KG ?_ | fail)
    all_goals first | (exfalso; omega) | exact ret_vn rfl (by repeat first | exact rvs_nil | refine rvs_cons (by first | exact rv_tmp rfl | exact (RG 0 rfl rfl rfl rfl rfl) | exact (RG 1 rfl rfl rfl rfl rfl) | exact (RG 2 rfl rfl rfl rfl rfl) | exact (RG 3 rfl rfl rfl rfl rfl)) ?_) rfl rfl
  rw [if_neg h3]
  repeat' (first | refine KK ?_ | (refine KB ?_ ?_ <;> intro hp) | refine KG ?_ | fail)
  all_goals first | (exfalso; omega) | exact ret_vn rfl (by repeat first | exact rvs_nil | refine rvs_cons (by first | exact rv_tmp rfl | exact (RG 0 rfl rfl rfl rfl rfl) | exact (RG 1 rfl rfl rfl rfl rfl) | exact (RG 2 rfl rfl rfl rfl rfl) | exact (RG 3 rfl rfl rfl rfl rfl)) ?_) rfl rfl
theorem dig_some {x : Int} {c : UInt8} {d : Nat} (hx : x = c.toNat) (h : hexV c = some d) (w : World) (μ : Mem) (hμ : MOk μ w) : Calls Tryz.prog 177 #[.int .u8 x] w fun e w' => e = .returned (.tuple #[.int .u8 d, .bool true]) ∧ Below w.heap.size w w' := by
  have := ldigit_spec x c hx w μ hμ
  unfold digV at this
  rw [h] at this
  exact this
theorem dig_none {x : Int} {c : UInt8} (hx : x = c.toNat) (h : hexV c = none) (w : World) (μ : Mem) (hμ : MOk μ w) : Calls Tryz.prog 177 #[.int .u8 x] w fun e w' => e = .returned (.tuple #[.int .u8 0, .bool false]) ∧ Below w.heap.size w w' := by
  have := ldigit_spec x c hx w μ hμ
  unfold digV at this
  rw [h] at this
  exact this
theorem byByte_spec (s : ByteArray) (hs : s.size ≤ 1000000) (k : Nat) (hk : k ≤ s.size) (w : World) (μ : Mem) (hμ : MOk μ w) :
    Calls Tryz.prog 168 #[.string s, .int .i64 k] w fun e w' => e = .returned (.tuple (oneV s.size (hex2 ((bl s).drop k))).toArray) ∧ Below w.heap.size w w' := by
  refine call_intro (args := [.string s, .int .i64 k]) Tryz.func168 rfl Tryz.ntmps168 (by simp) hμ ?_
  by_cases h0 : k < s.size
  · obtain ⟨c, hb1, hb2⟩ := bl_at h0
    rw [drop_c hb1]
    unfold hex2
    dsimp only
    cases hc : hexV c with
    | none =>
      repeat' (first | (with_reducible apply gq_round) | refine KO ?_ | ((with_reducible apply F1 177); exact rfl; exact EN; (exact fun w μc hw hse => dig_none hb2 hc w μc hw)) | (refine KV (b := by first | exact U2 k | exact U2 (k + 1)) (c := ?_)) | refine KI ?_ | (refine KB ?_ ?_ <;> intro hp) | refine KG ?_ | fail)
      refine gc_rounds 2 ?_
      repeat' (first | (with_reducible apply gq_round) | refine KO ?_ | ((with_reducible apply F1 177); exact rfl; exact EN; (exact fun w μc hw hse => dig_none hb2 hc w μc hw)) | (refine KV (b := by first | exact U2 k | exact U2 (k + 1)) (c := ?_)) | refine KI ?_ | (refine KB ?_ ?_ <;> intro hp) | refine KG ?_ | fail)
      exact ret_vn rfl (by repeat first | exact rvs_nil | refine rvs_cons (by first | exact rv_tmp rfl | exact (RG 0 rfl rfl rfl rfl rfl) | exact (RG 1 rfl rfl rfl rfl rfl) | exact (RG 2 rfl rfl rfl rfl rfl) | exact (RG 3 rfl rfl rfl rfl rfl)) ?_) rfl rfl
    | some x =>
      have hx := hexV_le hc
      dsimp only
      by_cases h1 : k + 1 < s.size
      · obtain ⟨g, hg1, hg2⟩ := bl_at h1
        rw [drop_c hg1]
        dsimp only
        cases hg : hexV g with
        | none =>
          repeat' (first | (with_reducible apply gq_round) | refine KO ?_ | ((with_reducible apply F1 177); exact rfl; exact EN; first | (exact fun w μc hw hse => dig_some hb2 hc w μc hw) | (exact fun w μc hw hse => dig_none hg2 hg w μc hw)) | (refine KV (b := by first | exact U2 k | exact U2 (k + 1) | ((with_reducible apply v_shl8); exact rfl; omega) | ((with_reducible apply v_or8 0); exact rfl; exact rfl; (first | rfl | omega); omega; omega) | ((with_reducible apply v_or8 x); exact rfl; exact rfl; (first | rfl | omega); omega; omega)) (c := ?_)) | refine KI ?_ | (refine KB ?_ ?_ <;> intro hp) | refine KG ?_ | fail)
          refine gc_rounds 2 ?_
          repeat' (first | (with_reducible apply gq_round) | refine KO ?_ | ((with_reducible apply F1 177); exact rfl; exact EN; first | (exact fun w μc hw hse => dig_some hb2 hc w μc hw) | (exact fun w μc hw hse => dig_none hg2 hg w μc hw)) | (refine KV (b := by first | exact U2 k | exact U2 (k + 1) | ((with_reducible apply v_shl8); exact rfl; omega) | ((with_reducible apply v_or8 0); exact rfl; exact rfl; (first | rfl | omega); omega; omega) | ((with_reducible apply v_or8 x); exact rfl; exact rfl; (first | rfl | omega); omega; omega)) (c := ?_)) | refine KI ?_ | (refine KB ?_ ?_ <;> intro hp) | refine KG ?_ | fail)
          exact ret_vn rfl (by repeat first | exact rvs_nil | refine rvs_cons (by first | exact rv_tmp rfl | exact (RG 0 rfl rfl rfl rfl rfl) | exact (RG 1 rfl rfl rfl rfl rfl) | exact (RG 2 rfl rfl rfl rfl rfl) | exact (RG 3 rfl rfl rfl rfl rfl)) ?_) rfl rfl
        | some y =>
          have hy := hexV_le hg
          have hE : oneV s.size (.ok (UInt8.ofNat (16 * x + y), (bl s).drop (k + 1 + 1))) = [.int .u8 ((x : Int) * 16 + y), .int .i64 ((k : Int) + 2), .int .i64 0] := by
            unfold oneV
            dsimp only
            rw [drop_n, UInt8.toNat_ofNat', show (((16 * x + y) % 2 ^ 8 : Nat) : Int) = (x : Int) * 16 + y by omega, show ((s.size - (s.size - (k + 1 + 1)) : Nat) : Int) = (k : Int) + 2 by omega]
          rw [hE]
          repeat' (first | (with_reducible apply gq_round) | refine KO ?_ | ((with_reducible apply F1 177); exact rfl; exact EN; first | (exact fun w μc hw hse => dig_some hb2 hc w μc hw) | (exact fun w μc hw hse => dig_some hg2 hg w μc hw)) | (refine KV (b := by first | exact U2 k | exact U2 (k + 1) | ((with_reducible apply v_shl8); exact rfl; omega) | ((with_reducible apply v_or8 0); exact rfl; exact rfl; (first | rfl | omega); omega; omega) | ((with_reducible apply v_or8 x); exact rfl; exact rfl; (first | rfl | omega); omega; omega)) (c := ?_)) | refine KI ?_ | (refine KB ?_ ?_ <;> intro hp) | refine KG ?_ | fail)
          refine gc_rounds 2 ?_
          repeat' (first | (with_reducible apply gq_round) | refine KO ?_ | ((with_reducible apply F1 177); exact rfl; exact EN; first | (exact fun w μc hw hse => dig_some hb2 hc w μc hw) | (exact fun w μc hw hse => dig_some hg2 hg w μc hw)) | (refine KV (b := by first | exact U2 k | exact U2 (k + 1) | ((with_reducible apply v_shl8); exact rfl; omega) | ((with_reducible apply v_or8 0); exact rfl; exact rfl; (first | rfl | omega); omega; omega) | ((with_reducible apply v_or8 x); exact rfl; exact rfl; (first | rfl | omega); omega; omega)) (c := ?_)) | refine KI ?_ | (refine KB ?_ ?_ <;> intro hp) | refine KG ?_ | fail)
          exact ret_vn rfl (by repeat first | exact rvs_nil | refine rvs_cons (by first | exact rv_tmp rfl | exact (RG 0 rfl rfl rfl rfl rfl) | exact (RG 1 rfl rfl rfl rfl rfl) | exact (RG 2 rfl rfl rfl rfl rfl) | exact (RG 3 rfl rfl rfl rfl rfl)) ?_) rfl rfl
      · have hd : (bl s).drop (k + 1) = [] := List.drop_eq_nil_of_le (by rw [bl_len]; omega)
        rw [hd]
        repeat' (first | (with_reducible apply gq_round) | refine KO ?_ | ((with_reducible apply F1 177); exact rfl; exact EN; (exact fun w μc hw hse => dig_some hb2 hc w μc hw)) | (refine KV (b := by first | exact U2 k | exact U2 (k + 1) | ((with_reducible apply v_shl8); exact rfl; omega) | ((with_reducible apply v_or8 0); exact rfl; exact rfl; (first | rfl | omega); omega; omega) | ((with_reducible apply v_or8 x); exact rfl; exact rfl; (first | rfl | omega); omega; omega)) (c := ?_)) | refine KI ?_ | (refine KB ?_ ?_ <;> intro hp) | refine KG ?_ | fail)
        refine gc_rounds 2 ?_
        repeat' (first | (with_reducible apply gq_round) | refine KO ?_ | ((with_reducible apply F1 177); exact rfl; exact EN; (exact fun w μc hw hse => dig_some hb2 hc w μc hw)) | (refine KV (b := by first | exact U2 k | exact U2 (k + 1) | ((with_reducible apply v_shl8); exact rfl; omega) | ((with_reducible apply v_or8 0); exact rfl; exact rfl; (first | rfl | omega); omega; omega) | ((with_reducible apply v_or8 x); exact rfl; exact rfl; (first | rfl | omega); omega; omega)) (c := ?_)) | refine KI ?_ | (refine KB ?_ ?_ <;> intro hp) | refine KG ?_ | fail)
        exact ret_vn rfl (by repeat first | exact rvs_nil | refine rvs_cons (by first | exact rv_tmp rfl | exact (RG 0 rfl rfl rfl rfl rfl) | exact (RG 1 rfl rfl rfl rfl rfl) | exact (RG 2 rfl rfl rfl rfl rfl) | exact (RG 3 rfl rfl rfl rfl rfl)) ?_) rfl rfl
  · have hd : (bl s).drop k = [] := List.drop_eq_nil_of_le (by rw [bl_len]; omega)
    rw [hd]
    repeat' (first | (with_reducible apply gq_round) | refine KK ?_ | (refine KB ?_ ?_ <;> intro hp) | refine KG ?_ | fail)
    refine gc_rounds 2 ?_
    repeat' (first | (with_reducible apply gq_round) | refine KK ?_ | (refine KB ?_ ?_ <;> intro hp) | refine KG ?_ | fail)
    exact ret_vn rfl (by repeat first | exact rvs_nil | refine rvs_cons (by first | exact rv_tmp rfl | exact (RG 0 rfl rfl rfl rfl rfl) | exact (RG 1 rfl rfl rfl rfl rfl) | exact (RG 2 rfl rfl rfl rfl rfl) | exact (RG 3 rfl rfl rfl rfl rfl)) ?_) rfl rfl
theorem escape_spec (s : ByteArray) (hs : s.size ≤ 1000000) (k : Nat) (hk : k < s.size) (w : World) (μ : Mem) (hμ : MOk μ w) :
    Calls Tryz.prog 152 #[.string s, .int .i64 k] w fun e w' => e = .returned (.tuple (oneV s.size (escB ((bl s).drop (k + 1)))).toArray) ∧ Below w.heap.size w w' := by
  refine call_intro (args := [.string s, .int .i64 k]) Tryz.func152 rfl Tryz.ntmps152 (by simp) hμ ?_
  by_cases h0 : k + 1 < s.size
  · obtain ⟨c, hb1, hb2⟩ := bl_at h0
    rw [drop_c hb1]
    have hn : ∀ n : UInt8, (c = n) = (c.toNat = n.toNat) := fun n => propext UInt8.toNat_inj.symm
    have hq : escB (c :: (bl s).drop (k + 1 + 1)) = if c.toNat = 110 then .ok (10, (bl s).drop (k + 1 + 1)) else if c.toNat = 116 then .ok (9, (bl s).drop (k + 1 + 1)) else if c.toNat = 114 then .ok (13, (bl s).drop (k + 1 + 1)) else if c.toNat = 48 then .ok (0, (bl s).drop (k + 1 + 1))
        else if c.toNat = 92 ∨ c.toNat = 39 ∨ c.toNat = 34 ∨ c.toNat = 96 ∨ c.toNat = 36 then .ok (c, (bl s).drop (k + 1 + 1)) else if c.toNat = 120 then hex2 ((bl s).drop (k + 1 + 1)) else .error 21 := by
      unfold escB
      simp only [hn]
      rfl
    have hE : ∀ b : UInt8, oneV s.size (.ok (b, (bl s).drop (k + 1 + 1))) = [.int .u8 b.toNat, .int .i64 ((k : Int) + 2), .int .i64 0] := fun b => by
      unfold oneV
      dsimp only
      rw [drop_n, show ((s.size - (s.size - (k + 1 + 1)) : Nat) : Int) = (k : Int) + 2 by omega]
    rw [hq]
    by_cases h110 : c.toNat = 110
    · rw [if_pos h110, hE]
      repeat' (first | refine KO ?_ | (refine KV (b := by first | exact U2 (k + 1)) (c := ?_)) | refine KI ?_ | (refine KB ?_ ?_ <;> intro hp) | refine KG ?_ | fail)
      all_goals first | (exfalso; omega) | exact ret_vn rfl (by repeat first | exact rvs_nil | refine rvs_cons (by first | exact rv_tmp rfl | exact (RG 0 rfl rfl rfl rfl rfl) | exact (RG 1 rfl rfl rfl rfl rfl) | exact (RG 2 rfl rfl rfl rfl rfl) | exact (RG 3 rfl rfl rfl rfl rfl)) ?_) rfl rfl | (refine ret_vn rfl (by repeat first | exact rvs_nil | refine rvs_cons (by first | exact rv_tmp rfl | exact (RG 0 rfl rfl rfl rfl rfl) | exact (RG 1 rfl rfl rfl rfl rfl) | exact (RG 2 rfl rfl rfl rfl rfl) | exact (RG 3 rfl rfl rfl rfl rfl)) ?_) rfl ?_; rw [← hb2])
    rw [if_neg h110]
    by_cases h116 : c.toNat = 116
    · rw [if_pos h116, hE]
      repeat' (first | refine KO ?_ | (refine KV (b := by first | exact U2 (k + 1)) (c := ?_)) | refine KI ?_ | (refine KB ?_ ?_ <;> intro hp) | refine KG ?_ | fail)
      all_goals first | (exfalso; omega) | exact ret_vn rfl (by repeat first | exact rvs_nil | refine rvs_cons (by first | exact rv_tmp rfl | exact (RG 0 rfl rfl rfl rfl rfl) | exact (RG 1 rfl rfl rfl rfl rfl) | exact (RG 2 rfl rfl rfl rfl rfl) | exact (RG 3 rfl rfl rfl rfl rfl)) ?_) rfl rfl | (refine ret_vn rfl (by repeat first | exact rvs_nil | refine rvs_cons (by first | exact rv_tmp rfl | exact (RG 0 rfl rfl rfl rfl rfl) | exact (RG 1 rfl rfl rfl rfl rfl) | exact (RG 2 rfl rfl rfl rfl rfl) | exact (RG 3 rfl rfl rfl rfl rfl)) ?_) rfl ?_; rw [← hb2])
    rw [if_neg h116]
    by_cases h114 : c.toNat = 114
    · rw [if_pos h114, hE]
      repeat' (first | refine KO ?_ | (refine KV (b := by first | exact U2 (k + 1)) (c := ?_)) | refine KI ?_ | (refine KB ?_ ?_ <;> intro hp) | refine KG ?_ | fail)
      all_goals first | (exfalso; omega) | exact ret_vn rfl (by repeat first | exact rvs_nil | refine rvs_cons (by first | exact rv_tmp rfl | exact (RG 0 rfl rfl rfl rfl rfl) | exact (RG 1 rfl rfl rfl rfl rfl) | exact (RG 2 rfl rfl rfl rfl rfl) | exact (RG 3 rfl rfl rfl rfl rfl)) ?_) rfl rfl | (refine ret_vn rfl (by repeat first | exact rvs_nil | refine rvs_cons (by first | exact rv_tmp rfl | exact (RG 0 rfl rfl rfl rfl rfl) | exact (RG 1 rfl rfl rfl rfl rfl) | exact (RG 2 rfl rfl rfl rfl rfl) | exact (RG 3 rfl rfl rfl rfl rfl)) ?_) rfl ?_; rw [← hb2])
    rw [if_neg h114]
    by_cases h48 : c.toNat = 48
    · rw [if_pos h48, hE]
      repeat' (first | refine KO ?_ | (refine KV (b := by first | exact U2 (k + 1)) (c := ?_)) | refine KI ?_ | (refine KB ?_ ?_ <;> intro hp) | refine KG ?_ | fail)
      all_goals first | (exfalso; omega) | exact ret_vn rfl (by repeat first | exact rvs_nil | refine rvs_cons (by first | exact rv_tmp rfl | exact (RG 0 rfl rfl rfl rfl rfl) | exact (RG 1 rfl rfl rfl rfl rfl) | exact (RG 2 rfl rfl rfl rfl rfl) | exact (RG 3 rfl rfl rfl rfl rfl)) ?_) rfl rfl | (refine ret_vn rfl (by repeat first | exact rvs_nil | refine rvs_cons (by first | exact rv_tmp rfl | exact (RG 0 rfl rfl rfl rfl rfl) | exact (RG 1 rfl rfl rfl rfl rfl) | exact (RG 2 rfl rfl rfl rfl rfl) | exact (RG 3 rfl rfl rfl rfl rfl)) ?_) rfl ?_; rw [← hb2])
    rw [if_neg h48]
    by_cases hc : c.toNat = 92 ∨ c.toNat = 39 ∨ c.toNat = 34 ∨ c.toNat = 96 ∨ c.toNat = 36
    · rw [if_pos hc, hE, ← hb2]
      rcases hc with hc | hc | hc | hc | hc
      · repeat' (first | refine KO ?_ | (refine KV (b := by first | exact U2 (k + 1)) (c := ?_)) | refine KI ?_ | (refine KB ?_ ?_ <;> intro hp) | refine KG ?_ | fail)
        all_goals first | (exfalso; omega) | exact ret_vn rfl (by repeat first | exact rvs_nil | refine rvs_cons (by first | exact rv_tmp rfl | exact (RG 0 rfl rfl rfl rfl rfl) | exact (RG 1 rfl rfl rfl rfl rfl) | exact (RG 2 rfl rfl rfl rfl rfl) | exact (RG 3 rfl rfl rfl rfl rfl)) ?_) rfl rfl | (refine ret_vn rfl (by repeat first | exact rvs_nil | refine rvs_cons (by first | exact rv_tmp rfl | exact (RG 0 rfl rfl rfl rfl rfl) | exact (RG 1 rfl rfl rfl rfl rfl) | exact (RG 2 rfl rfl rfl rfl rfl) | exact (RG 3 rfl rfl rfl rfl rfl)) ?_) rfl ?_; rw [← hb2])
      · repeat' (first | refine KO ?_ | (refine KV (b := by first | exact U2 (k + 1)) (c := ?_)) | refine KI ?_ | (refine KB ?_ ?_ <;> intro hp) | refine KG ?_ | fail)
        all_goals first | (exfalso; omega) | exact ret_vn rfl (by repeat first | exact rvs_nil | refine rvs_cons (by first | exact rv_tmp rfl | exact (RG 0 rfl rfl rfl rfl rfl) | exact (RG 1 rfl rfl rfl rfl rfl) | exact (RG 2 rfl rfl rfl rfl rfl) | exact (RG 3 rfl rfl rfl rfl rfl)) ?_) rfl rfl | (refine ret_vn rfl (by repeat first | exact rvs_nil | refine rvs_cons (by first | exact rv_tmp rfl | exact (RG 0 rfl rfl rfl rfl rfl) | exact (RG 1 rfl rfl rfl rfl rfl) | exact (RG 2 rfl rfl rfl rfl rfl) | exact (RG 3 rfl rfl rfl rfl rfl)) ?_) rfl ?_; rw [← hb2])
      · repeat' (first | refine KO ?_ | (refine KV (b := by first | exact U2 (k + 1)) (c := ?_)) | refine KI ?_ | (refine KB ?_ ?_ <;> intro hp) | refine KG ?_ | fail)
        all_goals first | (exfalso; omega) | exact ret_vn rfl (by repeat first | exact rvs_nil | refine rvs_cons (by first | exact rv_tmp rfl | exact (RG 0 rfl rfl rfl rfl rfl) | exact (RG 1 rfl rfl rfl rfl rfl) | exact (RG 2 rfl rfl rfl rfl rfl) | exact (RG 3 rfl rfl rfl rfl rfl)) ?_) rfl rfl | (refine ret_vn rfl (by repeat first | exact rvs_nil | refine rvs_cons (by first | exact rv_tmp rfl | exact (RG 0 rfl rfl rfl rfl rfl) | exact (RG 1 rfl rfl rfl rfl rfl) | exact (RG 2 rfl rfl rfl rfl rfl) | exact (RG 3 rfl rfl rfl rfl rfl)) ?_) rfl ?_; rw [← hb2])
      · repeat' (first | refine KO ?_ | (refine KV (b := by first | exact U2 (k + 1)) (c := ?_)) | refine KI ?_ | (refine KB ?_ ?_ <;> intro hp) | refine KG ?_ | fail)
        all_goals first | (exfalso; omega) | exact ret_vn rfl (by repeat first | exact rvs_nil | refine rvs_cons (by first | exact rv_tmp rfl | exact (RG 0 rfl rfl rfl rfl rfl) | exact (RG 1 rfl rfl rfl rfl rfl) | exact (RG 2 rfl rfl rfl rfl rfl) | exact (RG 3 rfl rfl rfl rfl rfl)) ?_) rfl rfl | (refine ret_vn rfl (by repeat first | exact rvs_nil | refine rvs_cons (by first | exact rv_tmp rfl | exact (RG 0 rfl rfl rfl rfl rfl) | exact (RG 1 rfl rfl rfl rfl rfl) | exact (RG 2 rfl rfl rfl rfl rfl) | exact (RG 3 rfl rfl rfl rfl rfl)) ?_) rfl ?_; rw [← hb2])
      · repeat' (first | refine KO ?_ | (refine KV (b := by first | exact U2 (k + 1)) (c := ?_)) | refine KI ?_ | (refine KB ?_ ?_ <;> intro hp) | refine KG ?_ | fail)
        all_goals first | (exfalso; omega) | exact ret_vn rfl (by repeat first | exact rvs_nil | refine rvs_cons (by first | exact rv_tmp rfl | exact (RG 0 rfl rfl rfl rfl rfl) | exact (RG 1 rfl rfl rfl rfl rfl) | exact (RG 2 rfl rfl rfl rfl rfl) | exact (RG 3 rfl rfl rfl rfl rfl)) ?_) rfl rfl | (refine ret_vn rfl (by repeat first | exact rvs_nil | refine rvs_cons (by first | exact rv_tmp rfl | exact (RG 0 rfl rfl rfl rfl rfl) | exact (RG 1 rfl rfl rfl rfl rfl) | exact (RG 2 rfl rfl rfl rfl rfl) | exact (RG 3 rfl rfl rfl rfl rfl)) ?_) rfl ?_; rw [← hb2])
    rw [if_neg hc]
    by_cases h120 : c.toNat = 120
    · rw [if_pos h120]
      have hbb := fun (w : World) (μ : Mem) (hμ : MOk μ w) => byByte_spec s hs (k + 1 + 1) (by omega) w μ hμ
      have hk2 : ((k : Int) + 2) = ((k + 1 + 1 : Nat) : Int) := by omega
      cases hx : hex2 ((bl s).drop (k + 1 + 1)) with
      | error e =>
        rw [hx] at hbb
        unfold oneV at hbb ⊢
        dsimp only at hbb ⊢
        repeat' (first | refine KO ?_ | ((with_reducible apply F1 168); exact rfl; exact EN; (exact fun w μc hw hse => by rw [hk2]; exact hbb w μc hw)) | (refine KV (b := by first | exact U2 (k + 1)) (c := ?_)) | refine KI ?_ | (refine KB ?_ ?_ <;> intro hp) | refine KG ?_ | fail)
        all_goals first | (exfalso; omega) | exact ret_vn rfl (by repeat first | exact rvs_nil | refine rvs_cons (by first | exact rv_tmp rfl | exact (RG 0 rfl rfl rfl rfl rfl) | exact (RG 1 rfl rfl rfl rfl rfl) | exact (RG 2 rfl rfl rfl rfl rfl) | exact (RG 3 rfl rfl rfl rfl rfl)) ?_) rfl rfl | (refine ret_vn rfl (by repeat first | exact rvs_nil | refine rvs_cons (by first | exact rv_tmp rfl | exact (RG 0 rfl rfl rfl rfl rfl) | exact (RG 1 rfl rfl rfl rfl rfl) | exact (RG 2 rfl rfl rfl rfl rfl) | exact (RG 3 rfl rfl rfl rfl rfl)) ?_) rfl ?_; rw [← hb2])
      | ok p =>
        obtain ⟨b0, u0⟩ := p
        rw [hx] at hbb
        unfold oneV at hbb ⊢
        dsimp only at hbb ⊢
        repeat' (first | refine KO ?_ | ((with_reducible apply F1 168); exact rfl; exact EN; (exact fun w μc hw hse => by rw [hk2]; exact hbb w μc hw)) | (refine KV (b := by first | exact U2 (k + 1)) (c := ?_)) | refine KI ?_ | (refine KB ?_ ?_ <;> intro hp) | refine KG ?_ | fail)
        all_goals first | (exfalso; omega) | exact ret_vn rfl (by repeat first | exact rvs_nil | refine rvs_cons (by first | exact rv_tmp rfl | exact (RG 0 rfl rfl rfl rfl rfl) | exact (RG 1 rfl rfl rfl rfl rfl) | exact (RG 2 rfl rfl rfl rfl rfl) | exact (RG 3 rfl rfl rfl rfl rfl)) ?_) rfl rfl | (refine ret_vn rfl (by repeat first | exact rvs_nil | refine rvs_cons (by first | exact rv_tmp rfl | exact (RG 0 rfl rfl rfl rfl rfl) | exact (RG 1 rfl rfl rfl rfl rfl) | exact (RG 2 rfl rfl rfl rfl rfl) | exact (RG 3 rfl rfl rfl rfl rfl)) ?_) rfl ?_; rw [← hb2])
    rw [if_neg h120]
    repeat' (first | refine KO ?_ | (refine KV (b := by first | exact U2 (k + 1)) (c := ?_)) | refine KI ?_ | (refine KB ?_ ?_ <;> intro hp) | refine KG ?_ | fail)
    all_goals first | (exfalso; omega) | exact ret_vn rfl (by repeat first | exact rvs_nil | refine rvs_cons (by first | exact rv_tmp rfl | exact (RG 0 rfl rfl rfl rfl rfl) | exact (RG 1 rfl rfl rfl rfl rfl) | exact (RG 2 rfl rfl rfl rfl rfl) | exact (RG 3 rfl rfl rfl rfl rfl)) ?_) rfl rfl | (refine ret_vn rfl (by repeat first | exact rvs_nil | refine rvs_cons (by first | exact rv_tmp rfl | exact (RG 0 rfl rfl rfl rfl rfl) | exact (RG 1 rfl rfl rfl rfl rfl) | exact (RG 2 rfl rfl rfl rfl rfl) | exact (RG 3 rfl rfl rfl rfl rfl)) ?_) rfl ?_; rw [← hb2])
  · have hd : (bl s).drop (k + 1) = [] := List.drop_eq_nil_of_le (by rw [bl_len]; omega)
    rw [hd]
    repeat' (first | refine KK ?_ | (refine KB ?_ ?_ <;> intro hp) | refine KG ?_ | fail)
    all_goals first | (exfalso; omega) | exact ret_vn rfl (by repeat first | exact rvs_nil | refine rvs_cons (by first | exact rv_tmp rfl | exact (RG 0 rfl rfl rfl rfl rfl) | exact (RG 1 rfl rfl rfl rfl rfl) | exact (RG 2 rfl rfl rfl rfl rfl) | exact (RG 3 rfl rfl rfl rfl rfl)) ?_) rfl rfl | (refine ret_vn rfl (by repeat first | exact rvs_nil | refine rvs_cons (by first | exact rv_tmp rfl | exact (RG 0 rfl rfl rfl rfl rfl) | exact (RG 1 rfl rfl rfl rfl rfl) | exact (RG 2 rfl rfl rfl rfl rfl) | exact (RG 3 rfl rfl rfl rfl rfl)) ?_) rfl ?_; rw [← hb2])
theorem lone_spec (s : ByteArray) (hs : s.size ≤ 1000000) (k : Nat) (c : UInt8) (hk : k < s.size) (hb1 : (bl s)[k]? = some c) (hb2 : bAt s k = c.toNat) (w : World) (μ : Mem) (hμ : MOk μ w) :
    Calls Tryz.prog 128 #[.string s, .int .i64 k] w fun e w' => e = .returned (.tuple (oneV s.size (oneB c ((bl s).drop (k + 1)))).toArray) ∧ Below w.heap.size w w' := by
  refine call_intro (args := [.string s, .int .i64 k]) Tryz.func128 rfl Tryz.ntmps128 (by simp) hμ ?_
  by_cases h92 : c.toNat = 92
  · have hc : c = 92 := UInt8.toNat_inj.1 h92
    have hes := fun (w : World) (μ : Mem) (hμ : MOk μ w) => escape_spec s hs k hk w μ hμ
    unfold oneB
    rw [if_pos hc]
    cases hx : escB ((bl s).drop (k + 1)) with
    | error e =>
      rw [hx] at hes
      unfold oneV at hes ⊢
      dsimp only at hes ⊢
      repeat' (first | refine KO ?_ | ((with_reducible apply F1 152); exact rfl; exact EN; (exact fun w μc hw hse => hes w μc hw)) | (refine KV (b := by first | exact U2 k) (c := ?_)) | refine KI ?_ | (refine KB ?_ ?_ <;> intro hp) | refine KG ?_ | fail)
      all_goals first | (exfalso; omega) | exact ret_vn rfl (by repeat first | exact rvs_nil | refine rvs_cons (by first | exact rv_tmp rfl | exact (RG 0 rfl rfl rfl rfl rfl) | exact (RG 1 rfl rfl rfl rfl rfl) | exact (RG 2 rfl rfl rfl rfl rfl) | exact (RG 3 rfl rfl rfl rfl rfl)) ?_) rfl rfl | (refine ret_vn rfl (by repeat first | exact rvs_nil | refine rvs_cons (by first | exact rv_tmp rfl | exact (RG 0 rfl rfl rfl rfl rfl) | exact (RG 1 rfl rfl rfl rfl rfl) | exact (RG 2 rfl rfl rfl rfl rfl) | exact (RG 3 rfl rfl rfl rfl rfl)) ?_) rfl ?_; rw [← hb2])
    | ok p =>
      obtain ⟨b0, u0⟩ := p
      rw [hx] at hes
      unfold oneV at hes ⊢
      dsimp only at hes ⊢
      repeat' (first | refine KO ?_ | ((with_reducible apply F1 152); exact rfl; exact EN; (exact fun w μc hw hse => hes w μc hw)) | (refine KV (b := by first | exact U2 k) (c := ?_)) | refine KI ?_ | (refine KB ?_ ?_ <;> intro hp) | refine KG ?_ | fail)
      all_goals first | (exfalso; omega) | exact ret_vn rfl (by repeat first | exact rvs_nil | refine rvs_cons (by first | exact rv_tmp rfl | exact (RG 0 rfl rfl rfl rfl rfl) | exact (RG 1 rfl rfl rfl rfl rfl) | exact (RG 2 rfl rfl rfl rfl rfl) | exact (RG 3 rfl rfl rfl rfl rfl)) ?_) rfl rfl | (refine ret_vn rfl (by repeat first | exact rvs_nil | refine rvs_cons (by first | exact rv_tmp rfl | exact (RG 0 rfl rfl rfl rfl rfl) | exact (RG 1 rfl rfl rfl rfl rfl) | exact (RG 2 rfl rfl rfl rfl rfl) | exact (RG 3 rfl rfl rfl rfl rfl)) ?_) rfl ?_; rw [← hb2])
  · have hc : ¬ c = 92 := fun h => h92 (by rw [h]; rfl)
    have hE : oneV s.size (oneB c ((bl s).drop (k + 1))) = [.int .u8 c.toNat, .int .i64 ((k : Int) + 1), .int .i64 0] := by
      unfold oneB
      rw [if_neg hc]
      unfold oneV
      dsimp only
      rw [drop_n, show ((s.size - (s.size - (k + 1)) : Nat) : Int) = (k : Int) + 1 by omega]
    rw [hE, ← hb2]
    repeat' (first | refine KO ?_ | (refine KV (b := by first | exact U2 k) (c := ?_)) | refine KI ?_ | (refine KB ?_ ?_ <;> intro hp) | refine KG ?_ | fail)
    all_goals first | (exfalso; omega) | exact ret_vn rfl (by repeat first | exact rvs_nil | refine rvs_cons (by first | exact rv_tmp rfl | exact (RG 0 rfl rfl rfl rfl rfl) | exact (RG 1 rfl rfl rfl rfl rfl) | exact (RG 2 rfl rfl rfl rfl rfl) | exact (RG 3 rfl rfl rfl rfl rfl)) ?_) rfl rfl | (refine ret_vn rfl (by repeat first | exact rvs_nil | refine rvs_cons (by first | exact rv_tmp rfl | exact (RG 0 rfl rfl rfl rfl rfl) | exact (RG 1 rfl rfl rfl rfl rfl) | exact (RG 2 rfl rfl rfl rfl rfl) | exact (RG 3 rfl rfl rfl rfl rfl)) ?_) rfl ?_; rw [← hb2])
end Go.Proofs.YtoclmkdfcafhfaaGreatDoor
