/- Decimal numerals -/
import Derived.Test.YtoclmkdfcafhfaaGreatDoorQbg
import Derived.Lib.AppendIntMem
import Derived.Lib.LaidU8
import Derived.Lib.LaidTab
import Derived.Lib.OthersKept
import Derived.Shelf.Strings.Builder1
set_option maxRecDepth 20000
set_option maxHeartbeats 2000000
namespace Go.Proofs.YtoclmkdfcafhfaaGreatDoor
section
open Go.RowKit Go.Vcg
def tabName : String := ((Rows.irKindsRow.laid[2]?).map (·.1)).getD ""
def TabOk (μ : Mem) : Prop := ∀ w, MOk μ w → Lib.TabIs Tryz.prog w tabName .u64 Lib.pow10Tab
theorem TabOk.mono {μ μ' : Mem} (h : TabOk μ) (hle : MLe μ μ') : TabOk μ' := fun w hw => h w (fun b o e => hw b o (hle b o e))
def nanS : ByteArray := ⟨#[78, 97, 78]⟩
def textF (v : V) : ByteArray := if wholeF v = true then ⟨(Lib.itoa v.n).toArray⟩ else nanS
attribute [local irreducible] G GC GQ GA GAop Calls IntKind.wrap Int.decLt Int.decLe
theorem itoa_spec (n : Int) (hn : -9007199254740992 ≤ n ∧ n ≤ 9007199254740992) (w : World) (ht : Lib.TabIs Tryz.prog w tabName .u64 Lib.pow10Tab) :
    Calls Tryz.prog 91 #[.int .i64 n] w fun e w' => e = .returned (.string ⟨(Lib.itoa n).toArray⟩) ∧ Below w.heap.size w w' :=
  (Any.strconv_Itoa Tryz.laysM171 n (by omega) (by omega) w ht).mono fun e w' ⟨he, k, os, hw⟩ => ⟨he, by rw [hw]; exact Lib.below_grow _ w (Nat.le_refl _) k os⟩
section
variable (w : World) (μ : Mem) (hμ : MOk μ w) (ht : TabOk μ)
include hμ ht
theorem text_spec (v : V) : Calls Tryz.prog 61 #[.agg (encV v).toArray] w fun e w' => e = .returned (.string (textF v)) ∧ Below w.heap.size w w' := by
  refine call_intro Tryz.func61 rfl Tryz.ntmps61 (by simp) hμ ?_
  cases hw : wholeF v
  · have hF : textF v = nanS := by unfold textF; rw [if_neg (by simp [hw])]
    rw [hF]
    repeat' (first | refine KO ?_ | ((with_reducible apply F1 90); exact rfl; exact EN; exact fun w μc hw' hse => whole_at w μc hw' v hw) | refine KI ?_ | refine NB fun b => ?_ | (refine KB ?_ ?_ <;> intro hp) | refine KG ?_ | fail)
    exact ret_s rfl rfl rfl
  · have hF : textF v = ⟨(Lib.itoa v.n).toArray⟩ := by unfold textF; rw [if_pos hw]
    rw [hF]
    have hn := wholeF_n hw
    repeat' (first | refine KO ?_ | ((with_reducible apply F1 90); exact rfl; exact EN; exact fun w μc hw' hse => whole_at w μc hw' v hw) | ((with_reducible apply F1 91); exact rfl; exact EN; exact fun w μc hw' hse => itoa_spec v.n hn w ((ht.mono hse.le) w hw')) | refine KI ?_ | refine NB fun b => ?_ | (refine KB ?_ ?_ <;> intro hp) | refine KG ?_ | fail)
    exact ret_s rfl rfl rfl
end
end
section
open Go.RowKit Go.Vcg
theorem isF_cases (v : V) : isF v = (decide (v.s = ⟨#[]⟩) && ((decide (v.k = 3) && inF v.n) || (decide (v.k = 4) && decide (v.n = 0)))) := by
  cases v
  rw [Bool.eq_iff_iff]
  simp only [isF, wholeF, eqVs, eqV, nanV, noS, Bool.or_eq_true, Bool.and_eq_true, decide_eq_true_eq]
  constructor
  · rintro (⟨h1, h2, h3⟩ | ⟨h1, h2, h3, _⟩)
    · exact ⟨h2, .inl ⟨h1, h3⟩⟩
    · exact ⟨of_decide_eq_true h3, .inr ⟨of_decide_eq_true h1, of_decide_eq_true h2⟩⟩
  · rintro ⟨h1, ⟨h2, h3⟩ | ⟨h2, h3⟩⟩
    · exact .inl ⟨h2, h1, h3⟩
    · exact .inr ⟨decide_eq_true h2, decide_eq_true h3, decide_eq_true h1, trivial⟩
theorem isF_whole (v : V) : (isF v && decide (v.k = 3)) = wholeF v := by
  rw [isF_cases]
  unfold wholeF
  rw [Bool.eq_iff_iff]
  simp only [Bool.or_eq_true, Bool.and_eq_true, decide_eq_true_eq]
  constructor
  · rintro ⟨⟨h1, ⟨h2, h3⟩ | ⟨h2, h3⟩⟩, h4⟩
    · exact ⟨h2, h1, h3⟩
    · omega
  · rintro ⟨h1, h2, h3⟩
    exact ⟨⟨h2, .inl ⟨h1, h3⟩⟩, h1⟩
theorem digits_len (n : Nat) : (Lib.decDigits n).length ≤ n + 1 := by
  induction n using Nat.strongRecOn with
  | _ n ih =>
    rw [Lib.decDigits]
    split
    · simp
    · have := ih (n / 10) (by omega)
      simp; omega
def tenS : ByteArray := ⟨#[48, 49, 50, 51, 52, 53, 54, 55, 56, 57]⟩
theorem ten_at (k : Nat) (h : k < 10) : tenS.extract k (k + 1) = ⟨#[UInt8.ofNat (48 + k)]⟩ := by
  have : k = 0 ∨ k = 1 ∨ k = 2 ∨ k = 3 ∨ k = 4 ∨ k = 5 ∨ k = 6 ∨ k = 7 ∨ k = 8 ∨ k = 9 := by omega
  rcases this with rfl | rfl | rfl | rfl | rfl | rfl | rfl | rfl | rfl | rfl <;> rfl
theorem append_bytes (a b : List UInt8) : (⟨a.toArray⟩ : ByteArray) ++ (⟨b.toArray⟩ : ByteArray) = ⟨(a ++ b).toArray⟩ := by
  apply bl_inj
  simp [bl, ByteArray.data_append]
attribute [local irreducible] G GC GQ GA GAop Calls IntKind.wrap Int.decLt Int.decLe
section
variable (w : World) (μ : Mem) (hμ : MOk μ w)
include hμ
theorem refIs_spec (v : V) : Calls Tryz.prog 130 #[.agg (encV v).toArray] w fun e w' => e = .returned (.bool (isF v)) ∧ Below w.heap.size w w' := by
  refine call_intro Tryz.func130 rfl Tryz.ntmps130 (by simp) hμ ?_
  rw [isF_cases]
  unfold inF
  repeat' (first | refine KK ?_ | refine NB fun b => ?_ | (refine KB ?_ ?_ <;> intro hp) | refine KG ?_ | fail)
  all_goals refine ret_s rfl rfl ?_
  all_goals first | (simp_all; done) | (simp_all; omega)
theorem refSome_spec (v : V) : Calls Tryz.prog 99 #[.agg (encV v).toArray] w fun e w' => e = .returned (.bool (wholeF v)) ∧ Below w.heap.size w w' := by
  refine call_intro Tryz.func99 rfl Tryz.ntmps99 (by simp) hμ ?_
  rw [← isF_whole]
  repeat' (first | refine KO ?_ | ((with_reducible apply C1); exact rfl; exact EN; exact fun w μc hw hse => refIs_spec w μc hw v) | refine KI ?_ | refine NB fun b => ?_ | (refine KB ?_ ?_ <;> intro hp) | refine KG ?_ | fail)
  all_goals refine ret_s rfl rfl ?_
  all_goals simp [hp]
theorem some_at (v : V) {c : Bool} (h : wholeF v = c) : Calls Tryz.prog 99 #[.agg (encV v).toArray] w fun e w' => e = .returned (.bool c) ∧ Below w.heap.size w w' := by
  have := refSome_spec w μ hμ v
  rwa [h] at this
end
theorem digits_spec (n : Nat) : n ≤ 9007199254740992 → ∀ (w : World) (μ : Mem), MOk μ w → Calls Tryz.prog 100 #[.int .i64 n] w fun e w' => e = .returned (.string ⟨(Lib.decDigits n).toArray⟩) ∧ Below w.heap.size w w' := by
  induction n using Nat.strongRecOn with
  | _ n ih =>
    intro hn w μ hμ
    refine call_intro Tryz.func100 rfl Tryz.ntmps100 (by simp) hμ ?_
    by_cases h10 : n < 10
    · have hF : (⟨(Lib.decDigits n).toArray⟩ : ByteArray) = tenS.extract n (n + 1) := by rw [ten_at n h10, Lib.decDigits, dif_pos h10]
      rw [hF]
      have hts : tenS.size = 10 := rfl
      repeat' (first | refine KO ?_ | (refine KV (b := by first | ((with_reducible apply v_str_both (b := tenS) n (n + 1)); exact rfl; exact rfl; exact rfl; exact rfl; exact rfl; (first | exact rfl | omega); omega; omega)) (c := ?_)) | refine KI ?_ | (refine KB ?_ ?_ <;> intro hp) | refine KG ?_ | fail)
      exact ret_s rfl rfl rfl
    · have hF : (⟨(Lib.decDigits n).toArray⟩ : ByteArray) = (⟨(Lib.decDigits (n / 10)).toArray⟩ : ByteArray) ++ tenS.extract (n % 10) (n % 10 + 1) := by
        rw [ten_at (n % 10) (by omega), Lib.decDigits, dif_neg h10, ← append_bytes]
      rw [hF]
      have hts : tenS.size = 10 := rfl
      have hl := digits_len (n / 10)
      have hsz : (⟨(Lib.decDigits (n / 10)).toArray⟩ : ByteArray).size + (tenS.extract (n % 10) (n % 10 + 1)).size ≤ 9223372036854775807 := by
        have h1 : (⟨(Lib.decDigits (n / 10)).toArray⟩ : ByteArray).size = (Lib.decDigits (n / 10)).length := by simp [ByteArray.size]
        rw [h1, ten_at (n % 10) (by omega)]
        have h2 : (⟨#[UInt8.ofNat (48 + n % 10)]⟩ : ByteArray).size = 1 := rfl
        omega
      have hq : (n : Int).tdiv 10 = ((n / 10 : Nat) : Int) := rfl
      have hr : (n : Int).tmod 10 = ((n % 10 : Nat) : Int) := rfl
      have hqb : -9223372036854775808 ≤ (n : Int).tdiv 10 ∧ (n : Int).tdiv 10 ≤ 9223372036854775807 := by rw [hq]; omega
      repeat' (first | refine KK ?_ | (refine KB ?_ ?_ <;> intro hp) | refine KG ?_ | fail)
      refine gc_draw 12 (_) (by kernel_rfl) rfl (by first | exact List.Sublist.refl _ | simp) ?_
      all_goals refine DD 0 ?_
      all_goals (first | refine D1 1 ?_ | (refine DV (k := 1) (b := by first | ((with_reducible apply v_str_both (b := tenS) (n % 10) (n % 10 + 1)); exact rfl; exact rfl; exact rfl; exact hr; exact rfl; (rw [hr]; rfl); omega; omega) | ((with_reducible apply v_sadd); exact rfl; exact rfl; exact hsz)) (c := ?_)) | refine DD 1 ?_ | fail)
      all_goals refine DD 3 ?_
      all_goals refine DD 4 ?_
      all_goals (first | refine D1 5 ?_ | (refine DV (k := 5) (b := by first | ((with_reducible apply v_str_both (b := tenS) (n % 10) (n % 10 + 1)); exact rfl; exact rfl; exact rfl; exact hr; exact rfl; (rw [hr]; rfl); omega; omega) | ((with_reducible apply v_sadd); exact rfl; exact rfl; exact hsz)) (c := ?_)) | refine DD 5 ?_ | fail)
      all_goals refine DD 6 ?_
      all_goals (first | refine D1 7 ?_ | (refine DV (k := 7) (b := by first | ((with_reducible apply v_str_both (b := tenS) (n % 10) (n % 10 + 1)); exact rfl; exact rfl; exact rfl; exact hr; exact rfl; (rw [hr]; rfl); omega; omega) | ((with_reducible apply v_sadd); exact rfl; exact rfl; exact hsz)) (c := ?_)) | refine DD 7 ?_ | fail)
      all_goals (first | refine D1 8 ?_ | (refine DV (k := 8) (b := by first | ((with_reducible apply v_str_both (b := tenS) (n % 10) (n % 10 + 1)); exact rfl; exact rfl; exact rfl; exact hr; exact rfl; (rw [hr]; rfl); omega; omega) | ((with_reducible apply v_sadd); exact rfl; exact rfl; exact hsz)) (c := ?_)) | refine DD 8 ?_ | fail)
      all_goals (first | refine D1 9 ?_ | (refine DV (k := 9) (b := by first | ((with_reducible apply v_str_both (b := tenS) (n % 10) (n % 10 + 1)); exact rfl; exact rfl; exact rfl; exact hr; exact rfl; (rw [hr]; rfl); omega; omega) | ((with_reducible apply v_sadd); exact rfl; exact rfl; exact hsz)) (c := ?_)) | refine DD 9 ?_ | fail)
      all_goals (first | (refine D3 2 ?_; refine D5 ?_; (with_reducible apply C1); exact rfl; exact EN; exact fun w μc hw hse => ih (n / 10) (by omega) (by omega) w μc hw; refine D9 ?_))
      all_goals (first | refine D1 10 ?_ | (refine DV (k := 10) (b := by first | ((with_reducible apply v_str_both (b := tenS) (n % 10) (n % 10 + 1)); exact rfl; exact rfl; exact rfl; exact hr; exact rfl; (rw [hr]; rfl); omega; omega) | ((with_reducible apply v_sadd); exact rfl; exact rfl; exact hsz)) (c := ?_)) | refine DD 10 ?_ | fail)
      all_goals refine DD 11 ?_
      all_goals refine D8 ?_
      repeat' (first | refine KK ?_ | (refine KB ?_ ?_ <;> intro hp) | refine KG ?_ | fail)
      exact ret_s rfl rfl rfl
end
section
open Go.RowKit Go.Vcg
attribute [local irreducible] G GC GQ GA GAop Calls IntKind.wrap Int.decLt Int.decLe
section
variable (w : World) (μ : Mem) (hμ : MOk μ w)
include hμ
theorem refText_spec (v : V) : Calls Tryz.prog 67 #[.agg (encV v).toArray] w fun e w' => e = .returned (.string (textF v)) ∧ Below w.heap.size w w' := by
  refine call_intro Tryz.func67 rfl Tryz.ntmps67 (by simp) hμ ?_
  cases hw : wholeF v
  · have hF : textF v = nanS := by unfold textF; rw [if_neg (by simp [hw])]
    rw [hF]
    repeat' (first | refine KO ?_ | ((with_reducible apply F1 99); exact rfl; exact EN; exact fun w μc hw' hse => some_at w μc hw' v hw) | refine KI ?_ | refine NB fun b => ?_ | (refine KB ?_ ?_ <;> intro hp) | refine KG ?_ | fail)
    exact ret_s rfl rfl rfl
  · have hn := wholeF_n hw
    by_cases h0 : v.n < 0
    · have hF : textF v = (⟨#[45]⟩ : ByteArray) ++ (⟨(Lib.decDigits (-v.n).toNat).toArray⟩ : ByteArray) := by
        unfold textF; rw [if_pos hw]
        unfold Lib.itoa; rw [if_pos h0]
        have : v.n.natAbs = (-v.n).toNat := by omega
        rw [this]
        exact (append_bytes [45] _).symm
      rw [hF]
      have hd : -v.n = (((-v.n).toNat : Nat) : Int) := by omega
      have hl := digits_len (-v.n).toNat
      have hsz : (⟨#[45]⟩ : ByteArray).size + (⟨(Lib.decDigits (-v.n).toNat).toArray⟩ : ByteArray).size ≤ 9223372036854775807 := by
        have h1 : (⟨(Lib.decDigits (-v.n).toNat).toArray⟩ : ByteArray).size = (Lib.decDigits (-v.n).toNat).length := by simp [ByteArray.size]
        have h2 : (⟨#[45]⟩ : ByteArray).size = 1 := rfl
        omega
      have hdig : ∀ (w : World) (μ : Mem), MOk μ w → Calls Tryz.prog 100 #[.int .i64 (-v.n)] w fun e w' => e = .returned (.string ⟨(Lib.decDigits (-v.n).toNat).toArray⟩) ∧ Below w.heap.size w w' := fun w μ hμ => by
        have := digits_spec (-v.n).toNat (by omega) w μ hμ
        rw [← hd] at this
        exact this
      repeat' (first | refine KO ?_ | ((with_reducible apply F1 99); exact rfl; exact EN; exact fun w μc hw' hse => some_at w μc hw' v hw) | ((with_reducible apply F1 100); exact rfl; exact EN; exact fun w μc hw' hse => hdig w μc hw') | (refine KV (b := by first | ((with_reducible apply v_sadd); exact rfl; exact rfl; exact hsz)) (c := ?_)) | refine KI ?_ | refine NB fun b => ?_ | (refine KB ?_ ?_ <;> intro hp) | refine KG ?_ | fail)
      exact ret_s rfl rfl rfl
    · have hF : textF v = ⟨(Lib.decDigits v.n.toNat).toArray⟩ := by
        unfold textF; rw [if_pos hw]
        unfold Lib.itoa; rw [if_neg h0]
      rw [hF]
      have hd : v.n = ((v.n.toNat : Nat) : Int) := by omega
      have hdig : ∀ (w : World) (μ : Mem), MOk μ w → Calls Tryz.prog 100 #[.int .i64 v.n] w fun e w' => e = .returned (.string ⟨(Lib.decDigits v.n.toNat).toArray⟩) ∧ Below w.heap.size w w' := fun w μ hμ => by
        have := digits_spec v.n.toNat (by omega) w μ hμ
        rw [← hd] at this
        exact this
      repeat' (first | refine KO ?_ | ((with_reducible apply F1 99); exact rfl; exact EN; exact fun w μc hw' hse => some_at w μc hw' v hw) | ((with_reducible apply F1 100); exact rfl; exact EN; exact fun w μc hw' hse => hdig w μc hw') | refine KI ?_ | refine NB fun b => ?_ | (refine KB ?_ ?_ <;> intro hp) | refine KG ?_ | fail)
      exact ret_s rfl rfl rfl
end
end
section
open Go.RowKit Go.Vcg
end
end Go.Proofs.YtoclmkdfcafhfaaGreatDoor
namespace Go.Proofs
open Go.Shelf Go.RowKit Go.Lib
section
variable {P : Program} {ρ : Ren}
set_option maxHeartbeats 2000000 in
set_option maxRecDepth 100000 in
set_option maxHeartbeats 2000000 in
set_option maxRecDepth 100000 in
end
end Go.Proofs
namespace Go.Proofs.YtoclmkdfcafhfaaGreatDoor
open Go.Shelf Go.RowKit Go.Vcg
def bRen : Ren := ⟨fun | 166 => 70 | 167 => 72 | 240 => 103 | 276 => 132 | n => n, fun | 37 => 73 | 70 => 72 | 72 => 75 | 75 => 106 | 80 => 58 | 164 => 154 | n => n, fun n => n⟩
theorem bLays166 : Lays.n166 Tryz.prog bRen := {
  mixed := by kernel_rfl
  f166 := Tryz.func70.trans (congrArg some (by kernel_rfl))
  f240 := Tryz.func103.trans (congrArg some (by kernel_rfl))
  f276 := Tryz.func132.trans (congrArg some (by kernel_rfl))
  t0 := by kernel_rfl
  a0 := Go.Vcg.run_isAgg (by kernel_rfl)
  z0 := Go.Vcg.run_sizeOf (by kernel_rfl)
  v0 := Go.Vcg.run_zeroValue (by kernel_rfl)
  t3 := by kernel_rfl
  a3 := Go.Vcg.run_isAgg (by kernel_rfl)
  z3 := Go.Vcg.run_sizeOf (by kernel_rfl)
  v3 := Go.Vcg.run_zeroValue (by kernel_rfl)
  t4 := by kernel_rfl
  a4 := Go.Vcg.run_isAgg (by kernel_rfl)
  z4 := Go.Vcg.run_sizeOf (by kernel_rfl)
  v4 := Go.Vcg.run_zeroValue (by kernel_rfl)
  t9 := by kernel_rfl
  a9 := Go.Vcg.run_isAgg (by kernel_rfl)
  z9 := Go.Vcg.run_sizeOf (by kernel_rfl)
  v9 := Go.Vcg.run_zeroValue (by kernel_rfl)
  t20 := by kernel_rfl
  a20 := Go.Vcg.run_isAgg (by kernel_rfl)
  z20 := Go.Vcg.run_sizeOf (by kernel_rfl)
  v20 := Go.Vcg.run_zeroValue (by kernel_rfl)
  t37 := by kernel_rfl
  a37 := Go.Vcg.run_isAgg (by kernel_rfl)
  z37 := Go.Vcg.run_sizeOf (by kernel_rfl)
  v37 := Go.Vcg.run_zeroValue (by kernel_rfl)
  t70 := by kernel_rfl
  a70 := Go.Vcg.run_isAgg (by kernel_rfl)
  z70 := Go.Vcg.run_sizeOf (by kernel_rfl)
  v70 := Go.Vcg.run_zeroValue (by kernel_rfl)
  t72 := by kernel_rfl
  a72 := Go.Vcg.run_isAgg (by kernel_rfl)
  z72 := Go.Vcg.run_sizeOf (by kernel_rfl)
  v72 := Go.Vcg.run_zeroValue (by kernel_rfl)
  t75 := by kernel_rfl
  a75 := Go.Vcg.run_isAgg (by kernel_rfl)
  z75 := Go.Vcg.run_sizeOf (by kernel_rfl)
  v75 := Go.Vcg.run_zeroValue (by kernel_rfl)
  t164 := by kernel_rfl
  a164 := Go.Vcg.run_isAgg (by kernel_rfl)
  z164 := Go.Vcg.run_sizeOf (by kernel_rfl)
  v164 := Go.Vcg.run_zeroValue (by kernel_rfl) }
theorem bldExtra : Builder.Extra Tryz.prog bRen := {
  sizeBuilder := by kernel_rfl
  liesBuilder := by kernel_rfl
  t5 := by kernel_rfl
  a5 := Go.Vcg.run_isAgg (by kernel_rfl)
  z5 := Go.Vcg.run_sizeOf (by kernel_rfl)
  v5 := Go.Vcg.run_zeroValue (by kernel_rfl)
  infoByte := by kernel_rfl
  cellsByte := by kernel_rfl
  sizeByte := by kernel_rfl
  neB5 := by decide }
end Go.Proofs.YtoclmkdfcafhfaaGreatDoor
namespace Go.Vcg
section
open Go.RowKit
section
variable {P : Program} {X : Ctx} {ops : Array Oper} {Q : Exit → Act → World → Prop} {rest : List Oper} {μ : Mem} {l : Slots} {L : List Bk} {a : Act} {w : World} {o : Oper}
def NotRow (u : TypeId) : List Bk → Bool
  | [] => true
  | .inl x :: r => !(Nat.beq x.t u) && NotRow u r
  | _ :: _ => false
theorem NotRow.at {u : TypeId} : ∀ {L : List Bk}, NotRow u L = true → ∀ x ∈ L, ∃ y : Blk, x = .inl y ∧ y.t ≠ u
  | .inl y :: r, h, x, hx => by
    simp only [NotRow, Bool.and_eq_true, Bool.not_eq_true'] at h
    rcases List.mem_cons.1 hx with rfl | hx
    · exact ⟨y, rfl, Nat.ne_of_beq_eq_false h.1⟩
    · exact NotRow.at h.2 x hx
  | .inr _ :: _, h, _, _ => by simp [NotRow] at h
  | .mp _ :: _, h, _, _ => by simp [NotRow] at h
  | .it _ _ _ _ _ :: _, h, _, _ => by simp [NotRow] at h
theorem St.build {T u : TypeId} {k : Nat} {p v : Value} {bs : List Value} {Lr : List Bk} (h : St X μ l (.inl ⟨k, T, 2, [(0, p), (1, v)]⟩ :: .inr ⟨v, u, 1, bs.length, bs⟩ :: Lr) a w) (hM : X.M = []) (hTu : T ≠ u) : Lib.BuilderAt T u X.w0.heap.size k p bs w := by
  obtain ⟨arr, hh, hsz, hcs⟩ := h.own _ (List.Mem.head _)
  have h0 : arr[0]? = some p := hcs 0 p rfl
  have h1 : arr[1]? = some v := hcs 1 v rfl
  have harr : arr = #[p, v] := by
    apply Array.ext_getElem?
    intro i
    match i with
    | 0 => simpa using h0
    | 1 => simpa using h1
    | i + 2 => rw [Array.getElem?_eq_none (by simp only at hsz; omega), Array.getElem?_eq_none (by simp)]
  subst harr
  have hk : X.w0.heap.size ≤ k := by
    rcases h.new _ (List.Mem.head _) k rfl with h' | h'
    · rw [hM] at h'; simp at h'
    · exact h'
  have hown : w.ownsRow 0 u 1 v bs.length bs := h.own _ (List.Mem.tail _ (List.Mem.head _))
  have hown' : w.ownsRow X.w0.heap.size u 1 v bs.length bs := by
    refine ⟨hown.1, hown.2.imp (fun h => h) ?_⟩
    rintro ⟨g, cap, cur, hv', _, h3⟩
    refine ⟨g, cap, cur, hv', ?_, h3⟩
    rcases h.new _ (List.Mem.tail _ (List.Mem.head _)) g (by simp [Bk.id, hv', Value.ownBlock]) with h' | h'
    · rw [hM] at h'; simp at h'
    · exact h'
  exact ⟨hk, v, hh, hown', Lib.ownBlock_ne hown' hh hTu⟩
theorem gc_nilRow {c : Code} {y : Bk} (e s : TypeId) (h : GC P X c Q μ l (y :: .inr ⟨.slice none 0 0, e, s, 0, []⟩ :: L)) : GC P X c Q μ l (y :: L) := fun a w hs =>
  h a w ((hs.nilRow e s).perm (List.Perm.swap _ _ _))
theorem g_bstring {T u : TypeId} {k : Nat} {p v : Value} {bs : List Value} {Lr : List Bk} {f : FuncId} {vs : Array Value} {rv : Value} {d : Nat} (hd : o.dst = some d) (hn : Nat.blt d X.n = true) (hw : wants ops l o = some true) (hM : X.M = []) (hμ : ∀ b, X.w0.heap.size ≤ b → μ b = none) (hTu : T ≠ u)
    (hr : Ent P μ l (.inl ⟨k, T, 2, [(0, p), (1, v)]⟩ :: .inr ⟨v, u, 1, bs.length, bs⟩ :: Lr) o f vs)
    (hc : ∀ w, Lib.BuilderAt T u X.w0.heap.size k p bs w → X.w0.heap.size ≤ w.heap.size → Calls P f vs w fun e w' => e = .returned rv ∧ Below X.w0.heap.size w w')
    (h : G P X ops Q rest μ ((d, rv) :: l) []) :
    G P X ops Q (o :: rest) μ l (.inl ⟨k, T, 2, [(0, p), (1, v)]⟩ :: .inr ⟨v, u, 1, bs.length, bs⟩ :: Lr) :=
  g_wp hw fun a w hs => by
    unfold Oper.wp
    rw [hr a w hs.rd, Oper.upon_enter]
    refine (hc w (hs.build hM hTu) hs.keep.size).mono fun en w' he => ?_
    obtain ⟨rfl, hbel⟩ := he
    show wpList P ops Q rest (a.put o.dst rv) w'
    rw [hd]
    refine h _ _ (St.put ⟨hs.size, hs.defers, hs.slots, ?_, ?_, hs.from0, hs.fresh, fun x hx => (by cases hx), fun x hx => (by cases hx), fun x hx => (by cases hx), List.Pairwise.nil⟩ hn _)
    · exact ⟨hbel.os.trans hs.keep.os, hbel.tape.trans hs.keep.tape, hbel.output.trans hs.keep.output, Nat.le_trans hs.keep.size hbel.size, fun b hb' hn => (hbel.block b hb').trans (hs.keep.block b hb' hn)⟩
    · intro b ob hbo
      rcases Nat.lt_or_ge b X.w0.heap.size with hlt | hge
      · exact (hbel.block b hlt).trans (hs.mem b ob hbo)
      · rw [hμ b hge] at hbo; cases hbo
theorem mok_none {μ : Mem} {w : World} (h : MOk μ w) : ∀ b, w.heap.size ≤ b → μ b = none := fun b hb => by
  cases hm : μ b with
  | none => rfl
  | some o => have := (Array.getElem?_eq_some_iff.1 (h b o hm)).1; omega
end
end
section
open Go.RowKit
section
variable {P : Program} {μ : Mem} {l : Slots} {L : List Bk} {ds : Option Nat} {ty : TypeId} {pos : String} {af : Array Edge} {gd : Option (Nat × Bool)}
theorem v_shr8 {p : Operand} {t t2 : TypeId} {x : Int} (hx0 : ev l p = some (.int .u8 x)) : Val P μ l L ⟨ds, .binOp .shr t p (.const (.int .u64 4)) t2, ty, pos, af, gd⟩ (.int .u8 (x / 16)) :=
  fun a w hs => by
    have e0 := hs.eval hx0
    have e1 := hs.eval (x := .const (.int .u64 4)) rfl
    generalize a.eval = ρ at e0 e1
    simp [execOp, e0, e1, eqGuard, binOp, Op.shift, IntKind.bits]
    rw [Int.fdiv_eq_ediv_of_nonneg _ (by decide)]
theorem and15 (x : Int) (h : 0 ≤ x ∧ x ≤ 255) : IntKind.wrap .u8 ((BitVec.ofInt 8 x &&& BitVec.ofInt 8 15).toNat : Int) = x % 16 := by
  obtain ⟨n, rfl⟩ : ∃ n : Nat, x = n := ⟨x.toNat, by omega⟩
  have hn : n < 256 := by omega
  have : (BitVec.ofInt 8 (n : Int) &&& BitVec.ofInt 8 15).toNat = n % 16 := by
    have h15 : BitVec.ofInt 8 15 = 15#8 := rfl
    rw [h15, BitVec.toNat_and, BitVec.ofInt_natCast, BitVec.toNat_ofNat, BitVec.toNat_ofNat]
    rw [Nat.mod_eq_of_lt (by omega : n < 2 ^ 8), show 15 % 2 ^ 8 = 2 ^ 4 - 1 from rfl, Nat.and_two_pow_sub_one_eq_mod]
  rw [this, wrap_u8 (by omega)]
  omega
theorem v_andk8 {p q : Operand} {t t2 : TypeId} {k : IntKind} {x y : Int} (hx0 : ev l p = some (.int k x)) (hx1 : ev l q = some (.int k y)) : Val P μ l L ⟨ds, .binOp .and t p q t2, ty, pos, af, gd⟩ (.int k (k.wrap (BitVec.ofInt k.bits x &&& BitVec.ofInt k.bits y).toNat)) :=
  fun a w hs => by have e0 := hs.eval hx0; have e1 := hs.eval hx1; generalize a.eval = ρ at e0 e1; simp [execOp, e0, e1, eqGuard, binOp, Op.intBits]
theorem v_and8 {p : Operand} {t t2 : TypeId} {x : Int} (hx0 : ev l p = some (.int .u8 x)) (h : 0 ≤ x ∧ x ≤ 255) : Val P μ l L ⟨ds, .binOp .and t p (.const (.int .u8 15)) t2, ty, pos, af, gd⟩ (.int .u8 (x % 16)) := by
  rw [← and15 x h]
  exact v_andk8 hx0 rfl
end
end
end Go.Vcg
namespace Go.Proofs.YtoclmkdfcafhfaaGreatDoor
open Go.Shelf Go.RowKit Go.Vcg
open Go.Lib (byteCells)
theorem bExtra169 : Builder.Extra Tryz.prog Tryz.lays169_ren := {
  sizeBuilder := by kernel_rfl
  liesBuilder := by kernel_rfl
  t5 := by kernel_rfl
  a5 := Go.Vcg.run_isAgg (by kernel_rfl)
  z5 := Go.Vcg.run_sizeOf (by kernel_rfl)
  v5 := Go.Vcg.run_zeroValue (by kernel_rfl)
  infoByte := by kernel_rfl
  cellsByte := by kernel_rfl
  sizeByte := by kernel_rfl
  neB5 := by decide }
theorem byteCells_app (a b : List UInt8) : byteCells (a ++ b) = byteCells a ++ byteCells b := by simp [byteCells]
section
variable {X : Ctx} {ops : Array Oper} {Q : Exit → Act → World → Prop} {rest : List Oper} {μ : Mem} {l : Slots} {L : List Bk} {o : Oper} {d : Nat}
abbrev Bld (k : Nat) (p v : Value) (out : List UInt8) (Lr : List Bk) : List Bk := .inl ⟨k, 75, 2, [(0, p), (1, v)]⟩ :: .inr ⟨v, 5, 1, out.length, byteCells out⟩ :: Lr
def IsP (k : Nat) (p : Value) : Prop := p = .pointer none ∨ p = .pointer (some ⟨k, 0, none⟩)
theorem IsP.is {k B : Nat} {p : Value} {T u : TypeId} {bs : List Value} {w : World} (h : IsP k p) (hb : Lib.BuilderAt T u B k p bs w) : Lib.IsBuilder T u B k bs w := by
  rcases h with rfl | rfl
  · exact .inl hb
  · exact .inr hb
theorem len_cells (out : List UInt8) : out.length = (byteCells out).length := by simp [byteCells]
theorem g_bstr {k : Nat} {p v : Value} {out : List UInt8} {Lr : List Bk} (hd : o.dst = some d) (hn : Nat.blt d X.n = true) (hw : wants ops l o = some true)
    (hr : Ent Tryz.prog μ l (Bld k p v out Lr) o 43 #[.pointer (some ⟨k, 0, none⟩)])
    (hM : X.M = []) (hμ : ∀ b, X.w0.heap.size ≤ b → μ b = none) (hp : IsP k p)
    (h : G Tryz.prog X ops Q rest μ ((d, .string ⟨out.toArray⟩) :: l) []) : G Tryz.prog X ops Q (o :: rest) μ l (Bld k p v out Lr) := by
  unfold Bld at hr ⊢
  rw [len_cells] at hr ⊢
  refine g_bstring hd hn hw hM hμ (by decide) hr (fun w hb hs => ?_) h
  exact Any.Builder_String_any Tryz.lays169 bExtra169 X.w0.heap.size k out w (hp.is hb) hs
end
end Go.Proofs.YtoclmkdfcafhfaaGreatDoor
namespace Go.Vcg
section
open Go.RowKit
section
variable {P : Program} {X : Ctx} {ops : Array Oper} {Q : Exit → Act → World → Prop} {rest : List Oper} {μ : Mem} {l : Slots} {L : List Bk} {a : Act} {w : World} {d : Nat}
variable {ty : TypeId} {pos : String} {af : Array Edge} {gd : Option (Nat × Bool)}
theorem info_of {t : TypeId} {i : TypeInfo} (h : P.info? t = some i) {s b : Nat} {z : Value} (hs : sizeT P t = some s) (hb : bytesT P t = some b) (hz : zeroT P t = some z) : i.size = s ∧ i.bytes = b ∧ i.zero = some z := by
  unfold sizeT at hs
  unfold bytesT at hb
  unfold zeroT at hz
  rw [h] at hs hb hz
  simp only [nat16_eq, natB_eq, Option.some.injEq, Option.bind_some] at hs hb hz
  exact ⟨hs, hb, hz⟩
theorem aps_block {t t2 e : TypeId} {n : Nat} {v v' : Value} {xs : List Value} {s : ByteArray} {w' : World} {I : TypeInfo} (ht : P.underlying t = some (.slice e)) (hu : P.underlying t2 = some .string) (hI : P.info? e = some I) (hz : I.zero = some (.int .u8 0)) (i1 : I.size = 1) (i2 : I.bytes = 1)
    (hown : w.ownsRow 0 e 1 v n xs) (hlen : n + s.size ≤ 140737488355328) (hr : (Builtin.append_ #[t, t2] ty #[v, .string s]).run P w = .ok v' w') (h0 : v' = .slice none 0 0 ↔ v = .slice none 0 0 ∧ s.size = 0) : v'.ownBlock = v.ownBlock ∨ v'.ownBlock = some w.heap.size := by
  have hxl : xs.length = n := by simpa using hown.1
  rcases hown.2 with ⟨rfl, rfl⟩ | ⟨g, cap, cur, rfl, hbg, hg, hnc, hcm, hcs, htake⟩
  · by_cases hm : s.size = 0
    · rw [h0.2 ⟨rfl, hm⟩]; exact .inl rfl
    · have h2 := run_append_nil_string (P := P) w t t2 ty e I (.int .u8 0) ht hu hI hz s (by omega) (by omega) (by rw [i2]; omega)
      rw [hr] at h2
      cases h2
      exact .inr rfl
  · have hcz : cur.size = cap := by simpa using hcs
    by_cases hroom : n + s.size ≤ cap
    · have h2 := Lib.run_append_room_string (P := P) w t t2 ty e I ht hu hI i1 g n cap cur hg s hroom (by omega)
      rw [hr] at h2
      cases h2
      exact .inl rfl
    · have holds : ∀ j u, xs[j]? = some u → w.cell? ((⟨g, 0, none⟩ : Addr).add j) = some u := hown.cells (g := g) rfl
      have h2 := Lib.run_append_grow_string (P := P) w t t2 ty e I (.int .u8 0) ht hu hI hz ⟨g, 0, none⟩ n cap xs (by rw [i1]; simpa using hxl) holds s (by omega) (by omega) (by rw [i2]; exact growslice_fits (by omega) (by omega))
      rw [hr] at h2
      cases h2
      exact .inr rfl
theorem g_aps {p q : Operand} {t t2 e : TypeId} {n : Nat} {v : Value} {xs : List Value} {s : ByteArray} {F : Rw → List Bk} (hn : Nat.blt d X.n = true) (hw : wants ops l ⟨some d, .call { callee := .builtin .append, args := #[p, q], argTypes := #[t, t2] }, ty, pos, af, gd⟩ = some true)
    (hp : ev l p = some v) (hq : ev l q = some (.string s)) (hr : RowUp L ⟨v, e, 1, n, xs⟩ F) (ht : P.underlying t = some (.slice e)) (hu : P.underlying t2 = some .string) (hs : sizeT P e = some 1) (hz : zeroT P e = some (.int .u8 0)) (hby : bytesT P e = some 1)
    (hlen : n + s.size ≤ 140737488355328) (h : ∀ v, G P X ops Q rest μ ((d, v) :: l) (F ⟨v, e, 1, n + s.size, xs ++ Lib.strCells s⟩)) :
    G P X ops Q (⟨some d, .call { callee := .builtin .append, args := #[p, q], argTypes := #[t, t2] }, ty, pos, af, gd⟩ :: rest) μ l L :=
  g_wp hw fun a w hs' => by
    obtain ⟨i, hi, hF⟩ := hr
    have hown : w.ownsRow 0 e 1 v n xs := hs'.own _ (nthB_mem hi)
    cases hI : P.info? e with
    | none => unfold sizeT at hs; rw [hI] at hs; cases hs
    | some I =>
      obtain ⟨i1, i2, i3⟩ := info_of hI hs hby hz
      obtain ⟨v', w', r1, r2, r3, r4⟩ := Lib.run_append_own_string (P := P) w 0 t t2 ty e I ht hu hI i3 i1 i2 v n xs hown s (by simp only [maxLen]; omega) hlen (Nat.zero_le _)
      have e1 := hs'.eval hp
      have e2 := hs'.eval hq
      have ex : (execOp a.eval ⟨some d, .call { callee := .builtin .append, args := #[p, q], argTypes := #[t, t2] }, ty, pos, af, gd⟩).run P w = .ok (.value v') w' := by
        generalize a.eval = ρ at e1 e2
        simp only [execOp, resolve, invoke, builtin, Sem.run_bind, Sem.run_pure, Result.andThen_ok, List.map_toArray, List.map_cons, List.map_nil, e1, e2, r1]
      unfold Oper.wp
      rw [ex, Oper.upon_value]
      have hnew : ∀ b, v'.ownBlock = some b → v.ownBlock = some b ∨ w.heap.size ≤ b := fun b hb => by
        rcases aps_block ht hu hI i3 i1 i2 hown hlen r1 r4 with h5 | h5
        · exact .inl (h5.symm.trans hb)
        · rw [h5] at hb; cases hb; exact .inr (Nat.le_refl _)
      have hs2 := hs'.upd hi r3.os r3.tape r3.output r3.size (fun b hb hne => r3.block b hb (fun e => hne e.symm)) (y := .inr ⟨v', e, 1, n + s.size, xs ++ Lib.strCells s⟩) r2 hnew
      rw [← hF] at hs2
      exact h v' _ _ (hs2.put hn _)
end
end
section
open Go.RowKit
section
variable {P : Program} {w : World} {μ : Mem} {l : Slots} {L : List Bk}
theorem ret_borN {fn : Func} {n : Nat} {rs : List ResultVar} {vs : List Value} {μ0 : Mem} {M : List Nat} {ι : Type} {Ls : ι → List Bk} {Post : Mem → Value → ι → Prop} {L' Lr : List Bk} (k : Nat) (i : ι) (hM : ∀ D, M.count D ≤ 1) (hr : fn.results = rs.toArray) (h : RVs P μ l L rs vs) (hl : Nat.beq vs.length 1 = false) (hL : splitB k L = some (L', Lr)) (hLs : Ls i = L')
    (hp : ∀ μ', MLe μ μ' → Post μ' (.tuple vs.toArray) i) :
    GQ ⟨w, μ0, M, n⟩ (bodyPost P fn (fun e w' => ∃ v μ' i, e = .returned v ∧ BackM M w w' μ0 (Ls i) μ' ∧ Post μ' v i)) .ret μ l L := fun a w' hs => by
  have he := splitB_eq hL
  subst he
  obtain ⟨μ', hb, hle⟩ := hs.giveBack
  subst hLs
  exact ⟨hs.defers.none hM, _, resultsN hr h hl hs.rd, _, μ', i, rfl, hb, hp μ' hle⟩
theorem g_forget {X : Ctx} {ops : Array Oper} {Q : Exit → Act → World → Prop} {rest : List Oper} {μ1 : Mem} (hM : ∀ D, X.M.count D ≤ 1) (hle : MLe μ1 μ) (h1 : X.μ0 = μ1) (h : G P X ops Q rest μ1 l L) : G P X ops Q rest μ l L := by
  subst h1
  exact fun a w hs => h a w ⟨hs.size, by rw [hs.defers.none hM]; exact Marks.nil, hs.slots, hs.keep, fun b o e => hs.mem b o (hle b o e), MLe.refl _, fun _ _ _ h => h, hs.own, fun x hx b hb => (by
    cases e : X.μ0 b with
    | none => rfl
    | some o => exact absurd ((hle b o e).symm.trans (hs.priv x hx b hb)) (by simp)), hs.new, hs.diff⟩
end
end
end Go.Vcg
namespace Go.Proofs.YtoclmkdfcafhfaaGreatDoor
section
open Go.Shelf Go.RowKit Go.Vcg
open Go.Lib (byteCells)
section
variable {X : Ctx} {ops : Array Oper} {Q : Exit → Act → World → Prop} {rest : List Oper} {μ : Mem} {l : Slots} {L : List Bk} {o : Oper} {d : Nat}
theorem g_ccheck {k : Nat} {p v : Value} (i : Nat) (hd : o.dst = some d) (hn : Nat.blt d X.n = true) (hw : wants ops l o = some true)
    (hr : Ent Tryz.prog μ l L o 103 #[.pointer (some ⟨k, 0, none⟩)])
    (hi : nthB L i = some (.inl ⟨k, 75, 2, [(0, p), (1, v)]⟩)) (hp : IsP k p)
    (h : G Tryz.prog X ops Q rest μ ((d, .tuple #[]) :: l) (updB L i (.inl ⟨k, 75, 2, [(0, .pointer (some ⟨k, 0, none⟩)), (1, v)]⟩))) : G Tryz.prog X ops Q (o :: rest) μ l L :=
  g_wp hw fun a w hs => by
    unfold Oper.wp
    rw [hr a w hs.rd, Oper.upon_enter]
    obtain ⟨arr, hh, hsz, hcs⟩ := hs.own _ (nthB_mem hi)
    have h0 : arr[0]? = some p := hcs 0 p rfl
    have h1 : arr[1]? = some v := hcs 1 v rfl
    have harr : arr = #[p, v] := by
      apply Array.ext_getElem?
      intro i
      match i with
      | 0 => simpa using h0
      | 1 => simpa using h1
      | i + 2 => rw [Array.getElem?_eq_none (by simp only at hsz; omega), Array.getElem?_eq_none (by simp)]
    subst harr
    have hlt := (Array.getElem?_eq_some_iff.1 hh).1
    have done : ∀ w' : World, w'.os = w.os → w'.tape = w.tape → w'.output = w.output → w.heap.size ≤ w'.heap.size → (∀ b, b ≠ k → w'.heap[b]? = w.heap[b]?) → w'.heap[k]? = some (.cells #[.pointer (some ⟨k, 0, none⟩), v] 75 (0, 0)) → wpList Tryz.prog ops Q rest (a.put o.dst (.tuple #[])) w' := by
      intro w' e1 e2 e3 e4 e5 e6
      have hs2 := hs.upd hi (y := .inl ⟨k, 75, 2, [(0, .pointer (some ⟨k, 0, none⟩)), (1, v)]⟩) e1 e2 e3 e4 (fun b _ hne => e5 b (fun e => hne (by rw [e]; rfl)))
        ⟨_, e6, rfl, fun i u hu => by
          match i, hu with
          | 0, hu => cases hu; rfl
          | 1, hu => cases hu; rfl
          | i + 2, hu => cases (show (none : Option Value) = some u from hu)⟩ (fun b hb => .inl hb)
      rw [hd]
      exact h _ _ (hs2.put hn _)
    rcases hp with rfl | rfl
    · refine (Any.Builder_copyCheck_fresh { bLays166 with } bldExtra.toX72 k w (by simp [World.cell?, hh]) (by simp [World.shape?, hh]; rfl) (by simp [World.frozen?, hh])).mono ?_
      rintro e w' ⟨rfl, rfl⟩
      refine done _ rfl rfl rfl (by simp [World.setCell]) (fun b hb => ?_) ?_
      · show (Array.modify _ _ _)[b]? = _
        rw [Array.getElem?_modify, if_neg (fun e => hb e.symm)]
      · show (Array.modify _ _ _)[k]? = _
        rw [Array.getElem?_modify, if_pos rfl, hh]
        rfl
    · refine (Any.Builder_copyCheck_used { bLays166 with } bldExtra.toX72 k w (by simp [World.cell?, hh])).mono ?_
      rintro e w' ⟨rfl, rfl⟩
      exact done _ rfl rfl rfl (Nat.le_refl _) (fun _ _ => rfl) hh
end
attribute [local irreducible] G GC GQ GA GAop Calls IntKind.wrap Int.decLt Int.decLe
theorem wbyte_spec (k : Nat) (p v : Value) (out : List UInt8) (c : Int) (y : UInt8) (hp : IsP k p) (hcb : c = y.toNat) (hlen : out.length + 1 ≤ 140737488355328) (w : World) (μ : Mem) (hμ : MOk μ w) (hO : Go.Vcg.Own μ (Bld k p v out []) w) :
    Calls Tryz.prog 72 #[.pointer (some ⟨k, 0, none⟩), .int .u8 c] w fun e w' => ∃ r μ' i, e = .returned r ∧ BackM (idsOf (Bld k p v out [])) w w' μ (Bld k (.pointer (some ⟨k, 0, none⟩)) i (out ++ [y]) []) μ' ∧ r = .nilIface := by
  have hcnt := ids_count hO.diff
  refine call_introM (args := [.pointer (some ⟨k, 0, none⟩), .int .u8 c]) Tryz.func72 rfl Tryz.ntmps72 (by simp) hμ hO ?_
  repeat' (first | refine KO ?_ | (refine CF 103 ?_; (with_reducible apply g_ccheck 0); exact rfl; exact rfl; exact rfl; ((with_reducible apply e_call1); kernel_rfl; exact rfl); exact rfl; (exact hp); (dsimp only [updB])) | (first | ((with_reducible apply g_ap); exact rfl; exact rfl; exact rfl; (repeat first | with_reducible exact rowup_hd | with_reducible apply rowup_tl); (iterate 6 exact rfl); (first | ((with_reducible apply src_in); exact rfl; (repeat first | with_reducible exact inb_hd | with_reducible apply inb_tl); exact rfl)); (first | exact rfl | omega | simp); (first | assumption | (exact ones_mem (by (repeat first | with_reducible exact ones_nil | ((with_reducible apply ones_cons); (first | exact rfl | assumption))))) | simp [Value.oneCell']); omega; omega; intro v; ((with_reducible apply g_rowSlice 2); exact rfl); (rintro A cap rfl)) | ((with_reducible apply g_append0); (iterate 9 exact rfl); (first | ((with_reducible apply src_in); exact rfl; (repeat first | with_reducible exact inb_hd | with_reducible apply inb_tl); exact rfl)); (first | exact rfl | omega | simp); (first | assumption | (exact ones_mem (by (repeat first | with_reducible exact ones_nil | ((with_reducible apply ones_cons); (first | exact rfl | assumption))))) | simp [Value.oneCell']); omega; omega; intro v; ((with_reducible apply g_rowSlice 2); exact rfl); (rintro A cap rfl))) | refine KI ?_ | refine NB fun b => ?_ | (refine KB ?_ ?_ <;> intro hp) | refine KG ?_ | fail)
  refine gq_rowEq (n' := (out ++ [y]).length) (xs' := byteCells (out ++ [y])) 2 rfl (by simp) (by rw [byteCells_app, hcb]; rfl) ?_
  refine gq_sel (l' := [(4, .nilIface)]) (L' := Bld k (.pointer (some ⟨k, 0, none⟩)) (.slice A (out.length + 1) cap) (out ++ [y]) []) PU PS ?_
  exact ret_bor (Ls := fun i => Bld k (.pointer (some ⟨k, 0, none⟩)) i (out ++ [y]) []) 2 _ hcnt rfl (rv_tmp rfl) rfl rfl (fun _ _ => rfl)
theorem wstring_spec (k : Nat) (p v : Value) (out : List UInt8) (s : ByteArray) (hp : IsP k p) (hlen : out.length + s.size ≤ 140737488355328) (w : World) (μ : Mem) (hμ : MOk μ w) (hO : Go.Vcg.Own μ (Bld k p v out []) w) :
    Calls Tryz.prog 70 #[.pointer (some ⟨k, 0, none⟩), .string s] w fun e w' => ∃ r μ' i, e = .returned r ∧ BackM (idsOf (Bld k p v out [])) w w' μ (Bld k (.pointer (some ⟨k, 0, none⟩)) i (out ++ bl s) []) μ' ∧ r = .tuple #[.int .i64 s.size, .nilIface] := by
  have hcnt := ids_count hO.diff
  refine call_introM (args := [.pointer (some ⟨k, 0, none⟩), .string s]) Tryz.func70 rfl Tryz.ntmps70 (by simp) hμ hO ?_
  repeat' (first | refine KO ?_ | (refine CF 103 ?_; (with_reducible apply g_ccheck 0); exact rfl; exact rfl; exact rfl; ((with_reducible apply e_call1); kernel_rfl; exact rfl); exact rfl; (exact hp); (dsimp only [updB])) | ((with_reducible apply g_aps); exact rfl; exact rfl; exact rfl; exact rfl; (repeat first | with_reducible exact rowup_hd | with_reducible apply rowup_tl); (iterate 5 exact rfl); (exact hlen); intro v; ((with_reducible apply g_rowSlice 1); exact rfl); (rintro A cap rfl)) | refine KI ?_ | (refine KB ?_ ?_ <;> intro hp) | refine KG ?_ | fail)
  refine gq_rowEq (n' := (out ++ bl s).length) (xs' := byteCells (out ++ bl s)) 1 rfl (by simp [bl]) (by rw [byteCells_app]; rfl) ?_
  refine gq_sel (l' := [(4, .int .i64 s.size), (5, .nilIface)]) (L' := Bld k (.pointer (some ⟨k, 0, none⟩)) (.slice A (out.length + s.size) cap) (out ++ bl s) []) PU PS ?_
  exact ret_borN (Ls := fun i => Bld k (.pointer (some ⟨k, 0, none⟩)) i (out ++ bl s) []) 2 _ hcnt rfl (by repeat first | exact rvs_nil | refine rvs_cons (by first | exact rv_tmp rfl | exact (rv_agg 0 rfl rfl rfl rfl rfl (by repeat first | exact lc_nil | refine lc_cons rfl ?_)) | exact (rv_agg 1 rfl rfl rfl rfl rfl (by repeat first | exact lc_nil | refine lc_cons rfl ?_)) | exact (rv_agg 2 rfl rfl rfl rfl rfl (by repeat first | exact lc_nil | refine lc_cons rfl ?_)) | exact (rv_agg 3 rfl rfl rfl rfl rfl (by repeat first | exact lc_nil | refine lc_cons rfl ?_))) ?_) rfl rfl rfl (fun _ _ => rfl)
end
section
open Go.RowKit Go.Vcg Go.MapKept Ou
attribute [local irreducible] G GC GQ GA GAop Calls IntKind.wrap Int.decLt Int.decLe
instance (n : Int) : Decidable (inB n) := by unfold inB; infer_instance
end
end Go.Proofs.YtoclmkdfcafhfaaGreatDoor
