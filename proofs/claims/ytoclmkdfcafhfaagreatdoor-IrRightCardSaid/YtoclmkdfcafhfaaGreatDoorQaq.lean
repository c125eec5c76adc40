/- Package ir's row: closed runs at every kind, and the contract at every int. -/
import Derived.Test.YtoclmkdfcafhfaaGreatDoorQap
import Derived.ProofKit
import Derived.OpenShut
import Derived.ShutString
import Derived.ChangeOld
import Derived.Deep.Slices
import Derived.Deep.Fields
set_option maxRecDepth 20000
set_option maxHeartbeats 2000000
namespace Go.Proofs.YtoclmkdfcafhfaaGreatDoor
section
open Go.Rex Go.RowKit Go.Vcg Go.Shelf
abbrev Row := Nat × List UInt8 × List UInt8
def rowT0 : List Row := [(100, [85, 110, 100, 101, 102], []), (101, [78, 117, 108, 108], []), (102, [66, 111, 111, 108], []), (103, [78, 117, 109], []), (104, [78, 97, 78], []), (105, [84, 101, 120, 116], []), (106, [72, 111, 108, 101], []), (107, [76, 111, 99, 97, 108], []), (108, [83, 101, 116, 76, 111, 99, 97, 108], [101]), (109, [72, 101, 108, 100], []), (110, [83, 101, 116, 72, 101, 108, 100], [101]), (111, [67, 104, 101, 99, 107], [101]), (112, [67, 111, 110, 115, 116], [101]), (113, [71, 108, 111, 98, 97, 108], []), (114, [83, 101, 116, 71, 108, 111, 98, 97, 108], [101]), (115, [84, 121, 112, 101, 79, 102], [101])]
def rowT1 : List Row := [(116, [84, 104, 105, 115], []), (117, [65, 114, 103], []), (118, [82, 101, 115, 116], []), (119, [70, 117, 110, 99], []), (120, [79, 98, 106, 101, 99, 116], [112, 42]), (121, [80, 117, 116], [101, 101]), (122, [67, 111, 112, 121], [101]), (123, [65, 114, 114, 97, 121], [97, 42]), (124, [83, 112, 114, 101, 97, 100], [101]), (125, [71, 101, 116], [101, 101]), (126, [83, 101, 116], [101, 101, 101]), (127, [68, 101, 108, 101, 116, 101], [101, 101])]
def rowT2 : List Row := [(128, [73, 110], [101, 101]), (129, [67, 97, 108, 108], [101, 97, 42]), (130, [67, 97, 108, 108, 79, 110], [101, 101, 97, 42]), (131, [78, 101, 119], [101, 97, 42]), (132, [85, 110, 97, 114, 121], [101]), (133, [66, 105, 110, 97, 114, 121], [101, 101]), (134, [76, 111, 103, 105, 99], [101, 101]), (135, [67, 111, 110, 100], [101, 101, 101]), (136, [83, 101, 113], [98, 42, 101]), (137, [89, 105, 101, 108, 100], [101])]
def rowT3 : List Row := [(138, [68, 101, 108, 101, 103, 97, 116, 101], [101]), (139, [75, 101, 121], [101]), (140, [84, 111, 84, 101, 120, 116], [101]), (141, [84, 111, 78, 117, 109], [101]), (142, [73, 116, 101, 114], [101]), (143, [78, 101, 120, 116], [101]), (144, [67, 108, 111, 115, 101], [101]), (145, [75, 101, 121, 115], [101]), (146, [79, 116, 104, 101, 114, 115], [101, 101, 42]), (147, [78, 101, 101, 100], [101])]
def rowT4 : List Row := [(160, [68, 111], [101]), (161, [66, 108, 111, 99, 107], [115, 42]), (162, [73, 102], [101, 115, 115]), (163, [76, 111, 111, 112], [101, 115, 115]), (164, [76, 97, 98, 101, 108], [115]), (165, [66, 114, 101, 97, 107], []), (166, [65, 103, 97, 105, 110], []), (167, [82, 101, 116, 117, 114, 110], [101]), (168, [84, 104, 114, 111, 119], [101]), (169, [84, 114, 121], [115, 115, 115]), (170, [83, 99, 111, 112, 101], [115]), (171, [70, 114, 101, 115, 104], []), (172, [78, 111, 110, 101], [])]
def rowT : List Row := rowT0 ++ (rowT1 ++ (rowT2 ++ (rowT3 ++ (rowT4))))
def findR (k : Nat) : List Row → Option (List UInt8 × List UInt8)
  | [] => none
  | (j, x) :: r => match Nat.beq j k with
    | true => some x
    | false => findR k r
def rowAt (k : Nat) : List UInt8 × List UInt8 := match findR k rowT with
  | some x => x
  | none => ([], [])
def strV (l : List UInt8) : Value := .string ⟨⟨l⟩⟩
def rowV (x : List UInt8 × List UInt8) : Value := .tuple ⟨[.string ⟨⟨x.1⟩⟩, .string ⟨⟨x.2⟩⟩]⟩
def pr0 : CallF := memoC memoS
theorem pr0_ok {w : World} (h : MaxAt w) : CallOk Tryz.prog w 1000 pr0 := memoC_ok (memoS_ok h)
theorem noQ : ∀ f ∈ ([] : List FuncId), QuietF Tryz.prog f := fun f h => by cases h
def runs (f : FuncId) (g : List UInt8 × List UInt8 → Value) : List Row → Prop
  | [] => True
  | (k, x) :: r => runP Tryz.prog 1000 [] pr0 [] 400 f [.int .i64 (.ofNat k)] = some (g x) ∧ runs f g r
theorem runs_find {f : FuncId} {g : List UInt8 × List UInt8 → Value} {k : Nat} {x : List UInt8 × List UInt8} : ∀ {l : List Row}, runs f g l → findR k l = some x → runP Tryz.prog 1000 [] pr0 [] 400 f [.int .i64 (.ofNat k)] = some (g x)
  | [], _, h => by cases h
  | (j, y) :: r, hr, h => by
    unfold findR at h
    split at h
    · rename_i hj
      cases h
      rw [← Nat.eq_of_beq_eq_true hj]
      exact hr.1
    · exact runs_find hr.2 h
theorem runs_app {f : FuncId} {g : List UInt8 × List UInt8 → Value} : ∀ {l m : List Row}, runs f g l → runs f g m → runs f g (l ++ m)
  | [], _, _, h => h
  | (_, _) :: _, _, h, h' => ⟨h.1, runs_app h.2 h'⟩
end
section
open Go.Rex
theorem runs_row0 : runs 24 rowV rowT0 := by
  unfold rowT0
  repeat (first | exact trivial | refine ⟨by kernel_rfl, ?_⟩)
theorem runs_ref0 : runs 9 (fun x => strV x.1) rowT0 := by
  unfold rowT0
  repeat (first | exact trivial | refine ⟨by kernel_rfl, ?_⟩)
theorem runs_row1 : runs 24 rowV rowT1 := by
  unfold rowT1
  repeat (first | exact trivial | refine ⟨by kernel_rfl, ?_⟩)
theorem runs_ref1 : runs 9 (fun x => strV x.1) rowT1 := by
  unfold rowT1
  repeat (first | exact trivial | refine ⟨by kernel_rfl, ?_⟩)
theorem runs_row2 : runs 24 rowV rowT2 := by
  unfold rowT2
  repeat (first | exact trivial | refine ⟨by kernel_rfl, ?_⟩)
theorem runs_ref2 : runs 9 (fun x => strV x.1) rowT2 := by
  unfold rowT2
  repeat (first | exact trivial | refine ⟨by kernel_rfl, ?_⟩)
theorem runs_row3 : runs 24 rowV rowT3 := by
  unfold rowT3
  repeat (first | exact trivial | refine ⟨by kernel_rfl, ?_⟩)
theorem runs_ref3 : runs 9 (fun x => strV x.1) rowT3 := by
  unfold rowT3
  repeat (first | exact trivial | refine ⟨by kernel_rfl, ?_⟩)
theorem runs_row4 : runs 24 rowV rowT4 := by
  unfold rowT4
  repeat (first | exact trivial | refine ⟨by kernel_rfl, ?_⟩)
theorem runs_ref4 : runs 9 (fun x => strV x.1) rowT4 := by
  unfold rowT4
  repeat (first | exact trivial | refine ⟨by kernel_rfl, ?_⟩)
end
end Go.Proofs.YtoclmkdfcafhfaaGreatDoor
namespace Go.Vcg
open Go.RowKit
def subW (x y : Int) : Int := IntKind.i64.wrap (x - y)
section
variable {P : Program} {μ : Mem} {l : Slots} {L : List Bk}
variable {ty : TypeId} {pos : String} {af : Array Edge} {gd : Option (Nat × Bool)} {ds : Option Nat}
theorem v_subw {p q : Operand} {t t2 : TypeId} {x y : Int} (hx0 : ev l p = some (.int .i64 x)) (hx1 : ev l q = some (.int .i64 y)) : Val P μ l L ⟨ds, .binOp .sub t p q t2, ty, pos, af, gd⟩ (.int .i64 (subW x y)) := v_sub hx0 hx1
end
theorem subW_out {x y n : Int} (hx : -9223372036854775808 ≤ x ∧ x ≤ 9223372036854775807) (hy : 0 ≤ y ∧ y ≤ 200) (hn : n ≤ 200) (h : x < y ∨ y + n < x) : subW x y < 0 ∨ n < subW x y := by
  simp only [subW, IntKind.wrap]
  simp [IntKind.signed, IntKind.bits]
  split <;> omega
end Go.Vcg
namespace Go.Proofs.YtoclmkdfcafhfaaGreatDoor
open Go.Rex Go.RowKit Go.Vcg Go.Shelf
def MaxM (μ : Mem) : Prop := ∀ w, MOk μ w → MaxAt w
theorem MaxM.mono {μ μ' : Mem} (h : MaxM μ) (hle : MLe μ μ') : MaxM μ' := fun w hw => h w (fun b o e => hw b o (hle b o e))
theorem row_runs : runs 24 rowV rowT := runs_app runs_row0 (runs_app runs_row1 (runs_app runs_row2 (runs_app runs_row3 runs_row4)))
theorem ref_runs : runs 9 (fun x => strV x.1) rowT := runs_app runs_ref0 (runs_app runs_ref1 (runs_app runs_ref2 (runs_app runs_ref3 runs_ref4)))
theorem out_all : (List.range 173).all (fun k => (findR k rowT).isSome || (Nat.blt k 100 || (Nat.ble 148 k && Nat.blt k 160))) = true := by kernel_rfl
theorem in_all : rowT.all (fun x => Nat.ble 100 x.1 && Nat.ble x.1 172) = true := by kernel_rfl
theorem out_of {k : Nat} (h : findR k rowT = none) : k < 100 ∨ (148 ≤ k ∧ k < 160) ∨ 172 < k := by
  by_cases hk : k < 173
  · have := List.all_eq_true.1 out_all k (List.mem_range.2 hk)
    rw [h] at this
    simp [Nat.blt, Nat.ble_eq] at this
    omega
  · omega
def rowI (op : Int) : List UInt8 × List UInt8 := rowAt op.toNat
theorem kinds (op : Int) : (∃ k x, op = Int.ofNat k ∧ findR k rowT = some x ∧ rowI op = x) ∨ ((op < 100 ∨ (148 ≤ op ∧ op < 160) ∨ 172 < op) ∧ rowI op = ([], [])) := by
  cases h : findR op.toNat rowT with
  | none =>
    have h1 := out_of h
    refine .inr ⟨by omega, ?_⟩
    unfold rowI rowAt
    rw [h]
  | some x =>
    by_cases hp : 0 ≤ op
    · refine .inl ⟨op.toNat, x, by simp; omega, h, ?_⟩
      unfold rowI rowAt
      rw [h]
    · exfalso
      rw [show op.toNat = 0 by omega, show findR 0 rowT = none by kernel_rfl] at h
      cases h
attribute [local irreducible] rowI G GC GQ GA GAop Calls IntKind.wrap Int.decLt Int.decLe
theorem count_spec (s : ByteArray) (n : Nat) (hn : cntF 124 (bl s) = n) (w : World) (μ : Mem) (hμ : MOk μ w) : Calls Tryz.prog 54 #[.string s, .string ⟨#[124]⟩] w fun e w' => e = .returned (.int .i64 n) ∧ Below w.heap.size w w' := by
  refine (Any.strings_Count_one Tryz.lays138 s 124 w).mono fun e w'' ⟨h1, h2⟩ => ⟨?_, h2 ▸ Below.refl _ _⟩
  rw [h1, cntF_eq]
  unfold bl at hn
  rw [hn]
theorem row_spec (w : World) (μ : Mem) (hμ : MOk μ w) (hm : MaxM μ) (op : Int) (ho : -9223372036854775808 ≤ op ∧ op ≤ 9223372036854775807) :
    Calls Tryz.prog 24 #[.int .i64 op] w fun e w' => e = .returned (rowV (rowI op)) ∧ Below w.heap.size w w' := by
  rcases kinds op with ⟨k, x, rfl, h1, h2⟩ | ⟨h1, h2⟩
  · rw [h2]
    exact runP_sound mixed noQ (pr0_ok (hm w hμ)) (by decide) (fun g cs h => by cases h) (runs_find row_runs h1)
  · rw [h2]
    refine call_intro Tryz.func24 rfl Tryz.ntmps24 (by simp) hμ ?_
    by_cases h160 : 160 ≤ op
    · have hs := subW_out (n := 12) ho (y := 160) (by omega) (by omega) (by omega)
      repeat' (first | refine KO ?_ | ((with_reducible apply F1 54); exact rfl; exact EN; exact fun w μc hw' hse => count_spec _ 12 (by kernel_rfl) w μc hw') | (refine KV (b := by first | ((with_reducible apply v_subw); exact rfl; exact rfl)) (c := ?_)) | refine KI ?_ | (refine KB ?_ ?_ <;> intro hp) | refine KG ?_ | fail)
      all_goals first | (exfalso; omega) | exact ret_v2 rfl (by first | exact rv_tmp rfl | exact (rv_agg 0 rfl rfl rfl rfl rfl (by repeat first | exact lc_nil | refine lc_cons rfl ?_)) | exact (rv_agg 1 rfl rfl rfl rfl rfl (by repeat first | exact lc_nil | refine lc_cons rfl ?_)) | exact (rv_agg 2 rfl rfl rfl rfl rfl (by repeat first | exact lc_nil | refine lc_cons rfl ?_)) | exact (rv_agg 3 rfl rfl rfl rfl rfl (by repeat first | exact lc_nil | refine lc_cons rfl ?_))) (by first | exact rv_tmp rfl | exact (rv_agg 0 rfl rfl rfl rfl rfl (by repeat first | exact lc_nil | refine lc_cons rfl ?_)) | exact (rv_agg 1 rfl rfl rfl rfl rfl (by repeat first | exact lc_nil | refine lc_cons rfl ?_)) | exact (rv_agg 2 rfl rfl rfl rfl rfl (by repeat first | exact lc_nil | refine lc_cons rfl ?_)) | exact (rv_agg 3 rfl rfl rfl rfl rfl (by repeat first | exact lc_nil | refine lc_cons rfl ?_))) rfl rfl
    · have hs := subW_out (n := 47) ho (y := 100) (by omega) (by omega) (by omega)
      repeat' (first | refine KO ?_ | ((with_reducible apply F1 54); exact rfl; exact EN; exact fun w μc hw' hse => count_spec _ 47 (by kernel_rfl) w μc hw') | (refine KV (b := by first | ((with_reducible apply v_subw); exact rfl; exact rfl)) (c := ?_)) | refine KI ?_ | (refine KB ?_ ?_ <;> intro hp) | refine KG ?_ | fail)
      all_goals first | (exfalso; omega) | exact ret_v2 rfl (by first | exact rv_tmp rfl | exact (rv_agg 0 rfl rfl rfl rfl rfl (by repeat first | exact lc_nil | refine lc_cons rfl ?_)) | exact (rv_agg 1 rfl rfl rfl rfl rfl (by repeat first | exact lc_nil | refine lc_cons rfl ?_)) | exact (rv_agg 2 rfl rfl rfl rfl rfl (by repeat first | exact lc_nil | refine lc_cons rfl ?_)) | exact (rv_agg 3 rfl rfl rfl rfl rfl (by repeat first | exact lc_nil | refine lc_cons rfl ?_))) (by first | exact rv_tmp rfl | exact (rv_agg 0 rfl rfl rfl rfl rfl (by repeat first | exact lc_nil | refine lc_cons rfl ?_)) | exact (rv_agg 1 rfl rfl rfl rfl rfl (by repeat first | exact lc_nil | refine lc_cons rfl ?_)) | exact (rv_agg 2 rfl rfl rfl rfl rfl (by repeat first | exact lc_nil | refine lc_cons rfl ?_)) | exact (rv_agg 3 rfl rfl rfl rfl rfl (by repeat first | exact lc_nil | refine lc_cons rfl ?_))) rfl rfl
theorem name_spec (w : World) (μ : Mem) (hμ : MOk μ w) (hm : MaxM μ) (op : Int) (ho : -9223372036854775808 ≤ op ∧ op ≤ 9223372036854775807) :
    Calls Tryz.prog 8 #[.int .i64 op] w fun e w' => e = .returned (strV (rowI op).1) ∧ Below w.heap.size w w' := by
  refine call_intro Tryz.func8 rfl Tryz.ntmps8 (by simp) hμ ?_
  repeat' (first | refine KO ?_ | ((with_reducible apply C1); exact rfl; exact EN; exact fun w μc hw' hse => row_spec w μc hw' (hm.mono hse.le) op ho) | refine KI ?_ | (refine KB ?_ ?_ <;> intro hp) | refine KG ?_ | fail)
  exact ret_v1 rfl (by first | exact rv_tmp rfl | exact (rv_agg 0 rfl rfl rfl rfl rfl (by repeat first | exact lc_nil | refine lc_cons rfl ?_)) | exact (rv_agg 1 rfl rfl rfl rfl rfl (by repeat first | exact lc_nil | refine lc_cons rfl ?_)) | exact (rv_agg 2 rfl rfl rfl rfl rfl (by repeat first | exact lc_nil | refine lc_cons rfl ?_)) | exact (rv_agg 3 rfl rfl rfl rfl rfl (by repeat first | exact lc_nil | refine lc_cons rfl ?_))) rfl
theorem rcut_run : runP Tryz.prog 1000 [] pr0 [] 400 25 [.string ⟨⟨[]⟩⟩] = some (.tuple ⟨[.string ⟨⟨[]⟩⟩, .string ⟨⟨[]⟩⟩]⟩) := by kernel_rfl
theorem rrow_spec (w : World) (μ : Mem) (hμ : MOk μ w) (op : Int) (h1 : op < 100 ∨ (148 ≤ op ∧ op < 160) ∨ 172 < op) :
    Calls Tryz.prog 26 #[.int .i64 op] w fun e w' => e = .returned (.string ⟨#[]⟩) ∧ Below w.heap.size w w' := by
  refine call_intro Tryz.func26 rfl Tryz.ntmps26 (by simp) hμ ?_
  repeat' (first | refine KK ?_ | (refine KB ?_ ?_ <;> intro hp) | refine KG ?_ | fail)
  all_goals first | (exfalso; omega) | exact ret_v1 rfl (by first | exact rv_tmp rfl | exact (rv_agg 0 rfl rfl rfl rfl rfl (by repeat first | exact lc_nil | refine lc_cons rfl ?_)) | exact (rv_agg 1 rfl rfl rfl rfl rfl (by repeat first | exact lc_nil | refine lc_cons rfl ?_)) | exact (rv_agg 2 rfl rfl rfl rfl rfl (by repeat first | exact lc_nil | refine lc_cons rfl ?_)) | exact (rv_agg 3 rfl rfl rfl rfl rfl (by repeat first | exact lc_nil | refine lc_cons rfl ?_))) rfl
theorem rname_spec (w : World) (μ : Mem) (hμ : MOk μ w) (hm : MaxM μ) (op : Int) :
    Calls Tryz.prog 9 #[.int .i64 op] w fun e w' => e = .returned (strV (rowI op).1) ∧ Below w.heap.size w w' := by
  rcases kinds op with ⟨k, x, rfl, h1, h2⟩ | ⟨h1, h2⟩
  · rw [h2]
    exact runP_sound mixed noQ (pr0_ok (hm w hμ)) (by decide) (fun g cs h => by cases h) (runs_find ref_runs h1)
  · rw [h2]
    refine call_intro Tryz.func9 rfl Tryz.ntmps9 (by simp) hμ ?_
    repeat' (first | refine KO ?_ | ((with_reducible apply F1 26); exact rfl; exact EN; exact fun w μc hw' hse => rrow_spec w μc hw' op h1) | ((with_reducible apply F1 25); exact rfl; exact EN; exact fun w μc hw' hse => runP_sound mixed noQ (pr0_ok (hm.mono hse.le w hw')) (by decide) (fun g cs h => by cases h) rcut_run) | refine KI ?_ | (refine KB ?_ ?_ <;> intro hp) | refine KG ?_ | fail)
    exact ret_v1 rfl (by first | exact rv_tmp rfl | exact (rv_agg 0 rfl rfl rfl rfl rfl (by repeat first | exact lc_nil | refine lc_cons rfl ?_)) | exact (rv_agg 1 rfl rfl rfl rfl rfl (by repeat first | exact lc_nil | refine lc_cons rfl ?_)) | exact (rv_agg 2 rfl rfl rfl rfl rfl (by repeat first | exact lc_nil | refine lc_cons rfl ?_)) | exact (rv_agg 3 rfl rfl rfl rfl rfl (by repeat first | exact lc_nil | refine lc_cons rfl ?_))) rfl
end Go.Proofs.YtoclmkdfcafhfaaGreatDoor
namespace Go.Vcg
open Go.ChangeShapes Go.WideShapes Go.ChangeAt Go.RowKit Go.Deep
def memOf (w : World) : Mem := fun b => w.heap[b]?
theorem memOf_ok (w : World) : MOk (memOf w) w := fun _ _ h => h
theorem MCell.of_cell {w : World} {A : Addr} {v : Value} (h : w.cell? A = some v) : MCell (memOf w) A v := by
  unfold World.cell? at h
  split at h
  · rename_i c t f hh
    by_cases hs : A.spot.isSome
    · simp [hs] at h
    · simp [hs] at h
      exact ⟨c, t, f, hh, by simpa using hs, h⟩
  · cases h
theorem exists_list {α : Type} {R : Nat → α → Prop} : ∀ (n : Nat), (∀ i, i < n → ∃ x, R i x) → ∃ l : List α, l.length = n ∧ ∀ i x, l[i]? = some x → R i x
  | 0, _ => ⟨[], rfl, fun i x h => by simp at h⟩
  | n + 1, h => by
    obtain ⟨l, hl, hr⟩ := exists_list n (fun i hi => h i (by omega))
    obtain ⟨x, hx⟩ := h n (by omega)
    refine ⟨l ++ [x], by simp [hl], fun i y hy => ?_⟩
    by_cases hi : i < n
    · rw [List.getElem?_append_left (by omega)] at hy
      exact hr i y hy
    · rw [List.getElem?_append_right (by omega)] at hy
      have : i - l.length = 0 := by
        have := (List.getElem?_eq_some_iff.1 hy).1
        simp at this; omega
      rw [this] at hy
      simp at hy
      subst hy
      have : i = n := by omega
      subst this; exact hx
section
variable {H : Type} {enc : TypeId × Value → H} {P : Program} {W : World} {base : Nat} {spare : Nat → Bool} {held : Bool}
theorem field_at' {t : TypeId} {fs : Array Field} {cs : List Value} {xs : List (DataW H × List MemPlace)} {n : Nat} (hone : oneCellFields P fs = true) (hlen : cs.length = fs.size) (hxl : xs.length = fs.size)
    (hf : ∀ (i : Nat) (f : Field), fs[i]? = some f → DataW.trod enc P W base spare held n f.type ((cs.drop f.offset).take (P.cellsOf f.type)) = xs[i]?) (i : Nat) (f : Field) (hi : fs[i]? = some f) :
    ∃ c y, cs[i]? = some c ∧ DataW.trod enc P W base spare held n f.type [c] = some y ∧ xs[i]? = some y := by
  have hlt : i < fs.size := (Array.getElem?_eq_some_iff.1 hi).1
  obtain ⟨ho, hc⟩ := hone_of hone i f hi
  have h := hf i f hi
  rw [ho, hc] at h
  have hi1 : i < cs.length := by omega
  have hi2 : i < xs.length := by omega
  refine ⟨cs[i], xs[i], List.getElem?_eq_getElem hi1, ?_, List.getElem?_eq_getElem hi2⟩
  rw [List.drop_eq_getElem_cons hi1] at h
  rw [← List.getElem?_eq_getElem hi2, ← h]
  rfl
end
end Go.Vcg
namespace Go.Proofs.YtoclmkdfcafhfaaGreatDoor
section
open Go.Rex Go.RowKit Go.Vcg Go.Shelf
theorem maxM_of {w : World} (h : MaxAt w) : MaxM (memOf w) := fun w' hw => by
  obtain ⟨m, hm⟩ := h
  refine ⟨m, ?_⟩
  unfold World.cell? at hm ⊢
  split at hm
  · rename_i cs t f h1
    rw [hw _ _ h1]
    exact hm
  · cases hm
def memoR : Memo := fun f vs => match Nat.beq f 24 with
  | true => match vs with
    | [.int .i64 (.ofNat k)] => match Nat.ble k 1000 with
      | true => match rowAt k with
        | (a, b) => some (.tuple ⟨[.string ⟨⟨a⟩⟩, .string ⟨⟨b⟩⟩]⟩)
      | false => none
    | _ => none
  | false => none
theorem memoR_ok {w : World} (h : MaxAt w) : MemoOk Tryz.prog w memoR := fun f vs v e => by
  unfold memoR at e
  split at e
  · rename_i hf
    have hf := Nat.eq_of_beq_eq_true hf
    subst hf
    split at e
    · rename_i k
      split at e
      · rename_i hk
        have hk : k ≤ 1000 := ble_t hk
        split at e
        rename_i a b hab
        cases e
        refine ⟨rfl, rfl, fun w' hk' => ?_⟩
        have := row_spec w' (memOf w') (memOf_ok w') (maxM_of (h.keep hk')) (Int.ofNat k) (by simp; omega)
        have hr : rowI (Int.ofNat k) = (a, b) := hab
        rw [hr] at this
        exact this
      · cases e
    · cases e
  · cases e
theorem bExtra : Builder.Extra Tryz.prog Tryz.lays156_ren := {
  sizeBuilder := by kernel_rfl
  liesBuilder := by kernel_rfl
  t5 := by kernel_rfl
  a5 := Go.Vcg.run_isAgg (by kernel_rfl)
  z5 := Go.Vcg.run_sizeOf (by kernel_rfl)
  v5 := Go.Vcg.run_zeroValue (by kernel_rfl)
  infoByte := by kernel_rfl
  cellsByte := by kernel_rfl
  sizeByte := by kernel_rfl
  neB5 := by decide }
theorem lays240 : Lays.n240 Tryz.prog Tryz.lays156_ren := { Tryz.lays156 with }
def pr1 : CallF := orCall (memoC memoR) (orCall (memoC memoS) (orCall (primCC 103 75) (primJoin 71)))
theorem pr1_ok {w : World} (h : MaxAt w) : CallOk Tryz.prog w 1000 pr1 :=
  orCall_ok (memoC_ok (memoR_ok h)) (orCall_ok (memoC_ok (memoS_ok h)) (orCall_ok
    (primCC_ok (fun b w h0 h1 h2 => Any.Builder_copyCheck_fresh lays240 bExtra.toX72 b w h0 h1 h2) (fun b w h0 => Any.Builder_copyCheck_used lays240 bExtra.toX72 b w h0))
    (primJoin_ok fun bk o c xs sep w h1 h2 h3 h4 h5 => Any.strings_Join Tryz.lays156 bExtra bk o c xs sep w h1 h2 h3 h4 h5)))
end
section
open Go.Rex Go.RowKit Go.Vcg
theorem lives_run : runP Tryz.prog 1000 [] pr1 [] 400 12 [] = some (.bool true) := by kernel_rfl
theorem lives_spec (w : World) (μ : Mem) (hμ : MOk μ w) (hm : MaxM μ) : Calls Tryz.prog 12 #[] w fun e w' => e = .returned (.bool true) ∧ Below w.heap.size w w' :=
  runP_sound mixed noQ (pr1_ok (hm w hμ)) (by decide) (fun g cs h => by cases h) lives_run
end
section
open Go.RowKit Go.Vcg
def isE (op : Int) : Bool := decide (100 ≤ op) && (decide (op < 148) && (decide (op ≠ 121) && (decide (op ≠ 122) && decide (op ≠ 124))))
theorem isE_t {op : Int} (h : 100 ≤ op ∧ op < 148 ∧ op ≠ 121 ∧ op ≠ 122 ∧ op ≠ 124) : isE op = true := by simp [isE, h]
theorem isE_f {op : Int} (h : ¬(100 ≤ op ∧ op < 148 ∧ op ≠ 121 ∧ op ≠ 122 ∧ op ≠ 124)) : isE op = false := by
  cases e : isE op with
  | false => rfl
  | true =>
    exfalso
    simp [isE] at e
    omega
attribute [local irreducible] isE rowI G GC GQ GA GAop Calls IntKind.wrap Int.decLt Int.decLe
theorem isE_spec (w : World) (μ : Mem) (hμ : MOk μ w) (op : Int) :
    Calls Tryz.prog 10 #[.int .i64 op] w fun e w' => e = .returned (.bool (isE op)) ∧ Below w.heap.size w w' := by
  refine call_intro Tryz.func10 rfl Tryz.ntmps10 (by simp) hμ ?_
  by_cases h : 100 ≤ op ∧ op < 148 ∧ op ≠ 121 ∧ op ≠ 122 ∧ op ≠ 124
  · rw [isE_t h]
    repeat' (first | refine KK ?_ | (refine KB ?_ ?_ <;> intro hp) | refine KG ?_ | fail)
    all_goals first | (exfalso; omega) | exact ret_v1 rfl (by first | exact rv_tmp rfl | exact (rv_agg 0 rfl rfl rfl rfl rfl (by repeat first | exact lc_nil | refine lc_cons rfl ?_)) | exact (rv_agg 1 rfl rfl rfl rfl rfl (by repeat first | exact lc_nil | refine lc_cons rfl ?_)) | exact (rv_agg 2 rfl rfl rfl rfl rfl (by repeat first | exact lc_nil | refine lc_cons rfl ?_)) | exact (rv_agg 3 rfl rfl rfl rfl rfl (by repeat first | exact lc_nil | refine lc_cons rfl ?_))) rfl | exact ret_v1 rfl (by first | exact rv_tmp rfl | exact (rv_agg 0 rfl rfl rfl rfl rfl (by repeat first | exact lc_nil | refine lc_cons rfl ?_)) | exact (rv_agg 1 rfl rfl rfl rfl rfl (by repeat first | exact lc_nil | refine lc_cons rfl ?_)) | exact (rv_agg 2 rfl rfl rfl rfl rfl (by repeat first | exact lc_nil | refine lc_cons rfl ?_)) | exact (rv_agg 3 rfl rfl rfl rfl rfl (by repeat first | exact lc_nil | refine lc_cons rfl ?_))) (congrArg _ (decide_eq_true (by omega)))
  · rw [isE_f h]
    repeat' (first | refine KK ?_ | (refine KB ?_ ?_ <;> intro hp) | refine KG ?_ | fail)
    all_goals first | (exfalso; omega) | exact ret_v1 rfl (by first | exact rv_tmp rfl | exact (rv_agg 0 rfl rfl rfl rfl rfl (by repeat first | exact lc_nil | refine lc_cons rfl ?_)) | exact (rv_agg 1 rfl rfl rfl rfl rfl (by repeat first | exact lc_nil | refine lc_cons rfl ?_)) | exact (rv_agg 2 rfl rfl rfl rfl rfl (by repeat first | exact lc_nil | refine lc_cons rfl ?_)) | exact (rv_agg 3 rfl rfl rfl rfl rfl (by repeat first | exact lc_nil | refine lc_cons rfl ?_))) rfl | exact ret_v1 rfl (by first | exact rv_tmp rfl | exact (rv_agg 0 rfl rfl rfl rfl rfl (by repeat first | exact lc_nil | refine lc_cons rfl ?_)) | exact (rv_agg 1 rfl rfl rfl rfl rfl (by repeat first | exact lc_nil | refine lc_cons rfl ?_)) | exact (rv_agg 2 rfl rfl rfl rfl rfl (by repeat first | exact lc_nil | refine lc_cons rfl ?_)) | exact (rv_agg 3 rfl rfl rfl rfl rfl (by repeat first | exact lc_nil | refine lc_cons rfl ?_))) (congrArg _ (decide_eq_false (by omega)))
theorem risE_spec (w : World) (μ : Mem) (hμ : MOk μ w) (op : Int) :
    Calls Tryz.prog 11 #[.int .i64 op] w fun e w' => e = .returned (.bool (isE op)) ∧ Below w.heap.size w w' := by
  refine call_intro Tryz.func11 rfl Tryz.ntmps11 (by simp) hμ ?_
  by_cases h : 100 ≤ op ∧ op < 148 ∧ op ≠ 121 ∧ op ≠ 122 ∧ op ≠ 124
  · rw [isE_t h]
    repeat' (first | refine KK ?_ | (refine KB ?_ ?_ <;> intro hp) | refine KG ?_ | fail)
    all_goals first | (exfalso; omega) | exact ret_v1 rfl (by first | exact rv_tmp rfl | exact (rv_agg 0 rfl rfl rfl rfl rfl (by repeat first | exact lc_nil | refine lc_cons rfl ?_)) | exact (rv_agg 1 rfl rfl rfl rfl rfl (by repeat first | exact lc_nil | refine lc_cons rfl ?_)) | exact (rv_agg 2 rfl rfl rfl rfl rfl (by repeat first | exact lc_nil | refine lc_cons rfl ?_)) | exact (rv_agg 3 rfl rfl rfl rfl rfl (by repeat first | exact lc_nil | refine lc_cons rfl ?_))) rfl | exact ret_v1 rfl (by first | exact rv_tmp rfl | exact (rv_agg 0 rfl rfl rfl rfl rfl (by repeat first | exact lc_nil | refine lc_cons rfl ?_)) | exact (rv_agg 1 rfl rfl rfl rfl rfl (by repeat first | exact lc_nil | refine lc_cons rfl ?_)) | exact (rv_agg 2 rfl rfl rfl rfl rfl (by repeat first | exact lc_nil | refine lc_cons rfl ?_)) | exact (rv_agg 3 rfl rfl rfl rfl rfl (by repeat first | exact lc_nil | refine lc_cons rfl ?_))) (congrArg _ (decide_eq_true (by omega)))
  · rw [isE_f h]
    repeat' (first | refine KK ?_ | (refine KB ?_ ?_ <;> intro hp) | refine KG ?_ | fail)
    all_goals first | (exfalso; omega) | exact ret_v1 rfl (by first | exact rv_tmp rfl | exact (rv_agg 0 rfl rfl rfl rfl rfl (by repeat first | exact lc_nil | refine lc_cons rfl ?_)) | exact (rv_agg 1 rfl rfl rfl rfl rfl (by repeat first | exact lc_nil | refine lc_cons rfl ?_)) | exact (rv_agg 2 rfl rfl rfl rfl rfl (by repeat first | exact lc_nil | refine lc_cons rfl ?_)) | exact (rv_agg 3 rfl rfl rfl rfl rfl (by repeat first | exact lc_nil | refine lc_cons rfl ?_))) rfl | exact ret_v1 rfl (by first | exact rv_tmp rfl | exact (rv_agg 0 rfl rfl rfl rfl rfl (by repeat first | exact lc_nil | refine lc_cons rfl ?_)) | exact (rv_agg 1 rfl rfl rfl rfl rfl (by repeat first | exact lc_nil | refine lc_cons rfl ?_)) | exact (rv_agg 2 rfl rfl rfl rfl rfl (by repeat first | exact lc_nil | refine lc_cons rfl ?_)) | exact (rv_agg 3 rfl rfl rfl rfl rfl (by repeat first | exact lc_nil | refine lc_cons rfl ?_))) (congrArg _ (decide_eq_false (by omega)))
end
section
open Go.RowKit Go.Vcg
theorem inI_d (n lo hi : Int) : Iq.inI n lo hi = decide (lo ≤ n ∧ n ≤ hi) := by
  unfold Iq.inI
  rw [Bool.eq_iff_iff]
  simp
theorem isS_d (op : Int) : Iq.isS op = decide (160 ≤ op ∧ op < 173) := by
  unfold Iq.isS
  rw [Bool.eq_iff_iff]
  simp
attribute [local irreducible] G GC GQ GA GAop Calls IntKind.wrap Int.decLt Int.decLe
theorem pin_spec (n lo hi : Int) (w : World) (μ : Mem) (hμ : MOk μ w) : Calls Tryz.prog 47 #[.int .i64 n, .int .i64 lo, .int .i64 hi] w fun e w' => e = .returned (.bool (Iq.inI n lo hi)) ∧ Below w.heap.size w w' := by
  refine call_intro (args := [.int .i64 n, .int .i64 lo, .int .i64 hi]) Tryz.func47 rfl Tryz.ntmps47 (by simp) hμ ?_
  rw [inI_d]
  repeat' (first | refine KK ?_ | (refine KB ?_ ?_ <;> intro hp) | refine KG ?_ | fail)
  all_goals first | (exfalso; first | omega | contradiction | exact absurd ‹_› ‹¬ _›) | exact ret_s rfl rfl rfl | (refine ret_s rfl rfl ?_; congr 1; first | (rw [decide_eq_true (by omega)]; done) | (rw [decide_eq_false (by omega)]; done) | (rw [Bool.eq_iff_iff]; simp; omega) | (simp [*]; done))
theorem rin_spec (n lo hi : Int) (w : World) (μ : Mem) (hμ : MOk μ w) : Calls Tryz.prog 49 #[.int .i64 n, .int .i64 lo, .int .i64 hi] w fun e w' => e = .returned (.bool (Iq.inI n lo hi)) ∧ Below w.heap.size w w' := by
  refine call_intro (args := [.int .i64 n, .int .i64 lo, .int .i64 hi]) Tryz.func49 rfl Tryz.ntmps49 (by simp) hμ ?_
  rw [inI_d]
  repeat' (first | refine KK ?_ | (refine KB ?_ ?_ <;> intro hp) | refine KG ?_ | fail)
  all_goals first | (exfalso; first | omega | contradiction | exact absurd ‹_› ‹¬ _›) | exact ret_s rfl rfl rfl | (refine ret_s rfl rfl ?_; congr 1; first | (rw [decide_eq_true (by omega)]; done) | (rw [decide_eq_false (by omega)]; done) | (rw [Bool.eq_iff_iff]; simp; omega) | (simp [*]; done))
theorem pdeed_spec (op : Int) (w : World) (μ : Mem) (hμ : MOk μ w) : Calls Tryz.prog 75 #[.int .i64 op] w fun e w' => e = .returned (.bool (Iq.isS op)) ∧ Below w.heap.size w w' := by
  refine call_intro (args := [.int .i64 op]) Tryz.func75 rfl Tryz.ntmps75 (by simp) hμ ?_
  rw [isS_d]
  repeat' (first | refine KK ?_ | (refine KB ?_ ?_ <;> intro hp) | refine KG ?_ | fail)
  all_goals first | (exfalso; first | omega | contradiction | exact absurd ‹_› ‹¬ _›) | exact ret_s rfl rfl rfl | (refine ret_s rfl rfl ?_; congr 1; first | (rw [decide_eq_true (by omega)]; done) | (rw [decide_eq_false (by omega)]; done) | (rw [Bool.eq_iff_iff]; simp; omega) | (simp [*]; done))
theorem rstmt_spec (op : Int) (w : World) (μ : Mem) (hμ : MOk μ w) : Calls Tryz.prog 77 #[.int .i64 op] w fun e w' => e = .returned (.bool (Iq.isS op)) ∧ Below w.heap.size w w' := by
  refine call_intro (args := [.int .i64 op]) Tryz.func77 rfl Tryz.ntmps77 (by simp) hμ ?_
  rw [isS_d]
  repeat' (first | refine KK ?_ | (refine KB ?_ ?_ <;> intro hp) | refine KG ?_ | fail)
  all_goals first | (exfalso; first | omega | contradiction | exact absurd ‹_› ‹¬ _›) | exact ret_s rfl rfl rfl | (refine ret_s rfl rfl ?_; congr 1; first | (rw [decide_eq_true (by omega)]; done) | (rw [decide_eq_false (by omega)]; done) | (rw [Bool.eq_iff_iff]; simp; omega) | (simp [*]; done))
theorem pmore_spec (t : T) (u : Value) (hu : u.oneCell' = true)  (w : World) (μ : Mem) (hμ : MOk μ w) : Calls Tryz.prog 108 #[.agg (encT t u).toArray] w fun e w' => e = .returned (.bool (Iq.moreB t.op t.m)) ∧ Below w.heap.size w w' := by
  refine call_intro (args := [.agg (encT t u).toArray]) Tryz.func108 rfl Tryz.ntmps108 (by simp) hμ ?_
  by_cases h0 : t.op = 109 ∨ t.op = 110
  · have e : Iq.moreB t.op t.m = true := by
      unfold Iq.moreB
      rw [if_pos h0]
    rw [e]
    rcases h0 with h0 | h0
    all_goals repeat' (first | refine KO ?_ | ((with_reducible apply F1 47); exact rfl; exact EN; (exact fun w μc hw hse => pin_spec _ _ _ w μc hw)) | refine KI ?_ | refine NB fun b => ?_ | (refine KB ?_ ?_ <;> intro hp) | refine KG ?_ | fail)
    all_goals first | (exfalso; first | omega | contradiction | exact absurd ‹_› ‹¬ _›) | exact ret_s rfl rfl rfl | (refine ret_s rfl rfl ?_; congr 1; first | (rw [decide_eq_true (by omega)]; done) | (rw [decide_eq_false (by omega)]; done) | (rw [Bool.eq_iff_iff]; simp; omega) | (simp [*]; done))
  by_cases h1 : t.op = 129
  · have e : Iq.moreB t.op t.m = Iq.inI t.m 0 1 := by
      unfold Iq.moreB
      rw [if_neg h0, if_pos h1]
    rw [e]
    repeat' (first | refine KO ?_ | ((with_reducible apply F1 47); exact rfl; exact EN; (exact fun w μc hw hse => pin_spec _ _ _ w μc hw)) | refine KI ?_ | refine NB fun b => ?_ | (refine KB ?_ ?_ <;> intro hp) | refine KG ?_ | fail)
    all_goals first | (exfalso; first | omega | contradiction | exact absurd ‹_› ‹¬ _›) | exact ret_s rfl rfl rfl | (refine ret_s rfl rfl ?_; congr 1; first | (rw [decide_eq_true (by omega)]; done) | (rw [decide_eq_false (by omega)]; done) | (rw [Bool.eq_iff_iff]; simp; omega) | (simp [*]; done))
  by_cases h2 : t.op = 163
  · have e : Iq.moreB t.op t.m = Iq.inI t.m 0 4096 := by
      unfold Iq.moreB
      rw [if_neg h0, if_neg h1, if_pos h2]
    rw [e]
    repeat' (first | refine KO ?_ | ((with_reducible apply F1 47); exact rfl; exact EN; (exact fun w μc hw hse => pin_spec _ _ _ w μc hw)) | refine KI ?_ | refine NB fun b => ?_ | (refine KB ?_ ?_ <;> intro hp) | refine KG ?_ | fail)
    all_goals first | (exfalso; first | omega | contradiction | exact absurd ‹_› ‹¬ _›) | exact ret_s rfl rfl rfl | (refine ret_s rfl rfl ?_; congr 1; first | (rw [decide_eq_true (by omega)]; done) | (rw [decide_eq_false (by omega)]; done) | (rw [Bool.eq_iff_iff]; simp; omega) | (simp [*]; done))
  have e : Iq.moreB t.op t.m = decide (t.m = 0) := by
    unfold Iq.moreB
    rw [if_neg h0, if_neg h1, if_neg h2]
  rw [e]
  repeat' (first | refine KK ?_ | refine NB fun b => ?_ | (refine KB ?_ ?_ <;> intro hp) | refine KG ?_ | fail)
  all_goals first | (exfalso; first | omega | contradiction | exact absurd ‹_› ‹¬ _›) | exact ret_s rfl rfl rfl | (refine ret_s rfl rfl ?_; congr 1; first | (rw [decide_eq_true (by omega)]; done) | (rw [decide_eq_false (by omega)]; done) | (rw [Bool.eq_iff_iff]; simp; omega) | (simp [*]; done))
end
section
open Go.RowKit Go.Vcg
attribute [local irreducible] G GC GQ GA GAop Calls IntKind.wrap Int.decLt Int.decLe
theorem pargs_spec (t : T) (u : Value) (w : World) (μ : Mem) (hμ : MOk μ w) (hu : KR μ t.kids u) (hk : t.kids.length ≤ 100000) (hm : t.op = 129 → 0 ≤ t.m ∧ t.m ≤ 1) : Calls Tryz.prog 110 #[.agg (encT t u).toArray] w fun e w' => e = .returned (.bool (Iq.argsB t.op t.m (t.kids.map T.op))) ∧ Below w.heap.size w w' := by
  obtain ⟨A, c, rfl, hc, hget⟩ := hu.form
  refine call_intro (args := [.agg (encT t (.slice A t.kids.length c)).toArray]) Tryz.func110 rfl Tryz.ntmps110 (by simp) hμ ?_
  unfold Iq.argsB
  rw [List.length_map]
  by_cases h0 : t.op = 129
  · rw [if_pos h0]
    obtain ⟨m0, m1⟩ := hm h0
    by_cases h1 : t.m = 1
    · by_cases h2 : t.kids.length < 2
      · rw [decide_eq_true h1, decide_eq_true h2]
        repeat' (first | refine KK ?_ | refine NB fun b => ?_ | (refine KB ?_ ?_ <;> intro hp) | refine KG ?_ | fail)
        all_goals first | (exfalso; first | omega | contradiction | exact absurd ‹_› ‹¬ _›) | exact ret_s rfl rfl rfl | (refine ret_s rfl rfl ?_; congr 1; first | (rw [decide_eq_true (by omega)]; done) | (rw [decide_eq_false (by omega)]; done) | (rw [Bool.eq_iff_iff]; simp; omega) | (rw [Bool.eq_iff_iff]; simp; done))
      · obtain ⟨ad, x, rfl, hm1, ho, hkr⟩ := hget 1 _ (List.getElem?_eq_getElem (by omega))
        have hka : t.kids[1]? = some t.kids[1] := List.getElem?_eq_getElem (by omega)
        rw [decide_eq_true h1, decide_eq_false h2, List.getElem?_map, hka]
        generalize t.kids[1] = y at hm1 ⊢
        by_cases h3 : y.op = 124
        · have e : (decide (Option.map T.op (some y) = some 124)) = true := by simp [h3]
          rw [e]
          repeat' (first | refine KO ?_ | (refine KV (b := by first | exact U1 1 | exact U4 hm1) (c := ?_)) | refine KI ?_ | refine NB fun b => ?_ | (refine KB ?_ ?_ <;> intro hp) | refine KG ?_ | fail)
          all_goals first | (exfalso; first | omega | contradiction | exact absurd ‹_› ‹¬ _›) | exact ret_s rfl rfl rfl | (refine ret_s rfl rfl ?_; congr 1; first | (rw [decide_eq_true (by omega)]; done) | (rw [decide_eq_false (by omega)]; done) | (rw [Bool.eq_iff_iff]; simp; omega) | (rw [Bool.eq_iff_iff]; simp; done))
        · have e : (decide (Option.map T.op (some y) = some 124)) = false := by simp [h3]
          rw [e, h1]
          repeat' (first | refine KO ?_ | (refine KV (b := by first | exact U1 1 | exact U4 hm1) (c := ?_)) | refine KI ?_ | refine NB fun b => ?_ | (refine KB ?_ ?_ <;> intro hp) | refine KG ?_ | fail)
          all_goals first | (exfalso; first | omega | contradiction | exact absurd ‹_› ‹¬ _›) | exact ret_s rfl rfl rfl | (refine ret_s rfl rfl ?_; congr 1; first | (rw [decide_eq_true (by omega)]; done) | (rw [decide_eq_false (by omega)]; done) | (rw [Bool.eq_iff_iff]; simp; omega) | (rw [Bool.eq_iff_iff]; simp; done))
    · have h2 : t.m = 0 := by omega
      rw [decide_eq_false h1]
      repeat' (first | refine KK ?_ | refine NB fun b => ?_ | (refine KB ?_ ?_ <;> intro hp) | refine KG ?_ | fail)
      all_goals first | (exfalso; first | omega | contradiction | exact absurd ‹_› ‹¬ _›) | exact ret_s rfl rfl rfl | (refine ret_s rfl rfl ?_; congr 1; first | (rw [decide_eq_true (by omega)]; done) | (rw [decide_eq_false (by omega)]; done) | (rw [Bool.eq_iff_iff]; simp; omega) | (rw [Bool.eq_iff_iff]; simp; done))
  · rw [if_neg h0]
    by_cases h1 : t.op = 131
    · rw [if_pos h1]
      repeat' (first | refine KK ?_ | refine NB fun b => ?_ | (refine KB ?_ ?_ <;> intro hp) | refine KG ?_ | fail)
      all_goals first | (exfalso; first | omega | contradiction | exact absurd ‹_› ‹¬ _›) | exact ret_s rfl rfl rfl | (refine ret_s rfl rfl ?_; congr 1; first | (rw [decide_eq_true (by omega)]; done) | (rw [decide_eq_false (by omega)]; done) | (rw [Bool.eq_iff_iff]; simp; omega) | (rw [Bool.eq_iff_iff]; simp; done))
    · rw [if_neg h1]
      by_cases h2 : t.op = 130
      · rw [if_pos h2]
        repeat' (first | refine KK ?_ | refine NB fun b => ?_ | (refine KB ?_ ?_ <;> intro hp) | refine KG ?_ | fail)
        all_goals first | (exfalso; first | omega | contradiction | exact absurd ‹_› ‹¬ _›) | exact ret_s rfl rfl rfl | (refine ret_s rfl rfl ?_; congr 1; first | (rw [decide_eq_true (by omega)]; done) | (rw [decide_eq_false (by omega)]; done) | (rw [Bool.eq_iff_iff]; simp; omega) | (rw [Bool.eq_iff_iff]; simp; done))
      · rw [if_neg h2]
        repeat' (first | refine KK ?_ | refine NB fun b => ?_ | (refine KB ?_ ?_ <;> intro hp) | refine KG ?_ | fail)
        all_goals first | (exfalso; first | omega | contradiction | exact absurd ‹_› ‹¬ _›) | exact ret_s rfl rfl rfl | (refine ret_s rfl rfl ?_; congr 1; first | (rw [decide_eq_true (by omega)]; done) | (rw [decide_eq_false (by omega)]; done) | (rw [Bool.eq_iff_iff]; simp; omega) | (rw [Bool.eq_iff_iff]; simp; done))
end
end Go.Proofs.YtoclmkdfcafhfaaGreatDoor
