/- Names of kinds: the program's and the reference's. A byte of an identifier; escaped strings: the program's form and the reference's has. Equality of trees but for positions: package tree's and the reference's. No statement of the seat is proved here. -/
import Derived.Test.YtllilkcocfalmaaGreatDoorTree
import Derived.Test.YtllilkcocfalmaaGreatDoorVq
import Derived.Test.YtllilkcocfalmaaGreatDoorVs
import Derived.Test.YtllilkcocfalmaaGreatDoorRead
import Derived.Test.YtllilkcocfalmaaGreatDoorRng
import Derived.Test.YtllilkcocfalmaaGreatDoorShelf
import Derived.KernelRfl
import Derived.Test.YtllilkcocfalmaaGreatDoorSt
import Derived.Test.YtllilkcocfalmaaGreatDoorBld2
set_option maxRecDepth 20000
namespace Go.Proofs.YtllilkcocfalmaaGreatDoor
open Go.RowKit Go.Vcg Go.Shelf
/-- the names of the kinds by number -/
def nameL : List (List UInt8) := [
  [],
  [80, 114, 111, 103, 114, 97, 109],
  [86, 97, 114],
  [68, 101, 99, 108],
  [70, 117, 110, 99],
  [80, 97, 114, 97, 109, 115],
  [66, 108, 111, 99, 107],
  [69, 109, 112, 116, 121],
  [69, 120, 112, 114],
  [73, 102],
  [70, 111, 114],
  [70, 111, 114, 73, 110],
  [70, 111, 114, 79, 102],
  [87, 104, 105, 108, 101],
  [68, 111],
  [66, 114, 101, 97, 107],
  [67, 111, 110, 116, 105, 110, 117, 101],
  [82, 101, 116, 117, 114, 110],
  [84, 104, 114, 111, 119],
  [84, 114, 121],
  [67, 97, 116, 99, 104],
  [83, 119, 105, 116, 99, 104],
  [67, 97, 115, 101],
  [76, 97, 98, 101, 108],
  [],
  [],
  [],
  [],
  [],
  [],
  [78, 117, 109],
  [84, 101, 120, 116],
  [66, 111, 111, 108],
  [78, 117, 108, 108],
  [78, 97, 109, 101],
  [84, 104, 105, 115],
  [84, 101, 109, 112, 108, 97, 116, 101],
  [65, 114, 114, 97, 121],
  [79, 98, 106, 101, 99, 116],
  [80, 114, 111, 112],
  [72, 111, 108, 101],
  [83, 112, 114, 101, 97, 100],
  [85, 110, 97, 114, 121],
  [85, 112, 100, 97, 116, 101],
  [66, 105, 110, 97, 114, 121],
  [76, 111, 103, 105, 99],
  [65, 115, 115, 105, 103, 110],
  [67, 111, 110, 100],
  [83, 101, 113],
  [67, 97, 108, 108],
  [78, 101, 119],
  [68, 111, 116],
  [73, 110, 100, 101, 120],
  [67, 104, 97, 105, 110],
  [89, 105, 101, 108, 100],
  [],
  [],
  [],
  [],
  [],
  [65, 114, 114, 80, 97, 116],
  [79, 98, 106, 80, 97, 116],
  [80, 97, 116, 80, 114, 111, 112],
  [68, 101, 102, 97, 117, 108, 116],
  [82, 101, 115, 116]]
def nameB (op : Int) : List UInt8 := if 0 ≤ op then nameL.getD op.toNat [] else []
theorem nameB_none {op : Int} (h : op < 0 ∨ 65 ≤ op) : nameB op = [] := by
  unfold nameB
  split
  · have : nameL.length = 65 := rfl
    rw [List.getD_eq_getElem?_getD, List.getElem?_eq_none (by omega)]
    rfl
  · rfl
theorem nameB_at {k : Nat} {l : List UInt8} (h : nameL[k]? = some l) : nameB (k : Int) = l := by
  unfold nameB
  rw [if_pos (by omega), Int.toNat_natCast, List.getD_eq_getElem?_getD, h]
  rfl
theorem nameB_gap {op : Int} (h : op = 0 ∨ op = 24 ∨ op = 25 ∨ op = 26 ∨ op = 27 ∨ op = 28 ∨ op = 29 ∨ op = 55 ∨ op = 56 ∨ op = 57 ∨ op = 58 ∨ op = 59) : nameB op = [] := by
  rcases h with rfl | rfl | rfl | rfl | rfl | rfl | rfl | rfl | rfl | rfl | rfl | rfl <;> rfl
abbrev encB (l : List UInt8) : List Value := [.string ⟨l.toArray⟩]
theorem grow_alloc {μ : Mem} {w : World} (hμ : MOk μ w) (o : Obj) : ∃ μ', Grow w (w.alloc o) μ μ' ∧ μ' w.heap.size = some o := by
  have hn : ∀ b, w.heap.size ≤ b → μ b = none := fun b hb => by
    cases h : μ b with
    | none => rfl
    | some x =>
      have := (Array.getElem?_eq_some_iff.1 (hμ b x h)).1
      omega
  refine ⟨fun b => if b = w.heap.size then some o else μ b, ⟨(Below.refl _ w).alloc (Nat.le_refl _) _, fun b x e => ?_, fun b x e => ?_, fun b hb h0 => ?_⟩, by simp⟩
  · have : b ≠ w.heap.size := fun e' => by rw [e', hn _ (Nat.le_refl _)] at e; cases e
    simp [this, e]
  · by_cases hb : b = w.heap.size
    · subst hb
      simp at e
      subst e
      exact World.alloc_heap_new w _
    · simp [hb] at e
      have := hμ b x e
      rw [Below.heap_alloc _ _ _ (Array.getElem?_eq_some_iff.1 this).1]
      exact this
  · have : b ≠ w.heap.size := by omega
    simp [this, h0]
def FieldsPost (ws : List (List UInt8)) (μ : Mem) (v : Value) : Prop := ∃ b, v = .slice (some ⟨b, 0, none⟩) ws.length ws.length ∧ Sl encB 1 μ (some ⟨b, 0, none⟩) ws.length ws
/-- the library's table of white space -/
def TabA (μ : Mem) : Prop := ∀ w, MOk μ w → Lib.TabIs Tryz.prog w "strings.asciiSpace" .u8 Lib.asciiSpaceTab
theorem TabA.mono {μ μ' : Mem} (h : TabA μ) (hle : MLe μ μ') : TabA μ' := fun w hw => h w (fun b o e => hw b o (hle b o e))
theorem fields_spec (s : ByteArray) (ws : List (List UInt8)) (hs : Nat.blt s.data.toList.length 4294967281 = true) (ha : s.data.toList.all (fun b => Nat.blt b.toNat 128) = true) (hf : Lib.fields s.data.toList = ws) (w : World) (μ : Mem) (hμ : MOk μ w) (hT : TabA μ) :
    Calls Tryz.prog 28 #[.string s] w fun e w' => ∃ v μ', e = .returned v ∧ Grow w w' μ μ' ∧ FieldsPost ws μ' v := by
  refine (Any.strings_Fields_laid Tryz.laysM157 s w (by have h := Nat.le_of_ble_eq_true hs; rw [Array.length_toList] at h; exact h) (fun j b hb => ?_) (hT w hμ)).mono fun e w' ⟨h1, h2⟩ => ?_
  · have := List.all_eq_true.1 ha b (List.mem_of_getElem? hb)
    exact Nat.le_of_ble_eq_true this
  · subst h2
    rw [hf] at h1 ⊢
    obtain ⟨μ', hg, hm⟩ := grow_alloc hμ (.cells (ws.map fun l => Value.string ⟨l.toArray⟩).toArray (Tryz.laysM157_ren.t 9))
    refine ⟨_, μ', h1, hg, _, rfl, rfl, fun hp => ⟨_, rfl, fun i l hl j v hj => ?_⟩⟩
    match j, hj with
    | 0, hj =>
      simp at hj
      subst hj
      rw [add_add', add_lit]
      exact ⟨_, _, _, hm, rfl, by simp [hl]⟩
    | j + 1, hj => simp at hj
attribute [local irreducible] G GC GQ GA GAop Calls IntKind.wrap Int.decLt Int.decLe
def NamesPost (μ : Mem) (v : Value) : Prop := ∃ b c, v = .slice (some ⟨b, 0, none⟩) 65 c ∧ Sl encB 1 μ (some ⟨b, 0, none⟩) 65 nameL
theorem rNames_spec (w : World) (μ : Mem) (hμ : MOk μ w) : Calls Tryz.prog 29 #[] w fun e w' => ∃ v μ', e = .returned v ∧ Grow w w' μ μ' ∧ NamesPost μ' v := by
  refine call_intro (args := []) Tryz.func29 rfl Tryz.ntmps29 (by simp) hμ ?_
  repeat' (first | (refine KK ?_) | (refine NB fun b => ?_) | ((refine KB ?_ ?_ <;> intro hp)) | (refine KG ?_) | fail)
  refine ret_m1 rfl (rv_tmp rfl) (fun μ' hle hL => ⟨b, 65, rfl, ?_⟩)
  have h := hL _ (List.mem_cons_self ..)
  refine Sl.of_own (x := ⟨b, 9, 65, _⟩) h rfl (fun i l hl j v hj => ?_)
  match j, hj with
  | 0, hj =>
    simp at hj
    subst hj
    have := lk_idx_of (nameL.map fun l => Value.string ⟨l.toArray⟩) 0 i (.string ⟨l.toArray⟩) (by rw [List.getElem?_map, hl]; rfl)
    rw [show i * 1 + 0 = 0 + i by omega]
    exact this
  | j + 1, hj => simp at hj
theorem name_spec (op : Int) (hop : -9223372036854775808 ≤ op ∧ op ≤ 9223372036854775807) (w : World) (μ : Mem) (hμ : MOk μ w) (hT : TabA μ) :
    Calls Tryz.prog 11 #[.int .i64 op] w fun e w' => e = .returned (.string ⟨(nameB op).toArray⟩) ∧ Below w.heap.size w w' := by
  refine call_intro (args := [.int .i64 op]) Tryz.func11 rfl Tryz.ntmps11 (by simp) hμ ?_
  have key : ∀ (lo n : Nat) (ws : List (List UInt8)), (nameL.drop lo).take n = ws → ∀ k : Nat, k < n → lo + n ≤ 65 → ∀ {μ' : Mem} {b : Nat}, Sl encB 1 μ' (some ⟨b, 0, none⟩) ws.length ws → MCells μ' ((⟨b, 0, none⟩ : Addr).add (k * 1)) [.string ⟨(nameB ((lo + k : Nat) : Int)).toArray⟩] := by
    intro lo n ws h k hk hlo μ' b hS
    have hl : nameL.length = 65 := rfl
    have hg : nameL[lo + k]? = some nameL[lo + k] := List.getElem?_eq_getElem (by omega)
    have hw : ws[k]? = some nameL[lo + k] := by
      rw [← h, List.getElem?_take_of_lt hk, List.getElem?_drop, hg]
    obtain ⟨a, e, ha⟩ := hS.2 (by have := (List.getElem?_eq_some_iff.1 hw).1; omega)
    cases e
    rw [nameB_at hg]
    exact ha k _ hw
  by_cases h1 : 1 ≤ op ∧ op ≤ 23
  · obtain ⟨k, rfl⟩ : ∃ k : Nat, op = ((1 + k : Nat) : Int) := ⟨(op - 1).toNat, by omega⟩
    repeat' (first | (refine KO ?_) | ((with_reducible apply F2 28); exact rfl; exact EN; (exact fun w hw => fields_spec _ ((nameL.drop 1).take 23) (by kernel_rfl) (by kernel_rfl) (by kernel_rfl) w _ hw hT); rintro v2 μ2 hle2 ⟨bf, rfl, hS⟩; (have hc := key 1 23 _ rfl k (by omega) (by omega) hS); (rw [show ((nameL.drop 1).take 23).length = 23 from rfl])) | ((with_reducible apply g_v); exact rfl; (first | (exact U1 k) | ((with_reducible apply v_load_sh); exact rfl; exact rfl; exact hc.at 0 rfl))) | (refine KI ?_) | ((refine KB ?_ ?_ <;> intro hp)) | (refine KG ?_) | fail)
    exact ret_v1 rfl (by first | exact rv_tmp rfl | exact (rv_agg 0 rfl rfl rfl rfl rfl (by repeat first | exact lc_nil | refine lc_cons rfl ?_)) | exact (rv_agg 1 rfl rfl rfl rfl rfl (by repeat first | exact lc_nil | refine lc_cons rfl ?_)) | exact (rv_agg 2 rfl rfl rfl rfl rfl (by repeat first | exact lc_nil | refine lc_cons rfl ?_)) | exact (rv_agg 3 rfl rfl rfl rfl rfl (by repeat first | exact lc_nil | refine lc_cons rfl ?_))) rfl
  by_cases h2 : 30 ≤ op ∧ op ≤ 54
  · obtain ⟨k, rfl⟩ : ∃ k : Nat, op = ((30 + k : Nat) : Int) := ⟨(op - 30).toNat, by omega⟩
    repeat' (first | (refine KO ?_) | ((with_reducible apply F2 28); exact rfl; exact EN; (exact fun w hw => fields_spec _ ((nameL.drop 30).take 25) (by kernel_rfl) (by kernel_rfl) (by kernel_rfl) w _ hw hT); rintro v2 μ2 hle2 ⟨bf, rfl, hS⟩; (have hc := key 30 25 _ rfl k (by omega) (by omega) hS); (rw [show ((nameL.drop 30).take 25).length = 25 from rfl])) | ((with_reducible apply g_v); exact rfl; (first | (exact U1 k) | ((with_reducible apply v_load_sh); exact rfl; exact rfl; exact hc.at 0 rfl))) | (refine KI ?_) | ((refine KB ?_ ?_ <;> intro hp)) | (refine KG ?_) | fail)
    exact ret_v1 rfl (by first | exact rv_tmp rfl | exact (rv_agg 0 rfl rfl rfl rfl rfl (by repeat first | exact lc_nil | refine lc_cons rfl ?_)) | exact (rv_agg 1 rfl rfl rfl rfl rfl (by repeat first | exact lc_nil | refine lc_cons rfl ?_)) | exact (rv_agg 2 rfl rfl rfl rfl rfl (by repeat first | exact lc_nil | refine lc_cons rfl ?_)) | exact (rv_agg 3 rfl rfl rfl rfl rfl (by repeat first | exact lc_nil | refine lc_cons rfl ?_))) rfl
  by_cases h3 : 60 ≤ op ∧ op ≤ 64
  · obtain ⟨k, rfl⟩ : ∃ k : Nat, op = ((60 + k : Nat) : Int) := ⟨(op - 60).toNat, by omega⟩
    repeat' (first | (refine KO ?_) | ((with_reducible apply F2 28); exact rfl; exact EN; (exact fun w hw => fields_spec _ ((nameL.drop 60).take 5) (by kernel_rfl) (by kernel_rfl) (by kernel_rfl) w _ hw hT); rintro v2 μ2 hle2 ⟨bf, rfl, hS⟩; (have hc := key 60 5 _ rfl k (by omega) (by omega) hS); (rw [show ((nameL.drop 60).take 5).length = 5 from rfl])) | ((with_reducible apply g_v); exact rfl; (first | (exact U1 k) | ((with_reducible apply v_load_sh); exact rfl; exact rfl; exact hc.at 0 rfl))) | (refine KI ?_) | ((refine KB ?_ ?_ <;> intro hp)) | (refine KG ?_) | fail)
    exact ret_v1 rfl (by first | exact rv_tmp rfl | exact (rv_agg 0 rfl rfl rfl rfl rfl (by repeat first | exact lc_nil | refine lc_cons rfl ?_)) | exact (rv_agg 1 rfl rfl rfl rfl rfl (by repeat first | exact lc_nil | refine lc_cons rfl ?_)) | exact (rv_agg 2 rfl rfl rfl rfl rfl (by repeat first | exact lc_nil | refine lc_cons rfl ?_)) | exact (rv_agg 3 rfl rfl rfl rfl rfl (by repeat first | exact lc_nil | refine lc_cons rfl ?_))) rfl
  have hF : nameB op = [] := by
    by_cases h0 : op < 0 ∨ 65 ≤ op
    · exact nameB_none h0
    · exact nameB_gap (by omega)
  rw [hF]
  repeat' (first | (refine KK ?_) | ((refine KB ?_ ?_ <;> intro hp)) | (refine KG ?_) | fail)
  all_goals exact ret_v1 rfl (by first | exact rv_tmp rfl | exact (rv_agg 0 rfl rfl rfl rfl rfl (by repeat first | exact lc_nil | refine lc_cons rfl ?_)) | exact (rv_agg 1 rfl rfl rfl rfl rfl (by repeat first | exact lc_nil | refine lc_cons rfl ?_)) | exact (rv_agg 2 rfl rfl rfl rfl rfl (by repeat first | exact lc_nil | refine lc_cons rfl ?_)) | exact (rv_agg 3 rfl rfl rfl rfl rfl (by repeat first | exact lc_nil | refine lc_cons rfl ?_))) rfl
theorem rName_spec (op : Int) (hop : -9223372036854775808 ≤ op ∧ op ≤ 9223372036854775807) (w : World) (μ : Mem) (hμ : MOk μ w) :
    Calls Tryz.prog 12 #[.int .i64 op] w fun e w' => e = .returned (.string ⟨(nameB op).toArray⟩) ∧ Below w.heap.size w w' := by
  refine call_intro (args := [.int .i64 op]) Tryz.func12 rfl Tryz.ntmps12 (by simp) hμ ?_
  by_cases h0 : op < 0 ∨ 65 ≤ op
  · rw [nameB_none h0]
    repeat' (first | (refine KO ?_) | ((with_reducible apply F2 29); exact rfl; exact EN; (exact fun w hw => rNames_spec w _ hw); rintro v2 μ2 hle2 ⟨bf, c, rfl, hS⟩) | (refine KI ?_) | ((refine KB ?_ ?_ <;> intro hp)) | (refine KG ?_) | fail)
    all_goals first | exact ret_v1 rfl (by first | exact rv_tmp rfl | exact (rv_agg 0 rfl rfl rfl rfl rfl (by repeat first | exact lc_nil | refine lc_cons rfl ?_)) | exact (rv_agg 1 rfl rfl rfl rfl rfl (by repeat first | exact lc_nil | refine lc_cons rfl ?_)) | exact (rv_agg 2 rfl rfl rfl rfl rfl (by repeat first | exact lc_nil | refine lc_cons rfl ?_)) | exact (rv_agg 3 rfl rfl rfl rfl rfl (by repeat first | exact lc_nil | refine lc_cons rfl ?_))) rfl | (exfalso; omega)
  · obtain ⟨k, rfl⟩ : ∃ k : Nat, op = (k : Int) := ⟨op.toNat, by omega⟩
    have hl : nameL.length = 65 := rfl
    have hg : nameL[k]? = some nameL[k] := List.getElem?_eq_getElem (by omega)
    rw [nameB_at hg]
    have hc : ∀ {μ' : Mem} {b : Nat}, Sl encB 1 μ' (some ⟨b, 0, none⟩) 65 nameL → MCells μ' ((⟨b, 0, none⟩ : Addr).add (k * 1)) [.string ⟨nameL[k].toArray⟩] := fun hS => by
      obtain ⟨a, e, ha⟩ := hS.2 (by omega)
      cases e
      exact ha k _ hg
    generalize nameL[k] = nk at hc
    repeat' (first | (refine KO ?_) | ((with_reducible apply F2 29); exact rfl; exact EN; (exact fun w hw => rNames_spec w _ hw); rintro v2 μ2 hle2 ⟨bf, c, rfl, hS⟩; (have hk := hc hS)) | ((with_reducible apply g_v); exact rfl; (first | (exact U1 k) | ((with_reducible apply v_load_sh); exact rfl; exact rfl; exact hk.at 0 rfl))) | (refine KI ?_) | ((refine KB ?_ ?_ <;> intro hp)) | (refine KG ?_) | fail)
    all_goals first | exact ret_v1 rfl (by first | exact rv_tmp rfl | exact (rv_agg 0 rfl rfl rfl rfl rfl (by repeat first | exact lc_nil | refine lc_cons rfl ?_)) | exact (rv_agg 1 rfl rfl rfl rfl rfl (by repeat first | exact lc_nil | refine lc_cons rfl ?_)) | exact (rv_agg 2 rfl rfl rfl rfl rfl (by repeat first | exact lc_nil | refine lc_cons rfl ?_)) | exact (rv_agg 3 rfl rfl rfl rfl rfl (by repeat first | exact lc_nil | refine lc_cons rfl ?_))) rfl | (exfalso; omega)
end Go.Proofs.YtllilkcocfalmaaGreatDoor
set_option maxRecDepth 20000
namespace Go.Proofs.YtllilkcocfalmaaGreatDoor
open Go.RowKit Go.Vcg
theorem drop_cons {l : List UInt8} {i : Nat} {b : UInt8} (h : l[i]? = some b) : l.drop i = b :: l.drop (i + 1) := by
  obtain ⟨hlt, e⟩ := List.getElem?_eq_some_iff.1 h
  rw [← e, List.getElem_cons_drop]
theorem bl_at {s : ByteArray} {i : Nat} (h : i < s.size) : ∃ b, (bl s)[i]? = some b ∧ bAt s i = b.toNat := by
  have h1 : i < (bl s).length := by rw [bl_len]; exact h
  have h2 : s.data.toList[i]? = some (bl s)[i] := List.getElem?_eq_getElem h1
  refine ⟨(bl s)[i], List.getElem?_eq_getElem h1, ?_⟩
  unfold bAt
  rw [h2]
  rfl
theorem bl_app (a b : ByteArray) : bl (a ++ b) = bl a ++ bl b := by simp [bl, ByteArray.data_append]
theorem bl_one {s : ByteArray} {k : Nat} {c : UInt8} (h : (bl s)[k]? = some c) : bl (s.extract k (k + 1)) = [c] := by
  rw [bl_extract, drop_cons h, Nat.add_sub_cancel_left, List.take_succ_cons, List.take_zero]
theorem size_mkB (l : List UInt8) : ByteArray.size ⟨l.toArray⟩ = l.length := by simp [ByteArray.size]
theorem bl_mk (l : List UInt8) : bl ⟨l.toArray⟩ = l := by simp [bl]
def LetP (n : Nat) : Prop := 97 ≤ n ∧ n ≤ 122 ∨ 65 ≤ n ∧ n ≤ 90 ∨ n = 95 ∨ n = 36
instance (n : Nat) : Decidable (LetP n) := by unfold LetP; exact inferInstance
def DigP (n : Nat) : Prop := 48 ≤ n ∧ n ≤ 57
instance (n : Nat) : Decidable (DigP n) := by unfold DigP; exact inferInstance
def hexU : List UInt8 := [48, 49, 50, 51, 52, 53, 54, 55, 56, 57, 65, 66, 67, 68, 69, 70]
def codeD (c : UInt8) : List UInt8 := if DigP c.toNat ∨ LetP c.toNat then [c] else [37, hexU.getD (c.toNat / 16) 0, hexU.getD (c.toNat % 16) 0]
def codD (xs : List UInt8) : List UInt8 := xs.flatMap codeD
theorem codeD_len (c : UInt8) : (codeD c).length ≤ 3 := by
  unfold codeD
  split <;> simp
theorem codD_len : ∀ xs : List UInt8, (codD xs).length ≤ 3 * xs.length
  | [] => by simp [codD]
  | c :: r => by
    have := codD_len r
    have := codeD_len c
    unfold codD at *
    rw [List.flatMap_cons, List.length_append, List.length_cons]
    omega
theorem codD_snoc {xs : List UInt8} {i : Nat} {c : UInt8} (h : xs[i]? = some c) : codD (xs.take (i + 1)) = codD (xs.take i) ++ codeD c := by
  unfold codD
  rw [List.take_add_one, h, List.flatMap_append]
  simp
attribute [local irreducible] G GC GQ GA GAop Calls IntKind.wrap Int.decLt Int.decLe
theorem form1_spec (s : ByteArray) (c : UInt8) (h : bl s = [c]) {r : Bool} (hr : decide (LetP c.toNat) = r) (w : World) (μ : Mem) (hμ : MOk μ w) :
    Calls Tryz.prog 46 #[.string s] w fun e w' => e = .returned (.bool r) ∧ Below w.heap.size w w' := by
  have hs : s.size = 1 := by rw [← bl_len, h]; rfl
  have hne : s ≠ ⟨#[]⟩ := fun e => by rw [e] at hs; cases hs
  obtain ⟨c', hc1, hc2⟩ := bl_at (s := s) (i := 0) (by omega)
  have hcc : c' = c := by rw [h] at hc1; simpa using hc1.symm
  rw [hcc] at hc2
  have hb : bAt s 0 = (c.toNat : Int) := hc2
  refine call_intro (args := [.string s]) Tryz.func46 rfl Tryz.ntmps46 (by simp) hμ ?_
  repeat' (first | (refine KK ?_) | ((refine KB ?_ ?_ <;> intro hp)) | (refine KG ?_) | fail)
  refine gc_loop (ι := Nat) (fun i => i ≤ 1 ∧ (i = 1 → r = true)) (fun i => 1 - i) (fun _ => μ) (fun i => [(8, .int .i64 i), (7, .int .i64 s.size), (0, .string s)]) (fun _ => []) 0 ⟨by omega, fun h => by cases h⟩ (fun a w hs => J6 hs) ?_
  rintro i ⟨hi, hi1⟩
  rw [hs]
  by_cases hlt : i < 1
  · obtain rfl : i = 0 := by omega
    have hsz : (0 : Nat) < s.size := by omega
    cases r with
    | true =>
      have hL : LetP c.toNat := of_decide_eq_true hr
      unfold LetP at hL
      repeat' (first | (refine KO ?_) | ((with_reducible apply g_v); exact rfl; (first | (exact U2 0))) | (refine KI ?_) | ((refine KB ?_ ?_ <;> intro hp)) | (refine KG ?_) | fail)
      all_goals first
        | exact J4 1 ⟨by omega, fun _ => rfl⟩ (by omega)
        | (exfalso; omega)
    | false =>
      have hL : ¬ LetP c.toNat := of_decide_eq_false hr
      unfold LetP at hL
      repeat' (first | (refine KO ?_) | ((with_reducible apply g_v); exact rfl; (first | (exact U2 0))) | (refine KI ?_) | ((refine KB ?_ ?_ <;> intro hp)) | (refine KG ?_) | fail)
      all_goals first
        | exact ret_v1 rfl (by first | exact rv_tmp rfl | exact (rv_agg 0 rfl rfl rfl rfl rfl (by repeat first | exact lc_nil | refine lc_cons rfl ?_)) | exact (rv_agg 1 rfl rfl rfl rfl rfl (by repeat first | exact lc_nil | refine lc_cons rfl ?_)) | exact (rv_agg 2 rfl rfl rfl rfl rfl (by repeat first | exact lc_nil | refine lc_cons rfl ?_)) | exact (rv_agg 3 rfl rfl rfl rfl rfl (by repeat first | exact lc_nil | refine lc_cons rfl ?_))) rfl
        | (exfalso; omega)
  · obtain rfl : i = 1 := by omega
    repeat' (first | (refine KK ?_) | ((refine KB ?_ ?_ <;> intro hp)) | (refine KG ?_) | fail)
    refine ret_v1 rfl (by first | exact rv_tmp rfl | exact (rv_agg 0 rfl rfl rfl rfl rfl (by repeat first | exact lc_nil | refine lc_cons rfl ?_)) | exact (rv_agg 1 rfl rfl rfl rfl rfl (by repeat first | exact lc_nil | refine lc_cons rfl ?_)) | exact (rv_agg 2 rfl rfl rfl rfl rfl (by repeat first | exact lc_nil | refine lc_cons rfl ?_)) | exact (rv_agg 3 rfl rfl rfl rfl rfl (by repeat first | exact lc_nil | refine lc_cons rfl ?_))) ?_
    rw [hi1 rfl]
    simp [hne]
theorem has_spec (s : ByteArray) (hs : s.size ≤ 1000000) (c : UInt8) {r : Bool} (hr : (bl s).contains c = r) (w : World) (μ : Mem) (hμ : MOk μ w) :
    Calls Tryz.prog 52 #[.string s, .int .u8 c.toNat] w fun e w' => e = .returned (.bool r) ∧ Below w.heap.size w w' := by
  refine call_intro (args := [.string s, .int .u8 c.toNat]) Tryz.func52 rfl Tryz.ntmps52 (by simp) hμ ?_
  repeat' (first | (refine KK ?_) | ((refine KB ?_ ?_ <;> intro hp)) | (refine KG ?_) | fail)
  refine gc_loop (ι := Nat) (fun i => i ≤ s.size ∧ ∀ j : Nat, j < i → (bl s)[j]? ≠ some c) (fun i => s.size - i) (fun _ => μ) (fun i => [(5, .int .i64 i), (0, .string s), (1, .int .u8 c.toNat)]) (fun _ => []) 0 ⟨by omega, fun j h => absurd h (by omega)⟩ (fun a w hs => J6 hs) ?_
  rintro i ⟨hi, hi1⟩
  by_cases hlt : i < s.size
  · obtain ⟨d, hb1, hb2⟩ := bl_at hlt
    by_cases hd : d = c
    · subst hd
      have hrt : r = true := by
        rw [← hr]
        exact List.contains_iff_mem.2 (List.mem_of_getElem? hb1)
      subst hrt
      repeat' (first | (refine KO ?_) | ((with_reducible apply g_v); exact rfl; (first | (exact U2 i))) | (refine KI ?_) | ((refine KB ?_ ?_ <;> intro hp)) | (refine KG ?_) | fail)
      exact ret_v1 rfl (by first | exact rv_tmp rfl | exact (rv_agg 0 rfl rfl rfl rfl rfl (by repeat first | exact lc_nil | refine lc_cons rfl ?_)) | exact (rv_agg 1 rfl rfl rfl rfl rfl (by repeat first | exact lc_nil | refine lc_cons rfl ?_)) | exact (rv_agg 2 rfl rfl rfl rfl rfl (by repeat first | exact lc_nil | refine lc_cons rfl ?_)) | exact (rv_agg 3 rfl rfl rfl rfl rfl (by repeat first | exact lc_nil | refine lc_cons rfl ?_))) rfl
    · have hdn : ¬ (bAt s i = (c.toNat : Int)) := fun h => hd (UInt8.toNat_inj.1 (by omega))
      repeat' (first | (refine KO ?_) | ((with_reducible apply g_v); exact rfl; (first | (exact U2 i))) | (refine KI ?_) | ((refine KB ?_ ?_ <;> intro hp)) | (refine KG ?_) | fail)
      refine J4 (i + 1) ⟨by omega, fun j hj => ?_⟩ (by omega)
      rcases Nat.lt_or_ge j i with h | h
      · exact hi1 j h
      · have : j = i := by omega
        subst this
        rw [hb1]
        exact fun h => hd (Option.some.inj h)
  · have hrf : r = false := by
      rw [← hr]
      cases h : (bl s).contains c with
      | false => rfl
      | true =>
        have hm := List.contains_iff_mem.1 h
        obtain ⟨j, hj⟩ := List.mem_iff_getElem?.1 hm
        have hlt2 := (List.getElem?_eq_some_iff.1 hj).1
        rw [bl_len] at hlt2
        exact absurd hj (hi1 j (by omega))
    subst hrf
    repeat' (first | (refine KK ?_) | ((refine KB ?_ ?_ <;> intro hp)) | (refine KG ?_) | fail)
    exact ret_v1 rfl (by first | exact rv_tmp rfl | exact (rv_agg 0 rfl rfl rfl rfl rfl (by repeat first | exact lc_nil | refine lc_cons rfl ?_)) | exact (rv_agg 1 rfl rfl rfl rfl rfl (by repeat first | exact lc_nil | refine lc_cons rfl ?_)) | exact (rv_agg 2 rfl rfl rfl rfl rfl (by repeat first | exact lc_nil | refine lc_cons rfl ?_)) | exact (rv_agg 3 rfl rfl rfl rfl rfl (by repeat first | exact lc_nil | refine lc_cons rfl ?_))) rfl
theorem plainly_spec (s : ByteArray) (hs : s.size ≤ 65536) (w : World) (μ : Mem) (hμ : MOk μ w) :
    Calls Tryz.prog 24 #[.string s] w fun e w' => e = .returned (.string ⟨(codD (bl s)).toArray⟩) ∧ Below w.heap.size w w' := by
  refine call_intro (args := [.string s]) Tryz.func24 rfl Tryz.ntmps24 (by simp) hμ ?_
  repeat' (first | (refine KK ?_) | (refine NB fun b => ?_) | ((refine KB ?_ ?_ <;> intro hp)) | (refine KG ?_) | fail)
  refine gc_loop (ι := Nat × Value × Value) (fun i => i.1 ≤ s.size ∧ IsP b i.2.1) (fun i => s.size - i.1) (fun _ => μ) (fun i => [(8, .int .i64 i.1), (7, .int .i64 s.size), (3, .pointer (some ⟨b, 0, none⟩)), (0, .string s)])
    (fun i => Bld b i.2.1 i.2.2 (codD ((bl s).take i.1)) []) (0, .pointer none, .slice none 0 0) ⟨by simp, .inl rfl⟩ (fun a w hs => ((hs.nilRow 5 1).perm (List.Perm.swap _ _ _)).sub (by repeat first | exact subS_nil | refine subS_cons rfl ?_) (by repeat first | exact List.Sublist.refl _ | exact List.nil_sublist _ | refine List.Sublist.cons_cons _ ?_ | refine List.Sublist.cons _ ?_)) ?_
  rintro ⟨i, p, v⟩ ⟨hi, hisp⟩
  dsimp only at hi hisp ⊢
  have hol := codD_len ((bl s).take i)
  rw [List.length_take, bl_len] at hol
  have hnext := @codD_snoc (bl s) i
  generalize hout : codD ((bl s).take i) = out at hol hnext
  by_cases hlt : i < s.size
  · obtain ⟨c, hb1, hb2⟩ := bl_at hlt
    have hn1 := hnext hb1
    have h0 := bAt_lo s i
    have h1 := bAt_hi s i
    by_cases hD : DigP c.toNat
    · have hr : decide (LetP c.toNat) = decide (LetP c.toNat) := rfl
      have hC : codeD c = [c] := by unfold codeD; rw [if_pos (.inl hD)]
      have hW : bl s = bl s := rfl
      unfold DigP at hD
      repeat' (first | (refine KO ?_) | ((with_reducible apply F1 46); exact rfl; exact EN; (exact fun w μc hw hse => form1_spec _ c (bl_one hb1) hr w μc hw)) | ((with_reducible apply g_wbyte c); exact rfl; exact rfl; exact rfl; ((with_reducible apply e_call2); kernel_rfl; exact rfl; exact rfl); exact rfl; exact mok_none hμ; exact rfl; exact hisp; omega; omega; intro v') | ((with_reducible apply g_wstring); exact rfl; exact rfl; exact rfl; ((with_reducible apply e_call2); kernel_rfl; exact rfl; exact rfl); exact rfl; exact mok_none hμ; exact rfl; exact hisp; (rw [← bl_len, hW]; simp only [List.length_cons, List.length_nil]; omega); intro v') | ((with_reducible apply g_v); exact rfl; (first | (exact U2 i) | ((with_reducible apply v_str_both i (i + 1)); exact rfl; exact rfl; exact rfl; exact rfl; exact rfl; (first | exact rfl | omega); omega; (first | omega | (show _ ≤ 4; omega))))) | (refine KI ?_) | (refine NB fun b => ?_) | ((refine KB ?_ ?_ <;> intro hp)) | (refine KG ?_) | fail)
      refine gq_back (i + 1, .pointer (some ⟨b, 0, none⟩), v') ⟨by dsimp only; omega, .inr rfl⟩ (by dsimp only; omega) rfl (by repeat first | exact subS_nil | refine subS_cons rfl ?_) ?_
      dsimp only
      rw [hn1, hC]
      exact List.Sublist.refl _
    · by_cases hL : LetP c.toNat
      · have hr : decide (LetP c.toNat) = true := decide_eq_true hL
        have hC : codeD c = [c] := by unfold codeD; rw [if_pos (.inr hL)]
        have hW : bl s = bl s := rfl
        unfold DigP at hD
        repeat' (first | (refine KO ?_) | ((with_reducible apply F1 46); exact rfl; exact EN; (exact fun w μc hw hse => form1_spec _ c (bl_one hb1) hr w μc hw)) | ((with_reducible apply g_wbyte c); exact rfl; exact rfl; exact rfl; ((with_reducible apply e_call2); kernel_rfl; exact rfl; exact rfl); exact rfl; exact mok_none hμ; exact rfl; exact hisp; omega; omega; intro v') | ((with_reducible apply g_wstring); exact rfl; exact rfl; exact rfl; ((with_reducible apply e_call2); kernel_rfl; exact rfl; exact rfl); exact rfl; exact mok_none hμ; exact rfl; exact hisp; (rw [← bl_len, hW]; simp only [List.length_cons, List.length_nil]; omega); intro v') | ((with_reducible apply g_v); exact rfl; (first | (exact U2 i) | ((with_reducible apply v_str_both i (i + 1)); exact rfl; exact rfl; exact rfl; exact rfl; exact rfl; (first | exact rfl | omega); omega; (first | omega | (show _ ≤ 4; omega))))) | (refine KI ?_) | (refine NB fun b => ?_) | ((refine KB ?_ ?_ <;> intro hp)) | (refine KG ?_) | fail)
        all_goals
          refine gq_back (i + 1, .pointer (some ⟨b, 0, none⟩), v') ⟨by dsimp only; omega, .inr rfl⟩ (by dsimp only; omega) rfl (by repeat first | exact subS_nil | refine subS_cons rfl ?_) ?_
          dsimp only
          rw [hn1, hC]
          exact List.Sublist.refl _
      · have hr : decide (LetP c.toNat) = false := decide_eq_false hL
        have hc : c.toNat < 256 := c.toNat_lt
        have hC : codeD c = [37, hexU.getD (c.toNat / 16) 0, hexU.getD (c.toNat % 16) 0] := by unfold codeD; rw [if_neg (by rintro (h | h); exact hD h; exact hL h)]
        have hg : ∀ d, d < 16 → (bl ⟨#[48, 49, 50, 51, 52, 53, 54, 55, 56, 57, 65, 66, 67, 68, 69, 70]⟩)[d]? = some (hexU.getD d 0) := by
          intro d hd
          show hexU[d]? = some (hexU.getD d 0)
          rw [List.getD_eq_getElem?_getD, List.getElem?_eq_getElem (show d < hexU.length from hd)]; rfl
        have hW : bl ((⟨#[37]⟩ ++ ByteArray.extract ⟨#[48, 49, 50, 51, 52, 53, 54, 55, 56, 57, 65, 66, 67, 68, 69, 70]⟩ (c.toNat / 16) (c.toNat / 16 + 1)) ++ ByteArray.extract ⟨#[48, 49, 50, 51, 52, 53, 54, 55, 56, 57, 65, 66, 67, 68, 69, 70]⟩ (c.toNat % 16) (c.toNat % 16 + 1)) = [37, hexU.getD (c.toNat / 16) 0, hexU.getD (c.toNat % 16) 0] := by
          rw [bl_app, bl_app, bl_one (hg _ (by omega)), bl_one (hg _ (by omega))]; rfl
        have hE1 := bl_one (hg (c.toNat / 16) (by omega))
        have hE2 := bl_one (hg (c.toNat % 16) (by omega))
        unfold DigP at hD
        repeat' (first | (refine KO ?_) | ((with_reducible apply F1 46); exact rfl; exact EN; (exact fun w μc hw hse => form1_spec _ c (bl_one hb1) hr w μc hw)) | ((with_reducible apply g_wbyte c); exact rfl; exact rfl; exact rfl; ((with_reducible apply e_call2); kernel_rfl; exact rfl; exact rfl); exact rfl; exact mok_none hμ; exact rfl; exact hisp; omega; omega; intro v') | ((with_reducible apply g_wstring); exact rfl; exact rfl; exact rfl; ((with_reducible apply e_call2); kernel_rfl; exact rfl; exact rfl); exact rfl; exact mok_none hμ; exact rfl; exact hisp; (rw [← bl_len, hW]; simp only [List.length_cons, List.length_nil]; omega); intro v') | ((with_reducible apply g_v); exact rfl; (first | (exact U2 i) | ((with_reducible apply v_str_both i (i + 1)); exact rfl; exact rfl; exact rfl; exact rfl; exact rfl; (first | exact rfl | omega); omega; (first | omega | (show _ ≤ 4; omega))))) | (refine KI ?_) | (refine NB fun b => ?_) | ((refine KB ?_ ?_ <;> intro hp)) | (refine KG ?_) | fail)
        · refine gc_draw 15 _ (by kernel_rfl) rfl (List.Sublist.cons _ (List.Sublist.cons _ (List.nil_sublist _))) ?_
          all_goals refine DD 0 ?_
          all_goals (first | (refine D1 1 ?_) | ((with_reducible apply ga_v 1); exact rfl; kernel_rfl; (exact fun _ _ _ h => h); (first | ((with_reducible apply v_sadd); exact rfl; exact rfl; (simp only [← bl_len, bl_app, hE1, hE2, List.length_append]; exact Nat.le_of_ble_eq_true rfl)) | ((with_reducible apply v_str_u8 (c.toNat / 16) (c.toNat / 16 + 1)); exact rfl; exact rfl; exact rfl; omega; exact rfl; omega; omega; (show _ ≤ 16; omega)) | ((with_reducible apply v_str_u8 (c.toNat % 16) (c.toNat % 16 + 1)); exact rfl; exact rfl; exact rfl; omega; exact rfl; omega; omega; (show _ ≤ 16; omega)) | ((with_reducible apply v_shr8); exact rfl) | ((with_reducible apply v_and8); exact rfl; omega))) | (refine DD 1 ?_) | fail)
          all_goals refine DD 2 ?_
          all_goals (first | (refine D1 3 ?_) | ((with_reducible apply ga_v 3); exact rfl; kernel_rfl; (exact fun _ _ _ h => h); (first | ((with_reducible apply v_sadd); exact rfl; exact rfl; (simp only [← bl_len, bl_app, hE1, hE2, List.length_append]; exact Nat.le_of_ble_eq_true rfl)) | ((with_reducible apply v_str_u8 (c.toNat / 16) (c.toNat / 16 + 1)); exact rfl; exact rfl; exact rfl; omega; exact rfl; omega; omega; (show _ ≤ 16; omega)) | ((with_reducible apply v_str_u8 (c.toNat % 16) (c.toNat % 16 + 1)); exact rfl; exact rfl; exact rfl; omega; exact rfl; omega; omega; (show _ ≤ 16; omega)) | ((with_reducible apply v_shr8); exact rfl) | ((with_reducible apply v_and8); exact rfl; omega))) | (refine DD 3 ?_) | fail)
          all_goals (first | (refine D1 4 ?_) | ((with_reducible apply ga_v 4); exact rfl; kernel_rfl; (exact fun _ _ _ h => h); (first | ((with_reducible apply v_sadd); exact rfl; exact rfl; (simp only [← bl_len, bl_app, hE1, hE2, List.length_append]; exact Nat.le_of_ble_eq_true rfl)) | ((with_reducible apply v_str_u8 (c.toNat / 16) (c.toNat / 16 + 1)); exact rfl; exact rfl; exact rfl; omega; exact rfl; omega; omega; (show _ ≤ 16; omega)) | ((with_reducible apply v_str_u8 (c.toNat % 16) (c.toNat % 16 + 1)); exact rfl; exact rfl; exact rfl; omega; exact rfl; omega; omega; (show _ ≤ 16; omega)) | ((with_reducible apply v_shr8); exact rfl) | ((with_reducible apply v_and8); exact rfl; omega))) | (refine DD 4 ?_) | fail)
          all_goals (first | (refine D1 5 ?_) | ((with_reducible apply ga_v 5); exact rfl; kernel_rfl; (exact fun _ _ _ h => h); (first | ((with_reducible apply v_sadd); exact rfl; exact rfl; (simp only [← bl_len, bl_app, hE1, hE2, List.length_append]; exact Nat.le_of_ble_eq_true rfl)) | ((with_reducible apply v_str_u8 (c.toNat / 16) (c.toNat / 16 + 1)); exact rfl; exact rfl; exact rfl; omega; exact rfl; omega; omega; (show _ ≤ 16; omega)) | ((with_reducible apply v_str_u8 (c.toNat % 16) (c.toNat % 16 + 1)); exact rfl; exact rfl; exact rfl; omega; exact rfl; omega; omega; (show _ ≤ 16; omega)) | ((with_reducible apply v_shr8); exact rfl) | ((with_reducible apply v_and8); exact rfl; omega))) | (refine DD 5 ?_) | fail)
          all_goals (first | (refine D1 6 ?_) | ((with_reducible apply ga_v 6); exact rfl; kernel_rfl; (exact fun _ _ _ h => h); (first | ((with_reducible apply v_sadd); exact rfl; exact rfl; (simp only [← bl_len, bl_app, hE1, hE2, List.length_append]; exact Nat.le_of_ble_eq_true rfl)) | ((with_reducible apply v_str_u8 (c.toNat / 16) (c.toNat / 16 + 1)); exact rfl; exact rfl; exact rfl; omega; exact rfl; omega; omega; (show _ ≤ 16; omega)) | ((with_reducible apply v_str_u8 (c.toNat % 16) (c.toNat % 16 + 1)); exact rfl; exact rfl; exact rfl; omega; exact rfl; omega; omega; (show _ ≤ 16; omega)) | ((with_reducible apply v_shr8); exact rfl) | ((with_reducible apply v_and8); exact rfl; omega))) | (refine DD 6 ?_) | fail)
          all_goals refine DD 7 ?_
          all_goals (first | (refine D1 8 ?_) | ((with_reducible apply ga_v 8); exact rfl; kernel_rfl; (exact fun _ _ _ h => h); (first | ((with_reducible apply v_sadd); exact rfl; exact rfl; (simp only [← bl_len, bl_app, hE1, hE2, List.length_append]; exact Nat.le_of_ble_eq_true rfl)) | ((with_reducible apply v_str_u8 (c.toNat / 16) (c.toNat / 16 + 1)); exact rfl; exact rfl; exact rfl; omega; exact rfl; omega; omega; (show _ ≤ 16; omega)) | ((with_reducible apply v_str_u8 (c.toNat % 16) (c.toNat % 16 + 1)); exact rfl; exact rfl; exact rfl; omega; exact rfl; omega; omega; (show _ ≤ 16; omega)) | ((with_reducible apply v_shr8); exact rfl) | ((with_reducible apply v_and8); exact rfl; omega))) | (refine DD 8 ?_) | fail)
          all_goals refine DD 9 ?_
          all_goals (first | (refine D1 10 ?_) | ((with_reducible apply ga_v 10); exact rfl; kernel_rfl; (exact fun _ _ _ h => h); (first | ((with_reducible apply v_sadd); exact rfl; exact rfl; (simp only [← bl_len, bl_app, hE1, hE2, List.length_append]; exact Nat.le_of_ble_eq_true rfl)) | ((with_reducible apply v_str_u8 (c.toNat / 16) (c.toNat / 16 + 1)); exact rfl; exact rfl; exact rfl; omega; exact rfl; omega; omega; (show _ ≤ 16; omega)) | ((with_reducible apply v_str_u8 (c.toNat % 16) (c.toNat % 16 + 1)); exact rfl; exact rfl; exact rfl; omega; exact rfl; omega; omega; (show _ ≤ 16; omega)) | ((with_reducible apply v_shr8); exact rfl) | ((with_reducible apply v_and8); exact rfl; omega))) | (refine DD 10 ?_) | fail)
          all_goals (first | (refine D1 11 ?_) | ((with_reducible apply ga_v 11); exact rfl; kernel_rfl; (exact fun _ _ _ h => h); (first | ((with_reducible apply v_sadd); exact rfl; exact rfl; (simp only [← bl_len, bl_app, hE1, hE2, List.length_append]; exact Nat.le_of_ble_eq_true rfl)) | ((with_reducible apply v_str_u8 (c.toNat / 16) (c.toNat / 16 + 1)); exact rfl; exact rfl; exact rfl; omega; exact rfl; omega; omega; (show _ ≤ 16; omega)) | ((with_reducible apply v_str_u8 (c.toNat % 16) (c.toNat % 16 + 1)); exact rfl; exact rfl; exact rfl; omega; exact rfl; omega; omega; (show _ ≤ 16; omega)) | ((with_reducible apply v_shr8); exact rfl) | ((with_reducible apply v_and8); exact rfl; omega))) | (refine DD 11 ?_) | fail)
          all_goals (first | (refine D1 12 ?_) | ((with_reducible apply ga_v 12); exact rfl; kernel_rfl; (exact fun _ _ _ h => h); (first | ((with_reducible apply v_sadd); exact rfl; exact rfl; (simp only [← bl_len, bl_app, hE1, hE2, List.length_append]; exact Nat.le_of_ble_eq_true rfl)) | ((with_reducible apply v_str_u8 (c.toNat / 16) (c.toNat / 16 + 1)); exact rfl; exact rfl; exact rfl; omega; exact rfl; omega; omega; (show _ ≤ 16; omega)) | ((with_reducible apply v_str_u8 (c.toNat % 16) (c.toNat % 16 + 1)); exact rfl; exact rfl; exact rfl; omega; exact rfl; omega; omega; (show _ ≤ 16; omega)) | ((with_reducible apply v_shr8); exact rfl) | ((with_reducible apply v_and8); exact rfl; omega))) | (refine DD 12 ?_) | fail)
          all_goals (first | (refine D1 13 ?_) | ((with_reducible apply ga_v 13); exact rfl; kernel_rfl; (exact fun _ _ _ h => h); (first | ((with_reducible apply v_sadd); exact rfl; exact rfl; (simp only [← bl_len, bl_app, hE1, hE2, List.length_append]; exact Nat.le_of_ble_eq_true rfl)) | ((with_reducible apply v_str_u8 (c.toNat / 16) (c.toNat / 16 + 1)); exact rfl; exact rfl; exact rfl; omega; exact rfl; omega; omega; (show _ ≤ 16; omega)) | ((with_reducible apply v_str_u8 (c.toNat % 16) (c.toNat % 16 + 1)); exact rfl; exact rfl; exact rfl; omega; exact rfl; omega; omega; (show _ ≤ 16; omega)) | ((with_reducible apply v_shr8); exact rfl) | ((with_reducible apply v_and8); exact rfl; omega))) | (refine DD 13 ?_) | fail)
          all_goals (first | (refine D3 14 ?_; refine D5 ?_; (with_reducible apply g_wstring); exact rfl; exact rfl; exact rfl; ((with_reducible apply e_call2); kernel_rfl; exact rfl; exact rfl); exact rfl; exact mok_none hμ; exact rfl; exact hisp; (rw [← bl_len, hW]; simp only [List.length_cons, List.length_nil]; omega); intro v'; refine D9 ?_))
          all_goals refine D8 ?_
          repeat' (first | (refine KO ?_) | ((with_reducible apply F1 46); exact rfl; exact EN; (exact fun w μc hw hse => form1_spec _ c (bl_one hb1) hr w μc hw)) | ((with_reducible apply g_wbyte c); exact rfl; exact rfl; exact rfl; ((with_reducible apply e_call2); kernel_rfl; exact rfl; exact rfl); exact rfl; exact mok_none hμ; exact rfl; exact hisp; omega; omega; intro v') | ((with_reducible apply g_wstring); exact rfl; exact rfl; exact rfl; ((with_reducible apply e_call2); kernel_rfl; exact rfl; exact rfl); exact rfl; exact mok_none hμ; exact rfl; exact hisp; (rw [← bl_len, hW]; simp only [List.length_cons, List.length_nil]; omega); intro v') | ((with_reducible apply g_v); exact rfl; (first | (exact U2 i) | ((with_reducible apply v_str_both i (i + 1)); exact rfl; exact rfl; exact rfl; exact rfl; exact rfl; (first | exact rfl | omega); omega; (first | omega | (show _ ≤ 4; omega))))) | (refine KI ?_) | (refine NB fun b => ?_) | ((refine KB ?_ ?_ <;> intro hp)) | (refine KG ?_) | fail)
          refine gq_back (i + 1, .pointer (some ⟨b, 0, none⟩), v') ⟨by dsimp only; omega, .inr rfl⟩ (by dsimp only; omega) rfl (by repeat first | exact subS_nil | refine subS_cons rfl ?_) ?_
          dsimp only
          rw [hn1, hC]
          first | exact List.Sublist.refl _ | (rw [hW]; exact List.Sublist.refl _)
        · refine gc_draw 15 _ (by kernel_rfl) rfl (List.Sublist.cons _ (List.Sublist.cons _ (List.nil_sublist _))) ?_
          all_goals refine DD 0 ?_
          all_goals (first | (refine D1 1 ?_) | ((with_reducible apply ga_v 1); exact rfl; kernel_rfl; (exact fun _ _ _ h => h); (first | ((with_reducible apply v_sadd); exact rfl; exact rfl; (simp only [← bl_len, bl_app, hE1, hE2, List.length_append]; exact Nat.le_of_ble_eq_true rfl)) | ((with_reducible apply v_str_u8 (c.toNat / 16) (c.toNat / 16 + 1)); exact rfl; exact rfl; exact rfl; omega; exact rfl; omega; omega; (show _ ≤ 16; omega)) | ((with_reducible apply v_str_u8 (c.toNat % 16) (c.toNat % 16 + 1)); exact rfl; exact rfl; exact rfl; omega; exact rfl; omega; omega; (show _ ≤ 16; omega)) | ((with_reducible apply v_shr8); exact rfl) | ((with_reducible apply v_and8); exact rfl; omega))) | (refine DD 1 ?_) | fail)
          all_goals refine DD 2 ?_
          all_goals (first | (refine D1 3 ?_) | ((with_reducible apply ga_v 3); exact rfl; kernel_rfl; (exact fun _ _ _ h => h); (first | ((with_reducible apply v_sadd); exact rfl; exact rfl; (simp only [← bl_len, bl_app, hE1, hE2, List.length_append]; exact Nat.le_of_ble_eq_true rfl)) | ((with_reducible apply v_str_u8 (c.toNat / 16) (c.toNat / 16 + 1)); exact rfl; exact rfl; exact rfl; omega; exact rfl; omega; omega; (show _ ≤ 16; omega)) | ((with_reducible apply v_str_u8 (c.toNat % 16) (c.toNat % 16 + 1)); exact rfl; exact rfl; exact rfl; omega; exact rfl; omega; omega; (show _ ≤ 16; omega)) | ((with_reducible apply v_shr8); exact rfl) | ((with_reducible apply v_and8); exact rfl; omega))) | (refine DD 3 ?_) | fail)
          all_goals (first | (refine D1 4 ?_) | ((with_reducible apply ga_v 4); exact rfl; kernel_rfl; (exact fun _ _ _ h => h); (first | ((with_reducible apply v_sadd); exact rfl; exact rfl; (simp only [← bl_len, bl_app, hE1, hE2, List.length_append]; exact Nat.le_of_ble_eq_true rfl)) | ((with_reducible apply v_str_u8 (c.toNat / 16) (c.toNat / 16 + 1)); exact rfl; exact rfl; exact rfl; omega; exact rfl; omega; omega; (show _ ≤ 16; omega)) | ((with_reducible apply v_str_u8 (c.toNat % 16) (c.toNat % 16 + 1)); exact rfl; exact rfl; exact rfl; omega; exact rfl; omega; omega; (show _ ≤ 16; omega)) | ((with_reducible apply v_shr8); exact rfl) | ((with_reducible apply v_and8); exact rfl; omega))) | (refine DD 4 ?_) | fail)
          all_goals (first | (refine D1 5 ?_) | ((with_reducible apply ga_v 5); exact rfl; kernel_rfl; (exact fun _ _ _ h => h); (first | ((with_reducible apply v_sadd); exact rfl; exact rfl; (simp only [← bl_len, bl_app, hE1, hE2, List.length_append]; exact Nat.le_of_ble_eq_true rfl)) | ((with_reducible apply v_str_u8 (c.toNat / 16) (c.toNat / 16 + 1)); exact rfl; exact rfl; exact rfl; omega; exact rfl; omega; omega; (show _ ≤ 16; omega)) | ((with_reducible apply v_str_u8 (c.toNat % 16) (c.toNat % 16 + 1)); exact rfl; exact rfl; exact rfl; omega; exact rfl; omega; omega; (show _ ≤ 16; omega)) | ((with_reducible apply v_shr8); exact rfl) | ((with_reducible apply v_and8); exact rfl; omega))) | (refine DD 5 ?_) | fail)
          all_goals (first | (refine D1 6 ?_) | ((with_reducible apply ga_v 6); exact rfl; kernel_rfl; (exact fun _ _ _ h => h); (first | ((with_reducible apply v_sadd); exact rfl; exact rfl; (simp only [← bl_len, bl_app, hE1, hE2, List.length_append]; exact Nat.le_of_ble_eq_true rfl)) | ((with_reducible apply v_str_u8 (c.toNat / 16) (c.toNat / 16 + 1)); exact rfl; exact rfl; exact rfl; omega; exact rfl; omega; omega; (show _ ≤ 16; omega)) | ((with_reducible apply v_str_u8 (c.toNat % 16) (c.toNat % 16 + 1)); exact rfl; exact rfl; exact rfl; omega; exact rfl; omega; omega; (show _ ≤ 16; omega)) | ((with_reducible apply v_shr8); exact rfl) | ((with_reducible apply v_and8); exact rfl; omega))) | (refine DD 6 ?_) | fail)
          all_goals refine DD 7 ?_
          all_goals (first | (refine D1 8 ?_) | ((with_reducible apply ga_v 8); exact rfl; kernel_rfl; (exact fun _ _ _ h => h); (first | ((with_reducible apply v_sadd); exact rfl; exact rfl; (simp only [← bl_len, bl_app, hE1, hE2, List.length_append]; exact Nat.le_of_ble_eq_true rfl)) | ((with_reducible apply v_str_u8 (c.toNat / 16) (c.toNat / 16 + 1)); exact rfl; exact rfl; exact rfl; omega; exact rfl; omega; omega; (show _ ≤ 16; omega)) | ((with_reducible apply v_str_u8 (c.toNat % 16) (c.toNat % 16 + 1)); exact rfl; exact rfl; exact rfl; omega; exact rfl; omega; omega; (show _ ≤ 16; omega)) | ((with_reducible apply v_shr8); exact rfl) | ((with_reducible apply v_and8); exact rfl; omega))) | (refine DD 8 ?_) | fail)
          all_goals refine DD 9 ?_
          all_goals (first | (refine D1 10 ?_) | ((with_reducible apply ga_v 10); exact rfl; kernel_rfl; (exact fun _ _ _ h => h); (first | ((with_reducible apply v_sadd); exact rfl; exact rfl; (simp only [← bl_len, bl_app, hE1, hE2, List.length_append]; exact Nat.le_of_ble_eq_true rfl)) | ((with_reducible apply v_str_u8 (c.toNat / 16) (c.toNat / 16 + 1)); exact rfl; exact rfl; exact rfl; omega; exact rfl; omega; omega; (show _ ≤ 16; omega)) | ((with_reducible apply v_str_u8 (c.toNat % 16) (c.toNat % 16 + 1)); exact rfl; exact rfl; exact rfl; omega; exact rfl; omega; omega; (show _ ≤ 16; omega)) | ((with_reducible apply v_shr8); exact rfl) | ((with_reducible apply v_and8); exact rfl; omega))) | (refine DD 10 ?_) | fail)
          all_goals (first | (refine D1 11 ?_) | ((with_reducible apply ga_v 11); exact rfl; kernel_rfl; (exact fun _ _ _ h => h); (first | ((with_reducible apply v_sadd); exact rfl; exact rfl; (simp only [← bl_len, bl_app, hE1, hE2, List.length_append]; exact Nat.le_of_ble_eq_true rfl)) | ((with_reducible apply v_str_u8 (c.toNat / 16) (c.toNat / 16 + 1)); exact rfl; exact rfl; exact rfl; omega; exact rfl; omega; omega; (show _ ≤ 16; omega)) | ((with_reducible apply v_str_u8 (c.toNat % 16) (c.toNat % 16 + 1)); exact rfl; exact rfl; exact rfl; omega; exact rfl; omega; omega; (show _ ≤ 16; omega)) | ((with_reducible apply v_shr8); exact rfl) | ((with_reducible apply v_and8); exact rfl; omega))) | (refine DD 11 ?_) | fail)
          all_goals (first | (refine D1 12 ?_) | ((with_reducible apply ga_v 12); exact rfl; kernel_rfl; (exact fun _ _ _ h => h); (first | ((with_reducible apply v_sadd); exact rfl; exact rfl; (simp only [← bl_len, bl_app, hE1, hE2, List.length_append]; exact Nat.le_of_ble_eq_true rfl)) | ((with_reducible apply v_str_u8 (c.toNat / 16) (c.toNat / 16 + 1)); exact rfl; exact rfl; exact rfl; omega; exact rfl; omega; omega; (show _ ≤ 16; omega)) | ((with_reducible apply v_str_u8 (c.toNat % 16) (c.toNat % 16 + 1)); exact rfl; exact rfl; exact rfl; omega; exact rfl; omega; omega; (show _ ≤ 16; omega)) | ((with_reducible apply v_shr8); exact rfl) | ((with_reducible apply v_and8); exact rfl; omega))) | (refine DD 12 ?_) | fail)
          all_goals (first | (refine D1 13 ?_) | ((with_reducible apply ga_v 13); exact rfl; kernel_rfl; (exact fun _ _ _ h => h); (first | ((with_reducible apply v_sadd); exact rfl; exact rfl; (simp only [← bl_len, bl_app, hE1, hE2, List.length_append]; exact Nat.le_of_ble_eq_true rfl)) | ((with_reducible apply v_str_u8 (c.toNat / 16) (c.toNat / 16 + 1)); exact rfl; exact rfl; exact rfl; omega; exact rfl; omega; omega; (show _ ≤ 16; omega)) | ((with_reducible apply v_str_u8 (c.toNat % 16) (c.toNat % 16 + 1)); exact rfl; exact rfl; exact rfl; omega; exact rfl; omega; omega; (show _ ≤ 16; omega)) | ((with_reducible apply v_shr8); exact rfl) | ((with_reducible apply v_and8); exact rfl; omega))) | (refine DD 13 ?_) | fail)
          all_goals (first | (refine D3 14 ?_; refine D5 ?_; (with_reducible apply g_wstring); exact rfl; exact rfl; exact rfl; ((with_reducible apply e_call2); kernel_rfl; exact rfl; exact rfl); exact rfl; exact mok_none hμ; exact rfl; exact hisp; (rw [← bl_len, hW]; simp only [List.length_cons, List.length_nil]; omega); intro v'; refine D9 ?_))
          all_goals refine D8 ?_
          repeat' (first | (refine KO ?_) | ((with_reducible apply F1 46); exact rfl; exact EN; (exact fun w μc hw hse => form1_spec _ c (bl_one hb1) hr w μc hw)) | ((with_reducible apply g_wbyte c); exact rfl; exact rfl; exact rfl; ((with_reducible apply e_call2); kernel_rfl; exact rfl; exact rfl); exact rfl; exact mok_none hμ; exact rfl; exact hisp; omega; omega; intro v') | ((with_reducible apply g_wstring); exact rfl; exact rfl; exact rfl; ((with_reducible apply e_call2); kernel_rfl; exact rfl; exact rfl); exact rfl; exact mok_none hμ; exact rfl; exact hisp; (rw [← bl_len, hW]; simp only [List.length_cons, List.length_nil]; omega); intro v') | ((with_reducible apply g_v); exact rfl; (first | (exact U2 i) | ((with_reducible apply v_str_both i (i + 1)); exact rfl; exact rfl; exact rfl; exact rfl; exact rfl; (first | exact rfl | omega); omega; (first | omega | (show _ ≤ 4; omega))))) | (refine KI ?_) | (refine NB fun b => ?_) | ((refine KB ?_ ?_ <;> intro hp)) | (refine KG ?_) | fail)
          refine gq_back (i + 1, .pointer (some ⟨b, 0, none⟩), v') ⟨by dsimp only; omega, .inr rfl⟩ (by dsimp only; omega) rfl (by repeat first | exact subS_nil | refine subS_cons rfl ?_) ?_
          dsimp only
          rw [hn1, hC]
          first | exact List.Sublist.refl _ | (rw [hW]; exact List.Sublist.refl _)
  · have hout' : codD (bl s) = out := by
      rw [← hout, List.take_of_length_le (by rw [bl_len]; omega)]
    rw [hout']
    repeat' (first | (refine KO ?_) | ((with_reducible apply g_bstr); exact rfl; exact rfl; exact rfl; ((with_reducible apply e_call1); kernel_rfl; exact rfl); exact rfl; exact mok_none hμ; exact hisp) | (refine KI ?_) | (refine NB fun b => ?_) | ((refine KB ?_ ?_ <;> intro hp)) | (refine KG ?_) | fail)
    exact ret_v1 rfl (by first | exact rv_tmp rfl | exact (rv_agg 0 rfl rfl rfl rfl rfl (by repeat first | exact lc_nil | refine lc_cons rfl ?_)) | exact (rv_agg 1 rfl rfl rfl rfl rfl (by repeat first | exact lc_nil | refine lc_cons rfl ?_)) | exact (rv_agg 2 rfl rfl rfl rfl rfl (by repeat first | exact lc_nil | refine lc_cons rfl ?_)) | exact (rv_agg 3 rfl rfl rfl rfl rfl (by repeat first | exact lc_nil | refine lc_cons rfl ?_))) rfl
end Go.Proofs.YtllilkcocfalmaaGreatDoor
set_option maxRecDepth 20000
namespace Go.Proofs.YtllilkcocfalmaaGreatDoor
open Go.RowKit Go.Vcg
/-- two trees are equal but for their positions -/
inductive Sm : T → T → Prop
  | mk (a b : T) (h1 : a.op = b.op) (h2 : a.n = b.n) (h3 : a.m = b.m) (h4 : a.s = b.s) (h5 : a.kids.length = b.kids.length) (h6 : ∀ (i : Nat) (x y : T), a.kids[i]? = some x → b.kids[i]? = some y → Sm x y) : Sm a b
def SmL (l m : List T) : Prop := l.length = m.length ∧ ∀ (i : Nat) (x y : T), l[i]? = some x → m[i]? = some y → Sm x y
theorem sm_iff {a b : T} : Sm a b ↔ a.op = b.op ∧ a.n = b.n ∧ a.m = b.m ∧ a.s = b.s ∧ SmL a.kids b.kids :=
  ⟨fun h => by cases h with | mk _ _ h1 h2 h3 h4 h5 h6 => exact ⟨h1, h2, h3, h4, h5, h6⟩, fun ⟨h1, h2, h3, h4, h5, h6⟩ => .mk a b h1 h2 h3 h4 h5 h6⟩
noncomputable def dB (p : Prop) : Bool := @decide p (Classical.propDecidable p)
theorem dB_t {p : Prop} (h : p) : dB p = true := @decide_eq_true p (Classical.propDecidable p) h
theorem dB_f {p : Prop} (h : ¬p) : dB p = false := @decide_eq_false p (Classical.propDecidable p) h
theorem dB_true {p : Prop} (h : dB p = true) : p := @of_decide_eq_true p (Classical.propDecidable p) h
theorem dB_false {p : Prop} (h : dB p = false) : ¬p := @of_decide_eq_false p (Classical.propDecidable p) h
noncomputable def smB (a b : T) : Bool := dB (Sm a b)
noncomputable def smLB (l m : List T) : Bool := dB (SmL l m)
theorem smB_t {a b : T} (h : Sm a b) : smB a b = true := by unfold smB; exact dB_t h
theorem smB_f {a b : T} (h : ¬Sm a b) : smB a b = false := by unfold smB; exact dB_f h
theorem smB_true {a b : T} (h : smB a b = true) : Sm a b := by unfold smB at h; exact dB_true h
theorem smB_false {a b : T} (h : smB a b = false) : ¬Sm a b := by unfold smB at h; exact dB_false h
theorem smLB_t {a b : List T} (h : SmL a b) : smLB a b = true := by unfold smLB; exact dB_t h
theorem smLB_f {a b : List T} (h : ¬SmL a b) : smLB a b = false := by unfold smLB; exact dB_f h
theorem sm_op {a b : T} (h : ¬a.op = b.op) : smB a b = false := smB_f fun e => h (sm_iff.1 e).1
theorem sm_n {a b : T} (h : ¬a.n = b.n) : smB a b = false := smB_f fun e => h (sm_iff.1 e).2.1
theorem sm_m {a b : T} (h : ¬a.m = b.m) : smB a b = false := smB_f fun e => h (sm_iff.1 e).2.2.1
theorem sm_s {a b : T} (h : ¬a.s = b.s) : smB a b = false := smB_f fun e => h (sm_iff.1 e).2.2.2.1
theorem sm_all {a b : T} (h1 : a.op = b.op) (h2 : a.n = b.n) (h3 : a.m = b.m) (h4 : a.s = b.s) : smLB a.kids b.kids = smB a b := by
  by_cases h : SmL a.kids b.kids
  · rw [smLB_t h, smB_t (sm_iff.2 ⟨h1, h2, h3, h4, h⟩)]
  · rw [smLB_f h, smB_f fun e => h (sm_iff.1 e).2.2.2.2]
theorem T.ind2 {p : T → Prop} (h : ∀ t : T, (∀ k, k ∈ t.kids → p k) → p t) (t : T) : p t := by
  have key : ∀ (n : Nat) (t : T), t.size ≤ n → p t := by
    intro n
    induction n with
    | zero => intro t ht; rw [T.size_eq] at ht; omega
    | succ n ih =>
      intro t ht
      refine h t fun k hk => ih k ?_
      obtain ⟨i, hi⟩ := List.mem_iff_getElem?.1 hk
      have := T.size_kid hi
      omega
  exact key t.size t (Nat.le_refl _)
theorem sm_refl (t : T) : Sm t t := T.ind2 (p := fun t => Sm t t) (fun t ih => sm_iff.2 ⟨rfl, rfl, rfl, rfl, rfl, fun i x y hx hy => by
  rw [hx] at hy
  cases hy
  exact ih x (List.mem_of_getElem? hx)⟩) t
theorem kidsLe (t : T) : t.kids.length < t.size := by
  rw [T.size_eq]
  have : ∀ l : List T, l.length ≤ (l.map T.size).sum := fun l => by
    induction l with
    | nil => simp
    | cons x l ih =>
      have := T.size_eq x
      simp; omega
  have := this t.kids
  omega
attribute [local irreducible] smB smLB G GC GQ GA GAop Calls IntKind.wrap Int.decLt Int.decLe
def NodeOk (f : FuncId) (a : T) : Prop := ∀ (b : T) (w : World) (μ : Mem) (u v : Value), MOk μ w → KR μ a.kids u → KR μ b.kids v → a.size ≤ 100000 → b.size ≤ 100000 →
  Calls Tryz.prog f #[.agg (encT a u).toArray, .agg (encT b v).toArray] w fun e w' => e = .returned (.bool (smB a b)) ∧ Below w.heap.size w w'
theorem eqN_spec (ks ls : List T) (ih : ∀ k, k ∈ ks → NodeOk 13 k) (w : World) (μ : Mem) (hμ : MOk μ w) (u v : Value) (hu : KR μ ks u) (hv : KR μ ls v) (hks : ∀ k ∈ ks, T.size k ≤ 100000) (hls : ∀ k ∈ ls, T.size k ≤ 100000) (hkl : ks.length ≤ 100000) (hll : ls.length ≤ 100000) :
    Calls Tryz.prog 30 #[u, v, .func (.func 13) #[] #[]] w fun e w' => e = .returned (.bool (smLB ks ls)) ∧ Below w.heap.size w w' := by
  obtain ⟨A, c, rfl, _, hget⟩ := hu.form
  obtain ⟨A2, c2, rfl, _, hget2⟩ := hv.form
  refine call_intro (args := [.slice A ks.length c, .slice A2 ls.length c2, .func (.func 13) #[] #[]]) Tryz.func30 rfl Tryz.ntmps30 (by simp) hμ ?_
  by_cases hl : ks.length = ls.length
  · rw [hl]
    repeat' (first | (refine KK ?_) | (refine NB fun b => ?_) | ((refine KB ?_ ?_ <;> intro hp)) | (refine KG ?_) | fail)
    refine gc_loop (ι := Nat) (fun k => k ≤ ls.length ∧ ∀ (j : Nat) (x y : T), j < k → ks[j]? = some x → ls[j]? = some y → Sm x y) (fun k => ls.length - k) (fun _ => μ) (fun k => [(17, .int .i64 k), (16, .int .i64 ls.length), (15, .slice A ls.length c), (0, .slice A ls.length c), (1, .slice A2 ls.length c2), (2, .func (.func 13) #[] #[])]) (fun _ => []) 0 ⟨by omega, fun j _ _ h => absurd h (by omega)⟩ (fun a w hs => hs.sub (by repeat first | exact subS_nil | refine subS_cons rfl ?_) (by repeat first | exact List.Sublist.refl _ | exact List.nil_sublist _ | refine List.Sublist.cons _ ?_)) ?_
    rintro k ⟨hk1, hk2⟩
    by_cases hlt : k < ls.length
    · obtain ⟨ad, x, rfl, hm, ho, hkr⟩ := hget k _ (List.getElem?_eq_getElem (by omega))
      obtain ⟨ad2, x2, rfl, hm2, ho2, hkr2⟩ := hget2 k _ (List.getElem?_eq_getElem hlt)
      have hka : ks[k]? = some ks[k] := List.getElem?_eq_getElem (by omega)
      have hkb : ls[k]? = some ls[k] := List.getElem?_eq_getElem hlt
      generalize ks[k] = t at hm hkr hka
      generalize ls[k] = s at hm2 hkr2 hkb
      have this : ∀ (w : World) (μc : Mem), MOk μc w → MLe μ μc → Calls Tryz.prog 13 #[.agg (encT t x).toArray, .agg (encT s x2).toArray] w fun e w' => e = .returned (.bool (smB t s)) ∧ Below w.heap.size w w' :=
        fun w μc hw hle => ih t (List.mem_of_getElem? hka) s w μc x x2 hw (hkr.mono hle) (hkr2.mono hle) (hks _ (List.mem_of_getElem? hka)) (hls _ (List.mem_of_getElem? hkb))
      cases hc : smB t s
      · rw [hc] at this
        repeat' (first | (refine KO ?_) | ((with_reducible apply C1); exact rfl; exact EN; exact fun w μc hw hse => this w μc hw hse.le) | ((with_reducible apply g_v); exact rfl; (first | (exact U1 k) | (exact U4 hm) | (exact U4 hm2))) | (refine KI ?_) | (refine NB fun b => ?_) | ((refine KB ?_ ?_ <;> intro hp)) | (refine KG ?_) | fail)
        refine ret_v1 rfl (by first | exact rv_tmp rfl | exact (rv_agg 0 rfl rfl rfl rfl rfl (by repeat first | exact lc_nil | refine lc_cons rfl ?_)) | exact (rv_agg 1 rfl rfl rfl rfl rfl (by repeat first | exact lc_nil | refine lc_cons rfl ?_)) | exact (rv_agg 2 rfl rfl rfl rfl rfl (by repeat first | exact lc_nil | refine lc_cons rfl ?_)) | exact (rv_agg 3 rfl rfl rfl rfl rfl (by repeat first | exact lc_nil | refine lc_cons rfl ?_))) (congrArg _ (smLB_f fun h => smB_false hc (h.2 k t s hka hkb)).symm)
      · rw [hc] at this
        repeat' (first | (refine KO ?_) | ((with_reducible apply C1); exact rfl; exact EN; exact fun w μc hw hse => this w μc hw hse.le) | ((with_reducible apply g_v); exact rfl; (first | (exact U1 k) | (exact U4 hm) | (exact U4 hm2))) | (refine KI ?_) | (refine NB fun b => ?_) | ((refine KB ?_ ?_ <;> intro hp)) | (refine KG ?_) | fail)
        refine gq_back (k + 1) ⟨by omega, fun j y z hj hy hz => ?_⟩ (by omega) rfl (by repeat first | exact subS_nil | refine subS_cons rfl ?_) (by repeat first | exact List.Sublist.refl _ | exact List.nil_sublist _ | refine List.Sublist.cons _ ?_)
        rcases Nat.lt_or_ge j k with h | h
        · exact hk2 j y z h hy hz
        · have : j = k := by omega
          subst this
          rw [hka] at hy
          rw [hkb] at hz
          cases hy
          cases hz
          exact smB_true hc
    · repeat' (first | (refine KK ?_) | (refine NB fun b => ?_) | ((refine KB ?_ ?_ <;> intro hp)) | (refine KG ?_) | fail)
      refine ret_v1 rfl (by first | exact rv_tmp rfl | exact (rv_agg 0 rfl rfl rfl rfl rfl (by repeat first | exact lc_nil | refine lc_cons rfl ?_)) | exact (rv_agg 1 rfl rfl rfl rfl rfl (by repeat first | exact lc_nil | refine lc_cons rfl ?_)) | exact (rv_agg 2 rfl rfl rfl rfl rfl (by repeat first | exact lc_nil | refine lc_cons rfl ?_)) | exact (rv_agg 3 rfl rfl rfl rfl rfl (by repeat first | exact lc_nil | refine lc_cons rfl ?_))) (congrArg _ (smLB_t ⟨hl, fun j x y hx hy => hk2 j x y ?_ hx hy⟩).symm)
      have := (List.getElem?_eq_some_iff.1 hx).1
      omega
  · rw [smLB_f fun h => hl h.1]
    repeat' (first | (refine KK ?_) | (refine NB fun b => ?_) | ((refine KB ?_ ?_ <;> intro hp)) | (refine KG ?_) | fail)
    all_goals first | exact ret_v1 rfl (by first | exact rv_tmp rfl | exact (rv_agg 0 rfl rfl rfl rfl rfl (by repeat first | exact lc_nil | refine lc_cons rfl ?_)) | exact (rv_agg 1 rfl rfl rfl rfl rfl (by repeat first | exact lc_nil | refine lc_cons rfl ?_)) | exact (rv_agg 2 rfl rfl rfl rfl rfl (by repeat first | exact lc_nil | refine lc_cons rfl ?_)) | exact (rv_agg 3 rfl rfl rfl rfl rfl (by repeat first | exact lc_nil | refine lc_cons rfl ?_))) rfl | (exfalso; omega)
theorem irNode_spec (a : T) : NodeOk 13 a := by
  refine T.ind2 (fun a ih => ?_) a
  intro s w μ u v hμ hu hv hsa hsb
  refine call_intro Tryz.func13 rfl Tryz.ntmps13 (by simp) hμ ?_
  have ha := kidsLe a
  have hb := kidsLe s
  have hk : ∀ (t : T), t.size ≤ 100000 → ∀ k ∈ t.kids, T.size k ≤ 100000 := fun t ht k hk => by
    obtain ⟨i, hi⟩ := List.mem_iff_getElem?.1 hk
    have := T.size_kid hi
    omega
  repeat' (first | (refine KO ?_) | ((with_reducible apply C1); exact rfl; exact EN; exact fun w μc hw hse => eqN_spec a.kids s.kids ih w μc hw u v (hu.mono hse.le) (hv.mono hse.le) (hk a hsa) (hk s hsb) (by omega) (by omega)) | (refine KI ?_) | (refine NB fun b => ?_) | ((refine KB ?_ ?_ <;> intro hp)) | (refine KG ?_) | fail)
  all_goals first
    | exact ret_v1 rfl (by first | exact rv_tmp rfl | exact (rv_agg 0 rfl rfl rfl rfl rfl (by repeat first | exact lc_nil | refine lc_cons rfl ?_)) | exact (rv_agg 1 rfl rfl rfl rfl rfl (by repeat first | exact lc_nil | refine lc_cons rfl ?_)) | exact (rv_agg 2 rfl rfl rfl rfl rfl (by repeat first | exact lc_nil | refine lc_cons rfl ?_)) | exact (rv_agg 3 rfl rfl rfl rfl rfl (by repeat first | exact lc_nil | refine lc_cons rfl ?_))) (congrArg _ (sm_op (by assumption)).symm)
    | exact ret_v1 rfl (by first | exact rv_tmp rfl | exact (rv_agg 0 rfl rfl rfl rfl rfl (by repeat first | exact lc_nil | refine lc_cons rfl ?_)) | exact (rv_agg 1 rfl rfl rfl rfl rfl (by repeat first | exact lc_nil | refine lc_cons rfl ?_)) | exact (rv_agg 2 rfl rfl rfl rfl rfl (by repeat first | exact lc_nil | refine lc_cons rfl ?_)) | exact (rv_agg 3 rfl rfl rfl rfl rfl (by repeat first | exact lc_nil | refine lc_cons rfl ?_))) (congrArg _ (sm_n (by assumption)).symm)
    | exact ret_v1 rfl (by first | exact rv_tmp rfl | exact (rv_agg 0 rfl rfl rfl rfl rfl (by repeat first | exact lc_nil | refine lc_cons rfl ?_)) | exact (rv_agg 1 rfl rfl rfl rfl rfl (by repeat first | exact lc_nil | refine lc_cons rfl ?_)) | exact (rv_agg 2 rfl rfl rfl rfl rfl (by repeat first | exact lc_nil | refine lc_cons rfl ?_)) | exact (rv_agg 3 rfl rfl rfl rfl rfl (by repeat first | exact lc_nil | refine lc_cons rfl ?_))) (congrArg _ (sm_m (by assumption)).symm)
    | exact ret_v1 rfl (by first | exact rv_tmp rfl | exact (rv_agg 0 rfl rfl rfl rfl rfl (by repeat first | exact lc_nil | refine lc_cons rfl ?_)) | exact (rv_agg 1 rfl rfl rfl rfl rfl (by repeat first | exact lc_nil | refine lc_cons rfl ?_)) | exact (rv_agg 2 rfl rfl rfl rfl rfl (by repeat first | exact lc_nil | refine lc_cons rfl ?_)) | exact (rv_agg 3 rfl rfl rfl rfl rfl (by repeat first | exact lc_nil | refine lc_cons rfl ?_))) (congrArg _ (sm_s (by assumption)).symm)
    | exact ret_v1 rfl (by first | exact rv_tmp rfl | exact (rv_agg 0 rfl rfl rfl rfl rfl (by repeat first | exact lc_nil | refine lc_cons rfl ?_)) | exact (rv_agg 1 rfl rfl rfl rfl rfl (by repeat first | exact lc_nil | refine lc_cons rfl ?_)) | exact (rv_agg 2 rfl rfl rfl rfl rfl (by repeat first | exact lc_nil | refine lc_cons rfl ?_)) | exact (rv_agg 3 rfl rfl rfl rfl rfl (by repeat first | exact lc_nil | refine lc_cons rfl ?_))) (congrArg _ (sm_all (by assumption) (by assumption) (by assumption) (by assumption)))
theorem sm_len {a b : T} (h : ¬a.kids.length = b.kids.length) : smB a b = false := smB_f fun e => h (sm_iff.1 e).2.2.2.2.1
theorem refNode_spec (a : T) : NodeOk 14 a := by
  refine T.ind2 (fun a ih => ?_) a
  intro s w μ u v hμ hu hv hsa hsb
  refine call_intro Tryz.func14 rfl Tryz.ntmps14 (by simp) hμ ?_
  have ha := kidsLe a
  have hb := kidsLe s
  have hk : ∀ (t : T), t.size ≤ 100000 → ∀ k ∈ t.kids, T.size k ≤ 100000 := fun t ht k hk => by
    obtain ⟨i, hi⟩ := List.mem_iff_getElem?.1 hk
    have := T.size_kid hi
    omega
  obtain ⟨A, c, rfl, _, hget⟩ := hu.form
  obtain ⟨A2, c2, rfl, _, hget2⟩ := hv.form
  repeat' (first | (refine KK ?_) | (refine NB fun b => ?_) | ((refine KB ?_ ?_ <;> intro hp)) | (refine KG ?_) | fail)
  all_goals try first
    | exact ret_v1 rfl (by first | exact rv_tmp rfl | exact (rv_agg 0 rfl rfl rfl rfl rfl (by repeat first | exact lc_nil | refine lc_cons rfl ?_)) | exact (rv_agg 1 rfl rfl rfl rfl rfl (by repeat first | exact lc_nil | refine lc_cons rfl ?_)) | exact (rv_agg 2 rfl rfl rfl rfl rfl (by repeat first | exact lc_nil | refine lc_cons rfl ?_)) | exact (rv_agg 3 rfl rfl rfl rfl rfl (by repeat first | exact lc_nil | refine lc_cons rfl ?_))) (congrArg _ (sm_op (by assumption)).symm)
    | exact ret_v1 rfl (by first | exact rv_tmp rfl | exact (rv_agg 0 rfl rfl rfl rfl rfl (by repeat first | exact lc_nil | refine lc_cons rfl ?_)) | exact (rv_agg 1 rfl rfl rfl rfl rfl (by repeat first | exact lc_nil | refine lc_cons rfl ?_)) | exact (rv_agg 2 rfl rfl rfl rfl rfl (by repeat first | exact lc_nil | refine lc_cons rfl ?_)) | exact (rv_agg 3 rfl rfl rfl rfl rfl (by repeat first | exact lc_nil | refine lc_cons rfl ?_))) (congrArg _ (sm_n (by assumption)).symm)
    | exact ret_v1 rfl (by first | exact rv_tmp rfl | exact (rv_agg 0 rfl rfl rfl rfl rfl (by repeat first | exact lc_nil | refine lc_cons rfl ?_)) | exact (rv_agg 1 rfl rfl rfl rfl rfl (by repeat first | exact lc_nil | refine lc_cons rfl ?_)) | exact (rv_agg 2 rfl rfl rfl rfl rfl (by repeat first | exact lc_nil | refine lc_cons rfl ?_)) | exact (rv_agg 3 rfl rfl rfl rfl rfl (by repeat first | exact lc_nil | refine lc_cons rfl ?_))) (congrArg _ (sm_m (by assumption)).symm)
    | exact ret_v1 rfl (by first | exact rv_tmp rfl | exact (rv_agg 0 rfl rfl rfl rfl rfl (by repeat first | exact lc_nil | refine lc_cons rfl ?_)) | exact (rv_agg 1 rfl rfl rfl rfl rfl (by repeat first | exact lc_nil | refine lc_cons rfl ?_)) | exact (rv_agg 2 rfl rfl rfl rfl rfl (by repeat first | exact lc_nil | refine lc_cons rfl ?_)) | exact (rv_agg 3 rfl rfl rfl rfl rfl (by repeat first | exact lc_nil | refine lc_cons rfl ?_))) (congrArg _ (sm_s (by assumption)).symm)
    | exact ret_v1 rfl (by first | exact rv_tmp rfl | exact (rv_agg 0 rfl rfl rfl rfl rfl (by repeat first | exact lc_nil | refine lc_cons rfl ?_)) | exact (rv_agg 1 rfl rfl rfl rfl rfl (by repeat first | exact lc_nil | refine lc_cons rfl ?_)) | exact (rv_agg 2 rfl rfl rfl rfl rfl (by repeat first | exact lc_nil | refine lc_cons rfl ?_)) | exact (rv_agg 3 rfl rfl rfl rfl rfl (by repeat first | exact lc_nil | refine lc_cons rfl ?_))) (congrArg _ (sm_len (by omega)).symm)
  rename_i b1 q1 q2 q3 q4
  have h1 : a.op = s.op := Classical.not_not.1 q1
  have h2 : a.n = s.n := Classical.not_not.1 q2
  have h3 : a.m = s.m := Classical.not_not.1 q3
  have h4 : a.s = s.s := Classical.not_not.1 q4
  have h5 : a.kids.length = s.kids.length := by omega
  refine gc_loop (ι := Nat) (fun k => k ≤ s.kids.length ∧ ∀ (j : Nat) (x y : T), j < k → a.kids[j]? = some x → s.kids[j]? = some y → Sm x y) (fun k => s.kids.length - k) (fun _ => μ) (fun k => [(5, .int .i64 k), (3, .pointer (some ⟨b, 0, none⟩)), (2, .pointer (some ⟨b1, 0, none⟩))]) (fun _ => [.inl ⟨b, 24, 6, _⟩, .inl ⟨b1, 24, 6, _⟩]) 0 ⟨by omega, fun j _ _ h => absurd h (by omega)⟩ (fun a w hs => J6 hs) ?_
  rintro k ⟨hk1, hkk⟩
  by_cases hlt : k < s.kids.length
  · have hka : a.kids[k]? = some a.kids[k] := List.getElem?_eq_getElem (by omega)
    have hkb : s.kids[k]? = some s.kids[k] := List.getElem?_eq_getElem hlt
    generalize a.kids[k] = t at hka
    generalize s.kids[k] = r at hkb
    obtain ⟨ad, x, rfl, hm, ho, hkr⟩ := hget k _ hka
    obtain ⟨ad2, x2, rfl, hm2, ho2, hkr2⟩ := hget2 k _ hkb
    have this : ∀ (w : World) (μc : Mem), MOk μc w → MLe μ μc → Calls Tryz.prog 14 #[.agg (encT t x).toArray, .agg (encT r x2).toArray] w fun e w' => e = .returned (.bool (smB t r)) ∧ Below w.heap.size w w' :=
      fun w μc hw hle => ih t (List.mem_of_getElem? hka) r w μc x x2 hw (hkr.mono hle) (hkr2.mono hle) (hk a hsa _ (List.mem_of_getElem? hka)) (hk s hsb _ (List.mem_of_getElem? hkb))
    cases hc : smB t r
    · rw [hc] at this
      repeat' (first | (refine KK ?_) | (refine NB fun b => ?_) | ((refine KB ?_ ?_ <;> intro hp)) | (refine KG ?_) | fail)
      refine gc_draw 12 _ (by kernel_rfl) rfl (List.Sublist.cons_cons _ (List.Sublist.cons_cons _ (List.nil_sublist _))) ?_
      all_goals (first | (refine D1 0 ?_) | ((with_reducible apply ga_v 0); exact rfl; kernel_rfl; (exact fun _ _ _ h => h); (first | (exact U1 k) | (exact U4 hm) | (exact U4 hm2))) | (refine DD 0 ?_) | fail)
      all_goals (first | (refine D1 1 ?_) | ((with_reducible apply ga_v 1); exact rfl; kernel_rfl; (exact fun _ _ _ h => h); (first | (exact U1 k) | (exact U4 hm) | (exact U4 hm2))) | ((with_reducible apply ga_all1 1); kernel_rfl; (with_reducible apply gaop_val); exact rfl; exact rfl; exact rfl; exact rfl; (first | (exact U1 k) | (exact U4 hm) | (exact U4 hm2))) | (refine DD 1 ?_) | fail)
      all_goals refine DD 2 ?_
      all_goals (first | (refine D1 3 ?_) | ((with_reducible apply ga_v 3); exact rfl; kernel_rfl; (exact fun _ _ _ h => h); (first | (exact U1 k) | (exact U4 hm) | (exact U4 hm2))) | (refine DD 3 ?_) | fail)
      all_goals (first | (refine D1 4 ?_) | ((with_reducible apply ga_v 4); exact rfl; kernel_rfl; (exact fun _ _ _ h => h); (first | (exact U1 k) | (exact U4 hm) | (exact U4 hm2))) | ((with_reducible apply ga_all1 4); kernel_rfl; (with_reducible apply gaop_val); exact rfl; exact rfl; exact rfl; exact rfl; (first | (exact U1 k) | (exact U4 hm) | (exact U4 hm2))) | (refine DD 4 ?_) | fail)
      all_goals (first | (refine D1 5 ?_) | ((with_reducible apply ga_v 5); exact rfl; kernel_rfl; (exact fun _ _ _ h => h); (first | (exact U1 k) | (exact U4 hm) | (exact U4 hm2))) | (refine DD 5 ?_) | fail)
      all_goals (first | (refine D1 6 ?_) | ((with_reducible apply ga_v 6); exact rfl; kernel_rfl; (exact fun _ _ _ h => h); (first | (exact U1 k) | (exact U4 hm) | (exact U4 hm2))) | ((with_reducible apply ga_all1 6); kernel_rfl; (with_reducible apply gaop_val); exact rfl; exact rfl; exact rfl; exact rfl; (first | (exact U1 k) | (exact U4 hm) | (exact U4 hm2))) | (refine DD 6 ?_) | fail)
      all_goals refine DD 7 ?_
      all_goals (first | (refine D1 8 ?_) | ((with_reducible apply ga_v 8); exact rfl; kernel_rfl; (exact fun _ _ _ h => h); (first | (exact U1 k) | (exact U4 hm) | (exact U4 hm2))) | (refine DD 8 ?_) | fail)
      all_goals (first | (refine D1 9 ?_) | ((with_reducible apply ga_v 9); exact rfl; kernel_rfl; (exact fun _ _ _ h => h); (first | (exact U1 k) | (exact U4 hm) | (exact U4 hm2))) | ((with_reducible apply ga_all1 9); kernel_rfl; (with_reducible apply gaop_val); exact rfl; exact rfl; exact rfl; exact rfl; (first | (exact U1 k) | (exact U4 hm) | (exact U4 hm2))) | (refine DD 9 ?_) | fail)
      all_goals (first | (refine D3 10 ?_; refine D5 ?_; (with_reducible apply C1); exact rfl; exact EN; exact fun w μc hw hse => this w μc hw hse.le; refine D9 ?_))
      all_goals refine DD 11 ?_
      all_goals refine D8 ?_
      repeat' (first | (refine KK ?_) | (refine NB fun b => ?_) | ((refine KB ?_ ?_ <;> intro hp)) | (refine KG ?_) | fail)
      refine ret_v1 rfl (by first | exact rv_tmp rfl | exact (rv_agg 0 rfl rfl rfl rfl rfl (by repeat first | exact lc_nil | refine lc_cons rfl ?_)) | exact (rv_agg 1 rfl rfl rfl rfl rfl (by repeat first | exact lc_nil | refine lc_cons rfl ?_)) | exact (rv_agg 2 rfl rfl rfl rfl rfl (by repeat first | exact lc_nil | refine lc_cons rfl ?_)) | exact (rv_agg 3 rfl rfl rfl rfl rfl (by repeat first | exact lc_nil | refine lc_cons rfl ?_))) (congrArg _ (smB_f fun h => smB_false hc ((sm_iff.1 h).2.2.2.2.2 k t r hka hkb)).symm)
    · rw [hc] at this
      repeat' (first | (refine KK ?_) | (refine NB fun b => ?_) | ((refine KB ?_ ?_ <;> intro hp)) | (refine KG ?_) | fail)
      refine gc_draw 12 _ (by kernel_rfl) rfl (List.Sublist.cons_cons _ (List.Sublist.cons_cons _ (List.nil_sublist _))) ?_
      all_goals (first | (refine D1 0 ?_) | ((with_reducible apply ga_v 0); exact rfl; kernel_rfl; (exact fun _ _ _ h => h); (first | (exact U1 k) | (exact U4 hm) | (exact U4 hm2))) | (refine DD 0 ?_) | fail)
      all_goals (first | (refine D1 1 ?_) | ((with_reducible apply ga_v 1); exact rfl; kernel_rfl; (exact fun _ _ _ h => h); (first | (exact U1 k) | (exact U4 hm) | (exact U4 hm2))) | ((with_reducible apply ga_all1 1); kernel_rfl; (with_reducible apply gaop_val); exact rfl; exact rfl; exact rfl; exact rfl; (first | (exact U1 k) | (exact U4 hm) | (exact U4 hm2))) | (refine DD 1 ?_) | fail)
      all_goals refine DD 2 ?_
      all_goals (first | (refine D1 3 ?_) | ((with_reducible apply ga_v 3); exact rfl; kernel_rfl; (exact fun _ _ _ h => h); (first | (exact U1 k) | (exact U4 hm) | (exact U4 hm2))) | (refine DD 3 ?_) | fail)
      all_goals (first | (refine D1 4 ?_) | ((with_reducible apply ga_v 4); exact rfl; kernel_rfl; (exact fun _ _ _ h => h); (first | (exact U1 k) | (exact U4 hm) | (exact U4 hm2))) | ((with_reducible apply ga_all1 4); kernel_rfl; (with_reducible apply gaop_val); exact rfl; exact rfl; exact rfl; exact rfl; (first | (exact U1 k) | (exact U4 hm) | (exact U4 hm2))) | (refine DD 4 ?_) | fail)
      all_goals (first | (refine D1 5 ?_) | ((with_reducible apply ga_v 5); exact rfl; kernel_rfl; (exact fun _ _ _ h => h); (first | (exact U1 k) | (exact U4 hm) | (exact U4 hm2))) | (refine DD 5 ?_) | fail)
      all_goals (first | (refine D1 6 ?_) | ((with_reducible apply ga_v 6); exact rfl; kernel_rfl; (exact fun _ _ _ h => h); (first | (exact U1 k) | (exact U4 hm) | (exact U4 hm2))) | ((with_reducible apply ga_all1 6); kernel_rfl; (with_reducible apply gaop_val); exact rfl; exact rfl; exact rfl; exact rfl; (first | (exact U1 k) | (exact U4 hm) | (exact U4 hm2))) | (refine DD 6 ?_) | fail)
      all_goals refine DD 7 ?_
      all_goals (first | (refine D1 8 ?_) | ((with_reducible apply ga_v 8); exact rfl; kernel_rfl; (exact fun _ _ _ h => h); (first | (exact U1 k) | (exact U4 hm) | (exact U4 hm2))) | (refine DD 8 ?_) | fail)
      all_goals (first | (refine D1 9 ?_) | ((with_reducible apply ga_v 9); exact rfl; kernel_rfl; (exact fun _ _ _ h => h); (first | (exact U1 k) | (exact U4 hm) | (exact U4 hm2))) | ((with_reducible apply ga_all1 9); kernel_rfl; (with_reducible apply gaop_val); exact rfl; exact rfl; exact rfl; exact rfl; (first | (exact U1 k) | (exact U4 hm) | (exact U4 hm2))) | (refine DD 9 ?_) | fail)
      all_goals (first | (refine D3 10 ?_; refine D5 ?_; (with_reducible apply C1); exact rfl; exact EN; exact fun w μc hw hse => this w μc hw hse.le; refine D9 ?_))
      all_goals refine DD 11 ?_
      all_goals refine D8 ?_
      repeat' (first | (refine KK ?_) | (refine NB fun b => ?_) | ((refine KB ?_ ?_ <;> intro hp)) | (refine KG ?_) | fail)
      refine J4 (k + 1) ⟨by omega, fun j y z hj hy hz => ?_⟩ (by omega)
      rcases Nat.lt_or_ge j k with h | h
      · exact hkk j y z h hy hz
      · have : j = k := by omega
        subst this
        rw [hka] at hy
        rw [hkb] at hz
        cases hy
        cases hz
        exact smB_true hc
  · repeat' (first | (refine KK ?_) | (refine NB fun b => ?_) | ((refine KB ?_ ?_ <;> intro hp)) | (refine KG ?_) | fail)
    refine ret_v1 rfl (by first | exact rv_tmp rfl | exact (rv_agg 0 rfl rfl rfl rfl rfl (by repeat first | exact lc_nil | refine lc_cons rfl ?_)) | exact (rv_agg 1 rfl rfl rfl rfl rfl (by repeat first | exact lc_nil | refine lc_cons rfl ?_)) | exact (rv_agg 2 rfl rfl rfl rfl rfl (by repeat first | exact lc_nil | refine lc_cons rfl ?_)) | exact (rv_agg 3 rfl rfl rfl rfl rfl (by repeat first | exact lc_nil | refine lc_cons rfl ?_))) (congrArg _ (smB_t (sm_iff.2 ⟨h1, h2, h3, h4, h5, fun j x y hx hy => hkk j x y ?_ hx hy⟩)).symm)
    have := (List.getElem?_eq_some_iff.1 hx).1
    omega
end Go.Proofs.YtllilkcocfalmaaGreatDoor
