/- Equality of trees but for positions: package tree's and the reference's. (and what leans on it). No statement of the seat is proved here. -/
import Derived.Test.YtnllooebophcpaaDoorTree
import Derived.Test.YtnllooebophcpaaDoorVs
import Derived.Test.YtnllooebophcpaaDoorSt
import Derived.Test.YtnllooebophcpaaDoorVq
import Derived.Test.YtnllooebophcpaaDoorRead
import Derived.Test.YtnllooebophcpaaDoorRng
import Derived.Test.YtnllooebophcpaaDoorShelf
import Derived.KernelRfl
import Derived.Test.YtnllooebophcpaaDoorSel
set_option maxRecDepth 20000
set_option maxHeartbeats 2000000
namespace Go.Proofs.YtnllooebophcpaaDoor
open Go.RowKit Go.Vcg
inductive Sm : T → T → Prop
  | mk (a b : T) (h1 : a.op = b.op) (h2 : a.n = b.n) (h3 : a.m = b.m) (h4 : a.s = b.s) (h5 : a.kids.length = b.kids.length) (h6 : ∀ (i : Nat) (x y : T), a.kids[i]? = some x → b.kids[i]? = some y → Sm x y) : Sm a b
def SmL (l m : List T) : Prop := l.length = m.length ∧ ∀ (i : Nat) (x y : T), l[i]? = some x → m[i]? = some y → Sm x y
noncomputable def dB (p : Prop) : Bool := @decide p (Classical.propDecidable p)
theorem dB_t {p : Prop} (h : p) : dB p = true := @decide_eq_true p (Classical.propDecidable p) h
theorem dB_f {p : Prop} (h : ¬p) : dB p = false := @decide_eq_false p (Classical.propDecidable p) h
theorem dB_true {p : Prop} (h : dB p = true) : p := @of_decide_eq_true p (Classical.propDecidable p) h
theorem dB_false {p : Prop} (h : dB p = false) : ¬p := @of_decide_eq_false p (Classical.propDecidable p) h
noncomputable def smB (a b : T) : Bool := dB (Sm a b)
noncomputable def smLB (l m : List T) : Bool := dB (SmL l m)
theorem T.ind2 {p : T → Prop} (h : ∀ t : T, (∀ k, k ∈ t.kids → p k) → p t) (t : T) : p t := by
  have key : ∀ (n : Nat) (t : T), t.size ≤ n → p t := by
    intro n
    induction n with
    | zero => intro t ht; rw [T.size_eq] at ht; omega
    | succ n ih =>
      intro t ht
      refine h t fun k hk => ih k ?_
      obtain ⟨i, hi⟩ := List.mem_iff_getElem?.1 hk
      have := T.size_kid hi
      omega
  exact key t.size t (Nat.le_refl _)
theorem kidsLe (t : T) : t.kids.length < t.size := by
  rw [T.size_eq]
  have : ∀ l : List T, l.length ≤ (l.map T.size).sum := fun l => by
    induction l with
    | nil => simp
    | cons x l ih =>
      have := T.size_eq x
      simp; omega
  have := this t.kids
  omega
attribute [local irreducible] smB smLB G GC GQ GA GAop Calls IntKind.wrap Int.decLt Int.decLe
end Go.Proofs.YtnllooebophcpaaDoor
namespace Go.Proofs.YtnllooebophcpaaDoor
open Go.RowKit Go.Vcg Go.Shelf
def nameL : List (List UInt8) := [
  [],
  [80, 114, 111, 103, 114, 97, 109],
  [86, 97, 114],
  [68, 101, 99, 108],
  [70, 117, 110, 99],
  [80, 97, 114, 97, 109, 115],
  [66, 108, 111, 99, 107],
  [69, 109, 112, 116, 121],
  [69, 120, 112, 114],
  [73, 102],
  [70, 111, 114],
  [70, 111, 114, 73, 110],
  [70, 111, 114, 79, 102],
  [87, 104, 105, 108, 101],
  [68, 111],
  [66, 114, 101, 97, 107],
  [67, 111, 110, 116, 105, 110, 117, 101],
  [82, 101, 116, 117, 114, 110],
  [84, 104, 114, 111, 119],
  [84, 114, 121],
  [67, 97, 116, 99, 104],
  [83, 119, 105, 116, 99, 104],
  [67, 97, 115, 101],
  [76, 97, 98, 101, 108],
  [],
  [],
  [],
  [],
  [],
  [],
  [78, 117, 109],
  [84, 101, 120, 116],
  [66, 111, 111, 108],
  [78, 117, 108, 108],
  [78, 97, 109, 101],
  [84, 104, 105, 115],
  [84, 101, 109, 112, 108, 97, 116, 101],
  [65, 114, 114, 97, 121],
  [79, 98, 106, 101, 99, 116],
  [80, 114, 111, 112],
  [72, 111, 108, 101],
  [83, 112, 114, 101, 97, 100],
  [85, 110, 97, 114, 121],
  [85, 112, 100, 97, 116, 101],
  [66, 105, 110, 97, 114, 121],
  [76, 111, 103, 105, 99],
  [65, 115, 115, 105, 103, 110],
  [67, 111, 110, 100],
  [83, 101, 113],
  [67, 97, 108, 108],
  [78, 101, 119],
  [68, 111, 116],
  [73, 110, 100, 101, 120],
  [67, 104, 97, 105, 110],
  [89, 105, 101, 108, 100],
  [],
  [],
  [],
  [],
  [],
  [65, 114, 114, 80, 97, 116],
  [79, 98, 106, 80, 97, 116],
  [80, 97, 116, 80, 114, 111, 112],
  [68, 101, 102, 97, 117, 108, 116],
  [82, 101, 115, 116]]
def nameB (op : Int) : List UInt8 := if 0 ≤ op then nameL.getD op.toNat [] else []
theorem nameB_none {op : Int} (h : op < 0 ∨ 65 ≤ op) : nameB op = [] := by
  unfold nameB
  split
  · have : nameL.length = 65 := rfl
    rw [List.getD_eq_getElem?_getD, List.getElem?_eq_none (by omega)]
    rfl
  · rfl
theorem nameB_at {k : Nat} {l : List UInt8} (h : nameL[k]? = some l) : nameB (k : Int) = l := by
  unfold nameB
  rw [if_pos (by omega), Int.toNat_natCast, List.getD_eq_getElem?_getD, h]
  rfl
theorem nameB_gap {op : Int} (h : op = 0 ∨ op = 24 ∨ op = 25 ∨ op = 26 ∨ op = 27 ∨ op = 28 ∨ op = 29 ∨ op = 55 ∨ op = 56 ∨ op = 57 ∨ op = 58 ∨ op = 59) : nameB op = [] := by
  rcases h with rfl | rfl | rfl | rfl | rfl | rfl | rfl | rfl | rfl | rfl | rfl | rfl <;> rfl
abbrev encB (l : List UInt8) : List Value := [.string ⟨l.toArray⟩]
theorem grow_alloc {μ : Mem} {w : World} (hμ : MOk μ w) (o : Obj) : ∃ μ', Grow w (w.alloc o) μ μ' ∧ μ' w.heap.size = some o := by
  have hn : ∀ b, w.heap.size ≤ b → μ b = none := fun b hb => by
    cases h : μ b with
    | none => rfl
    | some x =>
      have := (Array.getElem?_eq_some_iff.1 (hμ b x h)).1
      omega
  refine ⟨fun b => if b = w.heap.size then some o else μ b, ⟨(Below.refl _ w).alloc (Nat.le_refl _) _, fun b x e => ?_, fun b x e => ?_, fun b hb h0 => ?_⟩, by simp⟩
  · have : b ≠ w.heap.size := fun e' => by rw [e', hn _ (Nat.le_refl _)] at e; cases e
    simp [this, e]
  · by_cases hb : b = w.heap.size
    · subst hb
      simp at e
      subst e
      exact World.alloc_heap_new w _
    · simp [hb] at e
      have := hμ b x e
      rw [Below.heap_alloc _ _ _ (Array.getElem?_eq_some_iff.1 this).1]
      exact this
  · have : b ≠ w.heap.size := by omega
    simp [this, h0]
def FieldsPost (ws : List (List UInt8)) (μ : Mem) (v : Value) : Prop := ∃ b, v = .slice (some ⟨b, 0, none⟩) ws.length ws.length ∧ Sl encB 1 μ (some ⟨b, 0, none⟩) ws.length ws
def TabA (μ : Mem) : Prop := ∀ w, MOk μ w → Lib.TabIs Tryd.prog w "strings.asciiSpace" .u8 Lib.asciiSpaceTab
theorem TabA.mono {μ μ' : Mem} (h : TabA μ) (hle : MLe μ μ') : TabA μ' := fun w hw => h w (fun b o e => hw b o (hle b o e))
theorem fields_spec (s : ByteArray) (ws : List (List UInt8)) (hs : Nat.blt s.data.toList.length 4294967281 = true) (ha : s.data.toList.all (fun b => Nat.blt b.toNat 128) = true) (hf : Lib.fields s.data.toList = ws) (w : World) (μ : Mem) (hμ : MOk μ w) (hT : TabA μ) :
    Calls Tryd.prog 77 #[.string s] w fun e w' => ∃ v μ', e = .returned v ∧ Grow w w' μ μ' ∧ FieldsPost ws μ' v := by
  refine (Any.strings_Fields_laid Tryd.laysM157 s w (by have h := Nat.le_of_ble_eq_true hs; rw [Array.length_toList] at h; exact h) (fun j b hb => ?_) (hT w hμ)).mono fun e w' ⟨h1, h2⟩ => ?_
  · have := List.all_eq_true.1 ha b (List.mem_of_getElem? hb)
    exact Nat.le_of_ble_eq_true this
  · subst h2
    rw [hf] at h1 ⊢
    obtain ⟨μ', hg, hm⟩ := grow_alloc hμ (.cells (ws.map fun l => Value.string ⟨l.toArray⟩).toArray (Tryd.laysM157_ren.t 9))
    refine ⟨_, μ', h1, hg, _, rfl, rfl, fun hp => ⟨_, rfl, fun i l hl j v hj => ?_⟩⟩
    match j, hj with
    | 0, hj =>
      simp at hj
      subst hj
      rw [add_add', add_lit]
      exact ⟨_, _, _, hm, rfl, by simp [hl]⟩
    | j + 1, hj => simp at hj
attribute [local irreducible] G GC GQ GA GAop Calls IntKind.wrap Int.decLt Int.decLe
theorem name_spec (op : Int) (hop : -9223372036854775808 ≤ op ∧ op ≤ 9223372036854775807) (w : World) (μ : Mem) (hμ : MOk μ w) (hT : TabA μ) :
    Calls Tryd.prog 47 #[.int .i64 op] w fun e w' => e = .returned (.string ⟨(nameB op).toArray⟩) ∧ Below w.heap.size w w' := by
  refine call_intro (args := [.int .i64 op]) Tryd.func47 rfl Tryd.ntmps47 (by simp) hμ ?_
  have key : ∀ (lo n : Nat) (ws : List (List UInt8)), (nameL.drop lo).take n = ws → ∀ k : Nat, k < n → lo + n ≤ 65 → ∀ {μ' : Mem} {b : Nat}, Sl encB 1 μ' (some ⟨b, 0, none⟩) ws.length ws → MCells μ' ((⟨b, 0, none⟩ : Addr).add (k * 1)) [.string ⟨(nameB ((lo + k : Nat) : Int)).toArray⟩] := by
    intro lo n ws h k hk hlo μ' b hS
    have hl : nameL.length = 65 := rfl
    have hg : nameL[lo + k]? = some nameL[lo + k] := List.getElem?_eq_getElem (by omega)
    have hw : ws[k]? = some nameL[lo + k] := by
      rw [← h, List.getElem?_take_of_lt hk, List.getElem?_drop, hg]
    obtain ⟨a, e, ha⟩ := hS.2 (by have := (List.getElem?_eq_some_iff.1 hw).1; omega)
    cases e
    rw [nameB_at hg]
    exact ha k _ hw
  by_cases h1 : 1 ≤ op ∧ op ≤ 23
  · obtain ⟨k, rfl⟩ : ∃ k : Nat, op = ((1 + k : Nat) : Int) := ⟨(op - 1).toNat, by omega⟩
    repeat' (first | refine KO ?_ | ((with_reducible apply F2 77); exact rfl; exact EN; (exact fun w hw => fields_spec _ ((nameL.drop 1).take 23) (by kernel_rfl) (by kernel_rfl) (by kernel_rfl) w _ hw hT); rintro v2 μ2 hle2 ⟨bf, rfl, hS⟩; (have hc := key 1 23 _ rfl k (by omega) (by omega) hS); (rw [show ((nameL.drop 1).take 23).length = 23 from rfl])) | (refine KV (b := by first | exact U1 k | ((with_reducible apply v_load_sh); exact rfl; exact rfl; exact hc.at 0 rfl)) (c := ?_)) | refine KI ?_ | ((refine KB ?_ ?_ <;> intro hp)) | refine KG ?_ | fail)
    exact ret_v1 rfl (by first | exact rv_tmp rfl | exact (rv_agg 0 rfl rfl rfl rfl rfl (by repeat first | exact lc_nil | refine lc_cons rfl ?_)) | exact (rv_agg 1 rfl rfl rfl rfl rfl (by repeat first | exact lc_nil | refine lc_cons rfl ?_)) | exact (rv_agg 2 rfl rfl rfl rfl rfl (by repeat first | exact lc_nil | refine lc_cons rfl ?_)) | exact (rv_agg 3 rfl rfl rfl rfl rfl (by repeat first | exact lc_nil | refine lc_cons rfl ?_))) rfl
  by_cases h2 : 30 ≤ op ∧ op ≤ 54
  · obtain ⟨k, rfl⟩ : ∃ k : Nat, op = ((30 + k : Nat) : Int) := ⟨(op - 30).toNat, by omega⟩
    repeat' (first | refine KO ?_ | ((with_reducible apply F2 77); exact rfl; exact EN; (exact fun w hw => fields_spec _ ((nameL.drop 30).take 25) (by kernel_rfl) (by kernel_rfl) (by kernel_rfl) w _ hw hT); rintro v2 μ2 hle2 ⟨bf, rfl, hS⟩; (have hc := key 30 25 _ rfl k (by omega) (by omega) hS); (rw [show ((nameL.drop 30).take 25).length = 25 from rfl])) | (refine KV (b := by first | exact U1 k | ((with_reducible apply v_load_sh); exact rfl; exact rfl; exact hc.at 0 rfl)) (c := ?_)) | refine KI ?_ | ((refine KB ?_ ?_ <;> intro hp)) | refine KG ?_ | fail)
    exact ret_v1 rfl (by first | exact rv_tmp rfl | exact (rv_agg 0 rfl rfl rfl rfl rfl (by repeat first | exact lc_nil | refine lc_cons rfl ?_)) | exact (rv_agg 1 rfl rfl rfl rfl rfl (by repeat first | exact lc_nil | refine lc_cons rfl ?_)) | exact (rv_agg 2 rfl rfl rfl rfl rfl (by repeat first | exact lc_nil | refine lc_cons rfl ?_)) | exact (rv_agg 3 rfl rfl rfl rfl rfl (by repeat first | exact lc_nil | refine lc_cons rfl ?_))) rfl
  by_cases h3 : 60 ≤ op ∧ op ≤ 64
  · obtain ⟨k, rfl⟩ : ∃ k : Nat, op = ((60 + k : Nat) : Int) := ⟨(op - 60).toNat, by omega⟩
    repeat' (first | refine KO ?_ | ((with_reducible apply F2 77); exact rfl; exact EN; (exact fun w hw => fields_spec _ ((nameL.drop 60).take 5) (by kernel_rfl) (by kernel_rfl) (by kernel_rfl) w _ hw hT); rintro v2 μ2 hle2 ⟨bf, rfl, hS⟩; (have hc := key 60 5 _ rfl k (by omega) (by omega) hS); (rw [show ((nameL.drop 60).take 5).length = 5 from rfl])) | (refine KV (b := by first | exact U1 k | ((with_reducible apply v_load_sh); exact rfl; exact rfl; exact hc.at 0 rfl)) (c := ?_)) | refine KI ?_ | ((refine KB ?_ ?_ <;> intro hp)) | refine KG ?_ | fail)
    exact ret_v1 rfl (by first | exact rv_tmp rfl | exact (rv_agg 0 rfl rfl rfl rfl rfl (by repeat first | exact lc_nil | refine lc_cons rfl ?_)) | exact (rv_agg 1 rfl rfl rfl rfl rfl (by repeat first | exact lc_nil | refine lc_cons rfl ?_)) | exact (rv_agg 2 rfl rfl rfl rfl rfl (by repeat first | exact lc_nil | refine lc_cons rfl ?_)) | exact (rv_agg 3 rfl rfl rfl rfl rfl (by repeat first | exact lc_nil | refine lc_cons rfl ?_))) rfl
  have hF : nameB op = [] := by
    by_cases h0 : op < 0 ∨ 65 ≤ op
    · exact nameB_none h0
    · exact nameB_gap (by omega)
  rw [hF]
  repeat' (first | refine KK ?_ | ((refine KB ?_ ?_ <;> intro hp)) | refine KG ?_ | fail)
  all_goals exact ret_v1 rfl (by first | exact rv_tmp rfl | exact (rv_agg 0 rfl rfl rfl rfl rfl (by repeat first | exact lc_nil | refine lc_cons rfl ?_)) | exact (rv_agg 1 rfl rfl rfl rfl rfl (by repeat first | exact lc_nil | refine lc_cons rfl ?_)) | exact (rv_agg 2 rfl rfl rfl rfl rfl (by repeat first | exact lc_nil | refine lc_cons rfl ?_)) | exact (rv_agg 3 rfl rfl rfl rfl rfl (by repeat first | exact lc_nil | refine lc_cons rfl ?_))) rfl
end Go.Proofs.YtnllooebophcpaaDoor
namespace Go.Proofs.YtnllooebophcpaaDoor
open Go.RowKit Go.Vcg
theorem drop_cons {l : List UInt8} {i : Nat} {b : UInt8} (h : l[i]? = some b) : l.drop i = b :: l.drop (i + 1) := by
  obtain ⟨hlt, e⟩ := List.getElem?_eq_some_iff.1 h
  rw [← e, List.getElem_cons_drop]
theorem bl_at {s : ByteArray} {i : Nat} (h : i < s.size) : ∃ b, (bl s)[i]? = some b ∧ bAt s i = b.toNat := by
  have h1 : i < (bl s).length := by rw [bl_len]; exact h
  have h2 : s.data.toList[i]? = some (bl s)[i] := List.getElem?_eq_getElem h1
  refine ⟨(bl s)[i], List.getElem?_eq_getElem h1, ?_⟩
  unfold bAt
  rw [h2]
  rfl
def LetP (n : Nat) : Prop := 97 ≤ n ∧ n ≤ 122 ∨ 65 ≤ n ∧ n ≤ 90 ∨ n = 95 ∨ n = 36
instance (n : Nat) : Decidable (LetP n) := by unfold LetP; exact inferInstance
def DigP (n : Nat) : Prop := 48 ≤ n ∧ n ≤ 57
instance (n : Nat) : Decidable (DigP n) := by unfold DigP; exact inferInstance
attribute [local irreducible] G GC GQ GA GAop Calls IntKind.wrap Int.decLt Int.decLe
end Go.Proofs.YtnllooebophcpaaDoor
namespace Go.Proofs.YtnllooebophcpaaDoor
open Go.RowKit Go.Vcg
def andI (x y : Int) : Int := IntKind.i64.wrap (BitVec.ofInt 64 x &&& BitVec.ofInt 64 y).toNat
theorem v_andI {P : Program} {μ : Mem} {l : Slots} {L : List Bk} {ds : Option Nat} {ty : TypeId} {pos : String} {af : Array Edge} {gd : Option (Nat × Bool)} {p q : Operand} {t t2 : TypeId} {x y : Int} (hx0 : ev l p = some (.int .i64 x)) (hx1 : ev l q = some (.int .i64 y)) : Val P μ l L ⟨ds, .binOp .and t p q t2, ty, pos, af, gd⟩ (.int .i64 (andI x y)) :=
  fun a w hs => by have e0 := hs.eval hx0; have e1 := hs.eval hx1; generalize a.eval = ρ at e0 e1; simp [execOp, e0, e1, eqGuard, binOp, Op.intBits]; rfl
def hasT (t : T) (m : Int) : Bool := decide (t.op = 4) && decide (andI t.n m ≠ 0)
def simpleT (t : T) : Bool := decide (t.op = 34) || (decide (t.op = 51) || decide (t.op = 52)) && decide (t.n = 0)
def targetT (t : T) : Bool := simpleT t || decide (t.op = 60) || decide (t.op = 61)
def linkT (t : T) : Bool := decide (t.op = 49) || decide (t.op = 51) || decide (t.op = 52)
def stmtT (t : T) : Bool := if t.op = 4 then hasT t 1 else decide (t.op = 2) || decide (t.op = 21) || decide (t.op = 23) || decide (6 ≤ t.op) && decide (t.op ≤ 19)
def exprT (t : T) : Bool := if t.op = 4 then !hasT t 57 else decide (30 ≤ t.op) && decide (t.op ≤ 38) || decide (42 ≤ t.op) && decide (t.op ≤ 54)
def len0 (t : T) (n : Nat) : Bool := match t.kids with | k :: _ => decide (k.kids.length = n) | [] => false
def leftT (t : T) : Bool := targetT t || decide (t.op = 2) && decide (t.kids.length = 1) && len0 t 1
def getT (t : T) : Bool := hasT t 16 && len0 t 0
def set0 (t : T) : Bool := match t.kids with | k :: _ => (match k.kids with | [x] => decide (x.op ≠ 64) | _ => false) | [] => false
def setT (t : T) : Bool := hasT t 32 && set0 t
def methT (t : T) : Bool := hasT t 8
def okAt (i : Nat) (c : UInt8) : Prop := LetP c.toNat ∨ i ≠ 0 ∧ DigP c.toNat
def formP (l : List UInt8) : Prop := l ≠ [] ∧ ∀ (i : Nat) (c : UInt8), l[i]? = some c → okAt i c
noncomputable def formB (s : ByteArray) : Bool := dB (formP (bl s))
noncomputable def namedT (t : T) : Bool := decide (t.op = 31) && formB t.s
theorem formB_t {s : ByteArray} (h : formP (bl s)) : formB s = true := by unfold formB; exact dB_t h
theorem formB_f {s : ByteArray} (h : ¬formP (bl s)) : formB s = false := by unfold formB; exact dB_f h
def NodeP (f : FuncId) (p : T → Bool) : Prop := ∀ (t : T) (u : Value) (w : World) (μ : Mem), MOk μ w → KR μ t.kids u → t.size ≤ 100000 → t.s.size ≤ 65536 →
  Calls Tryd.prog f #[.agg (encT t u).toArray] w fun e w' => e = .returned (.bool (p t)) ∧ Below w.heap.size w w'
attribute [local irreducible] andI formB G GC GQ GA GAop Calls IntKind.wrap Int.decLt Int.decLe
theorem tHas_spec (m : Int) : ∀ (t : T) (u : Value) (w : World) (μ : Mem), MOk μ w → KR μ t.kids u → t.size ≤ 100000 →
    Calls Tryd.prog 79 #[.agg (encT t u).toArray, .int .i64 m] w fun e w' => e = .returned (.bool (hasT t m)) ∧ Below w.heap.size w w' := by
  intro t u w μ hμ hk hs
  have ho := hk.one
  refine call_intro (args := [.agg (encT t u).toArray, .int .i64 m]) Tryd.func79 rfl Tryd.ntmps79 (by simp) hμ ?_
  repeat' (first | refine KO ?_ | (refine KV (b := by first | ((with_reducible apply v_andI); exact rfl; exact rfl)) (c := ?_)) | refine KI ?_ | refine NB fun b => ?_ | ((refine KB ?_ ?_ <;> intro hp)) | refine KG ?_ | fail)
  all_goals (refine ret_s rfl rfl ?_; simp_all [hasT]; try omega)
theorem simple_spec : NodeP 59 simpleT := by
  intro t u w μ hμ hk hs hss
  have ho := hk.one
  refine call_intro (args := [.agg (encT t u).toArray]) Tryd.func59 rfl Tryd.ntmps59 (by simp) hμ ?_
  repeat' (first | refine KK ?_ | refine NB fun b => ?_ | ((refine KB ?_ ?_ <;> intro hp)) | refine KG ?_ | fail)
  all_goals (refine ret_s rfl rfl ?_; simp_all [simpleT]; try omega)
theorem target_spec : NodeP 60 targetT := by
  intro t u w μ hμ hk hs hss
  have ho := hk.one
  refine call_intro (args := [.agg (encT t u).toArray]) Tryd.func60 rfl Tryd.ntmps60 (by simp) hμ ?_
  repeat' (first | refine KO ?_ | ((with_reducible apply F1 59); exact rfl; exact EN; (exact fun w μc hw hse => simple_spec t u w μc hw (hk.mono hse.le) hs hss)) | refine KI ?_ | refine NB fun b => ?_ | ((refine KB ?_ ?_ <;> intro hp)) | refine KG ?_ | fail)
  all_goals (refine ret_s rfl rfl ?_; simp_all [targetT]; try omega)
theorem link_spec : NodeP 31 linkT := by
  intro t u w μ hμ hk hs hss
  have ho := hk.one
  refine call_intro (args := [.agg (encT t u).toArray]) Tryd.func31 rfl Tryd.ntmps31 (by simp) hμ ?_
  repeat' (first | refine KK ?_ | refine NB fun b => ?_ | ((refine KB ?_ ?_ <;> intro hp)) | refine KG ?_ | fail)
  all_goals (refine ret_s rfl rfl ?_; simp_all [linkT]; try omega)
theorem statement_spec : NodeP 64 stmtT := by
  intro t u w μ hμ hk hs hss
  have ho := hk.one
  refine call_intro (args := [.agg (encT t u).toArray]) Tryd.func64 rfl Tryd.ntmps64 (by simp) hμ ?_
  repeat' (first | refine KO ?_ | ((with_reducible apply F1 79); exact rfl; exact EN; (exact fun w μc hw hse => tHas_spec 1 t u w μc hw (hk.mono hse.le) hs)) | refine KI ?_ | refine NB fun b => ?_ | ((refine KB ?_ ?_ <;> intro hp)) | refine KG ?_ | fail)
  all_goals (refine ret_s rfl rfl ?_; simp_all [stmtT]; try omega)
theorem expression_spec : NodeP 54 exprT := by
  intro t u w μ hμ hk hs hss
  have ho := hk.one
  refine call_intro (args := [.agg (encT t u).toArray]) Tryd.func54 rfl Tryd.ntmps54 (by simp) hμ ?_
  repeat' (first | refine KO ?_ | ((with_reducible apply F1 79); exact rfl; exact EN; (exact fun w μc hw hse => tHas_spec 57 t u w μc hw (hk.mono hse.le) hs)) | refine KI ?_ | refine NB fun b => ?_ | ((refine KB ?_ ?_ <;> intro hp)) | refine KG ?_ | fail)
  all_goals (refine ret_s rfl rfl ?_; simp_all [exprT]; try omega)
theorem method_spec : NodeP 90 methT := by
  intro t u w μ hμ hk hs hss
  have ho := hk.one
  refine call_intro (args := [.agg (encT t u).toArray]) Tryd.func90 rfl Tryd.ntmps90 (by simp) hμ ?_
  repeat' (first | refine KO ?_ | ((with_reducible apply F1 79); exact rfl; exact EN; (exact fun w μc hw hse => tHas_spec 8 t u w μc hw (hk.mono hse.le) hs)) | refine KI ?_ | refine NB fun b => ?_ | ((refine KB ?_ ?_ <;> intro hp)) | refine KG ?_ | fail)
  all_goals (refine ret_s rfl rfl ?_; simp_all [methT]; try omega)
theorem len0_nil {t : T} {n : Nat} (h : t.kids = []) : len0 t n = false := by unfold len0; rw [h]
theorem len0_cons {t k : T} {r : List T} {n : Nat} (h : t.kids = k :: r) : len0 t n = decide (k.kids.length = n) := by unfold len0; rw [h]
theorem getter_spec : NodeP 88 getT := by
  intro t u w μ hμ hk hs hss
  have ho := hk.one
  obtain ⟨A, c, rfl, hlc, hkid⟩ := hk.form
  have hlen := kidsLe t
  refine call_intro (args := [.agg (encT t (.slice A t.kids.length c)).toArray]) Tryd.func88 rfl Tryd.ntmps88 (by simp) hμ ?_
  have hh : ∀ (w : World) (μc : Mem), MOk μc w → MLe μ μc → Calls Tryd.prog 79 #[.agg (encT t (.slice A t.kids.length c)).toArray, .int .i64 16] w fun e w' => e = .returned (.bool (hasT t 16)) ∧ Below w.heap.size w w' := fun w μc hw hle => tHas_spec 16 t _ w μc hw (hk.mono hle) hs
  by_cases h0 : t.kids.length = 0
  · have hg : getT t = false := by
      unfold getT
      rw [len0_nil (List.eq_nil_of_length_eq_zero h0), Bool.and_false]
    rw [hg]
    repeat' (first | refine KO ?_ | ((with_reducible apply F1 79); exact rfl; exact EN; (exact fun w μc hw hse => hh w μc hw hse.le)) | refine KI ?_ | refine NB fun b => ?_ | ((refine KB ?_ ?_ <;> intro hp)) | refine KG ?_ | fail)
    all_goals (refine ret_s rfl rfl ?_; simp_all)
  · obtain ⟨k, r, hkr⟩ := List.exists_cons_of_ne_nil (l := t.kids) (by intro e; rw [e] at h0; exact h0 rfl)
    obtain ⟨ad, x, rfl, hm, hox, hkx⟩ := hkid 0 k (by rw [hkr]; rfl)
    obtain ⟨A2, c2, rfl, hlc2, -⟩ := hkx.form
    have hsz := T.size_kid (t := t) (i := 0) (k := k) (by rw [hkr]; rfl)
    have hlk := kidsLe k
    have hg : getT t = (hasT t 16 && decide (k.kids.length = 0)) := by
      unfold getT
      rw [len0_cons hkr]
    rw [hg]
    repeat' (first | refine KO ?_ | ((with_reducible apply F1 79); exact rfl; exact EN; (exact fun w μc hw hse => hh w μc hw hse.le)) | (refine KV (b := by first | exact U1 0 | exact U4 hm) (c := ?_)) | refine KI ?_ | refine NB fun b => ?_ | ((refine KB ?_ ?_ <;> intro hp)) | refine KG ?_ | fail)
    all_goals (refine ret_s rfl rfl ?_; simp_all)
theorem set0_nil {t : T} (h : t.kids = []) : set0 t = false := by unfold set0; rw [h]
theorem set0_ne {t k : T} {r : List T} (h : t.kids = k :: r) (hk : k.kids.length ≠ 1) : set0 t = false := by
  unfold set0
  rw [h]
  match hm : k.kids with
  | [] => simp [hm]
  | [x] => rw [hm] at hk; exact absurd rfl hk
  | _ :: _ :: _ => simp [hm]
theorem set0_one {t k x : T} {r : List T} (h : t.kids = k :: r) (hk : k.kids = [x]) : set0 t = decide (x.op ≠ 64) := by
  unfold set0
  rw [h]
  simp only [hk]
theorem setter_spec : NodeP 89 setT := by
  intro t u w μ hμ hk hs hss
  have ho := hk.one
  obtain ⟨A, c, rfl, hlc, hkid⟩ := hk.form
  have hlen := kidsLe t
  refine call_intro (args := [.agg (encT t (.slice A t.kids.length c)).toArray]) Tryd.func89 rfl Tryd.ntmps89 (by simp) hμ ?_
  have hh : ∀ (w : World) (μc : Mem), MOk μc w → MLe μ μc → Calls Tryd.prog 79 #[.agg (encT t (.slice A t.kids.length c)).toArray, .int .i64 32] w fun e w' => e = .returned (.bool (hasT t 32)) ∧ Below w.heap.size w w' := fun w μc hw hle => tHas_spec 32 t _ w μc hw (hk.mono hle) hs
  by_cases h0 : t.kids.length = 0
  · have hg : setT t = false := by
      unfold setT
      rw [set0_nil (List.eq_nil_of_length_eq_zero h0), Bool.and_false]
    rw [hg]
    repeat' (first | refine KO ?_ | ((with_reducible apply F1 79); exact rfl; exact EN; (exact fun w μc hw hse => hh w μc hw hse.le)) | refine KI ?_ | refine NB fun b => ?_ | ((refine KB ?_ ?_ <;> intro hp)) | refine KG ?_ | fail)
    all_goals (refine ret_s rfl rfl ?_; simp_all)
  · obtain ⟨k, r, hkr⟩ := List.exists_cons_of_ne_nil (l := t.kids) (by intro e; rw [e] at h0; exact h0 rfl)
    obtain ⟨ad, x, rfl, hm, hox, hkx⟩ := hkid 0 k (by rw [hkr]; rfl)
    obtain ⟨A2, c2, rfl, hlc2, hkid2⟩ := hkx.form
    have hsz := T.size_kid (t := t) (i := 0) (k := k) (by rw [hkr]; rfl)
    have hlk := kidsLe k
    by_cases h1 : k.kids.length = 1
    · obtain ⟨y, hy⟩ := List.length_eq_one_iff.1 h1
      obtain ⟨ad2, x2, rfl, hm2, hox2, hkx2⟩ := hkid2 0 y (by rw [hy]; rfl)
      have hg : setT t = (hasT t 32 && decide (y.op ≠ 64)) := by
        unfold setT
        rw [set0_one hkr hy]
      rw [hg]
      repeat' (first | refine KO ?_ | ((with_reducible apply F1 79); exact rfl; exact EN; (exact fun w μc hw hse => hh w μc hw hse.le)) | (refine KV (b := by first | exact U1 0 | exact U4 hm | exact U4 hm2) (c := ?_)) | refine KI ?_ | refine NB fun b => ?_ | ((refine KB ?_ ?_ <;> intro hp)) | refine KG ?_ | fail)
      all_goals (refine ret_s rfl rfl ?_; simp_all)
    · have hg : setT t = false := by
        unfold setT
        rw [set0_ne hkr h1, Bool.and_false]
      rw [hg]
      repeat' (first | refine KO ?_ | ((with_reducible apply F1 79); exact rfl; exact EN; (exact fun w μc hw hse => hh w μc hw hse.le)) | (refine KV (b := by first | exact U1 0 | exact U4 hm) (c := ?_)) | refine KI ?_ | refine NB fun b => ?_ | ((refine KB ?_ ?_ <;> intro hp)) | refine KG ?_ | fail)
      all_goals (refine ret_s rfl rfl ?_; simp_all; try omega)
theorem left_spec : NodeP 66 leftT := by
  intro t u w μ hμ hk hs hss
  have ho := hk.one
  obtain ⟨A, c, rfl, hlc, hkid⟩ := hk.form
  have hlen := kidsLe t
  refine call_intro (args := [.agg (encT t (.slice A t.kids.length c)).toArray]) Tryd.func66 rfl Tryd.ntmps66 (by simp) hμ ?_
  have hh : ∀ (w : World) (μc : Mem), MOk μc w → MLe μ μc → Calls Tryd.prog 60 #[.agg (encT t (.slice A t.kids.length c)).toArray] w fun e w' => e = .returned (.bool (targetT t)) ∧ Below w.heap.size w w' := fun w μc hw hle => target_spec t _ w μc hw (hk.mono hle) hs hss
  by_cases h0 : t.kids.length = 1
  · obtain ⟨k, hkr⟩ := List.length_eq_one_iff.1 h0
    obtain ⟨ad, x, rfl, hm, hox, hkx⟩ := hkid 0 k (by rw [hkr]; rfl)
    obtain ⟨A2, c2, rfl, hlc2, -⟩ := hkx.form
    have hsz := T.size_kid (t := t) (i := 0) (k := k) (by rw [hkr]; rfl)
    have hlk := kidsLe k
    have hg : leftT t = (targetT t || decide (t.op = 2) && decide (k.kids.length = 1)) := by
      unfold leftT
      rw [len0_cons hkr, h0]
      simp
    rw [hg]
    repeat' (first | refine KO ?_ | ((with_reducible apply F1 60); exact rfl; exact EN; (exact fun w μc hw hse => hh w μc hw hse.le)) | (refine KV (b := by first | exact U1 0 | exact U4 hm) (c := ?_)) | refine KI ?_ | refine NB fun b => ?_ | ((refine KB ?_ ?_ <;> intro hp)) | refine KG ?_ | fail)
    all_goals (refine ret_s rfl rfl ?_; simp_all; try omega)
  · have hg : leftT t = targetT t := by
      unfold leftT
      rw [decide_eq_false h0]
      simp
    rw [hg]
    repeat' (first | refine KO ?_ | ((with_reducible apply F1 60); exact rfl; exact EN; (exact fun w μc hw hse => hh w μc hw hse.le)) | refine KI ?_ | refine NB fun b => ?_ | ((refine KB ?_ ?_ <;> intro hp)) | refine KG ?_ | fail)
    all_goals (refine ret_s rfl rfl ?_; simp_all; try omega)
theorem form_spec (s : ByteArray) (hs : s.size ≤ 65536) (w : World) (μ : Mem) (hμ : MOk μ w) :
    Calls Tryd.prog 78 #[.string s] w fun e w' => e = .returned (.bool (formB s)) ∧ Below w.heap.size w w' := by
  refine call_intro (args := [.string s]) Tryd.func78 rfl Tryd.ntmps78 (by simp) hμ ?_
  repeat' (first | refine KK ?_ | ((refine KB ?_ ?_ <;> intro hp)) | refine KG ?_ | fail)
  refine gc_loop (ι := Nat) (fun i => i ≤ s.size ∧ ∀ (j : Nat) (c : UInt8), j < i → (bl s)[j]? = some c → okAt j c) (fun i => s.size - i) (fun _ => μ) (fun i => [(8, .int .i64 i), (7, .int .i64 s.size), (0, .string s)]) (fun _ => []) 0 ⟨Nat.zero_le _, fun j _ h => absurd h (by omega)⟩ (fun a w hs => J6 hs) ?_
  rintro i ⟨hi, hok⟩
  by_cases hlt : i < s.size
  · obtain ⟨c, hc1, hc2⟩ := bl_at (s := s) (i := i) hlt
    have hcl := c.toNat_lt
    have hnext : okAt i c → ∀ (j : Nat) (d : UInt8), j < i + 1 → (bl s)[j]? = some d → okAt j d := fun h j d hj hd => by
      rcases Nat.lt_or_ge j i with h1 | h1
      · exact hok j d h1 hd
      · obtain rfl : j = i := by omega
        rw [hc1] at hd
        cases hd
        exact h
    have hbad : ¬okAt i c → formB s = false := fun h => formB_f fun hf => h (hf.2 i c hc1)
    by_cases hk : okAt i c
    · have hb := hnext hk
      unfold okAt LetP DigP at hk
      repeat' (first | refine KO ?_ | (refine KV (b := by first | exact U2 i) (c := ?_)) | refine KI ?_ | ((refine KB ?_ ?_ <;> intro hp)) | refine KG ?_ | fail)
      all_goals first
        | exact J4 (i + 1) ⟨by omega, hb⟩ (by omega)
        | (exfalso; omega)
    · rw [hbad hk]
      unfold okAt LetP DigP at hk
      repeat' (first | refine KO ?_ | (refine KV (b := by first | exact U2 i) (c := ?_)) | refine KI ?_ | ((refine KB ?_ ?_ <;> intro hp)) | refine KG ?_ | fail)
      all_goals first
        | exact ret_s rfl rfl rfl
        | (exfalso; omega)
  · obtain rfl : i = s.size := by omega
    have hall : ∀ (j : Nat) (c : UInt8), (bl s)[j]? = some c → okAt j c := fun j c hc => hok j c (by have := (List.getElem?_eq_some_iff.1 hc).1; rw [bl_len] at this; exact this) hc
    have hg : formB s = decide (s ≠ ⟨#[]⟩) := by
      by_cases h : s = ⟨#[]⟩
      · rw [formB_f fun hf => hf.1 (by rw [h]), h]
        simp
      · rw [formB_t ⟨fun e => h (bl_inj e), hall⟩]
        simp [h]
    rw [hg]
    repeat' (first | refine KK ?_ | ((refine KB ?_ ?_ <;> intro hp)) | refine KG ?_ | fail)
    exact ret_s rfl rfl rfl
theorem named_spec : NodeP 91 namedT := by
  intro t u w μ hμ hk hs hss
  have ho := hk.one
  refine call_intro (args := [.agg (encT t u).toArray]) Tryd.func91 rfl Tryd.ntmps91 (by simp) hμ ?_
  repeat' (first | refine KO ?_ | ((with_reducible apply F1 78); exact rfl; exact EN; (exact fun w μc hw hse => form_spec t.s hss w μc hw)) | refine KI ?_ | refine NB fun b => ?_ | ((refine KB ?_ ?_ <;> intro hp)) | refine KG ?_ | fail)
  all_goals (refine ret_s rfl rfl ?_; simp_all [namedT])
end Go.Proofs.YtnllooebophcpaaDoor
namespace Go.Proofs.YtnllooebophcpaaDoor
open Go.RowKit Go.Vcg
def bitT (t : T) (m : Int) : Bool := decide (t.op = 4) && decide (0 ≤ t.n) && decide ((IntKind.i64.wrap (t.n.tdiv m)).tmod 2 = 1)
def rStmtT (t : T) : Bool := decide (t.op = 2) || bitT t 1 || decide (6 ≤ t.op) && decide (t.op ≤ 19) || decide (t.op = 21) || decide (t.op = 23)
def rExprT (t : T) : Bool := if t.op = 4 then !bitT t 1 && !bitT t 8 && !bitT t 16 && !bitT t 32 else decide (30 ≤ t.op) && decide (t.op ≤ 38) || decide (42 ≤ t.op) && decide (t.op ≤ 54)
def loneT (t : T) : Bool := decide (t.op = 2) && decide (t.kids.length = 1) && len0 t 1
attribute [local irreducible] formB G GC GQ GA GAop Calls IntKind.wrap Int.decLt Int.decLe
theorem rBit_spec (m : Int) (hm : m ≠ 0) : ∀ (t : T) (u : Value) (w : World) (μ : Mem), MOk μ w → KR μ t.kids u →
    Calls Tryd.prog 69 #[.agg (encT t u).toArray, .int .i64 m] w fun e w' => e = .returned (.bool (bitT t m)) ∧ Below w.heap.size w w' := by
  intro t u w μ hμ hk
  have ho := hk.one
  refine call_intro (args := [.agg (encT t u).toArray, .int .i64 m]) Tryd.func69 rfl Tryd.ntmps69 (by simp) hμ ?_
  repeat' (first | refine KO ?_ | (refine KV (b := by first | ((with_reducible apply v_quo); exact rfl; exact rfl; exact hm)) (c := ?_)) | refine KI ?_ | refine NB fun b => ?_ | ((refine KB ?_ ?_ <;> intro hp)) | refine KG ?_ | fail)
  all_goals (refine ret_s rfl rfl ?_; simp_all [bitT]; try omega)
theorem rSimple_spec : NodeP 74 simpleT := by
  intro t u w μ hμ hk hs hss
  have ho := hk.one
  refine call_intro (args := [.agg (encT t u).toArray]) Tryd.func74 rfl Tryd.ntmps74 (by simp) hμ ?_
  repeat' (first | refine KK ?_ | refine NB fun b => ?_ | ((refine KB ?_ ?_ <;> intro hp)) | refine KG ?_ | fail)
  all_goals (refine ret_s rfl rfl ?_; simp_all [simpleT]; try omega)
theorem rTarget_spec : NodeP 73 targetT := by
  intro t u w μ hμ hk hs hss
  have ho := hk.one
  refine call_intro (args := [.agg (encT t u).toArray]) Tryd.func73 rfl Tryd.ntmps73 (by simp) hμ ?_
  repeat' (first | refine KO ?_ | ((with_reducible apply F1 74); exact rfl; exact EN; (exact fun w μc hw hse => rSimple_spec t u w μc hw (hk.mono hse.le) hs hss)) | refine KI ?_ | refine NB fun b => ?_ | ((refine KB ?_ ?_ <;> intro hp)) | refine KG ?_ | fail)
  all_goals (refine ret_s rfl rfl ?_; simp_all [targetT]; try omega)
theorem rLink_spec : NodeP 23 linkT := by
  intro t u w μ hμ hk hs hss
  have ho := hk.one
  refine call_intro (args := [.agg (encT t u).toArray]) Tryd.func23 rfl Tryd.ntmps23 (by simp) hμ ?_
  repeat' (first | refine KK ?_ | refine NB fun b => ?_ | ((refine KB ?_ ?_ <;> intro hp)) | refine KG ?_ | fail)
  all_goals (refine ret_s rfl rfl ?_; simp_all [linkT]; try omega)
theorem rStmt_spec : NodeP 72 rStmtT := by
  intro t u w μ hμ hk hs hss
  have ho := hk.one
  refine call_intro (args := [.agg (encT t u).toArray]) Tryd.func72 rfl Tryd.ntmps72 (by simp) hμ ?_
  repeat' (first | refine KO ?_ | ((with_reducible apply F1 69); exact rfl; exact EN; (exact fun w μc hw hse => rBit_spec 1 (by decide) t u w μc hw (hk.mono hse.le))) | refine KI ?_ | refine NB fun b => ?_ | ((refine KB ?_ ?_ <;> intro hp)) | refine KG ?_ | fail)
  all_goals (refine ret_s rfl rfl ?_; simp_all [rStmtT]; try (intros; omega))
theorem rExpr_spec : NodeP 44 rExprT := by
  intro t u w μ hμ hk hs hss
  have ho := hk.one
  refine call_intro (args := [.agg (encT t u).toArray]) Tryd.func44 rfl Tryd.ntmps44 (by simp) hμ ?_
  repeat' (first | refine KO ?_ | ((with_reducible apply F1 69); exact rfl; exact EN; (exact fun w μc hw hse => rBit_spec _ (by decide) t u w μc hw (hk.mono hse.le))) | refine KI ?_ | refine NB fun b => ?_ | ((refine KB ?_ ?_ <;> intro hp)) | refine KG ?_ | fail)
  all_goals (refine ret_s rfl rfl ?_; simp_all [rExprT]; try (intros; omega))
theorem rLone_spec : NodeP 75 loneT := by
  intro t u w μ hμ hk hs hss
  have ho := hk.one
  obtain ⟨A, c, rfl, hlc, hkid⟩ := hk.form
  have hlen := kidsLe t
  refine call_intro (args := [.agg (encT t (.slice A t.kids.length c)).toArray]) Tryd.func75 rfl Tryd.ntmps75 (by simp) hμ ?_
  by_cases h0 : t.kids.length = 1
  · obtain ⟨k, hkr⟩ := List.length_eq_one_iff.1 h0
    obtain ⟨ad, x, rfl, hm, hox, hkx⟩ := hkid 0 k (by rw [hkr]; rfl)
    obtain ⟨A2, c2, rfl, hlc2, -⟩ := hkx.form
    have hsz := T.size_kid (t := t) (i := 0) (k := k) (by rw [hkr]; rfl)
    have hlk := kidsLe k
    have hg : loneT t = (decide (t.op = 2) && decide (k.kids.length = 1)) := by
      unfold loneT
      rw [len0_cons hkr, h0]
      simp
    rw [hg]
    repeat' (first | refine KO ?_ | (refine KV (b := by first | exact U1 0 | exact U4 hm) (c := ?_)) | refine KI ?_ | refine NB fun b => ?_ | ((refine KB ?_ ?_ <;> intro hp)) | refine KG ?_ | fail)
    all_goals (refine ret_s rfl rfl ?_; simp_all; try omega)
  · have hg : loneT t = false := by
      unfold loneT
      rw [decide_eq_false h0]
      simp
    rw [hg]
    repeat' (first | refine KK ?_ | refine NB fun b => ?_ | ((refine KB ?_ ?_ <;> intro hp)) | refine KG ?_ | fail)
    all_goals (refine ret_s rfl rfl ?_; simp_all; try omega)
theorem rForm_spec (s : ByteArray) (hs : s.size ≤ 65536) (w : World) (μ : Mem) (hμ : MOk μ w) :
    Calls Tryd.prog 68 #[.string s] w fun e w' => e = .returned (.bool (formB s)) ∧ Below w.heap.size w w' := by
  refine call_intro (args := [.string s]) Tryd.func68 rfl Tryd.ntmps68 (by simp) hμ ?_
  repeat' (first | refine KK ?_ | ((refine KB ?_ ?_ <;> intro hp)) | refine KG ?_ | fail)
  refine gc_loop (ι := Nat) (fun i => i ≤ s.size ∧ ∀ (j : Nat) (c : UInt8), j < i → (bl s)[j]? = some c → okAt j c) (fun i => s.size - i) (fun _ => μ) (fun i => [(3, .int .i64 i), (0, .string s)]) (fun _ => []) 0 ⟨Nat.zero_le _, fun j _ h => absurd h (by omega)⟩ (fun a w hs => J6 hs) ?_
  rintro i ⟨hi, hok⟩
  by_cases hlt : i < s.size
  · obtain ⟨c, hc1, hc2⟩ := bl_at (s := s) (i := i) hlt
    have hcl := c.toNat_lt
    have hnext : okAt i c → ∀ (j : Nat) (d : UInt8), j < i + 1 → (bl s)[j]? = some d → okAt j d := fun h j d hj hd => by
      rcases Nat.lt_or_ge j i with h1 | h1
      · exact hok j d h1 hd
      · obtain rfl : j = i := by omega
        rw [hc1] at hd
        cases hd
        exact h
    have hbad : ¬okAt i c → formB s = false := fun h => formB_f fun hf => h (hf.2 i c hc1)
    by_cases hk : okAt i c
    · have hb := hnext hk
      unfold okAt LetP DigP at hk
      repeat' (first | refine KO ?_ | (refine KV (b := by first | exact U2 i) (c := ?_)) | refine KI ?_ | ((refine KB ?_ ?_ <;> intro hp)) | refine KG ?_ | fail)
      all_goals first
        | exact J4 (i + 1) ⟨by omega, hb⟩ (by omega)
        | (exfalso; omega)
    · rw [hbad hk]
      unfold okAt LetP DigP at hk
      repeat' (first | refine KO ?_ | (refine KV (b := by first | exact U2 i) (c := ?_)) | refine KI ?_ | ((refine KB ?_ ?_ <;> intro hp)) | refine KG ?_ | fail)
      all_goals first
        | exact ret_s rfl rfl rfl
        | (exfalso; omega)
  · obtain rfl : i = s.size := by omega
    have hall : ∀ (j : Nat) (c : UInt8), (bl s)[j]? = some c → okAt j c := fun j c hc => hok j c (by have := (List.getElem?_eq_some_iff.1 hc).1; rw [bl_len] at this; exact this) hc
    have hg : formB s = decide (s ≠ ⟨#[]⟩) := by
      by_cases h : s = ⟨#[]⟩
      · rw [formB_f fun hf => hf.1 (by rw [h]), h]
        simp
      · rw [formB_t ⟨fun e => h (bl_inj e), hall⟩]
        simp [h]
    rw [hg]
    repeat' (first | refine KK ?_ | ((refine KB ?_ ?_ <;> intro hp)) | refine KG ?_ | fail)
    exact ret_s rfl rfl rfl
end Go.Proofs.YtnllooebophcpaaDoor
namespace Go.Proofs.YtnllooebophcpaaDoor
open Go.RowKit Go.Vcg
def opsL : List (Int × Int) := [(68, 3), (80, 5), (66, 6), (75, 22), (82, 39), (81, 62), (90, 64)]
noncomputable def restT (c : Int) (t : T) : Bool :=
  if c = 70 then targetT t || decide (t.op = 63)
  else if c = 72 then targetT t || decide (t.op = 63) || decide (t.op = 40)
  else if c = 107 then decide (t.op = 31) || decide (t.op = 30)
  else if c = 119 then namedT t
  else if c = 103 then bitT t 16 && len0 t 0
  else if c = 115 then bitT t 32 && set0 t
  else if c = 109 then bitT t 8
  else match opsL.find? (fun x => decide (x.1 = c)) with | some x => decide (t.op = x.2) | none => false
noncomputable def isT (c : Int) (t : T) : Bool :=
  if c = 83 then rStmtT t
  else if c = 69 then rExprT t
  else if c = 84 then targetT t
  else if c = 116 then simpleT t
  else if c = 99 then linkT t
  else if c = 73 then decide (t.op = 2) || decide (t.op = 8) || decide (t.op = 7)
  else if c = 77 then rExprT t || decide (t.op = 7)
  else if c = 76 then targetT t || loneT t
  else if c = 89 then decide (t.op = 6) || decide (t.op = 7)
  else if c = 67 then decide (t.op = 20) || decide (t.op = 7)
  else if c = 71 then targetT t || decide (t.op = 7)
  else if c = 65 then rExprT t || decide (t.op = 40) || decide (t.op = 41)
  else if c = 97 then rExprT t || decide (t.op = 41)
  else restT c t
attribute [local irreducible] rStmtT rExprT targetT simpleT linkT loneT namedT bitT restT formB G GC GQ GA GAop Calls IntKind.wrap Int.decLt Int.decLe
theorem is_spec (hrest : ∀ (c : Int) (t : T) (u : Value) (w : World) (μ : Mem), MOk μ w → KR μ t.kids u → t.size ≤ 100000 → t.s.size ≤ 65536 → Calls Tryd.prog 76 #[.int .u8 c, .agg (encT t u).toArray] w fun e w' => e = .returned (.bool (restT c t)) ∧ Below w.heap.size w w') (c : Int) (t : T) (u : Value) (w : World) (μ : Mem) (hμ : MOk μ w) (hk : KR μ t.kids u) (hs : t.size ≤ 100000) (hss : t.s.size ≤ 65536) :
    Calls Tryd.prog 46 #[.int .u8 c, .agg (encT t u).toArray] w fun e w' => e = .returned (.bool (isT c t)) ∧ Below w.heap.size w w' := by
  have ho := hk.one
  refine call_intro (args := [.int .u8 c, .agg (encT t u).toArray]) Tryd.func46 rfl Tryd.ntmps46 (by simp) hμ ?_
  repeat' (first | refine KO ?_ | ((with_reducible apply F1 72); exact rfl; exact EN; (exact fun w μc hw hse => rStmt_spec t u w μc hw (hk.mono hse.le) hs hss)) | ((with_reducible apply F1 44); exact rfl; exact EN; (exact fun w μc hw hse => rExpr_spec t u w μc hw (hk.mono hse.le) hs hss)) | ((with_reducible apply F1 73); exact rfl; exact EN; (exact fun w μc hw hse => rTarget_spec t u w μc hw (hk.mono hse.le) hs hss)) | ((with_reducible apply F1 74); exact rfl; exact EN; (exact fun w μc hw hse => rSimple_spec t u w μc hw (hk.mono hse.le) hs hss)) | ((with_reducible apply F1 23); exact rfl; exact EN; (exact fun w μc hw hse => rLink_spec t u w μc hw (hk.mono hse.le) hs hss)) | ((with_reducible apply F1 75); exact rfl; exact EN; (exact fun w μc hw hse => rLone_spec t u w μc hw (hk.mono hse.le) hs hss)) | ((with_reducible apply F1 76); exact rfl; exact EN; (exact fun w μc hw hse => hrest c t u w μc hw (hk.mono hse.le) hs hss)) | refine KI ?_ | refine NB fun b => ?_ | ((refine KB ?_ ?_ <;> intro hp)) | refine KG ?_ | fail)
  all_goals (clear hrest hk ho hμ; refine ret_s rfl rfl ?_; simp_all [isT])
end Go.Proofs.YtnllooebophcpaaDoor
namespace Go.Proofs.YtnllooebophcpaaDoor
open Go.RowKit Go.Vcg
attribute [local irreducible] targetT namedT bitT formB G GC GQ GA GAop Calls IntKind.wrap Int.decLt Int.decLe
theorem re_103 (t : T) (u : Value) (w : World) (μ : Mem) (hμ : MOk μ w) (hk : KR μ t.kids u) (hs : t.size ≤ 100000) (hss : t.s.size ≤ 65536) :
    Calls Tryd.prog 76 #[.int .u8 103, .agg (encT t u).toArray] w fun e w' => e = .returned (.bool (bitT t 16 && len0 t 0)) ∧ Below w.heap.size w w' := by
  have ho := hk.one
  obtain ⟨A, c0, rfl, hlc, hkid⟩ := hk.form
  have hlen := kidsLe t
  refine call_intro (args := [.int .u8 103, .agg (encT t (.slice A t.kids.length c0)).toArray]) Tryd.func76 rfl Tryd.ntmps76 (by simp) hμ ?_
  have hh := fun (m : Int) (hm : m ≠ 0) (w : World) (μc : Mem) (hw : MOk μc w) (hle : MLe μ μc) => rBit_spec m hm t _ w μc hw (hk.mono hle)
  by_cases h0 : t.kids.length = 0
  · rw [len0_nil (List.eq_nil_of_length_eq_zero h0), Bool.and_false]
    repeat' (first | refine KO ?_ | ((with_reducible apply F1 69); exact rfl; exact EN; (exact fun w μc hw hse => hh 16 (by decide) w μc hw hse.le)) | refine KI ?_ | refine NB fun b => ?_ | ((refine KB ?_ ?_ <;> intro hp)) | refine KG ?_ | fail)
    all_goals first | (exfalso; omega) | (refine ret_s rfl rfl ?_; simp_all)
  · obtain ⟨k, r, hkr⟩ := List.exists_cons_of_ne_nil (l := t.kids) (by intro e; rw [e] at h0; exact h0 rfl)
    obtain ⟨ad, x, rfl, hm, hox, hkx⟩ := hkid 0 k (by rw [hkr]; rfl)
    obtain ⟨A2, c2, rfl, hlc2, -⟩ := hkx.form
    have hsz := T.size_kid (t := t) (i := 0) (k := k) (by rw [hkr]; rfl)
    have hlk := kidsLe k
    rw [len0_cons hkr]
    repeat' (first | refine KO ?_ | ((with_reducible apply F1 69); exact rfl; exact EN; (exact fun w μc hw hse => hh 16 (by decide) w μc hw hse.le)) | (refine KV (b := by first | exact U1 0 | exact U4 hm) (c := ?_)) | refine KI ?_ | refine NB fun b => ?_ | ((refine KB ?_ ?_ <;> intro hp)) | refine KG ?_ | fail)
    all_goals first | (exfalso; omega) | (refine ret_s rfl rfl ?_; simp_all)
theorem re_115 (t : T) (u : Value) (w : World) (μ : Mem) (hμ : MOk μ w) (hk : KR μ t.kids u) (hs : t.size ≤ 100000) (hss : t.s.size ≤ 65536) :
    Calls Tryd.prog 76 #[.int .u8 115, .agg (encT t u).toArray] w fun e w' => e = .returned (.bool (bitT t 32 && set0 t)) ∧ Below w.heap.size w w' := by
  have ho := hk.one
  obtain ⟨A, c0, rfl, hlc, hkid⟩ := hk.form
  have hlen := kidsLe t
  refine call_intro (args := [.int .u8 115, .agg (encT t (.slice A t.kids.length c0)).toArray]) Tryd.func76 rfl Tryd.ntmps76 (by simp) hμ ?_
  have hh := fun (m : Int) (hm : m ≠ 0) (w : World) (μc : Mem) (hw : MOk μc w) (hle : MLe μ μc) => rBit_spec m hm t _ w μc hw (hk.mono hle)
  by_cases h0 : t.kids.length = 0
  · rw [set0_nil (List.eq_nil_of_length_eq_zero h0), Bool.and_false]
    repeat' (first | refine KO ?_ | ((with_reducible apply F1 69); exact rfl; exact EN; (exact fun w μc hw hse => hh 32 (by decide) w μc hw hse.le)) | refine KI ?_ | refine NB fun b => ?_ | ((refine KB ?_ ?_ <;> intro hp)) | refine KG ?_ | fail)
    all_goals first | (exfalso; omega) | (refine ret_s rfl rfl ?_; simp_all)
  · obtain ⟨k, r, hkr⟩ := List.exists_cons_of_ne_nil (l := t.kids) (by intro e; rw [e] at h0; exact h0 rfl)
    obtain ⟨ad, x, rfl, hm, hox, hkx⟩ := hkid 0 k (by rw [hkr]; rfl)
    obtain ⟨A2, c2, rfl, hlc2, hkid2⟩ := hkx.form
    have hsz := T.size_kid (t := t) (i := 0) (k := k) (by rw [hkr]; rfl)
    have hlk := kidsLe k
    by_cases h1 : k.kids.length = 1
    · obtain ⟨y, hy⟩ := List.length_eq_one_iff.1 h1
      obtain ⟨ad2, x2, rfl, hm2, hox2, hkx2⟩ := hkid2 0 y (by rw [hy]; rfl)
      rw [set0_one hkr hy]
      repeat' (first | refine KO ?_ | ((with_reducible apply F1 69); exact rfl; exact EN; (exact fun w μc hw hse => hh 32 (by decide) w μc hw hse.le)) | (refine KV (b := by first | exact U1 0 | exact U4 hm | exact U4 hm2) (c := ?_)) | refine KI ?_ | refine NB fun b => ?_ | ((refine KB ?_ ?_ <;> intro hp)) | refine KG ?_ | fail)
      all_goals first | (exfalso; omega) | (refine ret_s rfl rfl ?_; simp_all)
    · rw [set0_ne hkr h1, Bool.and_false]
      repeat' (first | refine KO ?_ | ((with_reducible apply F1 69); exact rfl; exact EN; (exact fun w μc hw hse => hh 32 (by decide) w μc hw hse.le)) | (refine KV (b := by first | exact U1 0 | exact U4 hm) (c := ?_)) | refine KI ?_ | refine NB fun b => ?_ | ((refine KB ?_ ?_ <;> intro hp)) | refine KG ?_ | fail)
      all_goals first | (exfalso; omega) | (refine ret_s rfl rfl ?_; simp_all; try omega)
theorem rest_spec (c : Int) (t : T) (u : Value) (w : World) (μ : Mem) (hμ : MOk μ w) (hk : KR μ t.kids u) (hs : t.size ≤ 100000) (hss : t.s.size ≤ 65536) :
    Calls Tryd.prog 76 #[.int .u8 c, .agg (encT t u).toArray] w fun e w' => e = .returned (.bool (restT c t)) ∧ Below w.heap.size w w' := by
  by_cases h103 : c = 103
  · subst h103
    exact re_103 t u w μ hμ hk hs hss
  by_cases h115 : c = 115
  · subst h115
    exact re_115 t u w μ hμ hk hs hss
  have ho := hk.one
  obtain ⟨A, c0, rfl, hlc, hkid⟩ := hk.form
  have hlen := kidsLe t
  refine call_intro (args := [.int .u8 c, .agg (encT t (.slice A t.kids.length c0)).toArray]) Tryd.func76 rfl Tryd.ntmps76 (by simp) hμ ?_
  have hh := fun (m : Int) (hm : m ≠ 0) (w : World) (μc : Mem) (hw : MOk μc w) (hle : MLe μ μc) => rBit_spec m hm t _ w μc hw (hk.mono hle)
  have ht := fun (w : World) (μc : Mem) (hw : MOk μc w) (hle : MLe μ μc) => rTarget_spec t _ w μc hw (hk.mono hle) hs hss
  by_cases h7 : c = 70 ∨ c = 72 ∨ c = 107 ∨ c = 119 ∨ c = 109
  · repeat' (first | refine KO ?_ | ((with_reducible apply F1 73); exact rfl; exact EN; (exact fun w μc hw hse => ht w μc hw hse.le)) | ((with_reducible apply F1 68); exact rfl; exact EN; (exact fun w μc hw hse => rForm_spec t.s hss w μc hw)) | ((with_reducible apply F1 69); exact rfl; exact EN; (exact fun w μc hw hse => hh 8 (by decide) w μc hw hse.le)) | refine KI ?_ | refine NB fun b => ?_ | ((refine KB ?_ ?_ <;> intro hp)) | refine KG ?_ | fail)
    all_goals first | (exfalso; omega) | (clear hk ho hμ hh ht hkid; refine ret_s rfl rfl ?_; simp_all [restT, namedT]; done) | skip
  · repeat' (first | ((with_reducible show GC _ _ (Code.seq (Code.region 16 _ _) _) _ _ _ _); (apply gc_stop)) | refine KO ?_ | ((with_reducible apply F1 73); exact rfl; exact EN; fail) | refine KI ?_ | refine NB fun b => ?_ | ((refine KB ?_ ?_ <;> intro hp)) | refine KG ?_ | fail)
    all_goals try (exfalso; omega)
    rename Nat => ba
    refine gcs ?_
    have hgr : ∀ r : Bool, (match opsL.find? (fun x => decide (x.1 = c)) with | some x => decide (t.op = x.2) | none => false) = r → restT c t = r := fun r h => by
      unfold restT
      rw [if_neg (by omega), if_neg (by omega), if_neg (by omega), if_neg (by omega), if_neg (by omega), if_neg (by omega), if_neg (by omega)]
      exact h
    repeat' (first | refine KK ?_ | refine NB fun b => ?_ | ((refine KB ?_ ?_ <;> intro hp)) | refine KG ?_ | fail)
    refine gc_loop (ι := Nat) (fun i => i ≤ 7 ∧ (1 ≤ i → c ≠ 68) ∧ (2 ≤ i → c ≠ 80) ∧ (3 ≤ i → c ≠ 66) ∧ (4 ≤ i → c ≠ 75) ∧ (5 ≤ i → c ≠ 82) ∧ (6 ≤ i → c ≠ 81) ∧ (7 ≤ i → c ≠ 90)) (fun i => 7 - i) (fun _ => μ) (fun i => [(7, .int .i64 i), (5, .string ⟨#[68, 80, 66, 75, 82, 81, 90]⟩), (6, .slice (some ⟨b, 0, none⟩) 7 7), (0, .int .u8 c), (3, .pointer (some ⟨ba, 0, none⟩))]) (fun _ => [.inl ⟨b, 3, 7, idx 0 [.int .i64 3, .int .i64 5, .int .i64 6, .int .i64 22, .int .i64 39, .int .i64 62, .int .i64 64]⟩, .inl ⟨ba, 24, 6, idx 0 (encT t (.slice A t.kids.length c0))⟩]) 0 (by omega) (fun a w hs => J5 hs) ?_
    rintro i ⟨hi, q0, q1, q2, q3, q4, q5, q6⟩
    have e0 : bAt ⟨#[68, 80, 66, 75, 82, 81, 90]⟩ 0 = 68 := rfl
    have e1 : bAt ⟨#[68, 80, 66, 75, 82, 81, 90]⟩ 1 = 80 := rfl
    have e2 : bAt ⟨#[68, 80, 66, 75, 82, 81, 90]⟩ 2 = 66 := rfl
    have e3 : bAt ⟨#[68, 80, 66, 75, 82, 81, 90]⟩ 3 = 75 := rfl
    have e4 : bAt ⟨#[68, 80, 66, 75, 82, 81, 90]⟩ 4 = 82 := rfl
    have e5 : bAt ⟨#[68, 80, 66, 75, 82, 81, 90]⟩ 5 = 81 := rfl
    have e6 : bAt ⟨#[68, 80, 66, 75, 82, 81, 90]⟩ 6 = 90 := rfl
    have hsz7 : ByteArray.size ⟨#[68, 80, 66, 75, 82, 81, 90]⟩ = 7 := rfl
    rcases (by omega : i = 7 ∨ i = 0 ∨ i = 1 ∨ i = 2 ∨ i = 3 ∨ i = 4 ∨ i = 5 ∨ i = 6) with rfl | rfl | rfl | rfl | rfl | rfl | rfl | rfl
    · rw [hgr false (by simp [opsL, q0, q1, q2, q3, q4, q5, q6, show ¬ (68 : Int) = c from fun h => q0 (by omega) h.symm, show ¬ (80 : Int) = c from fun h => q1 (by omega) h.symm, show ¬ (66 : Int) = c from fun h => q2 (by omega) h.symm, show ¬ (75 : Int) = c from fun h => q3 (by omega) h.symm, show ¬ (82 : Int) = c from fun h => q4 (by omega) h.symm, show ¬ (81 : Int) = c from fun h => q5 (by omega) h.symm, show ¬ (90 : Int) = c from fun h => q6 (by omega) h.symm])]
      repeat' (first | refine KK ?_ | refine NB fun b => ?_ | ((refine KB ?_ ?_ <;> intro hp)) | refine KG ?_ | fail)
      all_goals first | exact ret_s rfl rfl rfl | (exfalso; omega)
    · by_cases hc : c = 68
      · rw [hgr (decide (t.op = 3)) (by rw [hc]; rfl)]
        clear hgr
        repeat' (first | refine KO ?_ | (refine KV (b := by first | exact U2 0) (c := ?_)) | refine KI ?_ | refine NB fun b => ?_ | ((refine KB ?_ ?_ <;> intro hp)) | refine KG ?_ | fail)
        all_goals try (exfalso; omega)
        refine gc_draw 8 _ (by kernel_rfl) rfl (List.Sublist.cons_cons _ (List.Sublist.cons_cons _ (List.nil_sublist _))) ?_
        all_goals (first | refine D1 0 ?_ | (refine DV (k := 0) (b := by first | exact U1 0) (c := ?_)) | refine DD 0 ?_ | fail)
        all_goals (first | refine D1 1 ?_ | (refine DV (k := 1) (b := by first | exact U1 0) (c := ?_)) | (refine D3 1 (DW (b := by first | exact U1 0) (c := ?_))) | refine DD 1 ?_ | fail)
        all_goals refine DD 2 ?_
        all_goals refine DD 3 ?_
        all_goals (first | refine D1 4 ?_ | (refine DV (k := 4) (b := by first | exact U1 0) (c := ?_)) | refine DD 4 ?_ | fail)
        all_goals (first | refine D1 5 ?_ | (refine DV (k := 5) (b := by first | exact U1 0) (c := ?_)) | (refine D3 5 (DW (b := by first | exact U1 0) (c := ?_))) | refine DD 5 ?_ | fail)
        all_goals (first | refine D1 6 ?_ | (refine DV (k := 6) (b := by first | exact U1 0) (c := ?_)) | refine DD 6 ?_ | fail)
        all_goals refine DD 7 ?_
        all_goals refine D8 ?_
        repeat' (first | refine KK ?_ | refine NB fun b => ?_ | ((refine KB ?_ ?_ <;> intro hp)) | refine KG ?_ | fail)
        all_goals first | exact ret_s rfl rfl rfl | (exfalso; omega)
      · clear hgr
        repeat' (first | refine KO ?_ | (refine KV (b := by first | exact U2 0) (c := ?_)) | refine KI ?_ | refine NB fun b => ?_ | ((refine KB ?_ ?_ <;> intro hp)) | refine KG ?_ | fail)
        all_goals first | exact J2 1 (by omega) (by decide) | (exfalso; omega)
    · by_cases hc : c = 80
      · rw [hgr (decide (t.op = 5)) (by rw [hc]; rfl)]
        clear hgr
        repeat' (first | refine KO ?_ | (refine KV (b := by first | exact U2 1) (c := ?_)) | refine KI ?_ | refine NB fun b => ?_ | ((refine KB ?_ ?_ <;> intro hp)) | refine KG ?_ | fail)
        all_goals try (exfalso; omega)
        refine gc_draw 8 _ (by kernel_rfl) rfl (List.Sublist.cons_cons _ (List.Sublist.cons_cons _ (List.nil_sublist _))) ?_
        all_goals (first | refine D1 0 ?_ | (refine DV (k := 0) (b := by first | exact U1 1) (c := ?_)) | refine DD 0 ?_ | fail)
        all_goals (first | refine D1 1 ?_ | (refine DV (k := 1) (b := by first | exact U1 1) (c := ?_)) | (refine D3 1 (DW (b := by first | exact U1 1) (c := ?_))) | refine DD 1 ?_ | fail)
        all_goals refine DD 2 ?_
        all_goals refine DD 3 ?_
        all_goals (first | refine D1 4 ?_ | (refine DV (k := 4) (b := by first | exact U1 1) (c := ?_)) | refine DD 4 ?_ | fail)
        all_goals (first | refine D1 5 ?_ | (refine DV (k := 5) (b := by first | exact U1 1) (c := ?_)) | (refine D3 5 (DW (b := by first | exact U1 1) (c := ?_))) | refine DD 5 ?_ | fail)
        all_goals (first | refine D1 6 ?_ | (refine DV (k := 6) (b := by first | exact U1 1) (c := ?_)) | refine DD 6 ?_ | fail)
        all_goals refine DD 7 ?_
        all_goals refine D8 ?_
        repeat' (first | refine KK ?_ | refine NB fun b => ?_ | ((refine KB ?_ ?_ <;> intro hp)) | refine KG ?_ | fail)
        all_goals first | exact ret_s rfl rfl rfl | (exfalso; omega)
      · clear hgr
        repeat' (first | refine KO ?_ | (refine KV (b := by first | exact U2 1) (c := ?_)) | refine KI ?_ | refine NB fun b => ?_ | ((refine KB ?_ ?_ <;> intro hp)) | refine KG ?_ | fail)
        all_goals first | exact J2 2 (by omega) (by decide) | (exfalso; omega)
    · by_cases hc : c = 66
      · rw [hgr (decide (t.op = 6)) (by rw [hc]; rfl)]
        clear hgr
        repeat' (first | refine KO ?_ | (refine KV (b := by first | exact U2 2) (c := ?_)) | refine KI ?_ | refine NB fun b => ?_ | ((refine KB ?_ ?_ <;> intro hp)) | refine KG ?_ | fail)
        all_goals try (exfalso; omega)
        refine gc_draw 8 _ (by kernel_rfl) rfl (List.Sublist.cons_cons _ (List.Sublist.cons_cons _ (List.nil_sublist _))) ?_
        all_goals (first | refine D1 0 ?_ | (refine DV (k := 0) (b := by first | exact U1 2) (c := ?_)) | refine DD 0 ?_ | fail)
        all_goals (first | refine D1 1 ?_ | (refine DV (k := 1) (b := by first | exact U1 2) (c := ?_)) | (refine D3 1 (DW (b := by first | exact U1 2) (c := ?_))) | refine DD 1 ?_ | fail)
        all_goals refine DD 2 ?_
        all_goals refine DD 3 ?_
        all_goals (first | refine D1 4 ?_ | (refine DV (k := 4) (b := by first | exact U1 2) (c := ?_)) | refine DD 4 ?_ | fail)
        all_goals (first | refine D1 5 ?_ | (refine DV (k := 5) (b := by first | exact U1 2) (c := ?_)) | (refine D3 5 (DW (b := by first | exact U1 2) (c := ?_))) | refine DD 5 ?_ | fail)
        all_goals (first | refine D1 6 ?_ | (refine DV (k := 6) (b := by first | exact U1 2) (c := ?_)) | refine DD 6 ?_ | fail)
        all_goals refine DD 7 ?_
        all_goals refine D8 ?_
        repeat' (first | refine KK ?_ | refine NB fun b => ?_ | ((refine KB ?_ ?_ <;> intro hp)) | refine KG ?_ | fail)
        all_goals first | exact ret_s rfl rfl rfl | (exfalso; omega)
      · clear hgr
        repeat' (first | refine KO ?_ | (refine KV (b := by first | exact U2 2) (c := ?_)) | refine KI ?_ | refine NB fun b => ?_ | ((refine KB ?_ ?_ <;> intro hp)) | refine KG ?_ | fail)
        all_goals first | exact J2 3 (by omega) (by decide) | (exfalso; omega)
    · by_cases hc : c = 75
      · rw [hgr (decide (t.op = 22)) (by rw [hc]; rfl)]
        clear hgr
        repeat' (first | refine KO ?_ | (refine KV (b := by first | exact U2 3) (c := ?_)) | refine KI ?_ | refine NB fun b => ?_ | ((refine KB ?_ ?_ <;> intro hp)) | refine KG ?_ | fail)
        all_goals try (exfalso; omega)
        refine gc_draw 8 _ (by kernel_rfl) rfl (List.Sublist.cons_cons _ (List.Sublist.cons_cons _ (List.nil_sublist _))) ?_
        all_goals (first | refine D1 0 ?_ | (refine DV (k := 0) (b := by first | exact U1 3) (c := ?_)) | refine DD 0 ?_ | fail)
        all_goals (first | refine D1 1 ?_ | (refine DV (k := 1) (b := by first | exact U1 3) (c := ?_)) | (refine D3 1 (DW (b := by first | exact U1 3) (c := ?_))) | refine DD 1 ?_ | fail)
        all_goals refine DD 2 ?_
        all_goals refine DD 3 ?_
        all_goals (first | refine D1 4 ?_ | (refine DV (k := 4) (b := by first | exact U1 3) (c := ?_)) | refine DD 4 ?_ | fail)
        all_goals (first | refine D1 5 ?_ | (refine DV (k := 5) (b := by first | exact U1 3) (c := ?_)) | (refine D3 5 (DW (b := by first | exact U1 3) (c := ?_))) | refine DD 5 ?_ | fail)
        all_goals (first | refine D1 6 ?_ | (refine DV (k := 6) (b := by first | exact U1 3) (c := ?_)) | refine DD 6 ?_ | fail)
        all_goals refine DD 7 ?_
        all_goals refine D8 ?_
        repeat' (first | refine KK ?_ | refine NB fun b => ?_ | ((refine KB ?_ ?_ <;> intro hp)) | refine KG ?_ | fail)
        all_goals first | exact ret_s rfl rfl rfl | (exfalso; omega)
      · clear hgr
        repeat' (first | refine KO ?_ | (refine KV (b := by first | exact U2 3) (c := ?_)) | refine KI ?_ | refine NB fun b => ?_ | ((refine KB ?_ ?_ <;> intro hp)) | refine KG ?_ | fail)
        all_goals first | exact J2 4 (by omega) (by decide) | (exfalso; omega)
    · by_cases hc : c = 82
      · rw [hgr (decide (t.op = 39)) (by rw [hc]; rfl)]
        clear hgr
        repeat' (first | refine KO ?_ | (refine KV (b := by first | exact U2 4) (c := ?_)) | refine KI ?_ | refine NB fun b => ?_ | ((refine KB ?_ ?_ <;> intro hp)) | refine KG ?_ | fail)
        all_goals try (exfalso; omega)
        refine gc_draw 8 _ (by kernel_rfl) rfl (List.Sublist.cons_cons _ (List.Sublist.cons_cons _ (List.nil_sublist _))) ?_
        all_goals (first | refine D1 0 ?_ | (refine DV (k := 0) (b := by first | exact U1 4) (c := ?_)) | refine DD 0 ?_ | fail)
        all_goals (first | refine D1 1 ?_ | (refine DV (k := 1) (b := by first | exact U1 4) (c := ?_)) | (refine D3 1 (DW (b := by first | exact U1 4) (c := ?_))) | refine DD 1 ?_ | fail)
        all_goals refine DD 2 ?_
        all_goals refine DD 3 ?_
        all_goals (first | refine D1 4 ?_ | (refine DV (k := 4) (b := by first | exact U1 4) (c := ?_)) | refine DD 4 ?_ | fail)
        all_goals (first | refine D1 5 ?_ | (refine DV (k := 5) (b := by first | exact U1 4) (c := ?_)) | (refine D3 5 (DW (b := by first | exact U1 4) (c := ?_))) | refine DD 5 ?_ | fail)
        all_goals (first | refine D1 6 ?_ | (refine DV (k := 6) (b := by first | exact U1 4) (c := ?_)) | refine DD 6 ?_ | fail)
        all_goals refine DD 7 ?_
        all_goals refine D8 ?_
        repeat' (first | refine KK ?_ | refine NB fun b => ?_ | ((refine KB ?_ ?_ <;> intro hp)) | refine KG ?_ | fail)
        all_goals first | exact ret_s rfl rfl rfl | (exfalso; omega)
      · clear hgr
        repeat' (first | refine KO ?_ | (refine KV (b := by first | exact U2 4) (c := ?_)) | refine KI ?_ | refine NB fun b => ?_ | ((refine KB ?_ ?_ <;> intro hp)) | refine KG ?_ | fail)
        all_goals first | exact J2 5 (by omega) (by decide) | (exfalso; omega)
    · by_cases hc : c = 81
      · rw [hgr (decide (t.op = 62)) (by rw [hc]; rfl)]
        clear hgr
        repeat' (first | refine KO ?_ | (refine KV (b := by first | exact U2 5) (c := ?_)) | refine KI ?_ | refine NB fun b => ?_ | ((refine KB ?_ ?_ <;> intro hp)) | refine KG ?_ | fail)
        all_goals try (exfalso; omega)
        refine gc_draw 8 _ (by kernel_rfl) rfl (List.Sublist.cons_cons _ (List.Sublist.cons_cons _ (List.nil_sublist _))) ?_
        all_goals (first | refine D1 0 ?_ | (refine DV (k := 0) (b := by first | exact U1 5) (c := ?_)) | refine DD 0 ?_ | fail)
        all_goals (first | refine D1 1 ?_ | (refine DV (k := 1) (b := by first | exact U1 5) (c := ?_)) | (refine D3 1 (DW (b := by first | exact U1 5) (c := ?_))) | refine DD 1 ?_ | fail)
        all_goals refine DD 2 ?_
        all_goals refine DD 3 ?_
        all_goals (first | refine D1 4 ?_ | (refine DV (k := 4) (b := by first | exact U1 5) (c := ?_)) | refine DD 4 ?_ | fail)
        all_goals (first | refine D1 5 ?_ | (refine DV (k := 5) (b := by first | exact U1 5) (c := ?_)) | (refine D3 5 (DW (b := by first | exact U1 5) (c := ?_))) | refine DD 5 ?_ | fail)
        all_goals (first | refine D1 6 ?_ | (refine DV (k := 6) (b := by first | exact U1 5) (c := ?_)) | refine DD 6 ?_ | fail)
        all_goals refine DD 7 ?_
        all_goals refine D8 ?_
        repeat' (first | refine KK ?_ | refine NB fun b => ?_ | ((refine KB ?_ ?_ <;> intro hp)) | refine KG ?_ | fail)
        all_goals first | exact ret_s rfl rfl rfl | (exfalso; omega)
      · clear hgr
        repeat' (first | refine KO ?_ | (refine KV (b := by first | exact U2 5) (c := ?_)) | refine KI ?_ | refine NB fun b => ?_ | ((refine KB ?_ ?_ <;> intro hp)) | refine KG ?_ | fail)
        all_goals first | exact J2 6 (by omega) (by decide) | (exfalso; omega)
    · by_cases hc : c = 90
      · rw [hgr (decide (t.op = 64)) (by rw [hc]; rfl)]
        clear hgr
        repeat' (first | refine KO ?_ | (refine KV (b := by first | exact U2 6) (c := ?_)) | refine KI ?_ | refine NB fun b => ?_ | ((refine KB ?_ ?_ <;> intro hp)) | refine KG ?_ | fail)
        all_goals try (exfalso; omega)
        refine gc_draw 8 _ (by kernel_rfl) rfl (List.Sublist.cons_cons _ (List.Sublist.cons_cons _ (List.nil_sublist _))) ?_
        all_goals (first | refine D1 0 ?_ | (refine DV (k := 0) (b := by first | exact U1 6) (c := ?_)) | refine DD 0 ?_ | fail)
        all_goals (first | refine D1 1 ?_ | (refine DV (k := 1) (b := by first | exact U1 6) (c := ?_)) | (refine D3 1 (DW (b := by first | exact U1 6) (c := ?_))) | refine DD 1 ?_ | fail)
        all_goals refine DD 2 ?_
        all_goals refine DD 3 ?_
        all_goals (first | refine D1 4 ?_ | (refine DV (k := 4) (b := by first | exact U1 6) (c := ?_)) | refine DD 4 ?_ | fail)
        all_goals (first | refine D1 5 ?_ | (refine DV (k := 5) (b := by first | exact U1 6) (c := ?_)) | (refine D3 5 (DW (b := by first | exact U1 6) (c := ?_))) | refine DD 5 ?_ | fail)
        all_goals (first | refine D1 6 ?_ | (refine DV (k := 6) (b := by first | exact U1 6) (c := ?_)) | refine DD 6 ?_ | fail)
        all_goals refine DD 7 ?_
        all_goals refine D8 ?_
        repeat' (first | refine KK ?_ | refine NB fun b => ?_ | ((refine KB ?_ ?_ <;> intro hp)) | refine KG ?_ | fail)
        all_goals first | exact ret_s rfl rfl rfl | (exfalso; omega)
      · clear hgr
        repeat' (first | refine KO ?_ | (refine KV (b := by first | exact U2 6) (c := ?_)) | refine KI ?_ | refine NB fun b => ?_ | ((refine KB ?_ ?_ <;> intro hp)) | refine KG ?_ | fail)
        all_goals first | exact J2 7 (by omega) (by decide) | (exfalso; omega)
end Go.Proofs.YtnllooebophcpaaDoor
namespace Go.Proofs.YtnllooebophcpaaDoor
open Go.RowKit Go.Vcg
def Cls (μ : Mem) (v : Value) (p : T → Bool) : Prop := ∃ (f : FuncId) (cap : List Value), v = .func (.func f) #[] cap.toArray ∧ callable Tryd.prog f = true ∧ ∀ (t : T) (u : Value) (w : World) (μ' : Mem), MOk μ' w → MLe μ μ' → KR μ' t.kids u → t.size ≤ 100000 → t.s.size ≤ 65536 →
  Calls Tryd.prog f ([Value.agg (encT t u).toArray] ++ cap).toArray w fun e w' => e = .returned (.bool (p t)) ∧ Below w.heap.size w w'
theorem Cls.mono {μ μ' : Mem} {v : Value} {p : T → Bool} (h : Cls μ v p) (hle : MLe μ μ') : Cls μ' v p := by
  obtain ⟨f, cap, h1, h2, h3⟩ := h
  exact ⟨f, cap, h1, h2, fun t u w μ2 hw hl => h3 t u w μ2 hw (hle.trans hl)⟩
theorem Cls.of {f : FuncId} {p : T → Bool} (h : NodeP f p) (hf : callable Tryd.prog f = true) (μ : Mem) : Cls μ (.func (.func f) #[] #[]) p :=
  ⟨f, [], rfl, hf, fun t u w μ' hw _ hk hs hss => h t u w μ' hw hk hs hss⟩
abbrev encIn (x : Int) : List Value := [.int .i64 x]
abbrev encV (v : Value) : List Value := [v]
def firstT (qs : List Bool) : Int := match qs.findIdx? id with | some i => i | none => -1
theorem firstT_at {qs : List Bool} {k : Nat} (h : qs[k]? = some true) (hn : ∀ (j : Nat) (q : Bool), j < k → qs[j]? = some q → q = false) : firstT qs = k := by
  have hlt := (List.getElem?_eq_some_iff.1 h).1
  have : qs.findIdx? id = some k := by
    rw [List.findIdx?_eq_some_iff_getElem]
    refine ⟨hlt, ?_, fun j hj => ?_⟩
    · have := (List.getElem?_eq_some_iff.1 h).2
      simp [this]
    · have := hn j _ hj (List.getElem?_eq_getElem (by omega))
      simp [this]
  unfold firstT
  rw [this]
theorem firstT_none {qs : List Bool} (hn : ∀ (j : Nat) (q : Bool), qs[j]? = some q → q = false) : firstT qs = -1 := by
  have : qs.findIdx? id = none := by
    rw [List.findIdx?_eq_none_iff]
    intro x hx
    obtain ⟨i, hi⟩ := List.mem_iff_getElem?.1 hx
    exact hn i x hi
  unfold firstT
  rw [this]
theorem firstT_any (qs : List Bool) : decide (0 ≤ firstT qs) = qs.any id := by
  unfold firstT
  cases h : qs.findIdx? id with
  | none =>
    rw [List.findIdx?_eq_none_iff] at h
    simp only [show ¬(0 : Int) ≤ -1 by omega, decide_false]
    symm
    rw [List.any_eq_false]
    intro x hx
    simpa using h x hx
  | some i =>
    rw [List.findIdx?_eq_some_iff_getElem] at h
    obtain ⟨h1, h2, -⟩ := h
    have : (0 : Int) ≤ (i : Int) := by omega
    simp only [this, decide_true]
    symm
    rw [List.any_eq_true]
    exact ⟨qs[i], List.getElem_mem h1, h2⟩
theorem any_mem (is : List Int) (x : Int) : (is.map fun y => decide (x = y)).any id = decide (x ∈ is) := by
  induction is with
  | nil => rfl
  | cons y r ih => simp only [List.map_cons, List.any_cons, ih, id_eq, List.mem_cons, Bool.decide_or]
attribute [local irreducible] G GC GQ GA GAop Calls IntKind.wrap Int.decLt Int.decLe
theorem index_spec (x : Int) (is : List Int) (A : Option Addr) (n c : Nat) (w : World) (μ : Mem) (hμ : MOk μ w) (hS : Sl encIn 1 μ A n is) (hn : n ≤ 100000) :
    Calls Tryd.prog 97 #[.slice A n c, .int .i64 x] w fun e w' => e = .returned (.int .i64 (firstT (is.map fun y => decide (x = y)))) ∧ Below w.heap.size w w' := by
  refine call_intro (args := [.slice A n c, .int .i64 x]) Tryd.func97 rfl Tryd.ntmps97 (by simp) hμ ?_
  have hqn : (is.map fun y => decide (x = y)).length = n := by rw [List.length_map]; exact hS.1
  repeat' (first | refine KK ?_ | ((refine KB ?_ ?_ <;> intro hp)) | refine KG ?_ | fail)
  refine gc_loop (ι := Nat) (fun k => k ≤ n ∧ ∀ (j : Nat) (q : Bool), j < k → (is.map fun y => decide (x = y))[j]? = some q → q = false) (fun k => n - k) (fun _ => μ) (fun k => [(8, .int .i64 k), (7, .int .i64 n), (6, .slice A n c), (0, .slice A n c), (1, .int .i64 x)]) (fun _ => []) 0 ⟨by omega, fun j _ h => absurd h (by omega)⟩ (fun a w hs => J6 hs) ?_
  rintro k ⟨hk, hf⟩
  by_cases hlt : k < n
  · have hqk : (is.map fun y => decide (x = y))[k]? = some ((is.map fun y => decide (x = y))[k]'(by omega)) := List.getElem?_eq_getElem (by omega)
    generalize (is.map fun y => decide (x = y))[k]'(by omega) = q at hqk
    have hnext : q = false → ∀ (j : Nat) (q : Bool), j < k + 1 → (is.map fun y => decide (x = y))[j]? = some q → q = false := fun h j p hj hp => by
      rcases Nat.lt_or_ge j k with h1 | h1
      · exact hf j p h1 hp
      · obtain rfl : j = k := by omega
        rw [hqk] at hp
        cases hp
        exact h
    obtain ⟨ad, y, rfl, hy, hm⟩ := hS.get hlt
    have hqv : q = decide (x = y) := by
      rw [List.getElem?_map, hy] at hqk
      exact (Option.some.inj hqk).symm
    cases hq : q
    · have hb := hnext hq
      rw [hq] at hqv
      have hne : ¬ x = y := of_decide_eq_false hqv.symm
      repeat' (first | refine KO ?_ | (refine KV (b := by first | exact U1 k | exact U3 (hm.at 0 rfl)) (c := ?_)) | refine KI ?_ | ((refine KB ?_ ?_ <;> intro hp)) | refine KG ?_ | fail)
      all_goals first | exact J4 (k + 1) ⟨by omega, hb⟩ (by omega) | exact absurd ‹x = y› hne
    · rw [hq] at hqv hqk
      have he : x = y := of_decide_eq_true hqv.symm
      repeat' (first | refine KO ?_ | (refine KV (b := by first | exact U1 k | exact U3 (hm.at 0 rfl)) (c := ?_)) | refine KI ?_ | ((refine KB ?_ ?_ <;> intro hp)) | refine KG ?_ | fail)
      all_goals first | (refine ret_s rfl rfl ?_; rw [firstT_at hqk hf]) | exact absurd he ‹¬x = y›
  · repeat' (first | refine KK ?_ | ((refine KB ?_ ?_ <;> intro hp)) | refine KG ?_ | fail)
    refine ret_s rfl rfl ?_
    rw [firstT_none fun j q hq => hf j q (by have := (List.getElem?_eq_some_iff.1 hq).1; omega) hq]
theorem contains_spec (x : Int) (is : List Int) (A : Option Addr) (n c : Nat) (w : World) (μ : Mem) (hμ : MOk μ w) (hS : Sl encIn 1 μ A n is) (hn : n ≤ 100000) :
    Calls Tryd.prog 86 #[.slice A n c, .int .i64 x] w fun e w' => e = .returned (.bool (decide (x ∈ is))) ∧ Below w.heap.size w w' := by
  refine call_intro (args := [.slice A n c, .int .i64 x]) Tryd.func86 rfl Tryd.ntmps86 (by simp) hμ ?_
  rw [← any_mem, ← firstT_any]
  repeat' (first | refine KO ?_ | ((with_reducible apply C1); exact rfl; exact EN; exact fun w μc hw hse => index_spec x is A n c w μc hw (hS.mono hse.le) hn) | refine KI ?_ | ((refine KB ?_ ?_ <;> intro hp)) | refine KG ?_ | fail)
  exact ret_s rfl rfl rfl
theorem indexN_spec (f : FuncId) (cap : List Value) (q1 : T → Bool) (ks : List T) (A : Option Addr) (n c : Nat) (w : World) (μ : Mem) (hμ : MOk μ w) (hcal : callable Tryd.prog f = true) (hk : KR μ ks (.slice A n c)) (hkn : ks.length = n) (hf1 : ∀ (t : T) (u : Value) (w : World) (μ' : Mem), t ∈ ks → MOk μ' w → MLe μ μ' → KR μ' t.kids u → Calls Tryd.prog f ([Value.agg (encT t u).toArray] ++ cap).toArray w fun e w' => e = .returned (.bool (q1 t)) ∧ Below w.heap.size w w') (hn : n ≤ 100000) :
    Calls Tryd.prog 28 #[.slice A n c, .func (.func f) #[] cap.toArray] w fun e w' => e = .returned (.int .i64 (firstT (ks.map q1))) ∧ Below w.heap.size w w' := by
  refine call_intro (args := [.slice A n c, .func (.func f) #[] cap.toArray]) Tryd.func28 rfl Tryd.ntmps28 (by simp) hμ ?_
  have hget : ∀ (i : Nat) (t : T), ks[i]? = some t → ∃ a u, A = some a ∧ MCells μ (a.add (i * 6)) (encT t u) ∧ u.oneCell' = true ∧ KR μ t.kids u := by
    obtain ⟨A', c', e, _, hg⟩ := hk.form
    cases e
    exact hg
  have hqn : (ks.map q1).length = n := by rw [List.length_map]; exact hkn
  repeat' (first | refine KK ?_ | ((refine KB ?_ ?_ <;> intro hp)) | refine KG ?_ | fail)
  refine gc_loop (ι := Nat) (fun k => k ≤ n ∧ ∀ (j : Nat) (q : Bool), j < k → (ks.map q1)[j]? = some q → q = false) (fun k => n - k) (fun _ => μ) (fun k => [(8, .int .i64 k), (7, .int .i64 n), (6, .slice A n c), (0, .slice A n c), (1, .func (.func f) #[] cap.toArray)]) (fun _ => []) 0 ⟨by omega, fun j _ h => absurd h (by omega)⟩ (fun a w hs => J6 hs) ?_
  rintro k ⟨hk, hf⟩
  by_cases hlt : k < n
  · have hqk : (ks.map q1)[k]? = some ((ks.map q1)[k]'(by omega)) := List.getElem?_eq_getElem (by omega)
    generalize (ks.map q1)[k]'(by omega) = q at hqk
    have hnext : q = false → ∀ (j : Nat) (q : Bool), j < k + 1 → (ks.map q1)[j]? = some q → q = false := fun h j p hj hp => by
      rcases Nat.lt_or_ge j k with h1 | h1
      · exact hf j p h1 hp
      · obtain rfl : j = k := by omega
        rw [hqk] at hp
        cases hp
        exact h
    have hkk : ks[k]? = some ks[k] := List.getElem?_eq_getElem (by omega)
    generalize ks[k] = t at hkk
    obtain ⟨ad, x, rfl, hm, ho, hkx⟩ := hget k t hkk
    have hqv : q = q1 t := by
      rw [List.getElem?_map, hkk] at hqk
      exact (Option.some.inj hqk).symm
    have hc := fun (w : World) (μc : Mem) (hw : MOk μc w) (hle : MLe μ μc) => hf1 t x w μc (List.mem_of_getElem? hkk) hw hle (hkx.mono hle)
    rw [← hqv] at hc
    cases hq : q
    · have hb := hnext hq
      rw [hq] at hc
      repeat' (first | refine KO ?_ | ((with_reducible apply C1); exact rfl; exact EN; exact fun w μc hw hse => hc w μc hw hse.le) | (refine KV (b := by first | exact U1 k | exact U4 hm) (c := ?_)) | refine KI ?_ | ((refine KB ?_ ?_ <;> intro hp)) | refine KG ?_ | fail)
      exact J4 (k + 1) ⟨by omega, hb⟩ (by omega)
    · rw [hq] at hc hqk
      repeat' (first | refine KO ?_ | ((with_reducible apply C1); exact rfl; exact EN; exact fun w μc hw hse => hc w μc hw hse.le) | (refine KV (b := by first | exact U1 k | exact U4 hm) (c := ?_)) | refine KI ?_ | ((refine KB ?_ ?_ <;> intro hp)) | refine KG ?_ | fail)
      refine ret_s rfl rfl ?_
      rw [firstT_at hqk hf]
  · repeat' (first | refine KK ?_ | ((refine KB ?_ ?_ <;> intro hp)) | refine KG ?_ | fail)
    refine ret_s rfl rfl ?_
    rw [firstT_none fun j q hq => hf j q (by have := (List.getElem?_eq_some_iff.1 hq).1; omega) hq]
theorem indexC_spec (f : FuncId) (cap : List Value) (qs : List Bool) (vs : List Value) (A : Option Addr) (n c : Nat) (w : World) (μ : Mem) (hμ : MOk μ w) (hcal : callable Tryd.prog f = true) (hS : Sl encV 1 μ A n vs) (hone : ∀ v ∈ vs, v.oneCell' = true) (hql : qs.length = n) (hf1 : ∀ (i : Nat) (v : Value) (q : Bool) (w : World) (μ' : Mem), vs[i]? = some v → qs[i]? = some q → MOk μ' w → MLe μ μ' → Calls Tryd.prog f ([v] ++ cap).toArray w fun e w' => e = .returned (.bool q) ∧ Below w.heap.size w w') (hn : n ≤ 100000) :
    Calls Tryd.prog 96 #[.slice A n c, .func (.func f) #[] cap.toArray] w fun e w' => e = .returned (.int .i64 (firstT (qs))) ∧ Below w.heap.size w w' := by
  refine call_intro (args := [.slice A n c, .func (.func f) #[] cap.toArray]) Tryd.func96 rfl Tryd.ntmps96 (by simp) hμ ?_
  have hqn : (qs).length = n := by exact hql
  repeat' (first | refine KK ?_ | ((refine KB ?_ ?_ <;> intro hp)) | refine KG ?_ | fail)
  refine gc_loop (ι := Nat) (fun k => k ≤ n ∧ ∀ (j : Nat) (q : Bool), j < k → (qs)[j]? = some q → q = false) (fun k => n - k) (fun _ => μ) (fun k => [(8, .int .i64 k), (7, .int .i64 n), (6, .slice A n c), (0, .slice A n c), (1, .func (.func f) #[] cap.toArray)]) (fun _ => []) 0 ⟨by omega, fun j _ h => absurd h (by omega)⟩ (fun a w hs => J6 hs) ?_
  rintro k ⟨hk, hf⟩
  by_cases hlt : k < n
  · have hqk : (qs)[k]? = some ((qs)[k]'(by omega)) := List.getElem?_eq_getElem (by omega)
    generalize (qs)[k]'(by omega) = q at hqk
    have hnext : q = false → ∀ (j : Nat) (q : Bool), j < k + 1 → (qs)[j]? = some q → q = false := fun h j p hj hp => by
      rcases Nat.lt_or_ge j k with h1 | h1
      · exact hf j p h1 hp
      · obtain rfl : j = k := by omega
        rw [hqk] at hp
        cases hp
        exact h
    obtain ⟨ad, v, rfl, hv, hm⟩ := hS.get hlt
    have ho := hone v (List.mem_of_getElem? hv)
    have hc := fun (w : World) (μc : Mem) (hw : MOk μc w) (hle : MLe μ μc) => hf1 k v q w μc hv hqk hw hle
    cases hq : q
    · have hb := hnext hq
      rw [hq] at hc
      repeat' (first | refine KO ?_ | ((with_reducible apply C1); exact rfl; exact EN; exact fun w μc hw hse => hc w μc hw hse.le) | (refine KV (b := by first | exact U1 k | exact U3 (hm.at 0 rfl)) (c := ?_)) | refine KI ?_ | ((refine KB ?_ ?_ <;> intro hp)) | refine KG ?_ | fail)
      exact J4 (k + 1) ⟨by omega, hb⟩ (by omega)
    · rw [hq] at hc hqk
      repeat' (first | refine KO ?_ | ((with_reducible apply C1); exact rfl; exact EN; exact fun w μc hw hse => hc w μc hw hse.le) | (refine KV (b := by first | exact U1 k | exact U3 (hm.at 0 rfl)) (c := ?_)) | refine KI ?_ | ((refine KB ?_ ?_ <;> intro hp)) | refine KG ?_ | fail)
      refine ret_s rfl rfl ?_
      rw [firstT_at hqk hf]
  · repeat' (first | refine KK ?_ | ((refine KB ?_ ?_ <;> intro hp)) | refine KG ?_ | fail)
    refine ret_s rfl rfl ?_
    rw [firstT_none fun j q hq => hf j q (by have := (List.getElem?_eq_some_iff.1 hq).1; omega) hq]
end Go.Proofs.YtnllooebophcpaaDoor
namespace Go.Proofs.YtnllooebophcpaaDoor
open Go.RowKit Go.Vcg
theorem sh_cell {b t sz i : Nat} {cs : Slots} {v : Value} {μ : Mem} (h : Bk.sh (.inl ⟨b, t, sz, cs⟩) μ) (hv : lk cs i = some v) : MCell μ ⟨b, i, none⟩ v :=
  let ⟨arr, h1, _, h3⟩ := h
  ⟨arr, t, (0, 0), h1, rfl, h3 i v hv⟩
theorem node_cell {b ty : Nat} {t : T} {u : Value} {cs : Slots} {μ : Mem} (h : Bk.sh (.inl ⟨b, ty, 6, cs⟩) μ) (hc : LC cs 0 6 (encT t u)) : MCells μ ⟨b, 0, none⟩ (encT t u) := by
  have hS := sl_lit (enc := encTV) (sz := 6) (n := 1) (l := [(t, u)]) h rfl (by simp) (by simpa using hc)
  obtain ⟨a, e, ha⟩ := hS.2 (by omega)
  cases e
  exact ha 0 (t, u) rfl
def fewP (p : T → Bool) (a b : Int) (ks : List T) : Bool := decide (a ≤ (ks.length : Int)) && (decide (b < 0) || decide ((ks.length : Int) ≤ b)) && ks.all p
theorem any_not (p : T → Bool) (ks : List T) : (!(ks.any fun t => !p t)) = ks.all p := by
  induction ks with
  | nil => rfl
  | cons k r ih => simp [List.any_cons, List.all_cons, ← ih]
def ofT (is : List Int) (t : T) : Bool := decide (t.op ∈ is)
attribute [local irreducible] G GC GQ GA GAop Calls IntKind.wrap Int.decLt Int.decLe
theorem containsN_spec (f : FuncId) (cap : List Value) (q1 : T → Bool) (ks : List T) (A : Option Addr) (n c : Nat) (w : World) (μ : Mem) (hμ : MOk μ w) (hcal : callable Tryd.prog f = true) (hk : KR μ ks (.slice A n c)) (hkn : ks.length = n) (hf1 : ∀ (t : T) (u : Value) (w : World) (μ' : Mem), t ∈ ks → MOk μ' w → MLe μ μ' → KR μ' t.kids u → Calls Tryd.prog f ([Value.agg (encT t u).toArray] ++ cap).toArray w fun e w' => e = .returned (.bool (q1 t)) ∧ Below w.heap.size w w') (hn : n ≤ 100000) :
    Calls Tryd.prog 19 #[.slice A n c, .func (.func f) #[] cap.toArray] w fun e w' => e = .returned (.bool (ks.any q1)) ∧ Below w.heap.size w w' := by
  refine call_intro (args := [.slice A n c, .func (.func f) #[] cap.toArray]) Tryd.func19 rfl Tryd.ntmps19 (by simp) hμ ?_
  have h : decide (0 ≤ firstT (ks.map q1)) = ks.any q1 := by rw [firstT_any, List.any_map]; rfl
  rw [← h]
  repeat' (first | refine KO ?_ | ((with_reducible apply C1); exact rfl; exact EN; exact fun w μc hw hse => indexN_spec f cap q1 ks A n c w μc hw hcal (hk.mono hse.le) hkn (fun t u w μ' h1 h2 h3 h4 => hf1 t u w μ' h1 h2 (hse.le.trans h3) h4) hn) | refine KI ?_ | ((refine KB ?_ ?_ <;> intro hp)) | refine KG ?_ | fail)
  exact ret_s rfl rfl rfl
theorem containsC_spec (f : FuncId) (cap : List Value) (qs : List Bool) (vs : List Value) (A : Option Addr) (n c : Nat) (w : World) (μ : Mem) (hμ : MOk μ w) (hcal : callable Tryd.prog f = true) (hS : Sl encV 1 μ A n vs) (hone : ∀ v ∈ vs, v.oneCell' = true) (hql : qs.length = n) (hf1 : ∀ (i : Nat) (v : Value) (q : Bool) (w : World) (μ' : Mem), vs[i]? = some v → qs[i]? = some q → MOk μ' w → MLe μ μ' → Calls Tryd.prog f ([v] ++ cap).toArray w fun e w' => e = .returned (.bool q) ∧ Below w.heap.size w w') (hn : n ≤ 100000) :
    Calls Tryd.prog 83 #[.slice A n c, .func (.func f) #[] cap.toArray] w fun e w' => e = .returned (.bool (qs.any id)) ∧ Below w.heap.size w w' := by
  refine call_intro (args := [.slice A n c, .func (.func f) #[] cap.toArray]) Tryd.func83 rfl Tryd.ntmps83 (by simp) hμ ?_
  rw [← firstT_any]
  repeat' (first | refine KO ?_ | ((with_reducible apply C1); exact rfl; exact EN; exact fun w μc hw hse => indexC_spec f cap qs vs A n c w μc hw hcal (hS.mono hse.le) hone hql (fun i v q w μ' h1 h2 h3 h4 => hf1 i v q w μ' h1 h2 h3 (hse.le.trans h4)) hn) | refine KI ?_ | ((refine KB ?_ ?_ <;> intro hp)) | refine KG ?_ | fail)
  exact ret_s rfl rfl rfl
theorem few1_spec (v : Value) (p : T → Bool) (t : T) (u : Value) (bc : Nat) (w : World) (μ : Mem) (hμ : MOk μ w) (hc : Cls μ v p) (hcell : MCell μ ⟨bc, 0, none⟩ v) (hk : KR μ t.kids u) (hs : t.size ≤ 100000) (hss : t.s.size ≤ 65536) :
    Calls Tryd.prog 81 ([Value.agg (encT t u).toArray] ++ [Value.pointer (some ⟨bc, 0, none⟩)]).toArray w fun e w' => e = .returned (.bool (!p t)) ∧ Below w.heap.size w w' := by
  have ho := hk.one
  obtain ⟨f, cap, rfl, hcal, hf⟩ := hc
  refine call_intro (args := [.agg (encT t u).toArray, .pointer (some ⟨bc, 0, none⟩)]) Tryd.func81 rfl Tryd.ntmps81 (by simp) hμ ?_
  repeat' (first | refine KO ?_ | ((with_reducible apply C1); exact rfl; exact EN; exact fun w μc hw hse => hf t u w μc hw hse.le (hk.mono hse.le) hs hss) | (refine KV (b := by first | ((with_reducible apply v_load_sh); exact rfl; exact rfl; exact hcell)) (c := ?_)) | refine KI ?_ | refine NB fun b => ?_ | ((refine KB ?_ ?_ <;> intro hp)) | refine KG ?_ | fail)
  exact ret_s rfl rfl rfl
theorem few_spec' (p : T → Bool) (v : Value) (x y : Int) (ks : List T) (A : Option Addr) (n c : Nat) (w : World) (μ : Mem) (hμ : MOk μ w) (hc : Cls μ v p) (hk : KR μ ks (.slice A n c)) (hkn : ks.length = n) (hn : n ≤ 100000) (hks : ∀ k ∈ ks, T.size k ≤ 100000 ∧ k.s.size ≤ 65536) :
    Calls Tryd.prog 52 #[.slice A n c, v, .int .i64 x, .int .i64 y] w fun e w' => e = .returned (.bool (fewP p x y ks)) ∧ Below w.heap.size w w' := by
  have hc' := hc
  obtain ⟨f, cap, rfl, hcal, hf⟩ := hc'
  refine call_intro (args := [.slice A n c, .func (.func f) #[] cap.toArray, .int .i64 x, .int .i64 y]) Tryd.func52 rfl Tryd.ntmps52 (by simp) hμ ?_
  repeat' (first | refine KO ?_ | ((with_reducible apply C1); exact rfl; exact EN; exact fun w μc hw hse => containsN_spec 81 [.pointer (some ⟨b, 0, none⟩)] (fun t => !p t) ks A n c w μc hw (by kernel_rfl) (hk.mono hse.le) hkn (fun t u w μ' h1 h2 h3 h4 => few1_spec _ p t u b w μ' h2 (hc.mono (hse.le.trans h3)) ((sh_cell hse.hd rfl).mono h3) h4 (hks t h1).1 (hks t h1).2) hn) | refine KI ?_ | refine NB fun b => ?_ | ((refine KB ?_ ?_ <;> intro hp)) | refine KG ?_ | fail)
  all_goals (refine ret_s rfl rfl ?_; simp_all [fewP, any_not, ← any_not]; try omega)
end Go.Proofs.YtnllooebophcpaaDoor
namespace Go.Proofs.YtnllooebophcpaaDoor
open Go.RowKit Go.Vcg
def eiT (ps : List (T → Bool)) (t : T) : Bool := ps.any fun p => p t
def Clss (μ : Mem) (vs : List Value) (ps : List (T → Bool)) : Prop := vs.length = ps.length ∧ ∀ (i : Nat) (v : Value) (p : T → Bool), vs[i]? = some v → ps[i]? = some p → Cls μ v p
theorem Clss.mono {μ μ' : Mem} {vs : List Value} {ps : List (T → Bool)} (h : Clss μ vs ps) (hle : MLe μ μ') : Clss μ' vs ps := ⟨h.1, fun i v p hv hp => (h.2 i v p hv hp).mono hle⟩
theorem Clss.nil (μ : Mem) : Clss μ [] [] := ⟨rfl, fun i v p h => by simp at h⟩
theorem Clss.cons {μ : Mem} {v : Value} {p : T → Bool} {vs : List Value} {ps : List (T → Bool)} (h : Cls μ v p) (hr : Clss μ vs ps) : Clss μ (v :: vs) (p :: ps) :=
  ⟨by simp [hr.1], fun i v' p' hv hp => by
    cases i with
    | zero => simp at hv hp; subst hv; subst hp; exact h
    | succ i => exact hr.2 i v' p' (by simpa using hv) (by simpa using hp)⟩
theorem Cls.one {μ : Mem} {v : Value} {p : T → Bool} (h : Cls μ v p) : v.oneCell' = true := by
  obtain ⟨f, cap, rfl, _⟩ := h
  rfl
theorem Clss.one {μ : Mem} {vs : List Value} {ps : List (T → Bool)} (h : Clss μ vs ps) : ∀ v ∈ vs, v.oneCell' = true := fun v hv => by
  obtain ⟨i, hi⟩ := List.mem_iff_getElem?.1 hv
  have hlt := (List.getElem?_eq_some_iff.1 hi).1
  have hlt2 : i < ps.length := by rw [← h.1]; exact hlt
  exact (h.2 i v ps[i] hi (List.getElem?_eq_getElem hlt2)).one
attribute [local irreducible] G GC GQ GA GAop Calls IntKind.wrap Int.decLt Int.decLe
theorem of1_spec (is : List Int) (A : Option Addr) (n c bx : Nat) (t : T) (u : Value) (w : World) (μ : Mem) (hμ : MOk μ w) (hcell : MCell μ ⟨bx, 0, none⟩ (.slice A n c)) (hS : Sl encIn 1 μ A n is) (hn : n ≤ 100000) (hk : KR μ t.kids u) :
    Calls Tryd.prog 85 ([Value.agg (encT t u).toArray] ++ [Value.pointer (some ⟨bx, 0, none⟩)]).toArray w fun e w' => e = .returned (.bool (ofT is t)) ∧ Below w.heap.size w w' := by
  have ho := hk.one
  refine call_intro (args := [.agg (encT t u).toArray, .pointer (some ⟨bx, 0, none⟩)]) Tryd.func85 rfl Tryd.ntmps85 (by simp) hμ ?_
  repeat' (first | refine KO ?_ | ((with_reducible apply C1); exact rfl; exact EN; exact fun w μc hw hse => contains_spec t.op is A n c w μc hw (hS.mono hse.le) hn) | (refine KV (b := by first | ((with_reducible apply v_load_sh); exact rfl; exact rfl; exact hcell)) (c := ?_)) | refine KI ?_ | refine NB fun b => ?_ | ((refine KB ?_ ?_ <;> intro hp)) | refine KG ?_ | fail)
  exact ret_s rfl rfl rfl
def OfPost (p : T → Bool) (μ : Mem) (v : Value) : Prop := Cls μ v p
theorem of_spec (is : List Int) (A : Option Addr) (n c : Nat) (w : World) (μ : Mem) (hμ : MOk μ w) (hS : Sl encIn 1 μ A n is) (hn : n ≤ 100000) :
    Calls Tryd.prog 55 #[.slice A n c] w fun e w' => ∃ v μ', e = .returned v ∧ Grow w w' μ μ' ∧ OfPost (ofT is) μ' v := by
  refine call_intro (args := [.slice A n c]) Tryd.func55 rfl Tryd.ntmps55 (by simp) hμ ?_
  repeat' (first | refine KK ?_ | refine NB fun b => ?_ | ((refine KB ?_ ?_ <;> intro hp)) | refine KG ?_ | fail)
  exact ret_m1 rfl (rv_tmp rfl) (fun μ' hle' hL => ⟨85, [.pointer (some ⟨b, 0, none⟩)], rfl, by kernel_rfl, fun t u w μ2 hw hl hk hs hss => of1_spec is A n c b t u w μ2 hw ((sh_cell (hL _ (List.mem_cons_self ..)) rfl).mono hl) (hS.mono (hle'.trans hl)) hn hk⟩)
theorem either11_spec (v : Value) (p : T → Bool) (t : T) (u : Value) (bn : Nat) (w : World) (μ : Mem) (hμ : MOk μ w) (hc : Cls μ v p) (hm : MCells μ ⟨bn, 0, none⟩ (encT t u)) (hk : KR μ t.kids u) (hs : t.size ≤ 100000) (hss : t.s.size ≤ 65536) :
    Calls Tryd.prog 84 ([v] ++ [Value.pointer (some ⟨bn, 0, none⟩)]).toArray w fun e w' => e = .returned (.bool (p t)) ∧ Below w.heap.size w w' := by
  have ho := hk.one
  obtain ⟨f, cap, rfl, hcal, hf⟩ := hc
  refine call_intro (args := [.func (.func f) #[] cap.toArray, .pointer (some ⟨bn, 0, none⟩)]) Tryd.func84 rfl Tryd.ntmps84 (by simp) hμ ?_
  repeat' (first | refine KO ?_ | ((with_reducible apply C1); exact rfl; exact EN; exact fun w μc hw hse => hf t u w μc hw hse.le (hk.mono hse.le) hs hss) | (refine KV (b := by first | exact U4 hm) (c := ?_)) | refine KI ?_ | ((refine KB ?_ ?_ <;> intro hp)) | refine KG ?_ | fail)
  exact ret_s rfl rfl rfl
theorem either1_spec (vs : List Value) (ps : List (T → Bool)) (A : Option Addr) (n c bx : Nat) (t : T) (u : Value) (w : World) (μ : Mem) (hμ : MOk μ w) (hcell : MCell μ ⟨bx, 0, none⟩ (.slice A n c)) (hS : Sl encV 1 μ A n vs) (hcl : Clss μ vs ps) (hn : n ≤ 100000) (hk : KR μ t.kids u) (hs : t.size ≤ 100000) (hss : t.s.size ≤ 65536) :
    Calls Tryd.prog 82 ([Value.agg (encT t u).toArray] ++ [Value.pointer (some ⟨bx, 0, none⟩)]).toArray w fun e w' => e = .returned (.bool (eiT ps t)) ∧ Below w.heap.size w w' := by
  have ho := hk.one
  have hql : (ps.map fun p => p t).length = n := by rw [List.length_map, ← hcl.1]; exact hS.1
  have h : (ps.map fun p => p t).any id = eiT ps t := by rw [List.any_map]; rfl
  have key : ∀ (bn : Nat) (μc : Mem), MLe μ μc → MCells μc ⟨bn, 0, none⟩ (encT t u) → ∀ (i : Nat) (v : Value) (q : Bool) (w : World) (μ' : Mem), vs[i]? = some v → (ps.map fun p => p t)[i]? = some q → MOk μ' w → MLe μc μ' → Calls Tryd.prog 84 ([v] ++ [Value.pointer (some ⟨bn, 0, none⟩)]).toArray w fun e w' => e = .returned (.bool q) ∧ Below w.heap.size w w' := by
    intro bn μc hle hm i v q w μ' hv hq hw2 hle2
    rw [List.getElem?_map] at hq
    cases hp : ps[i]? with
    | none => rw [hp] at hq; cases hq
    | some p =>
      rw [hp] at hq
      cases hq
      exact either11_spec v p t u bn w μ' hw2 ((hcl.2 i v p hv hp).mono (hle.trans hle2)) (hm.mono hle2) (hk.mono (hle.trans hle2)) hs hss
  refine call_intro (args := [.agg (encT t u).toArray, .pointer (some ⟨bx, 0, none⟩)]) Tryd.func82 rfl Tryd.ntmps82 (by simp) hμ ?_
  rw [← h]
  repeat' (first | refine KO ?_ | ((with_reducible apply C1); exact rfl; exact EN; exact fun w μc hw hse => containsC_spec 84 [.pointer (some ⟨b, 0, none⟩)] (ps.map fun p => p t) vs A n c w μc hw (by kernel_rfl) (hS.mono hse.le) hcl.one hql (key b μc hse.le (node_cell hse.hd (by repeat first | exact lc_nil | refine lc_cons rfl ?_))) hn) | (refine KV (b := by first | ((with_reducible apply v_load_sh); exact rfl; exact rfl; exact hcell)) (c := ?_)) | refine KI ?_ | refine NB fun b => ?_ | ((refine KB ?_ ?_ <;> intro hp)) | refine KG ?_ | fail)
  exact ret_s rfl rfl rfl
theorem either_spec (vs : List Value) (ps : List (T → Bool)) (A : Option Addr) (n c : Nat) (w : World) (μ : Mem) (hμ : MOk μ w) (hS : Sl encV 1 μ A n vs) (hcl : Clss μ vs ps) (hn : n ≤ 100000) :
    Calls Tryd.prog 53 #[.slice A n c] w fun e w' => ∃ v μ', e = .returned v ∧ Grow w w' μ μ' ∧ OfPost (eiT ps) μ' v := by
  refine call_intro (args := [.slice A n c]) Tryd.func53 rfl Tryd.ntmps53 (by simp) hμ ?_
  repeat' (first | refine KK ?_ | refine NB fun b => ?_ | ((refine KB ?_ ?_ <;> intro hp)) | refine KG ?_ | fail)
  exact ret_m1 rfl (rv_tmp rfl) (fun μ' hle' hL => ⟨82, [.pointer (some ⟨b, 0, none⟩)], rfl, by kernel_rfl, fun t u w μ2 hw hl hk hs hss => either1_spec vs ps A n c b t u w μ2 hw ((sh_cell (hL _ (List.mem_cons_self ..)) rfl).mono hl) (hS.mono (hle'.trans hl)) (hcl.mono (hle'.trans hl)) hn hk hs hss⟩)
end Go.Proofs.YtnllooebophcpaaDoor
namespace Go.Proofs.YtnllooebophcpaaDoor
open Go.RowKit Go.Vcg
abbrev encP (x : Value × Int) : List Value := [x.1, .int .i64 x.2]
attribute [local irreducible] G GC GQ GA GAop Calls IntKind.wrap Int.decLt Int.decLe
theorem each_spec (vs : List Value) (A : Option Addr) (n c : Nat) (w : World) (μ : Mem) (hμ : MOk μ w) (hS : Sl encV 1 μ A n vs) (hone : ∀ v ∈ vs, ∃ (f : FuncId) (cap : List Value), v = .func (.func f) #[] cap.toArray) (hn : n ≤ 100000) :
    Calls Tryd.prog 58 #[.slice A n c] w (RowPost w 77 2 n (vs.flatMap fun v => encP (v, 0))) := by
  refine call_intro (args := [.slice A n c]) Tryd.func58 rfl Tryd.ntmps58 (by simp) hμ ?_
  repeat' (first | refine KK ?_ | refine NB fun b => ?_ | ((refine KB ?_ ?_ <;> intro hp)) | refine KG ?_ | fail)
  refine gc_loop (ι := Nat × Value) (fun i => i.1 ≤ n) (fun i => n - i.1) (fun _ => μ) (fun i => [(8, .int .i64 i.1), (7, .int .i64 n), (6, .slice A n c), (3, i.2)]) (fun i => [.inr ⟨i.2, 77, 2, i.1, (vs.take i.1).flatMap fun v => encP (v, 0)⟩]) (0, .slice none 0 0) (by simp) (fun a w hs => (hs.nilRow 77 2).sub PU (by repeat first | exact List.Sublist.refl _ | exact List.nil_sublist _ | refine List.Sublist.cons_cons _ ?_ | refine List.Sublist.cons _ ?_)) ?_
  rintro ⟨k, v⟩ hk
  have hk' : k ≤ n := hk
  dsimp only
  by_cases hlt : k < n
  · obtain ⟨ad, x, rfl, hx, hm⟩ := hS.get hlt
    obtain ⟨f, cap, rfl⟩ := hone x (List.mem_of_getElem? hx)
    have hs : ((vs.take (k + 1)).flatMap fun v => encP (v, 0)) = ((vs.take k).flatMap fun v => encP (v, 0)) ++ encP (.func (.func f) #[] cap.toArray, 0) := by
      obtain ⟨hk1, he⟩ := List.getElem?_eq_some_iff.1 hx
      rw [List.take_succ_eq_append_getElem hk1, List.flatMap_append, he]
      simp only [List.flatMap_cons, List.flatMap_nil, List.append_nil]
    repeat' (first | refine KO ?_ | (first | ((with_reducible apply g_ap); exact rfl; exact rfl; exact rfl; (repeat first | with_reducible exact rowup_hd | with_reducible apply rowup_tl); (iterate 6 exact rfl); (first | ((with_reducible apply src_in); exact rfl; (repeat first | with_reducible exact inb_hd | with_reducible apply inb_tl); exact rfl)); (first | exact rfl | omega | simp); (first | assumption | (exact ones_mem (by (repeat first | with_reducible exact ones_nil | ((with_reducible apply ones_cons); (first | exact rfl | assumption))))) | simp [Value.oneCell']); omega; omega; intro v) | ((with_reducible apply g_append0); (iterate 9 exact rfl); (first | ((with_reducible apply src_in); exact rfl; (repeat first | with_reducible exact inb_hd | with_reducible apply inb_tl); exact rfl)); (first | exact rfl | omega | simp); (first | assumption | (exact ones_mem (by (repeat first | with_reducible exact ones_nil | ((with_reducible apply ones_cons); (first | exact rfl | assumption))))) | simp [Value.oneCell']); omega; omega; intro v)) | (refine KV (b := by first | exact U1 k | exact U3 (hm.at 0 rfl)) (c := ?_)) | refine KI ?_ | refine NB fun b => ?_ | ((refine KB ?_ ?_ <;> intro hp)) | refine KG ?_ | fail)
    refine gq_back (k + 1, _) (by show k + 1 ≤ n; omega) (by show n - (k + 1) < n - k; omega) rfl PU ?_
    dsimp only
    rw [hs]
    exact (by repeat first | exact List.Sublist.refl _ | exact List.nil_sublist _ | refine List.Sublist.cons _ ?_)
  · repeat' (first | refine KK ?_ | refine NB fun b => ?_ | ((refine KB ?_ ?_ <;> intro hp)) | refine KG ?_ | fail)
    obtain rfl : k = n := by omega
    rw [List.take_of_length_le (by rw [hS.1]; omega)]
    exact ret_row 0 rfl rfl rfl
end Go.Proofs.YtnllooebophcpaaDoor
namespace Go.Proofs.YtnllooebophcpaaDoor
open Go.RowKit Go.Vcg
theorem KR.drop1 {μ : Mem} {ks : List T} {A : Option Addr} {n c : Nat} (h : KR μ ks (.slice A n c)) (hn : 1 ≤ n) : KR μ (ks.drop 1) (.slice (if c = 1 then A else A.map (·.add (1 * 6))) (n - 1) (c - 1)) := by
  cases h with
  | mk _ A c vs hcap hcell hone hsub =>
    have e : (ks.drop 1).length = ks.length - 1 := by simp
    have h0 : ∀ (i : Nat) (t : T), (ks.drop 1)[i]? = some t → ks[1 + i]? = some t := fun i t hi => by simpa [Nat.add_comm] using hi
    have := KR.mk (μ := μ) (ks.drop 1) (if c = 1 then A else A.map (·.add (1 * 6))) (c - 1) (fun i => vs (1 + i)) (by omega) (fun i t hi => ?_) (fun i t hi => hone _ t (h0 i t hi)) (fun i t hi => hsub _ t (h0 i t hi))
    · rw [e] at this
      exact this
    · obtain ⟨a, e, hc⟩ := hcell _ t (h0 i t hi)
      have : 1 + i < ks.length := (List.getElem?_eq_some_iff.1 (h0 i t hi)).1
      rw [if_neg (by omega), e]
      refine ⟨_, rfl, ?_⟩
      rw [add_add', ← Nat.add_mul]
      exact hc
def eatF (p : T → Bool) (m : Int) : Nat → List T → Nat × List T
  | n, [] => (n, [])
  | n, k :: r => if p k = true ∧ (n = 0 ∨ m = 2) then eatF p m (n + 1) r else (n, k :: r)
def fitP : List ((T → Bool) × Int) → List T → Bool
  | [], l => decide (l.length = 0)
  | (p, m) :: r, l => if (eatF p m 0 l).1 = 0 ∧ m = 0 then false else fitP r (eatF p m 0 l).2
theorem drop_cons' {α : Type} {l : List α} {j : Nat} {t : α} (h : l[j]? = some t) : l.drop j = t :: l.drop (j + 1) := by
  obtain ⟨hlt, e⟩ := List.getElem?_eq_some_iff.1 h
  rw [← e, List.getElem_cons_drop]
attribute [local irreducible] G GC GQ GA GAop Calls IntKind.wrap Int.decLt Int.decLe
theorem fits_spec (parts : List (Value × Int)) (rows : List ((T → Bool) × Int)) (ks : List T) (A B : Option Addr) (n c m d : Nat) (w : World) (μ : Mem) (hμ : MOk μ w) (hk : KR μ ks (.slice A n c)) (hkn : ks.length = n) (hn : n ≤ 100000) (hS : Sl encP 2 μ B m parts) (hm : m ≤ 1000) (hrl : rows.length = m) (hrows : ∀ (i : Nat) (x : Value × Int) (y : (T → Bool) × Int), parts[i]? = some x → rows[i]? = some y → x.2 = y.2 ∧ Cls μ x.1 y.1) (hks : ∀ k ∈ ks, T.size k ≤ 100000 ∧ k.s.size ≤ 65536) :
    Calls Tryd.prog 57 #[.slice A n c, .slice B m d] w fun e w' => e = .returned (.bool (fitP rows ks)) ∧ Below w.heap.size w w' := by
  refine call_intro (args := [.slice A n c, .slice B m d]) Tryd.func57 rfl Tryd.ntmps57 (by simp) hμ ?_
  generalize hR : fitP rows ks = R
  repeat' (first | refine KK ?_ | refine NB fun b => ?_ | ((refine KB ?_ ?_ <;> intro hp)) | refine KG ?_ | fail)
  refine gc_loop (ι := Nat × Nat × Option Addr × Nat) (fun i => i.1 ≤ m ∧ i.2.1 ≤ n ∧ KR μ (ks.drop i.2.1) (.slice i.2.2.1 (n - i.2.1) i.2.2.2) ∧ fitP (rows.drop i.1) (ks.drop i.2.1) = R) (fun i => m - i.1) (fun _ => μ) (fun i => [(10, .int .i64 i.1), (9, .int .i64 m), (8, .slice B m d), (0, .slice i.2.2.1 (n - i.2.1) i.2.2.2)]) (fun _ => []) (0, 0, A, c) ⟨by simp, by simp, by simpa using hk, by simpa using hR⟩ (fun a w hs => J6 hs) ?_
  rintro ⟨i, j, Aj, cj⟩ ⟨hi, hj, hkj, hRj⟩
  dsimp only at hi hj hkj hRj ⊢
  by_cases hlt : i < m
  · obtain ⟨ad, ⟨v, mm⟩, rfl, hx, hmx⟩ := hS.get hlt
    have hy : rows[i]? = some rows[i] := List.getElem?_eq_getElem (by omega)
    generalize rows[i] = y at hy
    obtain ⟨p, mm'⟩ := y
    obtain ⟨he, hcls⟩ := hrows i _ _ hx hy
    dsimp only at he hcls
    subst he
    obtain ⟨f, cap, rfl, hcal, hf⟩ := hcls
    rw [drop_cons' hy] at hRj
    repeat' (first | refine KO ?_ | (refine KV (b := by first | exact U1 i | exact U4 hmx) (c := ?_)) | refine KI ?_ | refine NB fun b => ?_ | ((refine KB ?_ ?_ <;> intro hp)) | refine KG ?_ | fail)
    refine gc_loop (ι := Nat × Nat × Option Addr × Nat) (fun q => q.1 ≤ q.2.1 ∧ q.2.1 ≤ n ∧ KR μ (ks.drop q.2.1) (.slice q.2.2.1 (n - q.2.1) q.2.2.2) ∧ eatF p mm q.1 (ks.drop q.2.1) = eatF p mm 0 (ks.drop j)) (fun q => n - q.2.1) (fun _ => μ) (fun q => [(7, .int .i64 q.1), (6, .pointer (some ⟨b, 0, none⟩)), (10, .int .i64 i), (9, .int .i64 m), (8, .slice (some ad) m d), (0, .slice q.2.2.1 (n - q.2.1) q.2.2.2)]) (fun _ => [.inl ⟨b, 77, 2, idx 0 [.func (.func f) #[] cap.toArray, .int .i64 mm]⟩]) (0, j, Aj, cj) ⟨Nat.zero_le _, hj, hkj, rfl⟩ (fun a w hs => J5 hs) ?_
    rintro ⟨cnt, j2, A2, c2⟩ ⟨hcj, hj2, hk2, he2⟩
    dsimp only at hcj hj2 hk2 he2 ⊢
    have hend : ∀ l, eatF p mm cnt (ks.drop j2) = (cnt, l) → l = ks.drop j2 → (if cnt = 0 ∧ mm = 0 then false else fitP (rows.drop (i + 1)) (ks.drop j2)) = R := fun l h hl => by
      rw [fitP, ← he2, h, hl] at hRj
      exact hRj
    by_cases hlt2 : j2 < n
    · have hkk : ks[j2]? = some ks[j2] := List.getElem?_eq_getElem (by omega)
      generalize ks[j2] = t at hkk
      have hdt := drop_cons' hkk
      have hkt := hk2.drop1 (by omega)
      rw [List.drop_drop] at hkt
      obtain ⟨A', c', e, hlc, hget⟩ := hk2.form
      have hkl : (ks.drop j2).length = n - j2 := by rw [List.length_drop, hkn]
      rw [hkl] at e hlc
      cases e
      obtain ⟨ad2, x, rfl, hm2, ho2, hkx⟩ := hget 0 t (by rw [hdt]; rfl)
      have hts := hks t (List.mem_of_getElem? hkk)
      have hcall := fun (w : World) (μc : Mem) (hw : MOk μc w) (hle : MLe μ μc) => hf t x w μc hw hle (hkx.mono hle) hts.1 hts.2
      by_cases hp1 : p t = true ∧ (cnt = 0 ∨ mm = 2)
      · have hE : eatF p mm (cnt + 1) (ks.drop (j2 + 1)) = eatF p mm 0 (ks.drop j) := by
          rw [← he2, hdt, eatF, if_pos hp1]
        rw [hp1.1] at hcall
        have hp2 := hp1.2
        repeat' (first | refine KK ?_ | refine NB fun b => ?_ | ((refine KB ?_ ?_ <;> intro hp)) | refine KG ?_ | fail)
        refine gc_draw 20 _ (by kernel_rfl) rfl (List.Sublist.cons_cons _ (List.nil_sublist _)) ?_
        all_goals refine DD 0 ?_
        all_goals (first | refine D1 1 ?_ | (refine DV (k := 1) (b := by first | exact U1 0 | exact U4 hm2) (c := ?_)) | refine DD 1 ?_ | fail)
        all_goals (first | refine D1 2 ?_ | (refine DV (k := 2) (b := by first | exact U1 0 | exact U4 hm2) (c := ?_)) | refine DD 2 ?_ | fail)
        all_goals refine DD 3 ?_
        all_goals (try (refine D7 4 ?_; (repeat' (first | refine KO ?_ | (refine KB ?_ ?_ <;> intro hp)))))
        all_goals (first | refine D1 4 ?_ | (refine DV (k := 4) (b := by first | exact U1 0 | exact U4 hm2) (c := ?_)) | refine DD 4 ?_ | fail)
        all_goals (first | refine D1 5 ?_ | (refine DV (k := 5) (b := by first | exact U1 0 | exact U4 hm2) (c := ?_)) | (refine D3 5 (DW (b := by first | exact U1 0 | exact U4 hm2) (c := ?_))) | refine DD 5 ?_ | fail)
        all_goals refine DD 6 ?_
        all_goals (first | refine D1 7 ?_ | (refine DV (k := 7) (b := by first | exact U1 0 | exact U4 hm2) (c := ?_)) | refine DD 7 ?_ | fail)
        all_goals (first | refine D1 8 ?_ | (refine DV (k := 8) (b := by first | exact U1 0 | exact U4 hm2) (c := ?_)) | (refine D3 8 (DW (b := by first | exact U1 0 | exact U4 hm2) (c := ?_))) | refine DD 8 ?_ | fail)
        all_goals (first | (refine D3 9 ?_; refine D5 ?_; (with_reducible apply C1); exact rfl; exact EN; exact fun w μc hw hse => hcall w μc hw hse.le; refine D9 ?_) | refine D3 9 (D6 ?_))
        all_goals refine DD 10 ?_
        all_goals refine DD 11 ?_
        all_goals (try (refine D7 12 ?_; (repeat' (first | refine KO ?_ | (refine KB ?_ ?_ <;> intro hp)))))
        all_goals refine DD 12 ?_
        all_goals (first | refine D1 13 ?_ | (refine DV (k := 13) (b := by first | exact U1 0 | exact U4 hm2) (c := ?_)) | refine DD 13 ?_ | fail)
        all_goals refine DD 14 ?_
        all_goals (try (refine D7 15 ?_; (repeat' (first | refine KO ?_ | (refine KB ?_ ?_ <;> intro hp)))))
        all_goals (first | refine D1 15 ?_ | (refine DV (k := 15) (b := by first | exact U1 0 | exact U4 hm2) (c := ?_)) | refine DD 15 ?_ | fail)
        all_goals (first | refine D1 16 ?_ | (refine DV (k := 16) (b := by first | exact U1 0 | exact U4 hm2) (c := ?_)) | (refine D3 16 (DW (b := by first | exact U1 0 | exact U4 hm2) (c := ?_))) | refine DD 16 ?_ | fail)
        all_goals (first | refine D1 17 ?_ | (refine DV (k := 17) (b := by first | exact U1 0 | exact U4 hm2) (c := ?_)) | refine DD 17 ?_ | fail)
        all_goals refine DD 18 ?_
        all_goals refine DD 19 ?_
        all_goals refine D8 ?_
        all_goals
          repeat' (first | refine KO ?_ | (refine KV (b := by first | ((with_reducible apply v_slice_lo 1); exact rfl; exact rfl; exact rfl; exact rfl; exact rfl; omega)) (c := ?_)) | refine KI ?_ | refine NB fun b => ?_ | ((refine KB ?_ ?_ <;> intro hp)) | refine KG ?_ | fail)
        all_goals first
          | exact J2 (cnt + 1, j2 + 1, _, _) ⟨by show cnt + 1 ≤ j2 + 1; omega, by show j2 + 1 ≤ n; omega, hkt, hE⟩ (by show n - (j2 + 1) < n - j2; omega)
          | (exfalso; omega)
      · have hE := hend _ (by rw [hdt, eatF, if_neg hp1]) hdt.symm
        cases hpt : p t
        · rw [hpt] at hcall
          by_cases hz : cnt = 0 ∧ mm = 0
          · rw [if_pos hz] at hE
            repeat' (first | refine KK ?_ | refine NB fun b => ?_ | ((refine KB ?_ ?_ <;> intro hp)) | refine KG ?_ | fail)
            refine gc_draw 20 _ (by kernel_rfl) rfl (List.Sublist.cons_cons _ (List.nil_sublist _)) ?_
            all_goals refine DD 0 ?_
            all_goals (first | refine D1 1 ?_ | (refine DV (k := 1) (b := by first | exact U1 0 | exact U4 hm2) (c := ?_)) | refine DD 1 ?_ | fail)
            all_goals (first | refine D1 2 ?_ | (refine DV (k := 2) (b := by first | exact U1 0 | exact U4 hm2) (c := ?_)) | refine DD 2 ?_ | fail)
            all_goals refine DD 3 ?_
            all_goals (try (refine D7 4 ?_; (repeat' (first | refine KO ?_ | (refine KB ?_ ?_ <;> intro hp)))))
            all_goals (first | refine D1 4 ?_ | (refine DV (k := 4) (b := by first | exact U1 0 | exact U4 hm2) (c := ?_)) | refine DD 4 ?_ | fail)
            all_goals (first | refine D1 5 ?_ | (refine DV (k := 5) (b := by first | exact U1 0 | exact U4 hm2) (c := ?_)) | (refine D3 5 (DW (b := by first | exact U1 0 | exact U4 hm2) (c := ?_))) | refine DD 5 ?_ | fail)
            all_goals refine DD 6 ?_
            all_goals (first | refine D1 7 ?_ | (refine DV (k := 7) (b := by first | exact U1 0 | exact U4 hm2) (c := ?_)) | refine DD 7 ?_ | fail)
            all_goals (first | refine D1 8 ?_ | (refine DV (k := 8) (b := by first | exact U1 0 | exact U4 hm2) (c := ?_)) | (refine D3 8 (DW (b := by first | exact U1 0 | exact U4 hm2) (c := ?_))) | refine DD 8 ?_ | fail)
            all_goals (first | (refine D3 9 ?_; refine D5 ?_; (with_reducible apply C1); exact rfl; exact EN; exact fun w μc hw hse => hcall w μc hw hse.le; refine D9 ?_) | refine D3 9 (D6 ?_))
            all_goals refine DD 10 ?_
            all_goals refine DD 11 ?_
            all_goals (try (refine D7 12 ?_; (repeat' (first | refine KO ?_ | (refine KB ?_ ?_ <;> intro hp)))))
            all_goals refine DD 12 ?_
            all_goals (first | refine D1 13 ?_ | (refine DV (k := 13) (b := by first | exact U1 0 | exact U4 hm2) (c := ?_)) | refine DD 13 ?_ | fail)
            all_goals refine DD 14 ?_
            all_goals (try (refine D7 15 ?_; (repeat' (first | refine KO ?_ | (refine KB ?_ ?_ <;> intro hp)))))
            all_goals (first | refine D1 15 ?_ | (refine DV (k := 15) (b := by first | exact U1 0 | exact U4 hm2) (c := ?_)) | refine DD 15 ?_ | fail)
            all_goals (first | refine D1 16 ?_ | (refine DV (k := 16) (b := by first | exact U1 0 | exact U4 hm2) (c := ?_)) | (refine D3 16 (DW (b := by first | exact U1 0 | exact U4 hm2) (c := ?_))) | refine DD 16 ?_ | fail)
            all_goals (first | refine D1 17 ?_ | (refine DV (k := 17) (b := by first | exact U1 0 | exact U4 hm2) (c := ?_)) | refine DD 17 ?_ | fail)
            all_goals refine DD 18 ?_
            all_goals refine DD 19 ?_
            all_goals refine D8 ?_
            all_goals
              repeat' (first | refine KK ?_ | refine NB fun b => ?_ | ((refine KB ?_ ?_ <;> intro hp)) | refine KG ?_ | fail)
            all_goals first
              | exact ret_s rfl rfl (congrArg _ hE)
              | (exfalso; omega)
          · rw [if_neg hz] at hE
            repeat' (first | refine KK ?_ | refine NB fun b => ?_ | ((refine KB ?_ ?_ <;> intro hp)) | refine KG ?_ | fail)
            refine gc_draw 20 _ (by kernel_rfl) rfl (List.Sublist.cons_cons _ (List.nil_sublist _)) ?_
            all_goals refine DD 0 ?_
            all_goals (first | refine D1 1 ?_ | (refine DV (k := 1) (b := by first | exact U1 0 | exact U4 hm2) (c := ?_)) | refine DD 1 ?_ | fail)
            all_goals (first | refine D1 2 ?_ | (refine DV (k := 2) (b := by first | exact U1 0 | exact U4 hm2) (c := ?_)) | refine DD 2 ?_ | fail)
            all_goals refine DD 3 ?_
            all_goals (try (refine D7 4 ?_; (repeat' (first | refine KO ?_ | (refine KB ?_ ?_ <;> intro hp)))))
            all_goals (first | refine D1 4 ?_ | (refine DV (k := 4) (b := by first | exact U1 0 | exact U4 hm2) (c := ?_)) | refine DD 4 ?_ | fail)
            all_goals (first | refine D1 5 ?_ | (refine DV (k := 5) (b := by first | exact U1 0 | exact U4 hm2) (c := ?_)) | (refine D3 5 (DW (b := by first | exact U1 0 | exact U4 hm2) (c := ?_))) | refine DD 5 ?_ | fail)
            all_goals refine DD 6 ?_
            all_goals (first | refine D1 7 ?_ | (refine DV (k := 7) (b := by first | exact U1 0 | exact U4 hm2) (c := ?_)) | refine DD 7 ?_ | fail)
            all_goals (first | refine D1 8 ?_ | (refine DV (k := 8) (b := by first | exact U1 0 | exact U4 hm2) (c := ?_)) | (refine D3 8 (DW (b := by first | exact U1 0 | exact U4 hm2) (c := ?_))) | refine DD 8 ?_ | fail)
            all_goals (first | (refine D3 9 ?_; refine D5 ?_; (with_reducible apply C1); exact rfl; exact EN; exact fun w μc hw hse => hcall w μc hw hse.le; refine D9 ?_) | refine D3 9 (D6 ?_))
            all_goals refine DD 10 ?_
            all_goals refine DD 11 ?_
            all_goals (try (refine D7 12 ?_; (repeat' (first | refine KO ?_ | (refine KB ?_ ?_ <;> intro hp)))))
            all_goals refine DD 12 ?_
            all_goals (first | refine D1 13 ?_ | (refine DV (k := 13) (b := by first | exact U1 0 | exact U4 hm2) (c := ?_)) | refine DD 13 ?_ | fail)
            all_goals refine DD 14 ?_
            all_goals (try (refine D7 15 ?_; (repeat' (first | refine KO ?_ | (refine KB ?_ ?_ <;> intro hp)))))
            all_goals (first | refine D1 15 ?_ | (refine DV (k := 15) (b := by first | exact U1 0 | exact U4 hm2) (c := ?_)) | refine DD 15 ?_ | fail)
            all_goals (first | refine D1 16 ?_ | (refine DV (k := 16) (b := by first | exact U1 0 | exact U4 hm2) (c := ?_)) | (refine D3 16 (DW (b := by first | exact U1 0 | exact U4 hm2) (c := ?_))) | refine DD 16 ?_ | fail)
            all_goals (first | refine D1 17 ?_ | (refine DV (k := 17) (b := by first | exact U1 0 | exact U4 hm2) (c := ?_)) | refine DD 17 ?_ | fail)
            all_goals refine DD 18 ?_
            all_goals refine DD 19 ?_
            all_goals refine D8 ?_
            all_goals
              repeat' (first | refine KK ?_ | refine NB fun b => ?_ | ((refine KB ?_ ?_ <;> intro hp)) | refine KG ?_ | fail)
            all_goals first
              | exact J2 (i + 1, j2, _, _) ⟨by show i + 1 ≤ m; omega, hj2, hk2, hE⟩ (by show m - (i + 1) < m - i; omega)
              | (exfalso; omega)
        · rw [hpt] at hcall
          have hp2 : ¬(cnt = 0 ∨ mm = 2) := fun h => hp1 ⟨hpt, h⟩
          by_cases hz : cnt = 0 ∧ mm = 0
          · rw [if_pos hz] at hE
            repeat' (first | refine KK ?_ | refine NB fun b => ?_ | ((refine KB ?_ ?_ <;> intro hp)) | refine KG ?_ | fail)
            refine gc_draw 20 _ (by kernel_rfl) rfl (List.Sublist.cons_cons _ (List.nil_sublist _)) ?_
            all_goals refine DD 0 ?_
            all_goals (first | refine D1 1 ?_ | (refine DV (k := 1) (b := by first | exact U1 0 | exact U4 hm2) (c := ?_)) | refine DD 1 ?_ | fail)
            all_goals (first | refine D1 2 ?_ | (refine DV (k := 2) (b := by first | exact U1 0 | exact U4 hm2) (c := ?_)) | refine DD 2 ?_ | fail)
            all_goals refine DD 3 ?_
            all_goals (try (refine D7 4 ?_; (repeat' (first | refine KO ?_ | (refine KB ?_ ?_ <;> intro hp)))))
            all_goals (first | refine D1 4 ?_ | (refine DV (k := 4) (b := by first | exact U1 0 | exact U4 hm2) (c := ?_)) | refine DD 4 ?_ | fail)
            all_goals (first | refine D1 5 ?_ | (refine DV (k := 5) (b := by first | exact U1 0 | exact U4 hm2) (c := ?_)) | (refine D3 5 (DW (b := by first | exact U1 0 | exact U4 hm2) (c := ?_))) | refine DD 5 ?_ | fail)
            all_goals refine DD 6 ?_
            all_goals (first | refine D1 7 ?_ | (refine DV (k := 7) (b := by first | exact U1 0 | exact U4 hm2) (c := ?_)) | refine DD 7 ?_ | fail)
            all_goals (first | refine D1 8 ?_ | (refine DV (k := 8) (b := by first | exact U1 0 | exact U4 hm2) (c := ?_)) | (refine D3 8 (DW (b := by first | exact U1 0 | exact U4 hm2) (c := ?_))) | refine DD 8 ?_ | fail)
            all_goals (first | (refine D3 9 ?_; refine D5 ?_; (with_reducible apply C1); exact rfl; exact EN; exact fun w μc hw hse => hcall w μc hw hse.le; refine D9 ?_) | refine D3 9 (D6 ?_))
            all_goals refine DD 10 ?_
            all_goals refine DD 11 ?_
            all_goals (try (refine D7 12 ?_; (repeat' (first | refine KO ?_ | (refine KB ?_ ?_ <;> intro hp)))))
            all_goals refine DD 12 ?_
            all_goals (first | refine D1 13 ?_ | (refine DV (k := 13) (b := by first | exact U1 0 | exact U4 hm2) (c := ?_)) | refine DD 13 ?_ | fail)
            all_goals refine DD 14 ?_
            all_goals (try (refine D7 15 ?_; (repeat' (first | refine KO ?_ | (refine KB ?_ ?_ <;> intro hp)))))
            all_goals (first | refine D1 15 ?_ | (refine DV (k := 15) (b := by first | exact U1 0 | exact U4 hm2) (c := ?_)) | refine DD 15 ?_ | fail)
            all_goals (first | refine D1 16 ?_ | (refine DV (k := 16) (b := by first | exact U1 0 | exact U4 hm2) (c := ?_)) | (refine D3 16 (DW (b := by first | exact U1 0 | exact U4 hm2) (c := ?_))) | refine DD 16 ?_ | fail)
            all_goals (first | refine D1 17 ?_ | (refine DV (k := 17) (b := by first | exact U1 0 | exact U4 hm2) (c := ?_)) | refine DD 17 ?_ | fail)
            all_goals refine DD 18 ?_
            all_goals refine DD 19 ?_
            all_goals refine D8 ?_
            all_goals
              repeat' (first | refine KK ?_ | refine NB fun b => ?_ | ((refine KB ?_ ?_ <;> intro hp)) | refine KG ?_ | fail)
            all_goals first
              | exact ret_s rfl rfl (congrArg _ hE)
              | (exfalso; omega)
          · rw [if_neg hz] at hE
            repeat' (first | refine KK ?_ | refine NB fun b => ?_ | ((refine KB ?_ ?_ <;> intro hp)) | refine KG ?_ | fail)
            refine gc_draw 20 _ (by kernel_rfl) rfl (List.Sublist.cons_cons _ (List.nil_sublist _)) ?_
            all_goals refine DD 0 ?_
            all_goals (first | refine D1 1 ?_ | (refine DV (k := 1) (b := by first | exact U1 0 | exact U4 hm2) (c := ?_)) | refine DD 1 ?_ | fail)
            all_goals (first | refine D1 2 ?_ | (refine DV (k := 2) (b := by first | exact U1 0 | exact U4 hm2) (c := ?_)) | refine DD 2 ?_ | fail)
            all_goals refine DD 3 ?_
            all_goals (try (refine D7 4 ?_; (repeat' (first | refine KO ?_ | (refine KB ?_ ?_ <;> intro hp)))))
            all_goals (first | refine D1 4 ?_ | (refine DV (k := 4) (b := by first | exact U1 0 | exact U4 hm2) (c := ?_)) | refine DD 4 ?_ | fail)
            all_goals (first | refine D1 5 ?_ | (refine DV (k := 5) (b := by first | exact U1 0 | exact U4 hm2) (c := ?_)) | (refine D3 5 (DW (b := by first | exact U1 0 | exact U4 hm2) (c := ?_))) | refine DD 5 ?_ | fail)
            all_goals refine DD 6 ?_
            all_goals (first | refine D1 7 ?_ | (refine DV (k := 7) (b := by first | exact U1 0 | exact U4 hm2) (c := ?_)) | refine DD 7 ?_ | fail)
            all_goals (first | refine D1 8 ?_ | (refine DV (k := 8) (b := by first | exact U1 0 | exact U4 hm2) (c := ?_)) | (refine D3 8 (DW (b := by first | exact U1 0 | exact U4 hm2) (c := ?_))) | refine DD 8 ?_ | fail)
            all_goals (first | (refine D3 9 ?_; refine D5 ?_; (with_reducible apply C1); exact rfl; exact EN; exact fun w μc hw hse => hcall w μc hw hse.le; refine D9 ?_) | refine D3 9 (D6 ?_))
            all_goals refine DD 10 ?_
            all_goals refine DD 11 ?_
            all_goals (try (refine D7 12 ?_; (repeat' (first | refine KO ?_ | (refine KB ?_ ?_ <;> intro hp)))))
            all_goals refine DD 12 ?_
            all_goals (first | refine D1 13 ?_ | (refine DV (k := 13) (b := by first | exact U1 0 | exact U4 hm2) (c := ?_)) | refine DD 13 ?_ | fail)
            all_goals refine DD 14 ?_
            all_goals (try (refine D7 15 ?_; (repeat' (first | refine KO ?_ | (refine KB ?_ ?_ <;> intro hp)))))
            all_goals (first | refine D1 15 ?_ | (refine DV (k := 15) (b := by first | exact U1 0 | exact U4 hm2) (c := ?_)) | refine DD 15 ?_ | fail)
            all_goals (first | refine D1 16 ?_ | (refine DV (k := 16) (b := by first | exact U1 0 | exact U4 hm2) (c := ?_)) | (refine D3 16 (DW (b := by first | exact U1 0 | exact U4 hm2) (c := ?_))) | refine DD 16 ?_ | fail)
            all_goals (first | refine D1 17 ?_ | (refine DV (k := 17) (b := by first | exact U1 0 | exact U4 hm2) (c := ?_)) | refine DD 17 ?_ | fail)
            all_goals refine DD 18 ?_
            all_goals refine DD 19 ?_
            all_goals refine D8 ?_
            all_goals
              repeat' (first | refine KK ?_ | refine NB fun b => ?_ | ((refine KB ?_ ?_ <;> intro hp)) | refine KG ?_ | fail)
            all_goals first
              | exact J2 (i + 1, j2, _, _) ⟨by show i + 1 ≤ m; omega, hj2, hk2, hE⟩ (by show m - (i + 1) < m - i; omega)
              | (exfalso; omega)
    · obtain rfl : j2 = n := by omega
      have hdt : ks.drop j2 = [] := List.drop_of_length_le (by omega)
      have hE := hend _ (by rw [hdt, eatF]) hdt.symm
      by_cases hz : cnt = 0 ∧ mm = 0
      · rw [if_pos hz] at hE
        repeat' (first | refine KK ?_ | refine NB fun b => ?_ | ((refine KB ?_ ?_ <;> intro hp)) | refine KG ?_ | fail)
        refine gc_draw 20 _ (by kernel_rfl) rfl (List.Sublist.cons_cons _ (List.nil_sublist _)) ?_
        all_goals refine DD 0 ?_
        all_goals (first | refine D1 1 ?_ | (refine DV (k := 1) (b := by first | exact U1 0) (c := ?_)) | refine DD 1 ?_ | fail)
        all_goals (first | refine D1 2 ?_ | (refine DV (k := 2) (b := by first | exact U1 0) (c := ?_)) | refine DD 2 ?_ | fail)
        all_goals refine DD 3 ?_
        all_goals (try (refine D7 4 ?_; (repeat' (first | refine KO ?_ | (refine KB ?_ ?_ <;> intro hp)))))
        all_goals (first | refine D1 4 ?_ | (refine DV (k := 4) (b := by first | exact U1 0) (c := ?_)) | refine DD 4 ?_ | fail)
        all_goals (first | refine D1 5 ?_ | (refine DV (k := 5) (b := by first | exact U1 0) (c := ?_)) | (refine D3 5 (DW (b := by first | exact U1 0) (c := ?_))) | refine DD 5 ?_ | fail)
        all_goals refine DD 6 ?_
        all_goals (first | refine D1 7 ?_ | (refine DV (k := 7) (b := by first | exact U1 0) (c := ?_)) | refine DD 7 ?_ | fail)
        all_goals (first | refine D1 8 ?_ | (refine DV (k := 8) (b := by first | exact U1 0) (c := ?_)) | (refine D3 8 (DW (b := by first | exact U1 0) (c := ?_))) | refine DD 8 ?_ | fail)
        all_goals (first | (refine D3 9 ?_; refine D5 ?_; (with_reducible apply C1); exact rfl; exact EN; fail; refine D9 ?_) | refine D3 9 (D6 ?_))
        all_goals refine DD 10 ?_
        all_goals refine DD 11 ?_
        all_goals (try (refine D7 12 ?_; (repeat' (first | refine KO ?_ | (refine KB ?_ ?_ <;> intro hp)))))
        all_goals refine DD 12 ?_
        all_goals (first | refine D1 13 ?_ | (refine DV (k := 13) (b := by first | exact U1 0) (c := ?_)) | refine DD 13 ?_ | fail)
        all_goals refine DD 14 ?_
        all_goals (try (refine D7 15 ?_; (repeat' (first | refine KO ?_ | (refine KB ?_ ?_ <;> intro hp)))))
        all_goals (first | refine D1 15 ?_ | (refine DV (k := 15) (b := by first | exact U1 0) (c := ?_)) | refine DD 15 ?_ | fail)
        all_goals (first | refine D1 16 ?_ | (refine DV (k := 16) (b := by first | exact U1 0) (c := ?_)) | (refine D3 16 (DW (b := by first | exact U1 0) (c := ?_))) | refine DD 16 ?_ | fail)
        all_goals (first | refine D1 17 ?_ | (refine DV (k := 17) (b := by first | exact U1 0) (c := ?_)) | refine DD 17 ?_ | fail)
        all_goals refine DD 18 ?_
        all_goals refine DD 19 ?_
        all_goals refine D8 ?_
        all_goals
          repeat' (first | refine KK ?_ | refine NB fun b => ?_ | ((refine KB ?_ ?_ <;> intro hp)) | refine KG ?_ | fail)
        all_goals first
          | exact ret_s rfl rfl (congrArg _ hE)
          | (exfalso; omega)
      · rw [if_neg hz] at hE
        repeat' (first | refine KK ?_ | refine NB fun b => ?_ | ((refine KB ?_ ?_ <;> intro hp)) | refine KG ?_ | fail)
        refine gc_draw 20 _ (by kernel_rfl) rfl (List.Sublist.cons_cons _ (List.nil_sublist _)) ?_
        all_goals refine DD 0 ?_
        all_goals (first | refine D1 1 ?_ | (refine DV (k := 1) (b := by first | exact U1 0) (c := ?_)) | refine DD 1 ?_ | fail)
        all_goals (first | refine D1 2 ?_ | (refine DV (k := 2) (b := by first | exact U1 0) (c := ?_)) | refine DD 2 ?_ | fail)
        all_goals refine DD 3 ?_
        all_goals (try (refine D7 4 ?_; (repeat' (first | refine KO ?_ | (refine KB ?_ ?_ <;> intro hp)))))
        all_goals (first | refine D1 4 ?_ | (refine DV (k := 4) (b := by first | exact U1 0) (c := ?_)) | refine DD 4 ?_ | fail)
        all_goals (first | refine D1 5 ?_ | (refine DV (k := 5) (b := by first | exact U1 0) (c := ?_)) | (refine D3 5 (DW (b := by first | exact U1 0) (c := ?_))) | refine DD 5 ?_ | fail)
        all_goals refine DD 6 ?_
        all_goals (first | refine D1 7 ?_ | (refine DV (k := 7) (b := by first | exact U1 0) (c := ?_)) | refine DD 7 ?_ | fail)
        all_goals (first | refine D1 8 ?_ | (refine DV (k := 8) (b := by first | exact U1 0) (c := ?_)) | (refine D3 8 (DW (b := by first | exact U1 0) (c := ?_))) | refine DD 8 ?_ | fail)
        all_goals (first | (refine D3 9 ?_; refine D5 ?_; (with_reducible apply C1); exact rfl; exact EN; fail; refine D9 ?_) | refine D3 9 (D6 ?_))
        all_goals refine DD 10 ?_
        all_goals refine DD 11 ?_
        all_goals (try (refine D7 12 ?_; (repeat' (first | refine KO ?_ | (refine KB ?_ ?_ <;> intro hp)))))
        all_goals refine DD 12 ?_
        all_goals (first | refine D1 13 ?_ | (refine DV (k := 13) (b := by first | exact U1 0) (c := ?_)) | refine DD 13 ?_ | fail)
        all_goals refine DD 14 ?_
        all_goals (try (refine D7 15 ?_; (repeat' (first | refine KO ?_ | (refine KB ?_ ?_ <;> intro hp)))))
        all_goals (first | refine D1 15 ?_ | (refine DV (k := 15) (b := by first | exact U1 0) (c := ?_)) | refine DD 15 ?_ | fail)
        all_goals (first | refine D1 16 ?_ | (refine DV (k := 16) (b := by first | exact U1 0) (c := ?_)) | (refine D3 16 (DW (b := by first | exact U1 0) (c := ?_))) | refine DD 16 ?_ | fail)
        all_goals (first | refine D1 17 ?_ | (refine DV (k := 17) (b := by first | exact U1 0) (c := ?_)) | refine DD 17 ?_ | fail)
        all_goals refine DD 18 ?_
        all_goals refine DD 19 ?_
        all_goals refine D8 ?_
        all_goals
          repeat' (first | refine KK ?_ | refine NB fun b => ?_ | ((refine KB ?_ ?_ <;> intro hp)) | refine KG ?_ | fail)
        all_goals first
          | exact J2 (i + 1, j2, _, _) ⟨by show i + 1 ≤ m; omega, hj2, hk2, hE⟩ (by show m - (i + 1) < m - i; omega)
          | (exfalso; omega)
  · obtain rfl : i = m := by omega
    rw [List.drop_of_length_le (by omega)] at hRj
    have hR2 : decide (n - j = 0) = R := by rw [← hRj, ← hkn, ← List.length_drop]; rfl
    repeat' (first | refine KK ?_ | refine NB fun b => ?_ | ((refine KB ?_ ?_ <;> intro hp)) | refine KG ?_ | fail)
    refine ret_s rfl rfl ?_
    rw [← hR2]
    congr 1
    simp
    try omega
end Go.Proofs.YtnllooebophcpaaDoor
