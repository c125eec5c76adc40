/- Package early: bad, bit, nearest, with, walked. No statement of the seat is proved here. -/
import Derived.Test.YtocidaibmadekaaGreatDoorQad
import Derived.RangeFuncLeaves
import Derived.OwnWalkIn
import Derived.RangeFuncCalls
import Derived.OrdersIn
import Derived.Test.YtocidaibmadekaaGreatDoorShelf
import Derived.KernelRfl
set_option maxRecDepth 20000
set_option maxHeartbeats 2000000
namespace Go.Proofs.YtocidaibmadekaaGreatDoor
open Go.RowKit Go.Vcg
theorem oL (c : Bool) (a e : Int) (s : ES) : (dN c a e s).names = s.names := by unfold dN; split <;> rfl
theorem QY (c : Bool) (a e : Int) (s : ES) : (dN c a e s).regs = s.regs := by unfold dN; split <;> rfl
attribute [local irreducible] fV mkD G GC GQ GA bX Calls IntKind.wrap Int.decLt Int.decLe
theorem jG (xb mb : Nat) (t : T) (u : Value) (hu : u.oneCell' = true) (c : Bool) (e : Int) (s : ES) (μ : Mem) :
    CEs 89 [.pointer (some ⟨xb, 0, none⟩), .agg (aD t u).toArray, .int .i64 e, .bool c] xb mb s (dN c t.at' e s) μ := by
  intro w fs hμ hR hO
  have hcnt := bG hO.diff
  have hR2 : ∀ μ', MLe μ μ' → ER μ' fs (dN c t.at' e s) := fun μ' hle => ⟨by rw [oL]; exact hR.1, (hR.mono hle).2⟩
  generalize hs' : dN c t.at' e s = s' at hR2 ⊢
  unfold EB at hO hcnt
  show Calls _ _ _ _ (fun e w' => ∃ (v : Value) (μ' : Mem) (i : List FR), e = .returned v ∧ fY (eS (.inl ⟨xb, 87, 4, [(0, .map (some mb)), (1, .int .i64 (s.regs : Int)), (2, .int .i64 s.at'), (3, .int .i64 s.e)]⟩ :: .mp ⟨mb, mkD fs 0, fs.length⟩ :: fV fs)) w w' μ (EB xb mb s' i) μ' ∧ ER μ' i s')
  refine aS (args := [.pointer (some ⟨xb, 0, none⟩), .agg (aD t u).toArray, .int .i64 e, .bool c]) Tryz.func89 rfl Tryz.ntmps89 (by simp) hμ hO ?_
  by_cases hc : c = true
  · subst hc
    by_cases he : s.e = 0
    · have h2 : s' = { s with at' := t.at', e := e } := by rw [← hs', dN, if_pos ⟨rfl, he⟩]
      subst h2
      repeat' (first | refine KK ?_ | refine NB fun b => ?_ | fail)
      all_goals try (exfalso; first | fail)
      refine DF (l' := []) (L' := EB xb mb { s with at' := t.at', e := e } fs) PU (by unfold EB; exact bH (.cells PU) (bH (.refl _) (aO _ (bV _)))) ?_
      exact pD 0 fs (.inr rfl) hcnt rfl rfl rfl (fun μ' _ hle => hR2 μ' hle)
    · have h2 : s' = s := by rw [← hs', dN, if_neg (fun h => he h.2)]
      subst h2
      repeat' (first | refine KK ?_ | refine NB fun b => ?_ | fail)
      all_goals try (exfalso; first | fail)
      refine DF (l' := []) (L' := EB xb mb s' fs) PU (by unfold EB; exact bH (.cells PU) (bH (.refl _) (aO _ (bV _)))) ?_
      exact pD 0 fs (.inr rfl) hcnt rfl rfl rfl (fun μ' _ hle => hR2 μ' hle)
  · have h2 : s' = s := by rw [← hs', dN, if_neg (fun h => hc h.1)]
    subst h2
    have hcf : c = false := by simpa using hc
    subst hcf
    repeat' (first | refine KK ?_ | refine NB fun b => ?_ | fail)
    all_goals try (exfalso; first | fail)
    refine DF (l' := []) (L' := EB xb mb s' fs) PU (by unfold EB; exact bH (.cells PU) (bH (.refl _) (aO _ (bV _)))) ?_
    exact pD 0 fs (.inr rfl) hcnt rfl rfl rfl (fun μ' _ hle => hR2 μ' hle)
end Go.Proofs.YtocidaibmadekaaGreatDoor
namespace Go.Vcg
open Go.RowKit
section
variable {P : Program} {X : Ctx} {μ : Mem} {l : aI} {L : List Bk}
variable {ty : TypeId} {pos : String} {af : Array Edge} {gd : Option (Nat × Bool)} {ds : Option Nat}
theorem aA9 {p q : Operand} {t t2 : TypeId} {k : IntKind} {x y : Int} (hx0 : ev l p = some (.int k x)) (hx1 : ev l q = some (.int k y)) : Val P μ l L ⟨ds, .binOp .and t p q t2, ty, pos, af, gd⟩ (.int k (k.wrap ((BitVec.ofInt k.bits x &&& BitVec.ofInt k.bits y).toNat : Int))) :=
  fun a w hs => by have e0 := hs.eval hx0; have e1 := hs.eval hx1; generalize a.eval = ρ at e0 e1; simp [execOp, e0, e1, eqGuard, binOp, Op.intBits]
end
end Go.Vcg
namespace Go.Proofs.YtocidaibmadekaaGreatDoor
open Go.RowKit Go.Vcg
theorem RO {P : Program} {μ : Mem} {l : aI} {L : List Bk} {ty : TypeId} {pos : String} {af : Array Edge} {gd : Option (Nat × Bool)} {ds : Option Nat} {p q : Operand} {t t2 : TypeId} {x y : Int} (hx0 : ev l p = some (.int .i64 x)) (hx1 : ev l q = some (.int .i64 y)) : Val P μ l L ⟨ds, .binOp .and t p q t2, ty, pos, af, gd⟩ (.int .i64 (anI x y)) := aA9 hx0 hx1
theorem US : ∀ l : List Int, (l.flatMap KT).length = l.length
  | [] => rfl
  | x :: r => by
    have := US r
    simp only [List.flatMap_cons, List.length_append, List.length_cons, List.length_nil, this]
    omega
theorem BJ : ∀ l : List ByteArray, (l.flatMap gA).length = l.length
  | [] => rfl
  | x :: r => by
    have := BJ r
    simp only [List.flatMap_cons, List.length_append, List.length_cons, List.length_nil, this]
    omega
theorem SX (l : List Int) : ∀ u ∈ l.flatMap KT, u.oneCell' = true := fun u hu => by
  obtain ⟨b, -, hb⟩ := List.mem_flatMap.1 hu
  simp at hb
  subst hb
  rfl
theorem xR (l : List ByteArray) : ∀ u ∈ l.flatMap gA, u.oneCell' = true := fun u hu => by
  obtain ⟨b, -, hb⟩ := List.mem_flatMap.1 hu
  simp at hb
  subst hb
  rfl
attribute [local irreducible] anI EB fV mkD G GC GQ GA bX Calls IntKind.wrap Int.decLt Int.decLe
theorem HV (n k : Int) (w : World) (μ : Mem) (hμ : MOk μ w) : Calls Tryz.prog 134 #[.int .i64 n, .int .i64 k] w fun e w' => e = .returned (.bool (jK n k)) ∧ Below w.heap.size w w' := by
  have hb : jK n k = (decide (0 ≤ n) && decide (anI n k ≠ 0)) := rfl
  refine aA (args := [.int .i64 n, .int .i64 k]) Tryz.func134 rfl Tryz.ntmps134 (by simp) hμ ?_
  repeat' (first | refine KO ?_ | (refine KV (b := by ((with_reducible apply RO); exact rfl; exact rfl)) (c := ?_)) | ((refine KB ?_ ?_ <;> intro hp)) | refine KG ?_ | fail)
  all_goals refine aB rfl rfl (congrArg _ ?_)
  all_goals rw [hb]
  all_goals first | (simp_all; done) | (simp_all; intro; omega)
theorem DW (w : World) (μ : Mem) (hμ : MOk μ w) (l : List Int) (v : Value) (hv : IsV μ v l) (hl : l.length ≤ 1000000) : Calls Tryz.prog 137 #[v] w (mV w 3 1 l.length (l.flatMap KT)) := by
  obtain ⟨A, c, rfl, hS, hcap⟩ := hv
  refine aA (args := [.slice A l.length c]) Tryz.func137 rfl Tryz.ntmps137 (by simp) hμ ?_
  have h1 := SX l
  have h2 := US l
  cases A with
  | none =>
    have h0 : l = [] := by
      cases l with
      | nil => rfl
      | cons x r =>
        obtain ⟨a, e, _⟩ := hS.2 (by simp)
        cases e
    subst h0
    repeat' (first | refine KO ?_ | (refine KV (b := by ((with_reducible apply wD); exact rfl; exact rfl)) (c := ?_)) | fail)
    exact BD 3 1 (nU 0 rfl rfl rfl)
  | some ad =>
    repeat' (first | ((with_reducible apply UI 1)) | refine KO ?_ | (((with_reducible apply oG); (iterate 3 exact rfl); (repeat with_reducible exact dT); (iterate 6 exact rfl); (((with_reducible apply IK); exact rfl; exact hS; simp)); (omega); (assumption); omega; omega; intro v)) | (refine KV (b := by ((with_reducible apply wD); exact rfl; exact rfl)) (c := ?_)) | refine NB fun b => ?_ | fail)
    simp only [Nat.zero_add, List.nil_append]
    exact nU 0 rfl rfl rfl
theorem qV (w : World) (μ : Mem) (hμ : MOk μ w) (l : List ByteArray) (v : Value) (hv : SsV μ v l) (hl : l.length ≤ 1000000) : Calls Tryz.prog 91 #[v] w (mV w 9 1 l.length (l.flatMap gA)) := by
  obtain ⟨A, c, rfl, hS, hcap⟩ := hv
  refine aA (args := [.slice A l.length c]) Tryz.func91 rfl Tryz.ntmps91 (by simp) hμ ?_
  have h1 := xR l
  have h2 : (l.flatMap gA).length = l.length := BJ l
  cases A with
  | none =>
    have h0 : l = [] := by
      cases l with
      | nil => rfl
      | cons x r =>
        obtain ⟨a, e, _⟩ := hS.2 (by simp)
        cases e
    subst h0
    repeat' (first | refine KO ?_ | (refine KV (b := by ((with_reducible apply wD); exact rfl; exact rfl)) (c := ?_)) | fail)
    exact BD 9 1 (nU 0 rfl rfl rfl)
  | some ad =>
    repeat' (first | ((with_reducible apply UI 1)) | refine KO ?_ | (((with_reducible apply oG); (iterate 3 exact rfl); (repeat with_reducible exact dT); (iterate 6 exact rfl); (((with_reducible apply IK); exact rfl; exact hS; simp)); (omega); (assumption); omega; omega; intro v)) | (refine KV (b := by ((with_reducible apply wD); exact rfl; exact rfl)) (c := ?_)) | refine NB fun b => ?_ | fail)
    simp only [Nat.zero_add, List.nil_append]
    exact nU 0 rfl rfl rfl
theorem uK (μ : Mem) (p : EP) (pv : Value) (hp : PV μ p pv) (hne : 0 < p.regs.length) (hb : p.regs.length ≤ 1000000) : ∃ v, IsV μ v (gW p) ∧ ∀ (w : World) (μ' : Mem), MOk μ' w → MLe μ μ' → Calls Tryz.prog 85 #[pv] w fun e w' => e = .returned v ∧ Below w.heap.size w w' := by
  obtain ⟨r, lb, lo, mi, rfl, hr, h2, h3, h4⟩ := hp
  have o2 := h2.one
  have o3 := h3.one
  have o4 := h4.one
  obtain ⟨A, c, rfl, hS, hcap⟩ := hr
  refine ⟨.slice (if c = p.regs.length - 1 then A else A.map (·.add ((p.regs.length - 1) * 1))) (p.regs.length - (p.regs.length - 1)) (c - (p.regs.length - 1)), ⟨_, _, by rw [gW, List.length_drop], by rw [gW, List.length_drop]; exact hS.drop (by omega) hcap, by rw [gW, List.length_drop]; omega⟩, fun w μ' hw hle => ?_⟩
  refine aA (args := [.agg (cY p (.slice A p.regs.length c) lb lo mi).toArray]) Tryz.func85 rfl Tryz.ntmps85 (by simp) hw ?_
  repeat' (first | refine KO ?_ | (refine KV (b := by ((with_reducible apply eE (p.regs.length - 1)); (iterate 4 exact rfl); (omega); omega)) (c := ?_)) | refine KI ?_ | refine NB fun b => ?_ | fail)
  exact aB rfl rfl rfl
end Go.Proofs.YtocidaibmadekaaGreatDoor
namespace Go.Proofs.YtocidaibmadekaaGreatDoor
open Go.RowKit Go.Vcg
inductive Sm : T → T → Prop
  | mk (a b : T) (h1 : a.op = b.op) (h2 : a.n = b.n) (h3 : a.m = b.m) (h4 : a.s = b.s) (h5 : a.kids.length = b.kids.length) (h6 : ∀ (i : Nat) (x y : T), a.kids[i]? = some x → b.kids[i]? = some y → Sm x y) : Sm a b
def SmL (l m : List T) : Prop := l.length = m.length ∧ ∀ (i : Nat) (x y : T), l[i]? = some x → m[i]? = some y → Sm x y
noncomputable def dB (p : Prop) : Bool := @decide p (Classical.propDecidable p)
theorem VR {p : Prop} (h : p) : dB p = true := @decide_eq_true p (Classical.propDecidable p) h
theorem VS {p : Prop} (h : ¬p) : dB p = false := @decide_eq_false p (Classical.propDecidable p) h
theorem NQ {p : Prop} (h : dB p = true) : p := @of_decide_eq_true p (Classical.propDecidable p) h
theorem HQ {p : Prop} (h : dB p = false) : ¬p := @of_decide_eq_false p (Classical.propDecidable p) h
noncomputable def smB (a b : T) : Bool := dB (Sm a b)
noncomputable def aE6 (l m : List T) : Bool := dB (SmL l m)
theorem T.YN {p : T → Prop} (h : ∀ t : T, (∀ k, k ∈ t.kids → p k) → p t) (t : T) : p t := by
  have key : ∀ (n : Nat) (t : T), t.size ≤ n → p t := by
    intro n
    induction n with
    | zero => intro t ht; rw [T.size_eq] at ht; omega
    | succ n ih =>
      intro t ht
      refine h t fun k hk => ih k ?_
      obtain ⟨i, hi⟩ := List.mem_iff_getElem?.1 hk
      have := T.dH hi
      omega
  exact key t.size t (Nat.le_refl _)
theorem bK (t : T) : t.kids.length < t.size := by
  rw [T.size_eq]
  have : ∀ l : List T, l.length ≤ (l.map T.size).sum := fun l => by
    induction l with
    | nil => simp
    | cons x l ih =>
      have := T.size_eq x
      simp; omega
  have := this t.kids
  omega
attribute [local irreducible] smB aE6 G GC GQ GA bX Calls IntKind.wrap Int.decLt Int.decLe
end Go.Proofs.YtocidaibmadekaaGreatDoor
namespace Go.Vcg
open Go.RowKit
def GI (P : Program) (F : Fence) (n : Nat) (X : Ctx) (ops : Array Oper) (Q : Exit → Act → World → Prop) (rest : List Oper) (μ : Mem) (l : aI) (L : List Bk) : Prop :=
  ∀ a w, St X μ l L a w → wpListIn F n P ops Q rest a w
end Go.Vcg
namespace Go.Proofs.YtocidaibmadekaaGreatDoor
open Go.RowKit Go.Vcg Go.Shelf
def kL : List (List UInt8) := [
  [],
  [80, 114, 111, 103, 114, 97, 109],
  [86, 97, 114],
  [68, 101, 99, 108],
  [70, 117, 110, 99],
  [80, 97, 114, 97, 109, 115],
  [66, 108, 111, 99, 107],
  [69, 109, 112, 116, 121],
  [69, 120, 112, 114],
  [73, 102],
  [70, 111, 114],
  [70, 111, 114, 73, 110],
  [70, 111, 114, 79, 102],
  [87, 104, 105, 108, 101],
  [68, 111],
  [66, 114, 101, 97, 107],
  [67, 111, 110, 116, 105, 110, 117, 101],
  [82, 101, 116, 117, 114, 110],
  [84, 104, 114, 111, 119],
  [84, 114, 121],
  [67, 97, 116, 99, 104],
  [83, 119, 105, 116, 99, 104],
  [67, 97, 115, 101],
  [76, 97, 98, 101, 108],
  [],
  [],
  [],
  [],
  [],
  [],
  [78, 117, 109],
  [84, 101, 120, 116],
  [66, 111, 111, 108],
  [78, 117, 108, 108],
  [78, 97, 109, 101],
  [84, 104, 105, 115],
  [84, 101, 109, 112, 108, 97, 116, 101],
  [65, 114, 114, 97, 121],
  [79, 98, 106, 101, 99, 116],
  [80, 114, 111, 112],
  [72, 111, 108, 101],
  [83, 112, 114, 101, 97, 100],
  [85, 110, 97, 114, 121],
  [85, 112, 100, 97, 116, 101],
  [66, 105, 110, 97, 114, 121],
  [76, 111, 103, 105, 99],
  [65, 115, 115, 105, 103, 110],
  [67, 111, 110, 100],
  [83, 101, 113],
  [67, 97, 108, 108],
  [78, 101, 119],
  [68, 111, 116],
  [73, 110, 100, 101, 120],
  [67, 104, 97, 105, 110],
  [89, 105, 101, 108, 100],
  [],
  [],
  [],
  [],
  [],
  [65, 114, 114, 80, 97, 116],
  [79, 98, 106, 80, 97, 116],
  [80, 97, 116, 80, 114, 111, 112],
  [68, 101, 102, 97, 117, 108, 116],
  [82, 101, 115, 116]]
def mM (op : Int) : List UInt8 := if 0 ≤ op then kL.getD op.toNat [] else []
theorem xU {op : Int} (h : op < 0 ∨ 65 ≤ op) : mM op = [] := by
  unfold mM
  split
  · have : kL.length = 65 := rfl
    rw [List.getD_eq_getElem?_getD, List.getElem?_eq_none (by omega)]
    rfl
  · rfl
theorem TD {k : Nat} {l : List UInt8} (h : kL[k]? = some l) : mM (k : Int) = l := by
  unfold mM
  rw [if_pos (by omega), Int.toNat_natCast, List.getD_eq_getElem?_getD, h]
  rfl
theorem OU {op : Int} (h : op = 0 ∨ op = 24 ∨ op = 25 ∨ op = 26 ∨ op = 27 ∨ op = 28 ∨ op = 29 ∨ op = 55 ∨ op = 56 ∨ op = 57 ∨ op = 58 ∨ op = 59) : mM op = [] := by
  rcases h with rfl | rfl | rfl | rfl | rfl | rfl | rfl | rfl | rfl | rfl | rfl | rfl <;> rfl
abbrev KU (l : List UInt8) : List Value := [.string ⟨l.toArray⟩]
theorem JZ {μ : Mem} {w : World} (hμ : MOk μ w) (o : Obj) : ∃ μ', oM w (w.alloc o) μ μ' ∧ μ' w.heap.size = some o := by
  have hn : ∀ b, w.heap.size ≤ b → μ b = none := fun b hb => by
    cases h : μ b with
    | none => rfl
    | some x =>
      have := (Array.getElem?_eq_some_iff.1 (hμ b x h)).1
      omega
  refine ⟨fun b => if b = w.heap.size then some o else μ b, ⟨(Below.refl _ w).alloc (Nat.le_refl _) _, fun b x e => ?_, fun b x e => ?_, fun b hb h0 => ?_⟩, by simp⟩
  · have : b ≠ w.heap.size := fun e' => by rw [e', hn _ (Nat.le_refl _)] at e; cases e
    simp [this, e]
  · by_cases hb : b = w.heap.size
    · subst hb
      simp at e
      subst e
      exact World.alloc_heap_new w _
    · simp [hb] at e
      have := hμ b x e
      rw [Below.heap_alloc _ _ _ (Array.getElem?_eq_some_iff.1 this).1]
      exact this
  · have : b ≠ w.heap.size := by omega
    simp [this, h0]
def LR (ws : List (List UInt8)) (μ : Mem) (v : Value) : Prop := ∃ b, v = .slice (some ⟨b, 0, none⟩) ws.length ws.length ∧ Sl KU 1 μ (some ⟨b, 0, none⟩) ws.length ws
def kX (μ : Mem) : Prop := ∀ w, MOk μ w → Lib.TabIs Tryz.prog w "strings.asciiSpace" .u8 Lib.asciiSpaceTab
theorem kX.mono {μ μ' : Mem} (h : kX μ) (hle : MLe μ μ') : kX μ' := fun w hw => h w (fun b o e => hw b o (hle b o e))
theorem mQ (s : ByteArray) (ws : List (List UInt8)) (hs : Nat.blt s.data.toList.length 4294967281 = true) (ha : s.data.toList.all (fun b => Nat.blt b.toNat 128) = true) (hf : Lib.fields s.data.toList = ws) (w : World) (μ : Mem) (hμ : MOk μ w) (hT : kX μ) :
    Calls Tryz.prog 145 #[.string s] w fun e w' => ∃ v μ', e = .returned v ∧ oM w w' μ μ' ∧ LR ws μ' v := by
  refine (Any.strings_Fields_laid Tryz.laysM157 s w (by have h := Nat.le_of_ble_eq_true hs; rw [Array.length_toList] at h; exact h) (fun j b hb => ?_) (hT w hμ)).mono fun e w' ⟨h1, h2⟩ => ?_
  · have := List.all_eq_true.1 ha b (List.mem_of_getElem? hb)
    exact Nat.le_of_ble_eq_true this
  · subst h2
    rw [hf] at h1 ⊢
    obtain ⟨μ', hg, hm⟩ := JZ hμ (.cells (ws.map fun l => Value.string ⟨l.toArray⟩).toArray (Tryz.laysM157_ren.t 9))
    refine ⟨_, μ', h1, hg, _, rfl, rfl, fun hp => ⟨_, rfl, fun i l hl j v hj => ?_⟩⟩
    match j, hj with
    | 0, hj =>
      simp at hj
      subst hj
      rw [iE, add_lit]
      exact ⟨_, _, _, hm, rfl, by simp [hl]⟩
    | j + 1, hj => simp at hj
attribute [local irreducible] G GC GQ GA bX Calls IntKind.wrap Int.decLt Int.decLe
theorem OT (op : Int) (hop : -9223372036854775808 ≤ op ∧ op ≤ 9223372036854775807) (w : World) (μ : Mem) (hμ : MOk μ w) (hT : kX μ) :
    Calls Tryz.prog 114 #[.int .i64 op] w fun e w' => e = .returned (.string ⟨(mM op).toArray⟩) ∧ Below w.heap.size w w' := by
  refine aA (args := [.int .i64 op]) Tryz.func114 rfl Tryz.ntmps114 (by simp) hμ ?_
  have key : ∀ (lo n : Nat) (ws : List (List UInt8)), (kL.drop lo).take n = ws → ∀ k : Nat, k < n → lo + n ≤ 65 → ∀ {μ' : Mem} {b : Nat}, Sl KU 1 μ' (some ⟨b, 0, none⟩) ws.length ws → cQ μ' ((⟨b, 0, none⟩ : Addr).add (k * 1)) [.string ⟨(mM ((lo + k : Nat) : Int)).toArray⟩] := by
    intro lo n ws h k hk hlo μ' b hS
    have hl : kL.length = 65 := rfl
    have hg : kL[lo + k]? = some kL[lo + k] := List.getElem?_eq_getElem (by omega)
    have hw : ws[k]? = some kL[lo + k] := by
      rw [← h, List.getElem?_take_of_lt hk, List.getElem?_drop, hg]
    obtain ⟨a, e, ha⟩ := hS.2 (by have := (List.getElem?_eq_some_iff.1 hw).1; omega)
    cases e
    rw [TD hg]
    exact ha k _ hw
  by_cases h1 : 1 ≤ op ∧ op ≤ 23
  · obtain ⟨k, rfl⟩ : ∃ k : Nat, op = ((1 + k : Nat) : Int) := ⟨(op - 1).toNat, by omega⟩
    repeat' (first | refine KO ?_ | ((with_reducible apply F2 145); exact rfl; exact EN; (exact fun w hw => mQ _ ((kL.drop 1).take 23) (by kernel_rfl) (by kernel_rfl) (by kernel_rfl) w _ hw hT); rintro v2 μ2 hle2 ⟨bf, rfl, hS⟩; (have hc := key 1 23 _ rfl k (by omega) (by omega) hS); (rw [show ((kL.drop 1).take 23).length = 23 from rfl])) | (refine KV (b := by first | exact U1 k | ((with_reducible apply eC); exact rfl; exact rfl; exact hc.at 0 rfl)) (c := ?_)) | refine KI ?_ | refine KG ?_ | fail)
    exact xJ rfl (by exact bJ rfl) rfl
  by_cases h2 : 30 ≤ op ∧ op ≤ 54
  · obtain ⟨k, rfl⟩ : ∃ k : Nat, op = ((30 + k : Nat) : Int) := ⟨(op - 30).toNat, by omega⟩
    repeat' (first | refine KO ?_ | ((with_reducible apply F2 145); exact rfl; exact EN; (exact fun w hw => mQ _ ((kL.drop 30).take 25) (by kernel_rfl) (by kernel_rfl) (by kernel_rfl) w _ hw hT); rintro v2 μ2 hle2 ⟨bf, rfl, hS⟩; (have hc := key 30 25 _ rfl k (by omega) (by omega) hS); (rw [show ((kL.drop 30).take 25).length = 25 from rfl])) | (refine KV (b := by first | exact U1 k | ((with_reducible apply eC); exact rfl; exact rfl; exact hc.at 0 rfl)) (c := ?_)) | refine KI ?_ | refine KG ?_ | fail)
    exact xJ rfl (by exact bJ rfl) rfl
  by_cases h3 : 60 ≤ op ∧ op ≤ 64
  · obtain ⟨k, rfl⟩ : ∃ k : Nat, op = ((60 + k : Nat) : Int) := ⟨(op - 60).toNat, by omega⟩
    repeat' (first | refine KO ?_ | ((with_reducible apply F2 145); exact rfl; exact EN; (exact fun w hw => mQ _ ((kL.drop 60).take 5) (by kernel_rfl) (by kernel_rfl) (by kernel_rfl) w _ hw hT); rintro v2 μ2 hle2 ⟨bf, rfl, hS⟩; (have hc := key 60 5 _ rfl k (by omega) (by omega) hS); (rw [show ((kL.drop 60).take 5).length = 5 from rfl])) | (refine KV (b := by first | exact U1 k | ((with_reducible apply eC); exact rfl; exact rfl; exact hc.at 0 rfl)) (c := ?_)) | refine KI ?_ | refine KG ?_ | fail)
    exact xJ rfl (by exact bJ rfl) rfl
  have hF : mM op = [] := by
    by_cases h0 : op < 0 ∨ 65 ≤ op
    · exact xU h0
    · exact OU (by omega)
  rw [hF]
  repeat' (first | refine KK ?_ | ((refine KB ?_ ?_ <;> intro hp)) | refine KG ?_ | fail)
  all_goals exact xJ rfl (by exact bJ rfl) rfl
end Go.Proofs.YtocidaibmadekaaGreatDoor
namespace Go.Proofs.YtocidaibmadekaaGreatDoor
open Go.RowKit Go.Vcg
theorem drop_cons {l : List UInt8} {i : Nat} {b : UInt8} (h : l[i]? = some b) : l.drop i = b :: l.drop (i + 1) := by
  obtain ⟨hlt, e⟩ := List.getElem?_eq_some_iff.1 h
  rw [← e, List.getElem_cons_drop]
theorem NR {s : ByteArray} {i : Nat} (h : i < s.size) : ∃ b, (bl s)[i]? = some b ∧ bAt s i = b.toNat := by
  have h1 : i < (bl s).length := by rw [sK]; exact h
  have h2 : s.data.toList[i]? = some (bl s)[i] := List.getElem?_eq_getElem h1
  refine ⟨(bl s)[i], List.getElem?_eq_getElem h1, ?_⟩
  unfold bAt
  rw [h2]
  rfl
def EG (n : Nat) : Prop := 97 ≤ n ∧ n ≤ 122 ∨ 65 ≤ n ∧ n ≤ 90 ∨ n = 95 ∨ n = 36
instance (n : Nat) : Decidable (EG n) := by unfold EG; exact inferInstance
def HY (n : Nat) : Prop := 48 ≤ n ∧ n ≤ 57
instance (n : Nat) : Decidable (HY n) := by unfold HY; exact inferInstance
attribute [local irreducible] G GC GQ GA bX Calls IntKind.wrap Int.decLt Int.decLe
end Go.Proofs.YtocidaibmadekaaGreatDoor
namespace Go.Proofs.YtocidaibmadekaaGreatDoor
open Go.RowKit Go.Vcg
def aAc (x y : Int) : Int := IntKind.i64.wrap (BitVec.ofInt 64 x &&& BitVec.ofInt 64 y).toNat
theorem aBa {P : Program} {μ : Mem} {l : aI} {L : List Bk} {ds : Option Nat} {ty : TypeId} {pos : String} {af : Array Edge} {gd : Option (Nat × Bool)} {p q : Operand} {t t2 : TypeId} {x y : Int} (hx0 : ev l p = some (.int .i64 x)) (hx1 : ev l q = some (.int .i64 y)) : Val P μ l L ⟨ds, .binOp .and t p q t2, ty, pos, af, gd⟩ (.int .i64 (aAc x y)) :=
  fun a w hs => by have e0 := hs.eval hx0; have e1 := hs.eval hx1; generalize a.eval = ρ at e0 e1; simp [execOp, e0, e1, eqGuard, binOp, Op.intBits]; rfl
def cL (t : T) (m : Int) : Bool := decide (t.op = 4) && decide (aAc t.n m ≠ 0)
def dS (t : T) : Bool := decide (t.op = 34) || (decide (t.op = 51) || decide (t.op = 52)) && decide (t.n = 0)
def aV (t : T) : Bool := dS t || decide (t.op = 60) || decide (t.op = 61)
def cW (t : T) : Bool := decide (t.op = 49) || decide (t.op = 51) || decide (t.op = 52)
def cB (t : T) : Bool := if t.op = 4 then cL t 1 else decide (t.op = 2) || decide (t.op = 21) || decide (t.op = 23) || decide (6 ≤ t.op) && decide (t.op ≤ 19)
def aK (t : T) : Bool := if t.op = 4 then !cL t 57 else decide (30 ≤ t.op) && decide (t.op ≤ 38) || decide (42 ≤ t.op) && decide (t.op ≤ 54)
def wA (t : T) (n : Nat) : Bool := match t.kids with | k :: _ => decide (k.kids.length = n) | [] => false
def nK (t : T) : Bool := aV t || decide (t.op = 2) && decide (t.kids.length = 1) && wA t 1
def uL (t : T) : Bool := cL t 16 && wA t 0
def vW (t : T) : Bool := match t.kids with | k :: _ => (match k.kids with | [x] => decide (x.op ≠ 64) | _ => false) | [] => false
def rU (t : T) : Bool := cL t 32 && vW t
def rF (t : T) : Bool := cL t 8
def pH (i : Nat) (c : UInt8) : Prop := EG c.toNat ∨ i ≠ 0 ∧ HY c.toNat
def UP (l : List UInt8) : Prop := l ≠ [] ∧ ∀ (i : Nat) (c : UInt8), l[i]? = some c → pH i c
noncomputable def eK (s : ByteArray) : Bool := dB (UP (bl s))
noncomputable def iJ (t : T) : Bool := decide (t.op = 31) && eK t.s
theorem DM {s : ByteArray} (h : UP (bl s)) : eK s = true := by unfold eK; exact VR h
theorem wN {s : ByteArray} (h : ¬UP (bl s)) : eK s = false := by unfold eK; exact VS h
def kT (f : FuncId) (p : T → Bool) : Prop := ∀ (t : T) (u : Value) (w : World) (μ : Mem), MOk μ w → KR μ t.kids u → t.size ≤ 100000 → t.s.size ≤ 65536 →
  Calls Tryz.prog f #[.agg (aD t u).toArray] w fun e w' => e = .returned (.bool (p t)) ∧ Below w.heap.size w w'
attribute [local irreducible] aAc eK G GC GQ GA bX Calls IntKind.wrap Int.decLt Int.decLe
theorem iN (m : Int) : ∀ (t : T) (u : Value) (w : World) (μ : Mem), MOk μ w → KR μ t.kids u → t.size ≤ 100000 →
    Calls Tryz.prog 147 #[.agg (aD t u).toArray, .int .i64 m] w fun e w' => e = .returned (.bool (cL t m)) ∧ Below w.heap.size w w' := by
  intro t u w μ hμ hk hs
  have ho := hk.one
  refine aA (args := [.agg (aD t u).toArray, .int .i64 m]) Tryz.func147 rfl Tryz.ntmps147 (by simp) hμ ?_
  repeat' (first | refine KO ?_ | (refine KV (b := by ((with_reducible apply aBa); exact rfl; exact rfl)) (c := ?_)) | refine KI ?_ | refine NB fun b => ?_ | ((refine KB ?_ ?_ <;> intro hp)) | refine KG ?_ | fail)
  all_goals (refine aB rfl rfl ?_; simp_all [cL]; try omega)
theorem uX : kT 126 dS := by
  intro t u w μ hμ hk hs hss
  have ho := hk.one
  refine aA (args := [.agg (aD t u).toArray]) Tryz.func126 rfl Tryz.ntmps126 (by simp) hμ ?_
  repeat' (first | refine KK ?_ | refine NB fun b => ?_ | ((refine KB ?_ ?_ <;> intro hp)) | refine KG ?_ | fail)
  all_goals (refine aB rfl rfl ?_; simp_all [dS]; try omega)
theorem uV : kT 127 aV := by
  intro t u w μ hμ hk hs hss
  have ho := hk.one
  refine aA (args := [.agg (aD t u).toArray]) Tryz.func127 rfl Tryz.ntmps127 (by simp) hμ ?_
  repeat' (first | refine KO ?_ | ((with_reducible apply F1 126); exact rfl; exact EN; (exact fun w μc hw hse => uX t u w μc hw (hk.mono hse.le) hs hss)) | refine KI ?_ | refine NB fun b => ?_ | ((refine KB ?_ ?_ <;> intro hp)) | refine KG ?_ | fail)
  all_goals (refine aB rfl rfl ?_; simp_all [aV]; try omega)
theorem nI : kT 78 cW := by
  intro t u w μ hμ hk hs hss
  have ho := hk.one
  refine aA (args := [.agg (aD t u).toArray]) Tryz.func78 rfl Tryz.ntmps78 (by simp) hμ ?_
  repeat' (first | refine KK ?_ | refine NB fun b => ?_ | ((refine KB ?_ ?_ <;> intro hp)) | refine KG ?_ | fail)
  all_goals (refine aB rfl rfl ?_; simp_all [cW]; try omega)
theorem wW : kT 131 cB := by
  intro t u w μ hμ hk hs hss
  have ho := hk.one
  refine aA (args := [.agg (aD t u).toArray]) Tryz.func131 rfl Tryz.ntmps131 (by simp) hμ ?_
  repeat' (first | refine KO ?_ | ((with_reducible apply F1 147); exact rfl; exact EN; (exact fun w μc hw hse => iN 1 t u w μc hw (hk.mono hse.le) hs)) | refine KI ?_ | refine NB fun b => ?_ | ((refine KB ?_ ?_ <;> intro hp)) | refine KG ?_ | fail)
  all_goals (refine aB rfl rfl ?_; simp_all [cB]; try omega)
theorem kV : kT 121 aK := by
  intro t u w μ hμ hk hs hss
  have ho := hk.one
  refine aA (args := [.agg (aD t u).toArray]) Tryz.func121 rfl Tryz.ntmps121 (by simp) hμ ?_
  repeat' (first | refine KO ?_ | ((with_reducible apply F1 147); exact rfl; exact EN; (exact fun w μc hw hse => iN 57 t u w μc hw (hk.mono hse.le) hs)) | refine KI ?_ | refine NB fun b => ?_ | ((refine KB ?_ ?_ <;> intro hp)) | refine KG ?_ | fail)
  all_goals (refine aB rfl rfl ?_; simp_all [aK]; try omega)
theorem GB : kT 159 rF := by
  intro t u w μ hμ hk hs hss
  have ho := hk.one
  refine aA (args := [.agg (aD t u).toArray]) Tryz.func159 rfl Tryz.ntmps159 (by simp) hμ ?_
  repeat' (first | refine KO ?_ | ((with_reducible apply F1 147); exact rfl; exact EN; (exact fun w μc hw hse => iN 8 t u w μc hw (hk.mono hse.le) hs)) | refine KI ?_ | refine NB fun b => ?_ | fail)
  all_goals (refine aB rfl rfl ?_; simp_all [rF]; try omega)
theorem GH {t : T} {n : Nat} (h : t.kids = []) : wA t n = false := by unfold wA; rw [h]
theorem qO {t k : T} {r : List T} {n : Nat} (h : t.kids = k :: r) : wA t n = decide (k.kids.length = n) := by unfold wA; rw [h]
theorem HA : kT 157 uL := by
  intro t u w μ hμ hk hs hss
  have ho := hk.one
  obtain ⟨A, c, rfl, hlc, hkid⟩ := hk.form
  have hlen := bK t
  refine aA (args := [.agg (aD t (.slice A t.kids.length c)).toArray]) Tryz.func157 rfl Tryz.ntmps157 (by simp) hμ ?_
  have hh : ∀ (w : World) (μc : Mem), MOk μc w → MLe μ μc → Calls Tryz.prog 147 #[.agg (aD t (.slice A t.kids.length c)).toArray, .int .i64 16] w fun e w' => e = .returned (.bool (cL t 16)) ∧ Below w.heap.size w w' := fun w μc hw hle => iN 16 t _ w μc hw (hk.mono hle) hs
  by_cases h0 : t.kids.length = 0
  · have hg : uL t = false := by
      unfold uL
      rw [GH (List.eq_nil_of_length_eq_zero h0), Bool.and_false]
    rw [hg]
    repeat' (first | refine KO ?_ | ((with_reducible apply F1 147); exact rfl; exact EN; (exact fun w μc hw hse => hh w μc hw hse.le)) | refine KI ?_ | refine NB fun b => ?_ | ((refine KB ?_ ?_ <;> intro hp)) | refine KG ?_ | fail)
    all_goals (refine aB rfl rfl ?_; simp_all)
  · obtain ⟨k, r, hkr⟩ := List.exists_cons_of_ne_nil (l := t.kids) (by intro e; rw [e] at h0; exact h0 rfl)
    obtain ⟨ad, x, rfl, hm, hox, hkx⟩ := hkid 0 k (by rw [hkr]; rfl)
    obtain ⟨A2, c2, rfl, hlc2, -⟩ := hkx.form
    have hsz := T.dH (t := t) (i := 0) (k := k) (by rw [hkr]; rfl)
    have hlk := bK k
    have hg : uL t = (cL t 16 && decide (k.kids.length = 0)) := by
      unfold uL
      rw [qO hkr]
    rw [hg]
    repeat' (first | refine KO ?_ | ((with_reducible apply F1 147); exact rfl; exact EN; (exact fun w μc hw hse => hh w μc hw hse.le)) | (refine KV (b := by first | exact U1 0 | exact U4 hm) (c := ?_)) | refine KI ?_ | refine NB fun b => ?_ | ((refine KB ?_ ?_ <;> intro hp)) | refine KG ?_ | fail)
    all_goals (refine aB rfl rfl ?_; simp_all)
theorem EW {t : T} (h : t.kids = []) : vW t = false := by unfold vW; rw [h]
theorem LZ {t k : T} {r : List T} (h : t.kids = k :: r) (hk : k.kids.length ≠ 1) : vW t = false := by
  unfold vW
  rw [h]
  match hm : k.kids with
  | [] => simp [hm]
  | [x] => rw [hm] at hk; exact absurd rfl hk
  | _ :: _ :: _ => simp [hm]
theorem EV {t k x : T} {r : List T} (h : t.kids = k :: r) (hk : k.kids = [x]) : vW t = decide (x.op ≠ 64) := by
  unfold vW
  rw [h]
  simp only [hk]
theorem EU : kT 158 rU := by
  intro t u w μ hμ hk hs hss
  have ho := hk.one
  obtain ⟨A, c, rfl, hlc, hkid⟩ := hk.form
  have hlen := bK t
  refine aA (args := [.agg (aD t (.slice A t.kids.length c)).toArray]) Tryz.func158 rfl Tryz.ntmps158 (by simp) hμ ?_
  have hh : ∀ (w : World) (μc : Mem), MOk μc w → MLe μ μc → Calls Tryz.prog 147 #[.agg (aD t (.slice A t.kids.length c)).toArray, .int .i64 32] w fun e w' => e = .returned (.bool (cL t 32)) ∧ Below w.heap.size w w' := fun w μc hw hle => iN 32 t _ w μc hw (hk.mono hle) hs
  by_cases h0 : t.kids.length = 0
  · have hg : rU t = false := by
      unfold rU
      rw [EW (List.eq_nil_of_length_eq_zero h0), Bool.and_false]
    rw [hg]
    repeat' (first | refine KO ?_ | ((with_reducible apply F1 147); exact rfl; exact EN; (exact fun w μc hw hse => hh w μc hw hse.le)) | refine KI ?_ | refine NB fun b => ?_ | ((refine KB ?_ ?_ <;> intro hp)) | refine KG ?_ | fail)
    all_goals (refine aB rfl rfl ?_; simp_all)
  · obtain ⟨k, r, hkr⟩ := List.exists_cons_of_ne_nil (l := t.kids) (by intro e; rw [e] at h0; exact h0 rfl)
    obtain ⟨ad, x, rfl, hm, hox, hkx⟩ := hkid 0 k (by rw [hkr]; rfl)
    obtain ⟨A2, c2, rfl, hlc2, hkid2⟩ := hkx.form
    have hsz := T.dH (t := t) (i := 0) (k := k) (by rw [hkr]; rfl)
    have hlk := bK k
    by_cases h1 : k.kids.length = 1
    · obtain ⟨y, hy⟩ := List.length_eq_one_iff.1 h1
      obtain ⟨ad2, x2, rfl, hm2, hox2, hkx2⟩ := hkid2 0 y (by rw [hy]; rfl)
      have hg : rU t = (cL t 32 && decide (y.op ≠ 64)) := by
        unfold rU
        rw [EV hkr hy]
      rw [hg]
      repeat' (first | refine KO ?_ | ((with_reducible apply F1 147); exact rfl; exact EN; (exact fun w μc hw hse => hh w μc hw hse.le)) | (refine KV (b := by first | exact U1 0 | exact U4 hm | exact U4 hm2) (c := ?_)) | refine KI ?_ | refine NB fun b => ?_ | ((refine KB ?_ ?_ <;> intro hp)) | refine KG ?_ | fail)
      all_goals (refine aB rfl rfl ?_; simp_all)
    · have hg : rU t = false := by
        unfold rU
        rw [LZ hkr h1, Bool.and_false]
      rw [hg]
      repeat' (first | refine KO ?_ | ((with_reducible apply F1 147); exact rfl; exact EN; (exact fun w μc hw hse => hh w μc hw hse.le)) | (refine KV (b := by first | exact U1 0 | exact U4 hm) (c := ?_)) | refine KI ?_ | refine NB fun b => ?_ | ((refine KB ?_ ?_ <;> intro hp)) | refine KG ?_ | fail)
      all_goals (refine aB rfl rfl ?_; simp_all; try omega)
theorem PD : kT 133 nK := by
  intro t u w μ hμ hk hs hss
  have ho := hk.one
  obtain ⟨A, c, rfl, hlc, hkid⟩ := hk.form
  have hlen := bK t
  refine aA (args := [.agg (aD t (.slice A t.kids.length c)).toArray]) Tryz.func133 rfl Tryz.ntmps133 (by simp) hμ ?_
  have hh : ∀ (w : World) (μc : Mem), MOk μc w → MLe μ μc → Calls Tryz.prog 127 #[.agg (aD t (.slice A t.kids.length c)).toArray] w fun e w' => e = .returned (.bool (aV t)) ∧ Below w.heap.size w w' := fun w μc hw hle => uV t _ w μc hw (hk.mono hle) hs hss
  by_cases h0 : t.kids.length = 1
  · obtain ⟨k, hkr⟩ := List.length_eq_one_iff.1 h0
    obtain ⟨ad, x, rfl, hm, hox, hkx⟩ := hkid 0 k (by rw [hkr]; rfl)
    obtain ⟨A2, c2, rfl, hlc2, -⟩ := hkx.form
    have hsz := T.dH (t := t) (i := 0) (k := k) (by rw [hkr]; rfl)
    have hlk := bK k
    have hg : nK t = (aV t || decide (t.op = 2) && decide (k.kids.length = 1)) := by
      unfold nK
      rw [qO hkr, h0]
      simp
    rw [hg]
    repeat' (first | refine KO ?_ | ((with_reducible apply F1 127); exact rfl; exact EN; (exact fun w μc hw hse => hh w μc hw hse.le)) | (refine KV (b := by first | exact U1 0 | exact U4 hm) (c := ?_)) | refine KI ?_ | refine NB fun b => ?_ | ((refine KB ?_ ?_ <;> intro hp)) | refine KG ?_ | fail)
    all_goals (refine aB rfl rfl ?_; simp_all; try omega)
  · have hg : nK t = aV t := by
      unfold nK
      rw [decide_eq_false h0]
      simp
    rw [hg]
    repeat' (first | refine KO ?_ | ((with_reducible apply F1 127); exact rfl; exact EN; (exact fun w μc hw hse => hh w μc hw hse.le)) | refine KI ?_ | refine NB fun b => ?_ | ((refine KB ?_ ?_ <;> intro hp)) | refine KG ?_ | fail)
    all_goals (refine aB rfl rfl ?_; simp_all; try omega)
theorem uN (s : ByteArray) (hs : s.size ≤ 65536) (w : World) (μ : Mem) (hμ : MOk μ w) :
    Calls Tryz.prog 146 #[.string s] w fun e w' => e = .returned (.bool (eK s)) ∧ Below w.heap.size w w' := by
  refine aA (args := [.string s]) Tryz.func146 rfl Tryz.ntmps146 (by simp) hμ ?_
  repeat' (first | refine KK ?_ | fail)
  refine aX (ι := Nat) (fun i => i ≤ s.size ∧ ∀ (j : Nat) (c : UInt8), j < i → (bl s)[j]? = some c → pH j c) (fun i => s.size - i) (fun _ => μ) (fun i => [(8, .int .i64 i), (7, .int .i64 s.size), (0, .string s)]) (fun _ => []) 0 ⟨Nat.zero_le _, fun j _ h => absurd h (by omega)⟩ (fun a w hs => J6 hs) ?_
  rintro i ⟨hi, hok⟩
  by_cases hlt : i < s.size
  · obtain ⟨c, hc1, hc2⟩ := NR (s := s) (i := i) hlt
    have hcl := c.toNat_lt
    have hnext : pH i c → ∀ (j : Nat) (d : UInt8), j < i + 1 → (bl s)[j]? = some d → pH j d := fun h j d hj hd => by
      rcases Nat.lt_or_ge j i with h1 | h1
      · exact hok j d h1 hd
      · obtain rfl : j = i := by omega
        rw [hc1] at hd
        cases hd
        exact h
    have hbad : ¬pH i c → eK s = false := fun h => wN fun hf => h (hf.2 i c hc1)
    by_cases hk : pH i c
    · have hb := hnext hk
      unfold pH EG HY at hk
      repeat' (first | refine KO ?_ | (refine KV (b := by exact U2 i) (c := ?_)) | refine KI ?_ | ((refine KB ?_ ?_ <;> intro hp)) | refine KG ?_ | fail)
      all_goals first
        | exact J4 (i + 1) ⟨by omega, hb⟩ (by omega)
        | (exfalso; omega)
    · rw [hbad hk]
      unfold pH EG HY at hk
      repeat' (first | refine KO ?_ | (refine KV (b := by exact U2 i) (c := ?_)) | ((refine KB ?_ ?_ <;> intro hp)) | refine KG ?_ | fail)
      all_goals first
        | exact aB rfl rfl rfl
        | (exfalso; omega)
  · obtain rfl : i = s.size := by omega
    have hall : ∀ (j : Nat) (c : UInt8), (bl s)[j]? = some c → pH j c := fun j c hc => hok j c (by have := (List.getElem?_eq_some_iff.1 hc).1; rw [sK] at this; exact this) hc
    have hg : eK s = decide (s ≠ ⟨#[]⟩) := by
      by_cases h : s = ⟨#[]⟩
      · rw [wN fun hf => hf.1 (by rw [h]), h]
        simp
      · rw [DM ⟨fun e => h (LN e), hall⟩]
        simp [h]
    rw [hg]
    repeat' (first | refine KK ?_ | fail)
    exact aB rfl rfl rfl
theorem JK : kT 160 iJ := by
  intro t u w μ hμ hk hs hss
  have ho := hk.one
  refine aA (args := [.agg (aD t u).toArray]) Tryz.func160 rfl Tryz.ntmps160 (by simp) hμ ?_
  repeat' (first | refine KO ?_ | ((with_reducible apply F1 146); exact rfl; exact EN; (exact fun w μc hw hse => uN t.s hss w μc hw)) | refine KI ?_ | refine NB fun b => ?_ | ((refine KB ?_ ?_ <;> intro hp)) | refine KG ?_ | fail)
  all_goals (refine aB rfl rfl ?_; simp_all [iJ])
end Go.Proofs.YtocidaibmadekaaGreatDoor
namespace Go.Proofs.YtocidaibmadekaaGreatDoor
open Go.RowKit Go.Vcg
def Cls (μ : Mem) (v : Value) (p : T → Bool) : Prop := ∃ (f : FuncId) (cap : List Value), v = .func (.func f) #[] cap.toArray ∧ dI Tryz.prog f = true ∧ ∀ (t : T) (u : Value) (w : World) (μ' : Mem), MOk μ' w → MLe μ μ' → KR μ' t.kids u → t.size ≤ 100000 → t.s.size ≤ 65536 →
  Calls Tryz.prog f ([Value.agg (aD t u).toArray] ++ cap).toArray w fun e w' => e = .returned (.bool (p t)) ∧ Below w.heap.size w w'
theorem Cls.mono {μ μ' : Mem} {v : Value} {p : T → Bool} (h : Cls μ v p) (hle : MLe μ μ') : Cls μ' v p := by
  obtain ⟨f, cap, h1, h2, h3⟩ := h
  exact ⟨f, cap, h1, h2, fun t u w μ2 hw hl => h3 t u w μ2 hw (hle.trans hl)⟩
theorem Cls.of {f : FuncId} {p : T → Bool} (h : kT f p) (hf : dI Tryz.prog f = true) (μ : Mem) : Cls μ (.func (.func f) #[] #[]) p :=
  ⟨f, [], rfl, hf, fun t u w μ' hw _ hk hs hss => h t u w μ' hw hk hs hss⟩
abbrev NL (x : Int) : List Value := [.int .i64 x]
abbrev VM (v : Value) : List Value := [v]
def firstT (qs : List Bool) : Int := match qs.findIdx? id with | some i => i | none => -1
theorem lQ {qs : List Bool} {k : Nat} (h : qs[k]? = some true) (hn : ∀ (j : Nat) (q : Bool), j < k → qs[j]? = some q → q = false) : firstT qs = k := by
  have hlt := (List.getElem?_eq_some_iff.1 h).1
  have : qs.findIdx? id = some k := by
    rw [List.findIdx?_eq_some_iff_getElem]
    refine ⟨hlt, ?_, fun j hj => ?_⟩
    · have := (List.getElem?_eq_some_iff.1 h).2
      simp [this]
    · have := hn j _ hj (List.getElem?_eq_getElem (by omega))
      simp [this]
  unfold firstT
  rw [this]
theorem iT {qs : List Bool} (hn : ∀ (j : Nat) (q : Bool), qs[j]? = some q → q = false) : firstT qs = -1 := by
  have : qs.findIdx? id = none := by
    rw [List.findIdx?_eq_none_iff]
    intro x hx
    obtain ⟨i, hi⟩ := List.mem_iff_getElem?.1 hx
    exact hn i x hi
  unfold firstT
  rw [this]
theorem jY (qs : List Bool) : decide (0 ≤ firstT qs) = qs.any id := by
  unfold firstT
  cases h : qs.findIdx? id with
  | none =>
    rw [List.findIdx?_eq_none_iff] at h
    simp only [show ¬(0 : Int) ≤ -1 by omega, decide_false]
    symm
    rw [List.any_eq_false]
    intro x hx
    simpa using h x hx
  | some i =>
    rw [List.findIdx?_eq_some_iff_getElem] at h
    obtain ⟨h1, h2, -⟩ := h
    have : (0 : Int) ≤ (i : Int) := by omega
    simp only [this, decide_true]
    symm
    rw [List.any_eq_true]
    exact ⟨qs[i], List.getElem_mem h1, h2⟩
theorem aAb (is : List Int) (x : Int) : (is.map fun y => decide (x = y)).any id = decide (x ∈ is) := by
  induction is with
  | nil => rfl
  | cons y r ih => simp only [List.map_cons, List.any_cons, ih, id_eq, List.mem_cons, Bool.decide_or]
attribute [local irreducible] G GC GQ GA bX Calls IntKind.wrap Int.decLt Int.decLe
theorem index_spec (x : Int) (is : List Int) (A : Option Addr) (n c : Nat) (w : World) (μ : Mem) (hμ : MOk μ w) (hS : Sl NL 1 μ A n is) (hn : n ≤ 100000) :
    Calls Tryz.prog 172 #[.slice A n c, .int .i64 x] w fun e w' => e = .returned (.int .i64 (firstT (is.map fun y => decide (x = y)))) ∧ Below w.heap.size w w' := by
  refine aA (args := [.slice A n c, .int .i64 x]) Tryz.func172 rfl Tryz.ntmps172 (by simp) hμ ?_
  have hqn : (is.map fun y => decide (x = y)).length = n := by rw [List.length_map]; exact hS.1
  repeat' (first | refine KK ?_ | fail)
  refine aX (ι := Nat) (fun k => k ≤ n ∧ ∀ (j : Nat) (q : Bool), j < k → (is.map fun y => decide (x = y))[j]? = some q → q = false) (fun k => n - k) (fun _ => μ) (fun k => [(8, .int .i64 k), (7, .int .i64 n), (6, .slice A n c), (0, .slice A n c), (1, .int .i64 x)]) (fun _ => []) 0 ⟨by omega, fun j _ h => absurd h (by omega)⟩ (fun a w hs => J6 hs) ?_
  rintro k ⟨hk, hf⟩
  by_cases hlt : k < n
  · have hqk : (is.map fun y => decide (x = y))[k]? = some ((is.map fun y => decide (x = y))[k]'(by omega)) := List.getElem?_eq_getElem (by omega)
    generalize (is.map fun y => decide (x = y))[k]'(by omega) = q at hqk
    have hnext : q = false → ∀ (j : Nat) (q : Bool), j < k + 1 → (is.map fun y => decide (x = y))[j]? = some q → q = false := fun h j p hj hp => by
      rcases Nat.lt_or_ge j k with h1 | h1
      · exact hf j p h1 hp
      · obtain rfl : j = k := by omega
        rw [hqk] at hp
        cases hp
        exact h
    obtain ⟨ad, y, rfl, hy, hm⟩ := hS.get hlt
    have hqv : q = decide (x = y) := by
      rw [List.getElem?_map, hy] at hqk
      exact (Option.some.inj hqk).symm
    cases hq : q
    · have hb := hnext hq
      rw [hq] at hqv
      have hne : ¬ x = y := of_decide_eq_false hqv.symm
      repeat' (first | refine KO ?_ | (refine KV (b := by first | exact U1 k | exact U3 (hm.at 0 rfl)) (c := ?_)) | refine KI ?_ | fail)
      all_goals exact J4 (k + 1) ⟨by omega, hb⟩ (by omega)
    · rw [hq] at hqv hqk
      have he : x = y := of_decide_eq_true hqv.symm
      repeat' (first | refine KO ?_ | (refine KV (b := by first | exact U1 k | exact U3 (hm.at 0 rfl)) (c := ?_)) | fail)
      all_goals (refine aB rfl rfl ?_; rw [lQ hqk hf])
  · repeat' (first | refine KK ?_ | fail)
    refine aB rfl rfl ?_
    rw [iT fun j q hq => hf j q (by have := (List.getElem?_eq_some_iff.1 hq).1; omega) hq]
theorem rM (x : Int) (is : List Int) (A : Option Addr) (n c : Nat) (w : World) (μ : Mem) (hμ : MOk μ w) (hS : Sl NL 1 μ A n is) (hn : n ≤ 100000) :
    Calls Tryz.prog 155 #[.slice A n c, .int .i64 x] w fun e w' => e = .returned (.bool (decide (x ∈ is))) ∧ Below w.heap.size w w' := by
  refine aA (args := [.slice A n c, .int .i64 x]) Tryz.func155 rfl Tryz.ntmps155 (by simp) hμ ?_
  rw [← aAb, ← jY]
  repeat' (first | refine KO ?_ | ((with_reducible apply C1); exact rfl; exact EN; exact fun w μc hw hse => index_spec x is A n c w μc hw (hS.mono hse.le) hn) | fail)
  exact aB rfl rfl rfl
theorem GS (f : FuncId) (cap : List Value) (q1 : T → Bool) (ks : List T) (A : Option Addr) (n c : Nat) (w : World) (μ : Mem) (hμ : MOk μ w) (hcal : dI Tryz.prog f = true) (hk : KR μ ks (.slice A n c)) (hkn : ks.length = n) (hf1 : ∀ (t : T) (u : Value) (w : World) (μ' : Mem), t ∈ ks → MOk μ' w → MLe μ μ' → KR μ' t.kids u → Calls Tryz.prog f ([Value.agg (aD t u).toArray] ++ cap).toArray w fun e w' => e = .returned (.bool (q1 t)) ∧ Below w.heap.size w w') (hn : n ≤ 100000) :
    Calls Tryz.prog 170 #[.slice A n c, .func (.func f) #[] cap.toArray] w fun e w' => e = .returned (.int .i64 (firstT (ks.map q1))) ∧ Below w.heap.size w w' := by
  refine aA (args := [.slice A n c, .func (.func f) #[] cap.toArray]) Tryz.func170 rfl Tryz.ntmps170 (by simp) hμ ?_
  have hget : ∀ (i : Nat) (t : T), ks[i]? = some t → ∃ a u, A = some a ∧ cQ μ (a.add (i * 6)) (aD t u) ∧ u.oneCell' = true ∧ KR μ t.kids u := by
    obtain ⟨A', c', e, _, hg⟩ := hk.form
    cases e
    exact hg
  have hqn : (ks.map q1).length = n := by rw [List.length_map]; exact hkn
  repeat' (first | refine KK ?_ | fail)
  refine aX (ι := Nat) (fun k => k ≤ n ∧ ∀ (j : Nat) (q : Bool), j < k → (ks.map q1)[j]? = some q → q = false) (fun k => n - k) (fun _ => μ) (fun k => [(8, .int .i64 k), (7, .int .i64 n), (6, .slice A n c), (0, .slice A n c), (1, .func (.func f) #[] cap.toArray)]) (fun _ => []) 0 ⟨by omega, fun j _ h => absurd h (by omega)⟩ (fun a w hs => J6 hs) ?_
  rintro k ⟨hk, hf⟩
  by_cases hlt : k < n
  · have hqk : (ks.map q1)[k]? = some ((ks.map q1)[k]'(by omega)) := List.getElem?_eq_getElem (by omega)
    generalize (ks.map q1)[k]'(by omega) = q at hqk
    have hnext : q = false → ∀ (j : Nat) (q : Bool), j < k + 1 → (ks.map q1)[j]? = some q → q = false := fun h j p hj hp => by
      rcases Nat.lt_or_ge j k with h1 | h1
      · exact hf j p h1 hp
      · obtain rfl : j = k := by omega
        rw [hqk] at hp
        cases hp
        exact h
    have hkk : ks[k]? = some ks[k] := List.getElem?_eq_getElem (by omega)
    generalize ks[k] = t at hkk
    obtain ⟨ad, x, rfl, hm, ho, hkx⟩ := hget k t hkk
    have hqv : q = q1 t := by
      rw [List.getElem?_map, hkk] at hqk
      exact (Option.some.inj hqk).symm
    have hc := fun (w : World) (μc : Mem) (hw : MOk μc w) (hle : MLe μ μc) => hf1 t x w μc (List.mem_of_getElem? hkk) hw hle (hkx.mono hle)
    rw [← hqv] at hc
    cases hq : q
    · have hb := hnext hq
      rw [hq] at hc
      repeat' (first | refine KO ?_ | ((with_reducible apply C1); exact rfl; exact EN; exact fun w μc hw hse => hc w μc hw hse.le) | (refine KV (b := by first | exact U1 k | exact U4 hm) (c := ?_)) | refine KI ?_ | fail)
      exact J4 (k + 1) ⟨by omega, hb⟩ (by omega)
    · rw [hq] at hc hqk
      repeat' (first | refine KO ?_ | ((with_reducible apply C1); exact rfl; exact EN; exact fun w μc hw hse => hc w μc hw hse.le) | (refine KV (b := by first | exact U1 k | exact U4 hm) (c := ?_)) | fail)
      refine aB rfl rfl ?_
      rw [lQ hqk hf]
  · repeat' (first | refine KK ?_ | fail)
    refine aB rfl rfl ?_
    rw [iT fun j q hq => hf j q (by have := (List.getElem?_eq_some_iff.1 hq).1; omega) hq]
theorem GW (f : FuncId) (cap : List Value) (qs : List Bool) (vs : List Value) (A : Option Addr) (n c : Nat) (w : World) (μ : Mem) (hμ : MOk μ w) (hcal : dI Tryz.prog f = true) (hS : Sl VM 1 μ A n vs) (hone : ∀ v ∈ vs, v.oneCell' = true) (hql : qs.length = n) (hf1 : ∀ (i : Nat) (v : Value) (q : Bool) (w : World) (μ' : Mem), vs[i]? = some v → qs[i]? = some q → MOk μ' w → MLe μ μ' → Calls Tryz.prog f ([v] ++ cap).toArray w fun e w' => e = .returned (.bool q) ∧ Below w.heap.size w w') (hn : n ≤ 100000) :
    Calls Tryz.prog 171 #[.slice A n c, .func (.func f) #[] cap.toArray] w fun e w' => e = .returned (.int .i64 (firstT (qs))) ∧ Below w.heap.size w w' := by
  refine aA (args := [.slice A n c, .func (.func f) #[] cap.toArray]) Tryz.func171 rfl Tryz.ntmps171 (by simp) hμ ?_
  have hqn : (qs).length = n := by exact hql
  repeat' (first | refine KK ?_ | fail)
  refine aX (ι := Nat) (fun k => k ≤ n ∧ ∀ (j : Nat) (q : Bool), j < k → (qs)[j]? = some q → q = false) (fun k => n - k) (fun _ => μ) (fun k => [(8, .int .i64 k), (7, .int .i64 n), (6, .slice A n c), (0, .slice A n c), (1, .func (.func f) #[] cap.toArray)]) (fun _ => []) 0 ⟨by omega, fun j _ h => absurd h (by omega)⟩ (fun a w hs => J6 hs) ?_
  rintro k ⟨hk, hf⟩
  by_cases hlt : k < n
  · have hqk : (qs)[k]? = some ((qs)[k]'(by omega)) := List.getElem?_eq_getElem (by omega)
    generalize (qs)[k]'(by omega) = q at hqk
    have hnext : q = false → ∀ (j : Nat) (q : Bool), j < k + 1 → (qs)[j]? = some q → q = false := fun h j p hj hp => by
      rcases Nat.lt_or_ge j k with h1 | h1
      · exact hf j p h1 hp
      · obtain rfl : j = k := by omega
        rw [hqk] at hp
        cases hp
        exact h
    obtain ⟨ad, v, rfl, hv, hm⟩ := hS.get hlt
    have ho := hone v (List.mem_of_getElem? hv)
    have hc := fun (w : World) (μc : Mem) (hw : MOk μc w) (hle : MLe μ μc) => hf1 k v q w μc hv hqk hw hle
    cases hq : q
    · have hb := hnext hq
      rw [hq] at hc
      repeat' (first | refine KO ?_ | ((with_reducible apply C1); exact rfl; exact EN; exact fun w μc hw hse => hc w μc hw hse.le) | (refine KV (b := by first | exact U1 k | exact U3 (hm.at 0 rfl)) (c := ?_)) | refine KI ?_ | fail)
      exact J4 (k + 1) ⟨by omega, hb⟩ (by omega)
    · rw [hq] at hc hqk
      repeat' (first | refine KO ?_ | ((with_reducible apply C1); exact rfl; exact EN; exact fun w μc hw hse => hc w μc hw hse.le) | (refine KV (b := by first | exact U1 k | exact U3 (hm.at 0 rfl)) (c := ?_)) | fail)
      refine aB rfl rfl ?_
      rw [lQ hqk hf]
  · repeat' (first | refine KK ?_ | fail)
    refine aB rfl rfl ?_
    rw [iT fun j q hq => hf j q (by have := (List.getElem?_eq_some_iff.1 hq).1; omega) hq]
end Go.Proofs.YtocidaibmadekaaGreatDoor
namespace Go.Proofs.YtocidaibmadekaaGreatDoor
open Go.RowKit Go.Vcg
theorem CO {b t sz i : Nat} {cs : aI} {v : Value} {μ : Mem} (h : Bk.sh (.inl ⟨b, t, sz, cs⟩) μ) (hv : lk cs i = some v) : iF μ ⟨b, i, none⟩ v :=
  let ⟨arr, h1, _, h3⟩ := h
  ⟨arr, t, (0, 0), h1, rfl, h3 i v hv⟩
theorem OR {b ty : Nat} {t : T} {u : Value} {cs : aI} {μ : Mem} (h : Bk.sh (.inl ⟨b, ty, 6, cs⟩) μ) (hc : LC cs 0 6 (aD t u)) : cQ μ ⟨b, 0, none⟩ (aD t u) := by
  have hS := aN (enc := pW) (sz := 6) (n := 1) (l := [(t, u)]) h rfl (by simp) (by simpa using hc)
  obtain ⟨a, e, ha⟩ := hS.2 (by omega)
  cases e
  exact ha 0 (t, u) rfl
def dQ (p : T → Bool) (a b : Int) (ks : List T) : Bool := decide (a ≤ (ks.length : Int)) && (decide (b < 0) || decide ((ks.length : Int) ≤ b)) && ks.all p
theorem NV (p : T → Bool) (ks : List T) : (!(ks.any fun t => !p t)) = ks.all p := by
  induction ks with
  | nil => rfl
  | cons k r ih => simp [List.any_cons, List.all_cons, ← ih]
def ofT (is : List Int) (t : T) : Bool := decide (t.op ∈ is)
attribute [local irreducible] G GC GQ GA bX Calls IntKind.wrap Int.decLt Int.decLe
theorem qC (f : FuncId) (cap : List Value) (q1 : T → Bool) (ks : List T) (A : Option Addr) (n c : Nat) (w : World) (μ : Mem) (hμ : MOk μ w) (hcal : dI Tryz.prog f = true) (hk : KR μ ks (.slice A n c)) (hkn : ks.length = n) (hf1 : ∀ (t : T) (u : Value) (w : World) (μ' : Mem), t ∈ ks → MOk μ' w → MLe μ μ' → KR μ' t.kids u → Calls Tryz.prog f ([Value.agg (aD t u).toArray] ++ cap).toArray w fun e w' => e = .returned (.bool (q1 t)) ∧ Below w.heap.size w w') (hn : n ≤ 100000) :
    Calls Tryz.prog 149 #[.slice A n c, .func (.func f) #[] cap.toArray] w fun e w' => e = .returned (.bool (ks.any q1)) ∧ Below w.heap.size w w' := by
  refine aA (args := [.slice A n c, .func (.func f) #[] cap.toArray]) Tryz.func149 rfl Tryz.ntmps149 (by simp) hμ ?_
  have h : decide (0 ≤ firstT (ks.map q1)) = ks.any q1 := by rw [jY, List.any_map]; rfl
  rw [← h]
  repeat' (first | refine KO ?_ | ((with_reducible apply C1); exact rfl; exact EN; exact fun w μc hw hse => GS f cap q1 ks A n c w μc hw hcal (hk.mono hse.le) hkn (fun t u w μ' h1 h2 h3 h4 => hf1 t u w μ' h1 h2 (hse.le.trans h3) h4) hn) | fail)
  exact aB rfl rfl rfl
theorem yW (f : FuncId) (cap : List Value) (qs : List Bool) (vs : List Value) (A : Option Addr) (n c : Nat) (w : World) (μ : Mem) (hμ : MOk μ w) (hcal : dI Tryz.prog f = true) (hS : Sl VM 1 μ A n vs) (hone : ∀ v ∈ vs, v.oneCell' = true) (hql : qs.length = n) (hf1 : ∀ (i : Nat) (v : Value) (q : Bool) (w : World) (μ' : Mem), vs[i]? = some v → qs[i]? = some q → MOk μ' w → MLe μ μ' → Calls Tryz.prog f ([v] ++ cap).toArray w fun e w' => e = .returned (.bool q) ∧ Below w.heap.size w w') (hn : n ≤ 100000) :
    Calls Tryz.prog 152 #[.slice A n c, .func (.func f) #[] cap.toArray] w fun e w' => e = .returned (.bool (qs.any id)) ∧ Below w.heap.size w w' := by
  refine aA (args := [.slice A n c, .func (.func f) #[] cap.toArray]) Tryz.func152 rfl Tryz.ntmps152 (by simp) hμ ?_
  rw [← jY]
  repeat' (first | refine KO ?_ | ((with_reducible apply C1); exact rfl; exact EN; exact fun w μc hw hse => GW f cap qs vs A n c w μc hw hcal (hS.mono hse.le) hone hql (fun i v q w μ' h1 h2 h3 h4 => hf1 i v q w μ' h1 h2 h3 (hse.le.trans h4)) hn) | fail)
  exact aB rfl rfl rfl
theorem QO (v : Value) (p : T → Bool) (t : T) (u : Value) (bc : Nat) (w : World) (μ : Mem) (hμ : MOk μ w) (hc : Cls μ v p) (hcell : iF μ ⟨bc, 0, none⟩ v) (hk : KR μ t.kids u) (hs : t.size ≤ 100000) (hss : t.s.size ≤ 65536) :
    Calls Tryz.prog 150 ([Value.agg (aD t u).toArray] ++ [Value.pointer (some ⟨bc, 0, none⟩)]).toArray w fun e w' => e = .returned (.bool (!p t)) ∧ Below w.heap.size w w' := by
  have ho := hk.one
  obtain ⟨f, cap, rfl, hcal, hf⟩ := hc
  refine aA (args := [.agg (aD t u).toArray, .pointer (some ⟨bc, 0, none⟩)]) Tryz.func150 rfl Tryz.ntmps150 (by simp) hμ ?_
  repeat' (first | refine KO ?_ | ((with_reducible apply C1); exact rfl; exact EN; exact fun w μc hw hse => hf t u w μc hw hse.le (hk.mono hse.le) hs hss) | (refine KV (b := by ((with_reducible apply eC); exact rfl; exact rfl; exact hcell)) (c := ?_)) | refine KI ?_ | refine NB fun b => ?_ | fail)
  exact aB rfl rfl rfl
theorem fL (p : T → Bool) (v : Value) (x y : Int) (ks : List T) (A : Option Addr) (n c : Nat) (w : World) (μ : Mem) (hμ : MOk μ w) (hc : Cls μ v p) (hk : KR μ ks (.slice A n c)) (hkn : ks.length = n) (hn : n ≤ 100000) (hks : ∀ k ∈ ks, T.size k ≤ 100000 ∧ k.s.size ≤ 65536) :
    Calls Tryz.prog 119 #[.slice A n c, v, .int .i64 x, .int .i64 y] w fun e w' => e = .returned (.bool (dQ p x y ks)) ∧ Below w.heap.size w w' := by
  have hc' := hc
  obtain ⟨f, cap, rfl, hcal, hf⟩ := hc'
  refine aA (args := [.slice A n c, .func (.func f) #[] cap.toArray, .int .i64 x, .int .i64 y]) Tryz.func119 rfl Tryz.ntmps119 (by simp) hμ ?_
  repeat' (first | refine KO ?_ | ((with_reducible apply C1); exact rfl; exact EN; exact fun w μc hw hse => qC 150 [.pointer (some ⟨b, 0, none⟩)] (fun t => !p t) ks A n c w μc hw (by kernel_rfl) (hk.mono hse.le) hkn (fun t u w μ' h1 h2 h3 h4 => QO _ p t u b w μ' h2 (hc.mono (hse.le.trans h3)) ((CO hse.hd rfl).mono h3) h4 (hks t h1).1 (hks t h1).2) hn) | refine NB fun b => ?_ | ((refine KB ?_ ?_ <;> intro hp)) | refine KG ?_ | fail)
  all_goals (refine aB rfl rfl ?_; simp_all [dQ, NV, ← NV]; try omega)
end Go.Proofs.YtocidaibmadekaaGreatDoor
namespace Go.Proofs.YtocidaibmadekaaGreatDoor
open Go.RowKit Go.Vcg
def eiT (ps : List (T → Bool)) (t : T) : Bool := ps.any fun p => p t
def aL (μ : Mem) (vs : List Value) (ps : List (T → Bool)) : Prop := vs.length = ps.length ∧ ∀ (i : Nat) (v : Value) (p : T → Bool), vs[i]? = some v → ps[i]? = some p → Cls μ v p
theorem aL.mono {μ μ' : Mem} {vs : List Value} {ps : List (T → Bool)} (h : aL μ vs ps) (hle : MLe μ μ') : aL μ' vs ps := ⟨h.1, fun i v p hv hp => (h.2 i v p hv hp).mono hle⟩
theorem aL.nil (μ : Mem) : aL μ [] [] := ⟨rfl, fun i v p h => by simp at h⟩
theorem aL.cons {μ : Mem} {v : Value} {p : T → Bool} {vs : List Value} {ps : List (T → Bool)} (h : Cls μ v p) (hr : aL μ vs ps) : aL μ (v :: vs) (p :: ps) :=
  ⟨by simp [hr.1], fun i v' p' hv hp => by
    cases i with
    | zero => simp at hv hp; subst hv; subst hp; exact h
    | succ i => exact hr.2 i v' p' (by simpa using hv) (by simpa using hp)⟩
theorem Cls.one {μ : Mem} {v : Value} {p : T → Bool} (h : Cls μ v p) : v.oneCell' = true := by
  obtain ⟨f, cap, rfl, _⟩ := h
  rfl
theorem aL.one {μ : Mem} {vs : List Value} {ps : List (T → Bool)} (h : aL μ vs ps) : ∀ v ∈ vs, v.oneCell' = true := fun v hv => by
  obtain ⟨i, hi⟩ := List.mem_iff_getElem?.1 hv
  have hlt := (List.getElem?_eq_some_iff.1 hi).1
  have hlt2 : i < ps.length := by rw [← h.1]; exact hlt
  exact (h.2 i v ps[i] hi (List.getElem?_eq_getElem hlt2)).one
attribute [local irreducible] G GC GQ GA bX Calls IntKind.wrap Int.decLt Int.decLe
theorem SZ (is : List Int) (A : Option Addr) (n c bx : Nat) (t : T) (u : Value) (w : World) (μ : Mem) (hμ : MOk μ w) (hcell : iF μ ⟨bx, 0, none⟩ (.slice A n c)) (hS : Sl NL 1 μ A n is) (hn : n ≤ 100000) (hk : KR μ t.kids u) :
    Calls Tryz.prog 154 ([Value.agg (aD t u).toArray] ++ [Value.pointer (some ⟨bx, 0, none⟩)]).toArray w fun e w' => e = .returned (.bool (ofT is t)) ∧ Below w.heap.size w w' := by
  have ho := hk.one
  refine aA (args := [.agg (aD t u).toArray, .pointer (some ⟨bx, 0, none⟩)]) Tryz.func154 rfl Tryz.ntmps154 (by simp) hμ ?_
  repeat' (first | refine KO ?_ | ((with_reducible apply C1); exact rfl; exact EN; exact fun w μc hw hse => rM t.op is A n c w μc hw (hS.mono hse.le) hn) | (refine KV (b := by ((with_reducible apply eC); exact rfl; exact rfl; exact hcell)) (c := ?_)) | refine KI ?_ | refine NB fun b => ?_ | fail)
  exact aB rfl rfl rfl
def zM (p : T → Bool) (μ : Mem) (v : Value) : Prop := Cls μ v p
theorem bE (is : List Int) (A : Option Addr) (n c : Nat) (w : World) (μ : Mem) (hμ : MOk μ w) (hS : Sl NL 1 μ A n is) (hn : n ≤ 100000) :
    Calls Tryz.prog 122 #[.slice A n c] w fun e w' => ∃ v μ', e = .returned v ∧ oM w w' μ μ' ∧ zM (ofT is) μ' v := by
  refine aA (args := [.slice A n c]) Tryz.func122 rfl Tryz.ntmps122 (by simp) hμ ?_
  repeat' (first | refine KK ?_ | refine NB fun b => ?_ | fail)
  exact mZ rfl (bJ rfl) (fun μ' hle' hL => ⟨154, [.pointer (some ⟨b, 0, none⟩)], rfl, by kernel_rfl, fun t u w μ2 hw hl hk hs hss => SZ is A n c b t u w μ2 hw ((CO (hL _ (List.mem_cons_self ..)) rfl).mono hl) (hS.mono (hle'.trans hl)) hn hk⟩)
theorem zV (v : Value) (p : T → Bool) (t : T) (u : Value) (bn : Nat) (w : World) (μ : Mem) (hμ : MOk μ w) (hc : Cls μ v p) (hm : cQ μ ⟨bn, 0, none⟩ (aD t u)) (hk : KR μ t.kids u) (hs : t.size ≤ 100000) (hss : t.s.size ≤ 65536) :
    Calls Tryz.prog 153 ([v] ++ [Value.pointer (some ⟨bn, 0, none⟩)]).toArray w fun e w' => e = .returned (.bool (p t)) ∧ Below w.heap.size w w' := by
  have ho := hk.one
  obtain ⟨f, cap, rfl, hcal, hf⟩ := hc
  refine aA (args := [.func (.func f) #[] cap.toArray, .pointer (some ⟨bn, 0, none⟩)]) Tryz.func153 rfl Tryz.ntmps153 (by simp) hμ ?_
  repeat' (first | refine KO ?_ | ((with_reducible apply C1); exact rfl; exact EN; exact fun w μc hw hse => hf t u w μc hw hse.le (hk.mono hse.le) hs hss) | (refine KV (b := by exact U4 hm) (c := ?_)) | fail)
  exact aB rfl rfl rfl
theorem DT (vs : List Value) (ps : List (T → Bool)) (A : Option Addr) (n c bx : Nat) (t : T) (u : Value) (w : World) (μ : Mem) (hμ : MOk μ w) (hcell : iF μ ⟨bx, 0, none⟩ (.slice A n c)) (hS : Sl VM 1 μ A n vs) (hcl : aL μ vs ps) (hn : n ≤ 100000) (hk : KR μ t.kids u) (hs : t.size ≤ 100000) (hss : t.s.size ≤ 65536) :
    Calls Tryz.prog 151 ([Value.agg (aD t u).toArray] ++ [Value.pointer (some ⟨bx, 0, none⟩)]).toArray w fun e w' => e = .returned (.bool (eiT ps t)) ∧ Below w.heap.size w w' := by
  have ho := hk.one
  have hql : (ps.map fun p => p t).length = n := by rw [List.length_map, ← hcl.1]; exact hS.1
  have h : (ps.map fun p => p t).any id = eiT ps t := by rw [List.any_map]; rfl
  have key : ∀ (bn : Nat) (μc : Mem), MLe μ μc → cQ μc ⟨bn, 0, none⟩ (aD t u) → ∀ (i : Nat) (v : Value) (q : Bool) (w : World) (μ' : Mem), vs[i]? = some v → (ps.map fun p => p t)[i]? = some q → MOk μ' w → MLe μc μ' → Calls Tryz.prog 153 ([v] ++ [Value.pointer (some ⟨bn, 0, none⟩)]).toArray w fun e w' => e = .returned (.bool q) ∧ Below w.heap.size w w' := by
    intro bn μc hle hm i v q w μ' hv hq hw2 hle2
    rw [List.getElem?_map] at hq
    cases hp : ps[i]? with
    | none => rw [hp] at hq; cases hq
    | some p =>
      rw [hp] at hq
      cases hq
      exact zV v p t u bn w μ' hw2 ((hcl.2 i v p hv hp).mono (hle.trans hle2)) (hm.mono hle2) (hk.mono (hle.trans hle2)) hs hss
  refine aA (args := [.agg (aD t u).toArray, .pointer (some ⟨bx, 0, none⟩)]) Tryz.func151 rfl Tryz.ntmps151 (by simp) hμ ?_
  rw [← h]
  repeat' (first | refine KO ?_ | ((with_reducible apply C1); exact rfl; exact EN; exact fun w μc hw hse => yW 153 [.pointer (some ⟨b, 0, none⟩)] (ps.map fun p => p t) vs A n c w μc hw (by kernel_rfl) (hS.mono hse.le) hcl.one hql (key b μc hse.le (OR hse.hd (by repeat first | exact aJ | refine aF rfl ?_))) hn) | (refine KV (b := by ((with_reducible apply eC); exact rfl; exact rfl; exact hcell)) (c := ?_)) | refine NB fun b => ?_ | fail)
  exact aB rfl rfl rfl
theorem dM (vs : List Value) (ps : List (T → Bool)) (A : Option Addr) (n c : Nat) (w : World) (μ : Mem) (hμ : MOk μ w) (hS : Sl VM 1 μ A n vs) (hcl : aL μ vs ps) (hn : n ≤ 100000) :
    Calls Tryz.prog 120 #[.slice A n c] w fun e w' => ∃ v μ', e = .returned v ∧ oM w w' μ μ' ∧ zM (eiT ps) μ' v := by
  refine aA (args := [.slice A n c]) Tryz.func120 rfl Tryz.ntmps120 (by simp) hμ ?_
  repeat' (first | refine KK ?_ | refine NB fun b => ?_ | fail)
  exact mZ rfl (bJ rfl) (fun μ' hle' hL => ⟨151, [.pointer (some ⟨b, 0, none⟩)], rfl, by kernel_rfl, fun t u w μ2 hw hl hk hs hss => DT vs ps A n c b t u w μ2 hw ((CO (hL _ (List.mem_cons_self ..)) rfl).mono hl) (hS.mono (hle'.trans hl)) (hcl.mono (hle'.trans hl)) hn hk hs hss⟩)
end Go.Proofs.YtocidaibmadekaaGreatDoor
namespace Go.Proofs.YtocidaibmadekaaGreatDoor
open Go.RowKit Go.Vcg
abbrev iM (x : Value × Int) : List Value := [x.1, .int .i64 x.2]
attribute [local irreducible] G GC GQ GA bX Calls IntKind.wrap Int.decLt Int.decLe
theorem cF (vs : List Value) (A : Option Addr) (n c : Nat) (w : World) (μ : Mem) (hμ : MOk μ w) (hS : Sl VM 1 μ A n vs) (hone : ∀ v ∈ vs, ∃ (f : FuncId) (cap : List Value), v = .func (.func f) #[] cap.toArray) (hn : n ≤ 100000) :
    Calls Tryz.prog 125 #[.slice A n c] w (mV w 150 2 n (vs.flatMap fun v => iM (v, 0))) := by
  refine aA (args := [.slice A n c]) Tryz.func125 rfl Tryz.ntmps125 (by simp) hμ ?_
  repeat' (first | refine KK ?_ | fail)
  refine aX (ι := Nat × Value) (fun i => i.1 ≤ n) (fun i => n - i.1) (fun _ => μ) (fun i => [(8, .int .i64 i.1), (7, .int .i64 n), (6, .slice A n c), (3, i.2)]) (fun i => [.inr ⟨i.2, 150, 2, i.1, (vs.take i.1).flatMap fun v => iM (v, 0)⟩]) (0, .slice none 0 0) (by simp) (fun a w hs => (hs.uJ 150 2).sub PU (by repeat exact List.Sublist.refl _)) ?_
  rintro ⟨k, v⟩ hk
  have hk' : k ≤ n := hk
  dsimp only
  by_cases hlt : k < n
  · obtain ⟨ad, x, rfl, hx, hm⟩ := hS.get hlt
    obtain ⟨f, cap, rfl⟩ := hone x (List.mem_of_getElem? hx)
    have hs : ((vs.take (k + 1)).flatMap fun v => iM (v, 0)) = ((vs.take k).flatMap fun v => iM (v, 0)) ++ iM (.func (.func f) #[] cap.toArray, 0) := by
      obtain ⟨hk1, he⟩ := List.getElem?_eq_some_iff.1 hx
      rw [List.take_succ_eq_append_getElem hk1, List.flatMap_append, he]
      simp only [List.flatMap_cons, List.flatMap_nil, List.append_nil]
    repeat' (first | refine KO ?_ | (((with_reducible apply oG); (iterate 3 exact rfl); (repeat first | with_reducible exact dT | with_reducible apply eI); (iterate 6 exact rfl); (((with_reducible apply gH); exact rfl; (repeat with_reducible exact cU); exact rfl)); (exact rfl); ((exact eJ (by (repeat first | with_reducible exact dU | ((with_reducible apply dC); (exact rfl)))))); omega; omega; intro v)) | (refine KV (b := by first | exact U1 k | exact U3 (hm.at 0 rfl)) (c := ?_)) | refine KI ?_ | refine NB fun b => ?_ | fail)
    refine wL (k + 1, _) (by show k + 1 ≤ n; omega) (by show n - (k + 1) < n - k; omega) rfl PU ?_
    dsimp only
    rw [hs]
    exact (by repeat first | exact List.Sublist.refl _ | refine List.Sublist.cons _ ?_)
  · repeat' (first | refine KK ?_ | fail)
    obtain rfl : k = n := by omega
    rw [List.take_of_length_le (by rw [hS.1]; omega)]
    exact nU 0 rfl rfl rfl
end Go.Proofs.YtocidaibmadekaaGreatDoor
namespace Go.Proofs.YtocidaibmadekaaGreatDoor
open Go.RowKit Go.Vcg
theorem KR.rL {μ : Mem} {ks : List T} {A : Option Addr} {n c : Nat} (h : KR μ ks (.slice A n c)) (hn : 1 ≤ n) : KR μ (ks.drop 1) (.slice (if c = 1 then A else A.map (·.add (1 * 6))) (n - 1) (c - 1)) := by
  cases h with
  | mk _ A c vs hcap hcell hone hsub =>
    have e : (ks.drop 1).length = ks.length - 1 := by simp
    have h0 : ∀ (i : Nat) (t : T), (ks.drop 1)[i]? = some t → ks[1 + i]? = some t := fun i t hi => by simpa [Nat.add_comm] using hi
    have := KR.mk (μ := μ) (ks.drop 1) (if c = 1 then A else A.map (·.add (1 * 6))) (c - 1) (fun i => vs (1 + i)) (by omega) (fun i t hi => ?_) (fun i t hi => hone _ t (h0 i t hi)) (fun i t hi => hsub _ t (h0 i t hi))
    · rw [e] at this
      exact this
    · obtain ⟨a, e, hc⟩ := hcell _ t (h0 i t hi)
      have : 1 + i < ks.length := (List.getElem?_eq_some_iff.1 (h0 i t hi)).1
      rw [if_neg (by omega), e]
      refine ⟨_, rfl, ?_⟩
      rw [iE, ← Nat.add_mul]
      exact hc
def gF (p : T → Bool) (m : Int) : Nat → List T → Nat × List T
  | n, [] => (n, [])
  | n, k :: r => if p k = true ∧ (n = 0 ∨ m = 2) then gF p m (n + 1) r else (n, k :: r)
def bC : List ((T → Bool) × Int) → List T → Bool
  | [], l => decide (l.length = 0)
  | (p, m) :: r, l => if (gF p m 0 l).1 = 0 ∧ m = 0 then false else bC r (gF p m 0 l).2
theorem kC {α : Type} {l : List α} {j : Nat} {t : α} (h : l[j]? = some t) : l.drop j = t :: l.drop (j + 1) := by
  obtain ⟨hlt, e⟩ := List.getElem?_eq_some_iff.1 h
  rw [← e, List.getElem_cons_drop]
attribute [local irreducible] G GC GQ GA bX Calls IntKind.wrap Int.decLt Int.decLe
theorem QK (parts : List (Value × Int)) (rows : List ((T → Bool) × Int)) (ks : List T) (A B : Option Addr) (n c m d : Nat) (w : World) (μ : Mem) (hμ : MOk μ w) (hk : KR μ ks (.slice A n c)) (hkn : ks.length = n) (hn : n ≤ 100000) (hS : Sl iM 2 μ B m parts) (hm : m ≤ 1000) (hrl : rows.length = m) (hrows : ∀ (i : Nat) (x : Value × Int) (y : (T → Bool) × Int), parts[i]? = some x → rows[i]? = some y → x.2 = y.2 ∧ Cls μ x.1 y.1) (hks : ∀ k ∈ ks, T.size k ≤ 100000 ∧ k.s.size ≤ 65536) :
    Calls Tryz.prog 124 #[.slice A n c, .slice B m d] w fun e w' => e = .returned (.bool (bC rows ks)) ∧ Below w.heap.size w w' := by
  refine aA (args := [.slice A n c, .slice B m d]) Tryz.func124 rfl Tryz.ntmps124 (by simp) hμ ?_
  generalize hR : bC rows ks = R
  repeat' (first | refine KK ?_ | fail)
  refine aX (ι := Nat × Nat × Option Addr × Nat) (fun i => i.1 ≤ m ∧ i.2.1 ≤ n ∧ KR μ (ks.drop i.2.1) (.slice i.2.2.1 (n - i.2.1) i.2.2.2) ∧ bC (rows.drop i.1) (ks.drop i.2.1) = R) (fun i => m - i.1) (fun _ => μ) (fun i => [(10, .int .i64 i.1), (9, .int .i64 m), (8, .slice B m d), (0, .slice i.2.2.1 (n - i.2.1) i.2.2.2)]) (fun _ => []) (0, 0, A, c) ⟨by simp, by simp, by simpa using hk, by simpa using hR⟩ (fun a w hs => J6 hs) ?_
  rintro ⟨i, j, Aj, cj⟩ ⟨hi, hj, hkj, hRj⟩
  dsimp only at hi hj hkj hRj ⊢
  by_cases hlt : i < m
  · obtain ⟨ad, ⟨v, mm⟩, rfl, hx, hmx⟩ := hS.get hlt
    have hy : rows[i]? = some rows[i] := List.getElem?_eq_getElem (by omega)
    generalize rows[i] = y at hy
    obtain ⟨p, mm'⟩ := y
    obtain ⟨he, hcls⟩ := hrows i _ _ hx hy
    dsimp only at he hcls
    subst he
    obtain ⟨f, cap, rfl, hcal, hf⟩ := hcls
    rw [kC hy] at hRj
    repeat' (first | refine KO ?_ | (refine KV (b := by first | exact U1 i | exact U4 hmx) (c := ?_)) | refine KI ?_ | refine NB fun b => ?_ | fail)
    refine aX (ι := Nat × Nat × Option Addr × Nat) (fun q => q.1 ≤ q.2.1 ∧ q.2.1 ≤ n ∧ KR μ (ks.drop q.2.1) (.slice q.2.2.1 (n - q.2.1) q.2.2.2) ∧ gF p mm q.1 (ks.drop q.2.1) = gF p mm 0 (ks.drop j)) (fun q => n - q.2.1) (fun _ => μ) (fun q => [(7, .int .i64 q.1), (6, .pointer (some ⟨b, 0, none⟩)), (10, .int .i64 i), (9, .int .i64 m), (8, .slice (some ad) m d), (0, .slice q.2.2.1 (n - q.2.1) q.2.2.2)]) (fun _ => [.inl ⟨b, 150, 2, idx 0 [.func (.func f) #[] cap.toArray, .int .i64 mm]⟩]) (0, j, Aj, cj) ⟨Nat.zero_le _, hj, hkj, rfl⟩ (fun a w hs => J5 hs) ?_
    rintro ⟨cnt, j2, A2, c2⟩ ⟨hcj, hj2, hk2, he2⟩
    dsimp only at hcj hj2 hk2 he2 ⊢
    have hend : ∀ l, gF p mm cnt (ks.drop j2) = (cnt, l) → l = ks.drop j2 → (if cnt = 0 ∧ mm = 0 then false else bC (rows.drop (i + 1)) (ks.drop j2)) = R := fun l h hl => by
      rw [bC, ← he2, h, hl] at hRj
      exact hRj
    by_cases hlt2 : j2 < n
    · have hkk : ks[j2]? = some ks[j2] := List.getElem?_eq_getElem (by omega)
      generalize ks[j2] = t at hkk
      have hdt := kC hkk
      have hkt := hk2.rL (by omega)
      rw [List.drop_drop] at hkt
      obtain ⟨A', c', e, hlc, hget⟩ := hk2.form
      have hkl : (ks.drop j2).length = n - j2 := by rw [List.length_drop, hkn]
      rw [hkl] at e hlc
      cases e
      obtain ⟨ad2, x, rfl, hm2, ho2, hkx⟩ := hget 0 t (by rw [hdt]; rfl)
      have hts := hks t (List.mem_of_getElem? hkk)
      have hcall := fun (w : World) (μc : Mem) (hw : MOk μc w) (hle : MLe μ μc) => hf t x w μc hw hle (hkx.mono hle) hts.1 hts.2
      by_cases hp1 : p t = true ∧ (cnt = 0 ∨ mm = 2)
      · have hE : gF p mm (cnt + 1) (ks.drop (j2 + 1)) = gF p mm 0 (ks.drop j) := by
          rw [← he2, hdt, gF, if_pos hp1]
        rw [hp1.1] at hcall
        have hp2 := hp1.2
        repeat' (first | refine KK ?_ | fail)
        refine aC 20 _ (by kernel_rfl) rfl (List.Sublist.cons_cons _ (List.nil_sublist _)) ?_
        all_goals refine DD 0 ?_
        all_goals (first | refine D1 1 ?_ | fail)
        all_goals (first | refine D1 2 ?_ | fail)
        all_goals refine DD 3 ?_
        all_goals (try (refine D7 4 ?_; (repeat' (refine KO ?_))))
        all_goals (first | refine D1 4 ?_ | fail)
        all_goals (first | refine DD 5 ?_ | fail)
        all_goals refine DD 6 ?_
        all_goals (first | (refine DV (k := 7) (b := by exact U1 0) (c := ?_)) | fail)
        all_goals (first | (refine DV (k := 8) (b := by exact U4 hm2) (c := ?_)) | fail)
        all_goals ((refine D3 9 ?_; refine D5 ?_; (with_reducible apply C1); exact rfl; exact EN; exact fun w μc hw hse => hcall w μc hw hse.le; refine D9 ?_))
        all_goals refine DD 10 ?_
        all_goals refine DD 11 ?_
        all_goals (try (refine D7 12 ?_; (repeat' (first | fail))))
        all_goals refine DD 12 ?_
        all_goals (first | refine D1 13 ?_ | fail)
        all_goals refine DD 14 ?_
        all_goals (try (refine D7 15 ?_; (repeat' (((refine KB ?_ ?_ <;> intro hp))))))
        all_goals (first | refine D1 15 ?_ | fail)
        all_goals (first | refine D1 16 ?_ | refine DD 16 ?_ | fail)
        all_goals (first | refine D1 17 ?_ | fail)
        all_goals refine DD 18 ?_
        all_goals refine DD 19 ?_
        all_goals refine D8 ?_
        all_goals
          repeat' (first | refine KO ?_ | (refine KV (b := by ((with_reducible apply eE 1); (iterate 5 exact rfl); omega)) (c := ?_)) | refine KI ?_ | fail)
        all_goals first
          | exact J2 (cnt + 1, j2 + 1, _, _) ⟨by show cnt + 1 ≤ j2 + 1; omega, by show j2 + 1 ≤ n; omega, hkt, hE⟩ (by show n - (j2 + 1) < n - j2; omega)
          | (exfalso; omega)
      · have hE := hend _ (by rw [hdt, gF, if_neg hp1]) hdt.symm
        cases hpt : p t
        · rw [hpt] at hcall
          by_cases hz : cnt = 0 ∧ mm = 0
          · rw [if_pos hz] at hE
            repeat' (first | refine KK ?_ | fail)
            refine aC 20 _ (by kernel_rfl) rfl (List.Sublist.cons_cons _ (List.nil_sublist _)) ?_
            all_goals refine DD 0 ?_
            all_goals (first | refine D1 1 ?_ | fail)
            all_goals (first | refine D1 2 ?_ | fail)
            all_goals refine DD 3 ?_
            all_goals (try (refine D7 4 ?_; (repeat' (refine KO ?_))))
            all_goals (first | refine D1 4 ?_ | fail)
            all_goals (first | refine DD 5 ?_ | fail)
            all_goals refine DD 6 ?_
            all_goals (first | (refine DV (k := 7) (b := by exact U1 0) (c := ?_)) | fail)
            all_goals (first | (refine DV (k := 8) (b := by exact U4 hm2) (c := ?_)) | fail)
            all_goals ((refine D3 9 ?_; refine D5 ?_; (with_reducible apply C1); exact rfl; exact EN; exact fun w μc hw hse => hcall w μc hw hse.le; refine D9 ?_))
            all_goals refine DD 10 ?_
            all_goals refine DD 11 ?_
            all_goals (try (refine D7 12 ?_; (repeat' (first | fail))))
            all_goals refine DD 12 ?_
            all_goals (first | refine D1 13 ?_ | fail)
            all_goals refine DD 14 ?_
            all_goals (try (refine D7 15 ?_; (repeat' (first | fail))))
            all_goals (first | refine D1 15 ?_ | fail)
            all_goals (first | refine D1 16 ?_ | fail)
            all_goals (first | refine D1 17 ?_ | fail)
            all_goals refine DD 18 ?_
            all_goals refine DD 19 ?_
            all_goals refine D8 ?_
            all_goals
              repeat' (first | refine KK ?_ | refine KG ?_ | fail)
            all_goals first
              | exact aB rfl rfl (congrArg _ hE)
              | (exfalso; omega)
          · rw [if_neg hz] at hE
            repeat' (first | refine KK ?_ | fail)
            refine aC 20 _ (by kernel_rfl) rfl (List.Sublist.cons_cons _ (List.nil_sublist _)) ?_
            all_goals refine DD 0 ?_
            all_goals (first | refine D1 1 ?_ | fail)
            all_goals (first | refine D1 2 ?_ | fail)
            all_goals refine DD 3 ?_
            all_goals (try (refine D7 4 ?_; (repeat' (refine KO ?_))))
            all_goals (first | refine D1 4 ?_ | fail)
            all_goals (first | refine DD 5 ?_ | fail)
            all_goals refine DD 6 ?_
            all_goals (first | (refine DV (k := 7) (b := by exact U1 0) (c := ?_)) | fail)
            all_goals (first | (refine DV (k := 8) (b := by exact U4 hm2) (c := ?_)) | fail)
            all_goals ((refine D3 9 ?_; refine D5 ?_; (with_reducible apply C1); exact rfl; exact EN; exact fun w μc hw hse => hcall w μc hw hse.le; refine D9 ?_))
            all_goals refine DD 10 ?_
            all_goals refine DD 11 ?_
            all_goals (try (refine D7 12 ?_; (repeat' (first | fail))))
            all_goals refine DD 12 ?_
            all_goals (first | refine D1 13 ?_ | fail)
            all_goals refine DD 14 ?_
            all_goals (try (refine D7 15 ?_; (repeat' (first | fail))))
            all_goals (first | refine D1 15 ?_ | fail)
            all_goals (first | refine D1 16 ?_ | fail)
            all_goals (first | refine D1 17 ?_ | fail)
            all_goals refine DD 18 ?_
            all_goals refine DD 19 ?_
            all_goals refine D8 ?_
            all_goals
              repeat' (first | refine KK ?_ | ((refine KB ?_ ?_ <;> intro hp)) | refine KG ?_ | fail)
            all_goals first
              | exact J2 (i + 1, j2, _, _) ⟨by show i + 1 ≤ m; omega, hj2, hk2, hE⟩ (by show m - (i + 1) < m - i; omega)
              | (exfalso; omega)
        · rw [hpt] at hcall
          have hp2 : ¬(cnt = 0 ∨ mm = 2) := fun h => hp1 ⟨hpt, h⟩
          by_cases hz : cnt = 0 ∧ mm = 0
          · rw [if_pos hz] at hE
            repeat' (first | refine KK ?_ | fail)
            refine aC 20 _ (by kernel_rfl) rfl (List.Sublist.cons_cons _ (List.nil_sublist _)) ?_
            all_goals refine DD 0 ?_
            all_goals (first | refine D1 1 ?_ | fail)
            all_goals (first | refine D1 2 ?_ | fail)
            all_goals refine DD 3 ?_
            all_goals (try (refine D7 4 ?_; (repeat' (refine KO ?_))))
            all_goals (first | refine D1 4 ?_ | fail)
            all_goals (first | refine DD 5 ?_ | fail)
            all_goals refine DD 6 ?_
            all_goals (first | (refine DV (k := 7) (b := by exact U1 0) (c := ?_)) | fail)
            all_goals (first | (refine DV (k := 8) (b := by exact U4 hm2) (c := ?_)) | fail)
            all_goals ((refine D3 9 ?_; refine D5 ?_; (with_reducible apply C1); exact rfl; exact EN; exact fun w μc hw hse => hcall w μc hw hse.le; refine D9 ?_))
            all_goals refine DD 10 ?_
            all_goals refine DD 11 ?_
            all_goals (try (refine D7 12 ?_; (repeat' (first | fail))))
            all_goals refine DD 12 ?_
            all_goals (first | refine D1 13 ?_ | fail)
            all_goals refine DD 14 ?_
            all_goals (try (refine D7 15 ?_; (repeat' (refine KO ?_))))
            all_goals (first | refine D1 15 ?_ | fail)
            all_goals (first | refine D1 16 ?_ | fail)
            all_goals (first | refine D1 17 ?_ | fail)
            all_goals refine DD 18 ?_
            all_goals refine DD 19 ?_
            all_goals refine D8 ?_
            all_goals
              repeat' (first | refine KK ?_ | fail)
            all_goals first
              | exact aB rfl rfl (congrArg _ hE)
              | (exfalso; omega)
          · rw [if_neg hz] at hE
            repeat' (first | refine KK ?_ | fail)
            refine aC 20 _ (by kernel_rfl) rfl (List.Sublist.cons_cons _ (List.nil_sublist _)) ?_
            all_goals refine DD 0 ?_
            all_goals (first | refine D1 1 ?_ | fail)
            all_goals (first | refine D1 2 ?_ | fail)
            all_goals refine DD 3 ?_
            all_goals (try (refine D7 4 ?_; (repeat' (refine KO ?_))))
            all_goals (first | refine D1 4 ?_ | fail)
            all_goals (first | refine DD 5 ?_ | fail)
            all_goals refine DD 6 ?_
            all_goals (first | (refine DV (k := 7) (b := by exact U1 0) (c := ?_)) | fail)
            all_goals (first | (refine DV (k := 8) (b := by exact U4 hm2) (c := ?_)) | fail)
            all_goals ((refine D3 9 ?_; refine D5 ?_; (with_reducible apply C1); exact rfl; exact EN; exact fun w μc hw hse => hcall w μc hw hse.le; refine D9 ?_))
            all_goals refine DD 10 ?_
            all_goals refine DD 11 ?_
            all_goals (try (refine D7 12 ?_; (repeat' (first | fail))))
            all_goals refine DD 12 ?_
            all_goals (first | refine D1 13 ?_ | fail)
            all_goals refine DD 14 ?_
            all_goals (try (refine D7 15 ?_; (repeat' (refine KO ?_))))
            all_goals (first | refine D1 15 ?_ | fail)
            all_goals (first | refine DD 16 ?_ | fail)
            all_goals (first | refine D1 17 ?_ | fail)
            all_goals refine DD 18 ?_
            all_goals refine DD 19 ?_
            all_goals refine D8 ?_
            all_goals
              repeat' (first | refine KK ?_ | refine KG ?_ | fail)
            all_goals first
              | exact J2 (i + 1, j2, _, _) ⟨by show i + 1 ≤ m; omega, hj2, hk2, hE⟩ (by show m - (i + 1) < m - i; omega)
              | (exfalso; omega)
    · obtain rfl : j2 = n := by omega
      have hdt : ks.drop j2 = [] := List.drop_of_length_le (by omega)
      have hE := hend _ (by rw [hdt, gF]) hdt.symm
      by_cases hz : cnt = 0 ∧ mm = 0
      · rw [if_pos hz] at hE
        repeat' (first | refine KK ?_ | fail)
        refine aC 20 _ (by kernel_rfl) rfl (List.Sublist.cons_cons _ (List.nil_sublist _)) ?_
        all_goals refine DD 0 ?_
        all_goals (first | refine D1 1 ?_ | fail)
        all_goals (first | refine D1 2 ?_ | fail)
        all_goals refine DD 3 ?_
        all_goals (try (refine D7 4 ?_; (repeat' (refine KO ?_))))
        all_goals (first | refine D1 4 ?_ | fail)
        all_goals (first | refine D1 5 ?_ | fail)
        all_goals refine DD 6 ?_
        all_goals (first | refine D1 7 ?_ | fail)
        all_goals (first | refine D1 8 ?_ | fail)
        all_goals (refine D3 9 (D6 ?_))
        all_goals refine DD 10 ?_
        all_goals refine DD 11 ?_
        all_goals (try (refine D7 12 ?_; (repeat' (first | fail))))
        all_goals refine DD 12 ?_
        all_goals (first | refine D1 13 ?_ | fail)
        all_goals refine DD 14 ?_
        all_goals (try (refine D7 15 ?_; (repeat' (first | fail))))
        all_goals (first | refine D1 15 ?_ | fail)
        all_goals (first | refine D1 16 ?_ | fail)
        all_goals (first | refine D1 17 ?_ | fail)
        all_goals refine DD 18 ?_
        all_goals refine DD 19 ?_
        all_goals refine D8 ?_
        all_goals
          repeat' (first | refine KK ?_ | refine KG ?_ | fail)
        all_goals first
          | exact aB rfl rfl (congrArg _ hE)
          | (exfalso; omega)
      · rw [if_neg hz] at hE
        repeat' (first | refine KK ?_ | fail)
        refine aC 20 _ (by kernel_rfl) rfl (List.Sublist.cons_cons _ (List.nil_sublist _)) ?_
        all_goals refine DD 0 ?_
        all_goals (first | refine D1 1 ?_ | fail)
        all_goals (first | refine D1 2 ?_ | fail)
        all_goals refine DD 3 ?_
        all_goals (try (refine D7 4 ?_; (repeat' (refine KO ?_))))
        all_goals (first | refine D1 4 ?_ | fail)
        all_goals (first | refine D1 5 ?_ | fail)
        all_goals refine DD 6 ?_
        all_goals (first | refine D1 7 ?_ | fail)
        all_goals (first | refine D1 8 ?_ | fail)
        all_goals (refine D3 9 (D6 ?_))
        all_goals refine DD 10 ?_
        all_goals refine DD 11 ?_
        all_goals (try (refine D7 12 ?_; (repeat' (first | fail))))
        all_goals refine DD 12 ?_
        all_goals (first | refine D1 13 ?_ | fail)
        all_goals refine DD 14 ?_
        all_goals (try (refine D7 15 ?_; (repeat' (first | fail))))
        all_goals (first | refine D1 15 ?_ | fail)
        all_goals (first | refine D1 16 ?_ | fail)
        all_goals (first | refine D1 17 ?_ | fail)
        all_goals refine DD 18 ?_
        all_goals refine DD 19 ?_
        all_goals refine D8 ?_
        all_goals
          repeat' (first | refine KK ?_ | ((refine KB ?_ ?_ <;> intro hp)) | refine KG ?_ | fail)
        all_goals first
          | exact J2 (i + 1, j2, _, _) ⟨by show i + 1 ≤ m; omega, hj2, hk2, hE⟩ (by show m - (i + 1) < m - i; omega)
          | (exfalso; omega)
  · obtain rfl : i = m := by omega
    rw [List.drop_of_length_le (by omega)] at hRj
    have hR2 : decide (n - j = 0) = R := by rw [← hRj, ← hkn, ← List.length_drop]; rfl
    repeat' (first | refine KK ?_ | fail)
    refine aB rfl rfl ?_
    rw [← hR2]
    congr 1
    simp
    try omega
end Go.Proofs.YtocidaibmadekaaGreatDoor
namespace Go.Proofs.YtocidaibmadekaaGreatDoor
open Go.RowKit Go.Vcg
def rO (t : T) : T → Bool := if cL t 128 = true then aK else ofT [6]
def jS (t : T) : T → Bool := if t.m = 1 then aK else ofT [31, 30]
def zJ : T → Bool := eiT [aK, ofT [41]]
theorem Cls.form {μ : Mem} {v : Value} {p : T → Bool} (h : Cls μ v p) : ∃ (f : FuncId) (cap : List Value), v = .func (.func f) #[] cap.toArray := let ⟨f, cap, e, _⟩ := h; ⟨f, cap, e⟩
theorem zA (μ : Mem) : Cls μ (.func (.func 121) #[] #[]) aK := Cls.of kV (by kernel_rfl) μ
attribute [local irreducible] G GC GQ GA bX Calls IntKind.wrap Int.decLt Int.decLe
theorem QW (t : T) (u : Value) (w : World) (μ : Mem) (hμ : MOk μ w) (hk : KR μ t.kids u) (hs : t.size ≤ 100000) :
    Calls Tryz.prog 132 #[.agg (aD t u).toArray] w fun e w' => ∃ v μ', e = .returned v ∧ oM w w' μ μ' ∧ zM (rO t) μ' v := by
  have ho := hk.one
  refine aA (args := [.agg (aD t u).toArray]) Tryz.func132 rfl Tryz.ntmps132 (by simp) hμ ?_
  unfold rO
  cases hh : cL t 128
  · rw [if_neg (by simp)]
    repeat' (first | refine KO ?_ | ((with_reducible apply F1 147); exact rfl; exact EN; (exact fun w μc hw hse => hh ▸ iN 128 t u w μc hw (hk.mono hse.le) hs)) | (refine CF 122 ?_; (with_reducible apply aW); exact rfl; intro μs hles hshs; (with_reducible apply aG); (iterate 3 exact rfl); ((with_reducible apply aQ); kernel_rfl; exact rfl); (exact fun w hw => bE [6] _ _ _ w _ hw (aN hshs rfl (by simp) (by repeat first | exact aJ | refine aF rfl ?_)) (by omega)); rintro v3 μ3 hle3 hc3) | refine KI ?_ | refine NB fun b => ?_ | fail)
    exact mZ rfl (bJ rfl) (fun μ' hle' hL => Cls.mono hc3 hle')
  · rw [if_pos rfl]
    repeat' (first | refine KO ?_ | ((with_reducible apply F1 147); exact rfl; exact EN; (exact fun w μc hw hse => hh ▸ iN 128 t u w μc hw (hk.mono hse.le) hs)) | refine KI ?_ | refine NB fun b => ?_ | fail)
    exact mZ rfl (bJ rfl) (fun μ' hle' hL => zA μ')
theorem pO (t : T) (u : Value) (w : World) (μ : Mem) (hμ : MOk μ w) (hk : KR μ t.kids u) :
    Calls Tryz.prog 156 #[.agg (aD t u).toArray] w fun e w' => ∃ v μ', e = .returned v ∧ oM w w' μ μ' ∧ zM (jS t) μ' v := by
  have ho := hk.one
  refine aA (args := [.agg (aD t u).toArray]) Tryz.func156 rfl Tryz.ntmps156 (by simp) hμ ?_
  unfold jS
  by_cases h1 : t.m = 1
  · rw [if_pos h1]
    repeat' (first | refine KK ?_ | refine NB fun b => ?_ | fail)
    exact mZ rfl (bJ rfl) (fun μ' hle' hL => zA μ')
  · rw [if_neg h1]
    repeat' (first | refine KO ?_ | (refine CF 122 ?_; (with_reducible apply aW); exact rfl; intro μs hles hshs; (with_reducible apply aG); (iterate 3 exact rfl); ((with_reducible apply aQ); kernel_rfl; exact rfl); (exact fun w hw => bE [31, 30] _ _ _ w _ hw (aN hshs rfl (by simp) (by repeat first | exact aJ | refine aF rfl ?_)) (by omega)); rintro v3 μ3 hle3 hc3) | refine KI ?_ | refine NB fun b => ?_ | fail)
    exact mZ rfl (bJ rfl) (fun μ' hle' hL => Cls.mono hc3 hle')
theorem QZ (w : World) (μ : Mem) (hμ : MOk μ w) :
    Calls Tryz.prog 128 #[] w fun e w' => ∃ v μ', e = .returned v ∧ oM w w' μ μ' ∧ zM zJ μ' v := by
  refine aA (args := []) Tryz.func128 rfl Tryz.ntmps128 (by simp) hμ ?_
  repeat' (first | refine KO ?_ | (refine CF 122 ?_; (with_reducible apply aW); exact rfl; intro μs hles hshs; (with_reducible apply aG); (iterate 3 exact rfl); ((with_reducible apply aQ); kernel_rfl; exact rfl); (exact fun w hw => bE [41] _ _ _ w _ hw (aN hshs rfl (by simp) (by repeat first | exact aJ | refine aF rfl ?_)) (by omega)); rintro v3 μ3 hle3 hc3; (obtain ⟨f3, cap3, rfl⟩ := Cls.form hc3)) | (refine CF 120 ?_; (with_reducible apply aW); exact rfl; intro μt hlet hsht; (with_reducible apply aG); (iterate 3 exact rfl); ((with_reducible apply aQ); kernel_rfl; exact rfl); (exact fun w hw => dM [.func (.func 121) #[] #[], .func (.func f3) #[] cap3.toArray] [aK, ofT [41]] _ _ _ w _ hw (aN hsht rfl (by simp) (by repeat first | exact aJ | refine aF rfl ?_)) (aL.cons (zA _) (aL.cons (Cls.mono hc3 hlet) (aL.nil _))) (by omega)); rintro v4 μ4 hle4 hc4) | refine NB fun b => ?_ | fail)
  exact mZ rfl (bJ rfl) (fun μ' hle' hL => Cls.mono hc4 hle')
end Go.Proofs.YtocidaibmadekaaGreatDoor
