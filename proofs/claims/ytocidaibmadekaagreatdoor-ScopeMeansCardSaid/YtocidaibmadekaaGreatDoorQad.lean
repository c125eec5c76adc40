/- Trees of nodes as plain data: how a tree lies in memory. No statement of the seat is proved here. -/
import Derived.Test.YtocidaibmadekaaGreatDoorQac
import Derived.Lib.ItoaNum
import Derived.Lib.Join
import Derived.Lib.IndexMore
import Derived.ProofKit
import Derived.OpenShut
import Derived.ShutString
import Derived.ChangeOld
import Derived.Deep.Slices
import Derived.Deep.Fields
import Derived.HandedShaped
set_option maxRecDepth 20000
set_option maxHeartbeats 2000000
namespace Go.Proofs.YtocidaibmadekaaGreatDoor
open Go.RowKit Go.Vcg
inductive T where
  | mk (op at' n m : Int) (s : ByteArray) (kids : List T)
namespace T
def op : T → Int | mk o _ _ _ _ _ => o
def at' : T → Int | mk _ a _ _ _ _ => a
def n : T → Int | mk _ _ n _ _ _ => n
def m : T → Int | mk _ _ _ m _ _ => m
def s : T → ByteArray | mk _ _ _ _ s _ => s
def kids : T → List T | mk _ _ _ _ _ k => k
def zero : T := mk 0 0 0 0 ⟨#[]⟩ []
theorem IN {t k : T} {i : Nat} (h : t.kids[i]? = some k) : SizeOf.sizeOf k < SizeOf.sizeOf t := by
  cases t with
  | mk o a n m s ks =>
    have hm : k ∈ ks := List.mem_of_getElem? h
    have := List.sizeOf_lt_of_mem hm
    simp; omega
def size : T → Nat | mk _ _ _ _ _ ks => 1 + (ks.attach.map fun ⟨k, _⟩ => k.size).sum
theorem size_eq (t : T) : t.size = 1 + (t.kids.map size).sum := by
  cases t with
  | mk o a n m s ks => rw [size]; simp [kids]
theorem bN {l : List Nat} {x : Nat} (h : x ∈ l) : x ≤ l.sum := by
  induction l with
  | nil => cases h
  | cons y l ih =>
    rcases List.mem_cons.1 h with rfl | h
    · simp
    · have := ih h
      simp; omega
theorem dH {t k : T} {i : Nat} (h : t.kids[i]? = some k) : k.size < t.size := by
  rw [size_eq t]
  have := bN (List.mem_map.2 ⟨k, List.mem_of_getElem? h, rfl⟩ : k.size ∈ t.kids.map size)
  omega
end T
abbrev aD (t : T) (v : Value) : List Value := [.int .i64 t.op, .int .i64 t.at', .int .i64 t.n, .int .i64 t.m, .string t.s, v]
abbrev pW (p : T × Value) : List Value := aD p.1 p.2
inductive KR (μ : Mem) : List T → Value → Prop
  | mk (ks : List T) (A : Option Addr) (c : Nat) (vs : Nat → Value) (hcap : ks.length ≤ c) (hcell : ∀ i t, ks[i]? = some t → ∃ a, A = some a ∧ cQ μ (a.add (i * 6)) (aD t (vs i)))
      (hone : ∀ i t, ks[i]? = some t → (vs i).oneCell' = true) (hsub : ∀ i t, ks[i]? = some t → KR μ t.kids (vs i)) : KR μ ks (.slice A ks.length c)
theorem KR.mono {μ μ' : Mem} (hle : MLe μ μ') {ks : List T} {v : Value} (h : KR μ ks v) : KR μ' ks v := by
  induction h with
  | mk ks A c vs hcap hcell hone hsub ih =>
    refine .mk ks A c vs hcap (fun i t hi => ?_) hone ih
    obtain ⟨a, e, hc⟩ := hcell i t hi
    exact ⟨a, e, hc.mono hle⟩
theorem KR.nil (μ : Mem) (A : Option Addr) (c : Nat) : KR μ [] (.slice A 0 c) := .mk [] A c (fun _ => undef) (Nat.zero_le _) (fun i t h => by simp at h) (fun i t h => by simp at h) (fun i t h => by simp at h)
theorem KR.form {μ : Mem} {ks : List T} {v : Value} (h : KR μ ks v) : ∃ (A : Option Addr) (c : Nat), v = .slice A ks.length c ∧ ks.length ≤ c ∧ ∀ (i : Nat) (t : T), ks[i]? = some t → ∃ a u, A = some a ∧ cQ μ (a.add (i * 6)) (aD t u) ∧ u.oneCell' = true ∧ KR μ t.kids u := by
  cases h with
  | mk _ A c vs hcap hcell hone hsub =>
    refine ⟨A, c, rfl, hcap, fun i t hi => ?_⟩
    obtain ⟨a, e, hc⟩ := hcell i t hi
    exact ⟨a, _, e, hc, hone i t hi, hsub i t hi⟩
theorem KR.one {μ : Mem} {ks : List T} {v : Value} (h : KR μ ks v) : v.oneCell' = true := by cases h; rfl
def TV (μ : Mem) (t : T) (v : Value) : Prop := ∃ u, v = .agg (aD t u).toArray ∧ KR μ t.kids u
end Go.Proofs.YtocidaibmadekaaGreatDoor
namespace Go.Proofs.YtocidaibmadekaaGreatDoor.Iq
open Go.Vcg
def isE (op : Int) : Bool := decide (100 ≤ op) && (decide (op < 148) && (decide (op ≠ 121) && (decide (op ≠ 122) && decide (op ≠ 124))))
def isS (op : Int) : Bool := decide (160 ≤ op) && decide (op < 173)
def aCu (sign : UInt8) (op : Int) : Bool :=
  if sign = 115 then isS op else if sign = 112 then decide (op = 121) || decide (op = 122) else if sign = 97 then isE op || decide (op = 124) else if sign = 98 then isE op || isS op else isE op
def aE : List UInt8 → List Int → Bool
  | [], l => l.isEmpty
  | [c], l => match l with
    | [] => false
    | x :: l' => aCu c x && l'.isEmpty
  | c :: d :: r, l => if d = 42 then (l.take (l.length - r.length)).all (aCu c) && aE r (l.drop (l.length - r.length)) else match l with
    | [] => false
    | x :: l' => aCu c x && aE (d :: r) l'
def fS (c : UInt8) : Bool := (decide (97 ≤ c.toNat) && decide (c.toNat ≤ 122)) || ((decide (65 ≤ c.toNat) && decide (c.toNat ≤ 90)) || (decide (c.toNat = 95) || decide (c.toNat = 36)))
def jB (c : UInt8) : Bool := fS c || (decide (48 ≤ c.toNat) && decide (c.toNat ≤ 57))
def eK : List UInt8 → Bool
  | [] => false
  | c :: r => fS c && r.all jB
abbrev Fns := List (Int × Int)
end Go.Proofs.YtocidaibmadekaaGreatDoor.Iq
namespace Go.Proofs.YtocidaibmadekaaGreatDoor.Ou
open Go
def byS (s : ByteArray) : List UInt8 := s.data.toList
theorem ZX {s t : ByteArray} (h : byS s = byS t) : s = t := by
  cases s; cases t
  simp only [byS, Array.toList_inj] at h
  rw [h]
structure aE2 where
  (kind n : Int) (s : ByteArray)
def aEj : List UInt8 := [48, 49, 50, 51, 52, 53, 54, 55, 56, 57, 97, 98, 99, 100, 101, 102]
def q1 (c : UInt8) : List UInt8 :=
  if c = 10 then [92, 110] else if c = 9 then [92, 116] else if c = 13 then [92, 114] else if c = 0 then [92, 48]
  else if c = 34 ∨ c = 92 then [92, c] else if c.toNat < 32 ∨ 126 < c.toNat then [92, 120, aEj.getD (c.toNat / 16) 0, aEj.getD (c.toNat % 16) 0] else [c]
end Go.Proofs.YtocidaibmadekaaGreatDoor.Ou
namespace Go.Proofs.YtocidaibmadekaaGreatDoor.Ou
open Go
def ofB (l : List UInt8) : ByteArray := ⟨l.toArray⟩
theorem ZW (l : List UInt8) : byS (ofB l) = l := by simp [byS, ofB]
section
variable (R : aE2 → Bool)
def Shaped : Prop := ∀ k : aE2, R k = true → (k.kind = 0 ∧ k.s = ⟨#[]⟩ ∨ k.kind = 1 ∧ k.n = 0 ∨ k.kind = 2 ∧ k.s = ⟨#[]⟩)
variable {R}
end
end Go.Proofs.YtocidaibmadekaaGreatDoor.Ou
namespace Go.Proofs.YtocidaibmadekaaGreatDoor.Iq
open Go Go.Proofs.YtocidaibmadekaaGreatDoor.Ou
end Go.Proofs.YtocidaibmadekaaGreatDoor.Iq
namespace Go.Proofs.YtocidaibmadekaaGreatDoor
open Go.RowKit Go.Vcg Ou
theorem RS {p : UInt8 → Bool} : ∀ (d : List UInt8) (j : Nat), j < (d.takeWhile p).length → ∃ c, d[j]? = some c ∧ p c = true
  | [], j, h => by simp at h
  | c :: r, j, h => by
    rw [List.takeWhile_cons] at h
    by_cases hc : p c = true
    · rw [if_pos hc] at h
      cases j with
      | zero => exact ⟨c, rfl, hc⟩
      | succ j => exact RS r j (by simpa using h)
    · rw [if_neg hc] at h; simp at h
theorem RT {p : UInt8 → Bool} : ∀ (d : List UInt8) (c : UInt8), d[(d.takeWhile p).length]? = some c → p c = false
  | [], c, h => by simp at h
  | x :: r, c, h => by
    rw [List.takeWhile_cons] at h
    by_cases hc : p x = true
    · rw [if_pos hc, List.length_cons, List.getElem?_cons_succ] at h
      exact RT r c h
    · rw [if_neg hc] at h
      simp at h
      rw [← h]
      simpa using hc
def fD : List UInt8 → List UInt8
  | [] => []
  | c :: r => if Iq.fS c = true then c :: r.takeWhile Iq.jB else []
attribute [local irreducible] G GC GQ GA bX Calls IntKind.wrap Int.decLt Int.decLe
theorem GG (x : Int) (c : UInt8) (hx : x = c.toNat) (w : World) (μ : Mem) (hμ : MOk μ w) : Calls Tryz.prog 176 #[.int .u8 x] w fun e w' => e = .returned (.bool (Iq.fS c)) ∧ Below w.heap.size w w' := by
  subst hx
  have hc := c.toNat_lt
  refine aA (args := [.int .u8 c.toNat]) Tryz.func176 rfl Tryz.ntmps176 (by simp) hμ ?_
  have h0 : Iq.fS c = decide ((97 ≤ (c.toNat : Int) ∧ (c.toNat : Int) ≤ 122) ∨ (65 ≤ (c.toNat : Int) ∧ (c.toNat : Int) ≤ 90) ∨ (c.toNat : Int) = 95 ∨ (c.toNat : Int) = 36) := by
    unfold Iq.fS
    rw [Bool.eq_iff_iff]
    simp
    omega
  rw [h0]
  repeat' (first | refine KK ?_ | ((refine KB ?_ ?_ <;> intro hp)) | refine KG ?_ | fail)
  all_goals (refine aB rfl rfl ?_; congr 1; rw [Bool.eq_iff_iff]; simp; omega)
end Go.Proofs.YtocidaibmadekaaGreatDoor
namespace Go.Vcg
open Go.RowKit Go.MapKept
section
variable {P : Program} {w : World}
theorem qX {f : Field} {x : Value} (e : Bool) (n : Nat) (hc : vP P f = codeOf x) : (Instr.checkKey e (n + 1) f.type x).run P w = .ok () w := by
  unfold vP at hc
  unfold Instr.checkKey
  cases hu : P.underlying f.type with
  | none => rw [hu] at hc; cases x <;> simp [codeOf] at hc
  | some d =>
    rw [hu] at hc
    simp only [Sem.run_bind, run_underlying hu, Result.andThen_ok]
    cases d <;> cases x <;> simp [codeOf] at hc <;> simp
theorem oP (e : Bool) (n : Nat) (XS : Array Value) : ∀ (fs : List Field) (k : Nat) (xs : List Value), gN P k fs (xs.map codeOf) = true → (∀ j v, xs[j]? = some v → XS[k + j]? = some v) →
    (forIn fs PUnit.unit fun (f : Field) (_ : PUnit) => (if f.name ≠ "_" then (do let y ← part f.type XS f.offset; Instr.checkKey e (n + 1) f.type y; pure (ForInStep.yield PUnit.unit)) else (do pure PUnit.unit; pure (ForInStep.yield PUnit.unit)) : Sem (ForInStep PUnit))).run P w = .ok PUnit.unit w
  | [], _, _, _, _ => by simp
  | f :: fs, k, [], h, _ => by simp [gN] at h
  | f :: fs, k, x :: xs, h1, hX => by
    simp only [List.map_cons, gN, Bool.and_eq_true, Bool.not_eq_true'] at h1
    obtain ⟨⟨⟨hn, ho⟩, hc⟩, hr⟩ := h1
    have hoff : f.offset = k := Nat.eq_of_beq_eq_true ho
    have hcode : vP P f = codeOf x := Nat.eq_of_beq_eq_true hc
    have hname : f.name ≠ "_" := by simpa using hn
    have hx0 := hX 0 x rfl
    simp only [Nat.add_zero] at hx0
    have hag : jH P f.type = some false := by
      unfold vP at hcode
      unfold jH
      cases hu : P.underlying f.type with
      | none => rw [hu] at hcode; cases x <;> simp [codeOf] at hcode
      | some de => rw [hu] at hcode; cases de <;> first | rfl | (cases x <;> simp [codeOf] at hcode)
    have ih := oP e n XS fs (k + 1) xs hr (fun j v hj => by rw [show k + 1 + j = k + (j + 1) by omega]; exact hX (j + 1) v (by simpa using hj))
    simp only [List.forIn_cons, hname, ne_eq, not_false_eq_true, if_true, Sem.run_bind, hoff, lT hag hx0, Result.andThen_ok, qX e n hcode, Sem.run_pure]
    exact ih
def gY (P : Program) (t : TypeId) (xs : List Value) : Bool := match P.underlying t with
  | some (.struct fs) => gN P 0 fs.toList (xs.map codeOf) && !(P.stoodInHeld t)
  | _ => false
theorem jN {t : TypeId} {xs : List Value} (e : Bool) (h : gY P t xs = true) : (Instr.checkKey e 10000 t (.agg xs.toArray)).run P w = .ok () w := by
  unfold gY at h
  split at h
  · rename_i fs hu
    simp only [Bool.and_eq_true] at h
    unfold Instr.checkKey
    simp only [Sem.run_bind, run_underlying hu, Result.andThen_ok]
    rw [← Array.forIn_toList]
    have := oP (P := P) (w := w) e 9998 xs.toArray fs.toList 0 xs h.1 (fun j v hj => by simpa using hj)
    simp at this ⊢
    rw [this]
    rfl
  · cases h
theorem JX {t : TypeId} {xs ys : List Value} (h : gY P t xs = true) (hv : zR xs ys = true) : (Op.equal t (.agg xs.toArray) (.agg ys.toArray)).run P w = .ok (yP xs ys) w := by
  unfold gY at h
  split at h
  · rename_i fs hu
    simp only [Bool.and_eq_true, Bool.not_eq_true'] at h
    have hf : P.fieldsOf t = fs := by unfold Program.fieldsOf; rw [hu]
    have hu2 : P.underlying t = some (.struct (P.fieldsOf t)) := by rw [hf]; exact hu
    exact rB hu2 h.2 (by rw [hf]; exact h.1) hv w
  · cases h
def lZ (xs : List Value) : List MapEntry → Nat → Option (Option (Nat × Value))
  | [], _ => some none
  | e :: es, i => match e.key with
    | .agg ⟨ys⟩ => match zR xs ys with
      | true => match yP xs ys with
        | true => some (some (i, e.val))
        | false => lZ xs es (i + 1)
      | false => none
    | _ => none
theorem nM {t : TypeId} {xs : List Value} (h : gY P t xs = true) : ∀ {es : List MapEntry} {i : Nat} {r : Option (Nat × Value)}, lZ xs es i = some r → (Instr.findAsking t (.agg xs.toArray) es i).run P w = .ok r w
  | [], i, r, e => by
    unfold lZ at e; cases e
    simp [Instr.findAsking]
  | ⟨k, v, b⟩ :: es, i, r, e => by
    unfold lZ at e
    split at e
    · rename_i ys hk
      dsimp only at hk
      subst hk
      split at e
      · rename_i hok
        have he := JX (w := w) h hok
        split at e
        · rename_i heq
          cases e
          rw [heq] at he
          have he' : (Op.equal t (.agg xs.toArray) (.agg { toList := ys })).run P w = .ok true w := he
          simp [Instr.findAsking, he']
        · rename_i heq
          rw [heq] at he
          have he' : (Op.equal t (.agg xs.toArray) (.agg { toList := ys })).run P w = .ok false w := he
          have ih := nM h e
          simp [Instr.findAsking, he', ih]
      · cases e
    · cases e
theorem mA {t : TypeId} {xs : List Value} (h : gY P t xs = true) {es : List MapEntry} {r : Option (Nat × Value)} (e : lZ xs es 0 = some r) : (Instr.findKey t (.agg xs.toArray) es).run P w = .ok r w := by
  have hk := h
  unfold gY at hk
  split at hk
  · rename_i fs hu
    cases es with
    | nil =>
      unfold lZ at e; cases e
      simp [Instr.findKey, run_underlying hu, Instr.findNow]
    | cons x es =>
      have := nM (w := w) h e
      have hn : Instr.findNow (.struct fs) (.agg xs.toArray) (x :: es) 0 = none := by unfold Instr.findNow Instr.sameNow; rfl
      simp [Instr.findKey, run_underlying hu, hn, this]
  · cases hk
theorem vX {t kt et : TypeId} {b ck : Nat} {es : List MapEntry} {xs : List Value} {v : Value} {ok c : Bool} (ht : P.underlying t = some (.map kt et)) (hkey : gY P kt xs = true)
    (hb : w.heap[b]? = some (.map es.toArray ck)) (hf : iS P et (lZ xs es 0) = some (v, ok)) : (Instr.lookup t (.map (some b)) (.agg xs.toArray) c).run P w = .ok (if c then .tuple #[v, .bool ok] else v) w := by
  cases hr : lZ xs es 0 with
  | none => simp [hr, iS] at hf
  | some r =>
    have h1 := mA (w := w) hkey hr
    have h2 := fun e => jN (w := w) e hkey
    cases r with
    | none =>
      simp only [hr, iS] at hf
      split at hf
      · rename_i z hz
        simp only [Option.some.injEq, Prod.mk.injEq] at hf
        obtain ⟨rfl, rfl⟩ := hf
        simp [Instr.lookup, run_underlying ht, MapKept.run_getObj_map hb, h1, h2, fZ hz]
      · cases hf
    | some p =>
      obtain ⟨n, x⟩ := p
      simp only [hr, iS, Option.some.injEq, Prod.mk.injEq] at hf
      obtain ⟨rfl, rfl⟩ := hf
      simp [Instr.lookup, run_underlying ht, MapKept.run_getObj_map hb, h1, h2]
theorem rW {t kt et : TypeId} {b ck : Nat} {es : List MapEntry} {xs : List Value} {v : Value} (ht : P.underlying t = some (.map kt et)) (hkey : gY P kt xs = true)
    (hb : w.heap[b]? = some (.map es.toArray ck)) (hf : lZ xs es 0 = some none) : (Instr.mapUpdate t (.map (some b)) (.agg xs.toArray) v).run P w = .ok () { w with heap := w.heap.setIfInBounds b (.map (es ++ [MapEntry.mk (.agg xs.toArray) v ck]).toArray (ck + 1)) } := by
  have h1 := mA (w := w) hkey hf
  have h2 := fun e => jN (w := w) e hkey
  simp [Instr.mapUpdate, run_underlying ht, MapKept.run_getObj_map hb, h1, h2, MapKept.run_setObj_map _ hb]
end
end Go.Vcg
namespace Go.Vcg
open Go.ChangeShapes Go.WideShapes Go.ChangeAt Go.RowKit Go.Deep
def rG (w : World) : Mem := fun b => w.heap[b]?
theorem TE (w : World) : MOk (rG w) w := fun _ _ h => h
theorem iF.ML {w : World} {A : Addr} {v : Value} (h : w.cell? A = some v) : iF (rG w) A v := by
  unfold World.cell? at h
  split at h
  · rename_i c t f hh
    by_cases hs : A.spot.isSome
    · simp [hs] at h
    · simp [hs] at h
      exact ⟨c, t, f, hh, by simpa using hs, h⟩
  · cases h
theorem vQ {α : Type} {R : Nat → α → Prop} : ∀ (n : Nat), (∀ i, i < n → ∃ x, R i x) → ∃ l : List α, l.length = n ∧ ∀ i x, l[i]? = some x → R i x
  | 0, _ => ⟨[], rfl, fun i x h => by simp at h⟩
  | n + 1, h => by
    obtain ⟨l, hl, hr⟩ := vQ n (fun i hi => h i (by omega))
    obtain ⟨x, hx⟩ := h n (by omega)
    refine ⟨l ++ [x], by simp [hl], fun i y hy => ?_⟩
    by_cases hi : i < n
    · rw [List.getElem?_append_left (by omega)] at hy
      exact hr i y hy
    · rw [List.getElem?_append_right (by omega)] at hy
      have : i - l.length = 0 := by
        have := (List.getElem?_eq_some_iff.1 hy).1
        simp at this; omega
      rw [this] at hy
      simp at hy
      subst hy
      have : i = n := by omega
      subst this; exact hx
section
variable {H : Type} {enc : TypeId × Value → H} {P : Program} {W : World} {base : Nat} {spare : Nat → Bool} {held : Bool}
theorem QM {t : TypeId} {fs : Array Field} {cs : List Value} {xs : List (DataW H × List MemPlace)} {n : Nat} (hone : oneCellFields P fs = true) (hlen : cs.length = fs.size) (hxl : xs.length = fs.size)
    (hf : ∀ (i : Nat) (f : Field), fs[i]? = some f → DataW.trod enc P W base spare held n f.type ((cs.drop f.offset).take (P.cellsOf f.type)) = xs[i]?) (i : Nat) (f : Field) (hi : fs[i]? = some f) :
    ∃ c y, cs[i]? = some c ∧ DataW.trod enc P W base spare held n f.type [c] = some y ∧ xs[i]? = some y := by
  have hlt : i < fs.size := (Array.getElem?_eq_some_iff.1 hi).1
  obtain ⟨ho, hc⟩ := hone_of hone i f hi
  have h := hf i f hi
  rw [ho, hc] at h
  have hi1 : i < cs.length := by omega
  have hi2 : i < xs.length := by omega
  refine ⟨cs[i], xs[i], List.getElem?_eq_getElem hi1, ?_, List.getElem?_eq_getElem hi2⟩
  rw [List.drop_eq_getElem_cons hi1] at h
  rw [← List.getElem?_eq_getElem hi2, ← h]
  rfl
end
end Go.Vcg
namespace Go
variable {H : Type} {enc : TypeId × Value → H}
theorem jP {a : Assume} {C : Checked} {os : Os} {f : FuncId} {fn : Func} {s : ChangeSpec} {conds : List PathCond} {apart fresh handsOn again : Bool} {X : World → Array Value → Prop}
    (hX : ∀ (w w' : World) (args : Array Value), w.heap = w'.heap → X w args → X w' args)
    (own : ownKnob C.prog.godebug = none) (started : os.Started) (noInit : C.prog.inits.idxOf? f = none) (hfn : C.prog.funcs[f]? = some fn)
    (witness : ∃ (w : World) (tape : Tape) (i : Input), w.os = os ∧ (w.forCall tape i).Shaped C.prog ∧ i.vars = [] ∧ Input.okWide C.prog (w.forCall tape i) .any w.heap.size f i ∧
      ((s.pre enc C.prog fn conds apart (w.forCall tape i).memory i.args ∧ X (w.forCall tape i).memory i.args) ∧ sizedMet enc C.prog fn (OpenSpec.ofChange s) apart (w.forCall tape i).memory i.args) ∧ a.holds C.prog (lone (Frame.enter C.prog f i.args .normal) [] (w.forCall tape i)))
    (contract : ∀ (W : World) (base : Nat) (args : Array Value) (ds gs : List (DataW H)) (before : List MemPlace),
      (∀ (j : Nat) t v, fn.params[j]? = some t → args[j]? = some v → Value.okWide C.prog W .any base t v) →
      DataW.Whole enc C.prog fn.params.toList s.vars apart W args.toList ds gs before →
      (DataW.weightsEach C.prog (fn.params.toList ++ s.plain.varTypes C.prog) (ds ++ gs)).all (· ≤ reachBytes) = true → X W args → W.ShapedOpen C.prog →
      Calls C.prog f args W fun e W' => ∃ v, e = .returned v ∧ s.post enc C.prog fn apart fresh handsOn again W args v W') :
    ReturnsInHanded a C os f .any (fun w args => (s.pre enc C.prog fn conds apart w args ∧ X w args) ∧ sizedMet enc C.prog fn (OpenSpec.ofChange s) apart w args) (s.post enc C.prog fn apart fresh handsOn again) := by
  refine returnsInHanded_of_calls own started noInit witness ?_
  intro w tape i _ hsh _ hok hpre _
  obtain ⟨_, _, _, g, hg, _, _, _, _, hval⟩ := hok
  obtain rfl : g = fn := Option.some.inj (hg.symm.trans hfn)
  obtain ⟨⟨⟨ds, gs, before, hw, _⟩, hx⟩, hz⟩ := hpre
  refine (contract (w.forCall tape i) w.heap.size i.args ds gs before hval (DataW.Whole.of_heap (w' := w.forCall tape i) (by rfl) hw) (hz.weights hw) (hX _ _ _ (by rfl) hx) hsh).mono fun e W' hp => ?_
  obtain ⟨v, rfl, hp⟩ := hp
  exact ChangeSpec.post_blind hp
end Go
namespace Go.Vcg
open Go.RowKit
section
variable {P : Program} {X : Ctx} {ops : Array Oper} {Q : Exit → Act → World → Prop} {μ μr : Mem} {l : aI} {L Lr : List Bk} {fuel i : Nat} {listed : Array Bool}
theorem FV {x y : Bk} : ∀ {L : List Bk} {i : Nat}, dE L i = some x → dE (dG L i y) i = some y
  | [], _, h => by simp [dE] at h
  | z :: r, 0, h => rfl
  | z :: r, i + 1, h => FV (i := i) (by simpa [dE] using h)
section
variable {rest : List Oper} {o : Oper} {d : Nat} {ty : TypeId} {pos : String} {af : Array Edge} {gd : Option (Nat × Bool)}
theorem AX {p q : Operand} {t e : TypeId} {s bytes m n : Nat} {z v : Value} {news xs : List Value} {F : Rw → List Bk}
    (hn : Nat.blt d X.n = true := by exact rfl) (hw : cV ops l ⟨some d, .call { callee := .builtin .append, args := #[p, q], argTypes := #[t, t] }, ty, pos, af, gd⟩ = some true := by exact rfl)
    (hp : ev l p = some v := by exact rfl) (hr : CB L ⟨v, e, s, n, xs⟩ F := by (repeat with_reducible exact dT)) (ht : P.underlying t = some (.slice e) := by exact rfl) (hs : dR P e = some s := by exact rfl) (hz : gB P e = some z := by exact rfl) (hzs : z.cells.toList.length = s := by exact rfl) (hby : sJ P e = some bytes := by exact rfl) (hpos : Nat.blt 0 s = true := by exact rfl)
    (S : Src μ l L q m news) (A : news.length = m * s) (O : ∀ u ∈ news, u.oneCell' = true) (B : (n + m) * bytes ≤ 140737488355328 := by omega) (C : n + m ≤ 140737488355328 := by omega)
    (k : ∀ v, G P X ops Q rest μ ((d, v) :: l) (F ⟨v, e, s, n + m, xs ++ news⟩)) :
    G P X ops Q (⟨some d, .call { callee := .builtin .append, args := #[p, q], argTypes := #[t, t] }, ty, pos, af, gd⟩ :: rest) μ l L := oG hn hw hp hr ht hs hz hzs hby hpos S A O B C k
theorem AI {p q : Operand} {t e : TypeId} {bytes n : Nat} {z v u : Value} {xs : List Value} {F : Rw → List Bk}
    (hn : Nat.blt d X.n = true := by exact rfl) (hw : cV ops l ⟨some d, .call { callee := .builtin .append, args := #[p, q], argTypes := #[t, t] }, ty, pos, af, gd⟩ = some true := by exact rfl)
    (hp : ev l p = some v := by exact rfl) (hr : CB L ⟨v, e, 1, n, xs⟩ F := by (repeat first | with_reducible exact dT | with_reducible apply eI)) (ht : P.underlying t = some (.slice e) := by exact rfl) (hs : dR P e = some 1 := by exact rfl) (hz : gB P e = some z := by exact rfl) (hzs : z.cells.toList.length = 1 := by exact rfl) (hby : sJ P e = some bytes := by exact rfl)
    (S : Src μ l L q 1 [u] := by (with_reducible apply gH); exact rfl; (repeat first | with_reducible exact cU | with_reducible apply gJ); exact rfl) (O : u.oneCell' = true := by exact rfl) (B : (n + 1) * bytes ≤ 140737488355328 := by omega) (C : n + 1 ≤ 140737488355328 := by omega)
    (k : ∀ g cap, n + 1 ≤ cap → G P X ops Q rest μ ((d, .slice (some ⟨g, 0, none⟩) (n + 1) cap) :: l) (F ⟨.slice (some ⟨g, 0, none⟩) (n + 1) cap, e, 1, n + 1, xs ++ [u]⟩)) :
    G P X ops Q (⟨some d, .call { callee := .builtin .append, args := #[p, q], argTypes := #[t, t] }, ty, pos, af, gd⟩ :: rest) μ l L :=
  oG hn hw hp hr ht hs hz hzs hby rfl S rfl (fun x hx => by rw [List.mem_singleton.1 hx]; exact O) B C fun v' => by
    obtain ⟨i, h1, h2⟩ := hr
    rw [h2]
    refine jW i (FV h1) (by omega) fun g cap hv hc => ?_
    subst hv
    have := k g cap hc
    rwa [h2] at this
end
end
end Go.Vcg
namespace Go.Vcg
open Go.RowKit
def nQ (B : Nat) (t : TypeId) (k : Int) (w : World) : Prop := w.heap[B]? = some (.cells #[.int .i64 k] t (0, 0))
structure HX (B : Nat) (w w' : World) (μ μ' : Mem) : Prop where
  os : w'.os = w.os
  tape : w'.tape = w.tape
  output : w'.output = w.output
  size : w.heap.size ≤ w'.heap.size
  block : ∀ b, b < w.heap.size → b ≠ B → w'.heap[b]? = w.heap[b]?
  le : MLe μ μ'
  ok : MOk μ' w'
  fresh : ∀ b, b < w.heap.size → μ b = none → μ' b = none
section
variable {P : Program} {X : Ctx} {ops : Array Oper} {Q : Exit → Act → World → Prop} {rest : List Oper} {μ : Mem} {l : aI} {L : List Bk} {a : Act} {w : World} {o : Oper} {d : Nat}
theorem MN {x y : Bk} : ∀ {L : List Bk} {i j : Nat}, L.Pairwise (fun x y => ∀ b, Bk.id x = some b → Bk.id y ≠ some b) → dE L i = some x → dE L j = some y → j ≠ i → ∀ b, Bk.id x = some b → Bk.id y ≠ some b
  | [], _, _, _, h, _, _ => by simp [dE] at h
  | z :: r, 0, 0, _, _, _, h => absurd rfl h
  | z :: r, 0, j + 1, hp, hx, hy, _ => by
    simp [dE] at hx
    subst hx
    exact (List.pairwise_cons.1 hp).1 _ (bO hy)
  | z :: r, i + 1, 0, hp, hx, hy, _ => by
    simp [dE] at hy
    subst hy
    intro b hb hz
    exact (List.pairwise_cons.1 hp).1 _ (bO hx) b hz hb
  | z :: r, i + 1, j + 1, hp, hx, hy, h => MN (List.pairwise_cons.1 hp).2 (by simpa [dE] using hx) (by simpa [dE] using hy) (by omega)
theorem nQ.of {B : Nat} {t : TypeId} {cs : aI} {k : Int} (h : Bk.at (.inl ⟨B, t, 1, cs⟩) w) (hk : lk cs 0 = some (.int .i64 k)) : nQ B t k w := by
  obtain ⟨arr, h1, h2, h3⟩ := h
  have h2 : arr.size = 1 := h2
  have h4 := h3 0 _ hk
  have : arr = #[.int .i64 k] := by
    apply Array.ext_getElem?
    intro i
    cases i with
    | zero => rw [h4]; rfl
    | succ i => rw [Array.getElem?_eq_none (by omega), Array.getElem?_eq_none (by simp)]
  subst this
  exact h1
theorem nQ.at {B : Nat} {t : TypeId} {k : Int} (h : nQ B t k w) : Bk.at (.inl ⟨B, t, 1, [(0, .int .i64 k)]⟩) w := by
  refine ⟨_, h, rfl, fun i v hv => ?_⟩
  cases i with
  | zero => simp [lk] at hv; simp [hv]
  | succ i => simp [lk, zF (show (0 : Nat) ≠ i + 1 by omega)] at hv
theorem St.aEm (h : St X μ l L a w) {i B : Nat} {t : TypeId} {cs : aI} {k : Int} {w' : World} {μ' : Mem} (hi : dE L i = some (.inl ⟨B, t, 1, cs⟩)) (hg : HX B w w' μ μ') (hk : nQ B t k w') :
    St X μ' l (dG L i (.inl ⟨B, t, 1, [(0, .int .i64 k)]⟩)) a w' := by
  have hlt : ∀ x ∈ L, ∀ b, Bk.id x = some b → b < w.heap.size := fun x hx b hb => Bk.lt (h.own x hx) hb
  have hBlt := hlt _ (bO hi) B rfl
  have h2 := h.upd hi hg.os hg.tape hg.output hg.size (fun b hb hne => hg.block b hb (fun e => hne (by rw [e]; rfl))) hk.at (y := .inl ⟨B, t, 1, [(0, .int .i64 k)]⟩) (fun b hb => .inl hb)
  refine ⟨h2.size, h2.defers.mono hg.le, h2.slots, h2.cO, hg.ok, h.from0.trans hg.le, fun b hb hm h0 => hg.fresh b (Nat.lt_of_lt_of_le hb h.cO.size) (h.fresh b hb hm h0), h2.own, fun x hx b hb => ?_, h2.new, h2.diff⟩
  have hbl : b < w.heap.size := by
    rcases pK hx with rfl | hx'
    · have : B = b := Option.some.inj hb
      omega
    · exact hlt x hx' b hb
  exact hg.fresh b hbl (h2.priv x hx b hb)
theorem BF {f : FuncId} {vs : Array Value} {Post : Mem → Value → Int → Prop} (i : Nat) {B : Nat} {t : TypeId} {cs : aI} {k : Int} (hd : o.dst = some d) (hn : Nat.blt d X.n = true) (hw : cV ops l o = some true) (hr : Ent P μ l L o f vs)
    (hi : dE L i = some (.inl ⟨B, t, 1, cs⟩)) (hk : lk cs 0 = some (.int .i64 k))
    (hc : ∀ w, MOk μ w → nQ B t k w → μ B = none → Calls P f vs w fun e w' => ∃ v μ' k', e = .returned v ∧ HX B w w' μ μ' ∧ nQ B t k' w' ∧ Post μ' v k')
    (h : ∀ v μ' k', MLe μ μ' → Post μ' v k' → G P X ops Q rest μ' ((d, v) :: l) (dG L i (.inl ⟨B, t, 1, [(0, .int .i64 k')]⟩))) : G P X ops Q (o :: rest) μ l L :=
  qY hw fun a w hs => by
    unfold Oper.wp
    rw [hr a w hs.rd, Oper.upon_enter]
    refine (hc w hs.mem (nQ.of (hs.own _ (bO hi)) hk) (hs.priv _ (bO hi) B rfl)).mono fun e w' he => ?_
    obtain ⟨v, μ', k', rfl, hg, hk', hp⟩ := he
    show wpList P ops Q rest (a.put o.dst v) w'
    rw [hd]
    exact h v μ' k' hg.le hp _ _ ((hs.aEm hi hg hk').put hn _)
theorem HU {f : FuncId} {fn : Func} {c : Code} {args : List Value} {n : Nat} {R : Ending → World → Prop} {B : Nat} {t : TypeId} {k : Int} (hf : P.funcs[f]? = some fn) (hb : fn.body = some c) (hn : fn.ntmps = n) (hsz : args.length ≤ n)
    (hμ : MOk μ w) (hB : nQ B t k w) (hμB : μ B = none) (h : GC P ⟨w, μ, [B], n⟩ c (bodyPost P fn R) μ (idx 0 args) [.inl ⟨B, t, 1, [(0, .int .i64 k)]⟩]) : Calls P f args.toArray w R := by
  refine calls_of_wp hf hb (h _ _ ⟨?_, Marks.nil, fun t v hv => ?_, HW.refl _ _, hμ, MLe.refl _, fun _ _ _ h => h, ?_, ?_, ?_, ?_⟩)
  · simp [hn]; omega
  · obtain ⟨_, h2⟩ := pM _ _ _ _ hv
    have hlt : t < args.length := by have := (List.getElem?_eq_some_iff.1 h2).1; simpa using this
    simp only [Nat.sub_zero] at h2
    rw [Array.getElem?_append_left (by simpa using hlt)]
    simpa using h2
  · intro x hx
    rcases List.mem_singleton.1 hx with rfl
    exact hB.at
  · intro x hx b hb
    rcases List.mem_singleton.1 hx with rfl
    cases hb
    exact hμB
  · intro x hx b hb
    rcases List.mem_singleton.1 hx with rfl
    cases hb
    exact .inl (by simp)
  · exact List.pairwise_singleton _ _
theorem SU {fn : Func} {n : Nat} {r : ResultVar} {v : Value} {μ0 : Mem} {Post : Mem → Value → Int → Prop} (i : Nat) {B : Nat} {t : TypeId} {cs : aI} {k : Int} (hr : fn.results = #[r]) (h : RV P μ l L r v) (hi : dE L i = some (.inl ⟨B, t, 1, cs⟩)) (hk : lk cs 0 = some (.int .i64 k))
    (hp : ∀ μ', MLe μ μ' → (∀ j x, dE L j = some x → j ≠ i → Bk.sh x μ') → Post μ' v k) :
    GQ ⟨w, μ0, [B], n⟩ (bodyPost P fn (fun e w' => ∃ v μ' k', e = .returned v ∧ HX B w w' μ0 μ' ∧ nQ B t k' w' ∧ Post μ' v k')) .ret μ l L := fun a w' hs => by
  have hμ' : ∃ μ', HX B w w' μ0 μ' ∧ MLe μ μ' ∧ ∀ x ∈ L, Bk.id x ≠ some B → Bk.sh x μ' := by
    refine ⟨fun b => if b < w.heap.size then μ0 b else w'.heap[b]?, ⟨hs.cO.os, hs.cO.tape, hs.cO.output, hs.cO.size, fun b hb hne => hs.cO.block b hb (by simpa using hne), fun b o e => ?_, fun b o e => ?_, fun b hb h0 => by simp [hb, h0]⟩, fun b o e => ?_, fun x hx hid => ?_⟩
    · by_cases hb : b < w.heap.size
      · simp [hb, e]
      · simp [hb]; exact hs.mem b o (hs.from0 b o e)
    · by_cases hb : b < w.heap.size
      · simp [hb] at e; exact hs.mem b o (hs.from0 b o e)
      · simp [hb] at e; exact e
    · by_cases hb : b < w.heap.size
      · simp only [hb, if_true]
        cases h0 : μ0 b with
        | none =>
          by_cases hbB : b = B
          · rw [hbB, hs.priv _ (bO hi) B rfl] at e; cases e
          · rw [hs.fresh b hb (by simpa using hbB) h0] at e; cases e
        | some o' => have := hs.from0 b o' h0; rw [this] at e; exact e
      · simp [hb]; exact hs.mem b o e
    · refine Bk.wZ (hs.own x hx) (fun b o hb ho => ?_)
      have : ¬ b < w.heap.size := by
        rcases hs.new x hx b hb with h3 | h3
        · have : b = B := by simpa using h3
          exact absurd (by rw [hb, this]) hid
        · simpa using h3
      simp [this, ho]
  obtain ⟨μ', hg, hle, hL⟩ := hμ'
  exact ⟨hs.defers.none (fun D => by simp only [List.count_cons, List.count_nil]; split <;> omega), v, results1 hr h hs.rd, v, μ', k, rfl, hg, nQ.of (hs.own _ (bO hi)) hk, hp μ' hle (fun j x hx hj => hL x (bO hx) (MN hs.diff hi hx hj B rfl))⟩
end
end Go.Vcg
namespace Go.Proofs.YtocidaibmadekaaGreatDoor
open Go.RowKit Go.Vcg
attribute [local irreducible] G GC GQ GA bX Calls IntKind.wrap Int.decLt Int.decLe
theorem BO (p : T × Value) : (pW p).length = 6 := rfl
def sT (ps : List (T × Value)) : Nat := (ps.map fun p => p.1.size).sum
def Kids (μ : Mem) (ps : List (T × Value)) : Prop := ∀ p ∈ ps, KR μ p.1.kids p.2
theorem Kids.mono {μ μ' : Mem} {ps : List (T × Value)} (h : Kids μ ps) (hle : MLe μ μ') : Kids μ' ps := fun p hp => (h p hp).mono hle
theorem Kids.one {μ : Mem} {ps : List (T × Value)} (h : Kids μ ps) : ∀ u ∈ ps.flatMap pW, u.oneCell' = true := by
  intro u hu
  obtain ⟨p, hp, hu⟩ := List.mem_flatMap.1 hu
  simp at hu
  rcases hu with rfl | rfl | rfl | rfl | rfl | rfl
  all_goals first | rfl | exact (h p hp).one
theorem KR.iA {μ : Mem} {A : Option Addr} {n c : Nat} {ps : List (T × Value)} (h : Sl pW 6 μ A n ps) (hc : n ≤ c) (hk : Kids μ ps) : KR μ (ps.map (·.1)) (.slice A n c) := by
  have hn := h.1
  subst hn
  have : KR μ (ps.map (·.1)) (.slice A (ps.map (·.1)).length c) := by
    refine .mk _ A c (fun i => match ps[i]? with | some p => p.2 | none => undef) (by simpa using hc) (fun i t hi => ?_) (fun i t hi => ?_) (fun i t hi => ?_)
    all_goals
      rw [List.getElem?_map] at hi
      cases hp : ps[i]? with
      | none => simp [hp] at hi
      | some p =>
        simp [hp] at hi
        subst hi
        first
          | (obtain ⟨a, e, ha⟩ := h.2 (by have := (List.getElem?_eq_some_iff.1 hp).1; omega); exact ⟨a, e, ha i p hp⟩)
          | exact (hk p (List.mem_of_getElem? hp)).one
          | exact hk p (List.mem_of_getElem? hp)
  simpa using this
theorem CM (a b : List (T × Value)) : sT (a ++ b) = sT a + sT b := by simp [sT]
theorem CN (o a n m : Int) (s : ByteArray) (ps : List (T × Value)) : (T.mk o a n m s (ps.map (·.1))).size = 1 + sT ps := by
  rw [T.size_eq]
  simp only [T.kids, List.map_map]
  rfl
def eH (x : Int) : Prop := -9223372036854775808 ≤ x ∧ x ≤ 9223372036854775807
inductive Ri : T → Prop
  | mk {t : T} (h1 : eH t.op) (h3 : eH t.n) (h4 : eH t.m) (hk : ∀ k ∈ t.kids, Ri k) : Ri t
inductive Sh : T → Prop
  | mk {t : T} (h : t.s.size ≤ 4000) (h1 : eH t.op) (h3 : eH t.n) (h4 : eH t.m) (hk : ∀ k ∈ t.kids, Sh k) : Sh t
theorem Ri.kid {t k : T} (h : Ri t) (hk : k ∈ t.kids) : Ri k := by
  cases h with
  | mk _ _ _ h => exact h k hk
theorem RY (s : ByteArray) : (s.extract 0 (min s.size 200)).size ≤ 4000 := by
  rw [ByteArray.size_extract]
  omega
theorem SA {t : T} {ps : List (T × Value)} (h : Ri t → ∀ p ∈ ps, Sh p.1) : Ri t → Sh (T.mk t.op t.at' t.n t.m (t.s.extract 0 (min t.s.size 200)) (ps.map (·.1))) := fun hr => by
  have hp := h hr
  cases hr with
  | mk h1 h3 h4 _ =>
    refine .mk (RY t.s) h1 h3 h4 fun k hk => ?_
    obtain ⟨p, hpm, rfl⟩ := List.mem_map.1 hk
    exact hp p hpm
def aAf (t0 : T) (k : Nat) (μ : Mem) (v : Value) (k' : Int) : Prop := ∃ (t : T) (j : Nat), k' = (j : Int) ∧ TV μ t v ∧ t.size + j ≤ k + 1 ∧ (Ri t0 → Sh t)
theorem VT : ∀ (deep : Nat), deep ≤ 260 → ∀ (t : T) (v : Value) (w : World) (μ : Mem) (B k : Nat), MOk μ w → TV μ t v → μ B = none → nQ B 3 k w → k ≤ 1500 →
    Calls Tryz.prog 20 #[v, .int .i64 deep, .pointer (some ⟨B, 0, none⟩)] w fun e w' => ∃ v μ' k', e = .returned v ∧ HX B w w' μ μ' ∧ nQ B 3 k' w' ∧ aAf t k μ' v k' := by
  intro deep
  induction deep using Nat.strongRecOn with
  | _ deep ih =>
    intro hd t v w μ B k hμ ht hB hi hk
    obtain ⟨u, rfl, hkr⟩ := ht
    obtain ⟨A, c, rfl, hlc, hkid⟩ := hkr.form
    refine HU (args := [.agg (aD t (.slice A t.kids.length c)).toArray, .int .i64 (deep : Int), .pointer (some ⟨B, 0, none⟩)]) Tryz.func20 rfl Tryz.ntmps20 (by simp) hμ hi hB ?_
    repeat' (first | refine KK ?_ | refine NB fun b => ?_ | fail)
    rename_i bn
    refine aX (ι := Nat × Nat × Value × Mem × List (T × Value)) (fun i => i.1 ≤ t.kids.length ∧ i.2.2.2.2.length = i.1 ∧ MLe μ i.2.2.2.1 ∧ Kids i.2.2.2.1 i.2.2.2.2 ∧ sT i.2.2.2.2 + i.2.1 ≤ k ∧ i.1 + i.2.1 ≤ k ∧ (Ri t → ∀ p ∈ i.2.2.2.2, Sh p.1)) (fun i => t.kids.length - i.1) (fun i => i.2.2.2.1) (fun i => [(8, .int .i64 i.1), (7, i.2.2.1), (6, .pointer (some ⟨b, 0, none⟩)), (3, .pointer (some ⟨bn, 0, none⟩)), (1, .int .i64 deep), (2, .pointer (some ⟨B, 0, none⟩))]) (fun i => [.inr ⟨i.2.2.1, 24, 6, i.1, i.2.2.2.2.flatMap pW⟩, .inl ⟨b, 24, 6, idx 0 [.int .i64 0, .int .i64 0, .int .i64 0, .int .i64 0, .string ⟨#[]⟩, .slice none 0 0]⟩, .inl ⟨bn, 24, 6, idx 0 (aD t (.slice A t.kids.length c))⟩, .inl ⟨B, 3, 1, [(0, .int .i64 i.2.1)]⟩]) (0, k, .slice none 0 0, μ, []) ⟨by simp, rfl, MLe.refl _, fun p hp => (by cases hp), by simp [sT], by simp, fun _ p hp => (by cases hp)⟩ (fun a w hs => (hs.uJ 24 6).sub PU (by repeat exact List.Sublist.refl _)) ?_
    rintro ⟨i, kk, v, μ1, ps⟩ ⟨hil, hpl, hle, hkids, hsz, hik, hsh⟩
    dsimp only at hil hpl hle hkids hsz hik hsh ⊢
    refine fG 0 rfl ?_
    rintro A1 c1 rfl hok
    by_cases hlt : i < t.kids.length
    · obtain ⟨ad, x, rfl, hm0, ho, hkx⟩ := hkid i _ (List.getElem?_eq_getElem hlt)
      have hm := hm0.mono hle
      by_cases hpos : 0 < deep
      · have e : ((deep : Int) - 1) = ((deep - 1 : Nat) : Int) := by omega
        repeat' (first | refine KO ?_ | ((with_reducible apply BF 3); (iterate 3 exact rfl); ((with_reducible apply aU); kernel_rfl; (iterate 3 exact rfl)); exact rfl; exact rfl; (intro w2 hw2 hi2 hB2; (have hc2 := ih (deep - 1) (by omega) (by omega) _ _ w2 _ B (kk - 1) hw2 ⟨x, rfl, hkx.mono hle⟩ hB2 (by (have e2 : ((kk - 1 : Nat) : Int) = (kk : Int) - 1 := by omega); rw [e2]; exact hi2) (by omega)); rw [← e] at hc2; exact hc2); (rintro v2 μ2 k2 hle2 ⟨t2, j, rfl, ⟨u2, rfl, hk2⟩, hsz2, hsh2⟩; (have ho2 := hk2.one); dsimp only [dG])) | (((with_reducible apply oG); (iterate 3 exact rfl); (repeat first | with_reducible exact dT | with_reducible apply eI); (iterate 6 exact rfl); (((with_reducible apply gH); exact rfl; (repeat with_reducible exact cU); exact rfl)); (exact rfl); ((exact eJ (by (repeat first | with_reducible exact dU | ((with_reducible apply dC); (first | exact rfl | assumption)))))); omega; omega; intro v)) | (refine KV (b := by first | exact U1 i | exact U4 hm) (c := ?_)) | refine KI ?_ | refine NB fun b => ?_ | ((refine KB ?_ ?_ <;> intro hp)) | refine KG ?_ | fail)
        · have hs1 := T.size_eq t2
          refine wL (i + 1, j, v, μ2, ps ++ [(t2, u2)]) ⟨by dsimp only; omega, by simp [hpl], hle.trans hle2, ?_, ?_, by dsimp only; omega, fun hr p hp => (List.mem_append.1 hp).elim (fun h => hsh hr p h) (fun h => by rw [List.mem_singleton.1 h]; exact hsh2 (hr.kid (List.getElem_mem hlt)))⟩ (by dsimp only; omega) rfl PU ?_
          · intro p hp
            rcases List.mem_append.1 hp with hp | hp
            · exact (hkids p hp).mono hle2
            · simp at hp; subst hp; exact hk2
          · dsimp only
            have : sT [(t2, u2)] = t2.size := by simp [sT]
            rw [CM]
            omega
          · dsimp only
            rw [List.flatMap_append]
            exact (by repeat first | exact List.Sublist.refl _ | refine List.Sublist.cons _ ?_)
        · repeat' (first | refine KO ?_ | (refine KV (b := by (((with_reducible apply wQ (min t.s.size 200)); (iterate 3 exact rfl); (focus (split <;> omega)); omega))) (c := ?_)) | refine KI ?_ | fail)
          refine SU 3 rfl (nT 1 rfl rfl rfl rfl rfl (by repeat first | exact aJ | refine aF rfl ?_)) rfl rfl (fun μ' hle' hL => ⟨T.mk t.op t.at' t.n t.m (t.s.extract 0 (min t.s.size 200)) (ps.map (·.1)), kk, rfl, ⟨.slice A1 i c1, rfl, ?_⟩, ?_, SA hsh⟩)
          · exact KR.iA (bS (enc := pW) (xs := ps) (hL 0 _ rfl (by decide)) hpl (by simp) rfl) hok.cap (hkids.mono hle')
          · rw [CN]
            omega
      · repeat' (first | refine KO ?_ | (refine KV (b := by (((with_reducible apply wQ (min t.s.size 200)); (iterate 3 exact rfl); (focus (split <;> omega)); omega))) (c := ?_)) | refine KI ?_ | refine KG ?_ | fail)
        refine SU 3 rfl (nT 1 rfl rfl rfl rfl rfl (by repeat first | exact aJ | refine aF rfl ?_)) rfl rfl (fun μ' hle' hL => ⟨T.mk t.op t.at' t.n t.m (t.s.extract 0 (min t.s.size 200)) (ps.map (·.1)), kk, rfl, ⟨.slice A1 i c1, rfl, ?_⟩, ?_, SA hsh⟩)
        · exact KR.iA (bS (enc := pW) (xs := ps) (hL 0 _ rfl (by decide)) hpl (by simp) rfl) hok.cap (hkids.mono hle')
        · rw [CN]
          omega
    · repeat' (first | refine KO ?_ | (refine KV (b := by (((with_reducible apply wQ (min t.s.size 200)); (iterate 3 exact rfl); (focus (split <;> omega)); omega))) (c := ?_)) | refine KI ?_ | refine KG ?_ | fail)
      refine SU 3 rfl (nT 1 rfl rfl rfl rfl rfl (by repeat first | exact aJ | refine aF rfl ?_)) rfl rfl (fun μ' hle' hL => ⟨T.mk t.op t.at' t.n t.m (t.s.extract 0 (min t.s.size 200)) (ps.map (·.1)), kk, rfl, ⟨.slice A1 i c1, rfl, ?_⟩, ?_, SA hsh⟩)
      · exact KR.iA (bS (enc := pW) (xs := ps) (hL 0 _ rfl (by decide)) hpl (by simp) rfl) hok.cap (hkids.mono hle')
      · rw [CN]
        omega
def WE (t0 : T) (μ : Mem) (v : Value) : Prop := ∃ t : T, TV μ t v ∧ t.size ≤ 1501 ∧ (Ri t0 → Sh t)
theorem QN (t : T) (v : Value) (w : World) (μ : Mem) (hμ : MOk μ w) (ht : TV μ t v) :
    Calls Tryz.prog 7 #[v] w fun e w' => ∃ v μ', e = .returned v ∧ oM w w' μ μ' ∧ WE t μ' v := by
  obtain ⟨u, rfl, hkr⟩ := ht
  obtain ⟨A, c, rfl, hlc, hkid⟩ := hkr.form
  refine aA (args := [.agg (aD t (.slice A t.kids.length c)).toArray]) Tryz.func7 rfl Tryz.ntmps7 (by simp) hμ ?_
  repeat' (first | refine KO ?_ | ((with_reducible apply BF 0); (iterate 3 exact rfl); ((with_reducible apply aU); kernel_rfl; (iterate 3 exact rfl)); exact rfl; exact rfl; (intro w2 hw2 hi2 hB2; exact VT 260 (by decide) _ _ w2 _ _ 1500 hw2 ⟨_, rfl, hkr⟩ hB2 hi2 (by decide)); (rintro v2 μ2 k2 hle2 ⟨t2, j, rfl, ⟨u2, rfl, hk2⟩, hsz2, hsh2⟩; (have ho2 := hk2.one); dsimp only [dG])) | refine KI ?_ | refine NB fun b => ?_ | fail)
  exact mZ rfl (nT 1 rfl rfl rfl rfl rfl (by repeat first | exact aJ | refine aF rfl ?_)) (fun μ' hle' hL => ⟨t2, ⟨u2, rfl, hk2.mono hle'⟩, by omega, hsh2⟩)
end Go.Proofs.YtocidaibmadekaaGreatDoor
namespace Go.Proofs.YtocidaibmadekaaGreatDoor
open Go.ChangeShapes Go.WideShapes Go.ChangeAt Go.RowKit Go.Deep Go.Vcg
section
variable {H : Type} {enc : TypeId × Value → H} {W : World}
theorem RG {n : Int} (h : (Lit.int .i64 n).wf = true) : eH n := by
  unfold eH
  unfold Lit.wf at h
  have h1 : (IntKind.i64).min = -9223372036854775808 := by decide
  have h2 : (IntKind.i64).max = 9223372036854775807 := by decide
  simp only [h1, h2, Bool.and_eq_true, decide_eq_true_eq] at h
  exact h
theorem JI : ∀ (fuel : Nat) {cs : List Value} {x : DataW H × List MemPlace}, DataW.trod enc Tryz.prog W 0 (fun _ => true) true fuel 24 cs = some x → ∃ (t : T) (u : Value), cs = aD t u ∧ KR (rG W) t.kids u ∧ Ri t := by
  intro fuel
  induction fuel using Nat.strongRecOn with
  | _ fuel ih =>
    intro cs x h
    obtain ⟨xs, n, hfuel, hx, hlen, hxl, hf⟩ := DataW.trod_struct Tryz.underlying24 h
    have hl : cs.length = 6 := hlen.trans (by kernel_rfl)
    have fa := QM (t := 24) (by kernel_rfl) (by rw [hl]; rfl) hxl hf
    obtain ⟨c0, y0, e0, t0, g0⟩ := fa 0 _ rfl
    obtain ⟨c1, y1, e1, t1, g1⟩ := fa 1 _ rfl
    obtain ⟨c2, y2, e2, t2, g2⟩ := fa 2 _ rfl
    obtain ⟨c3, y3, e3, t3, g3⟩ := fa 3 _ rfl
    obtain ⟨c4, y4, e4, t4, g4⟩ := fa 4 _ rfl
    obtain ⟨c5, y5, e5, t5, g5⟩ := fa 5 _ rfl
    obtain ⟨a0, z0, u0, r0⟩ := DataW.trod_int Tryz.underlying3 t0
    obtain ⟨a1, z1, u1, r1⟩ := DataW.trod_int Tryz.underlying3 t1
    obtain ⟨a2, z2, u2, r2⟩ := DataW.trod_int Tryz.underlying3 t2
    obtain ⟨a3, z3, u3, r3⟩ := DataW.trod_int Tryz.underlying3 t3
    obtain ⟨a4, z4, u4, _⟩ := DataW.trod_string Tryz.underlying9 t4
    simp only [List.cons.injEq, and_true] at z0 z1 z2 z3 z4
    subst z0 z1 z2 z3 z4
    have hcs : cs = [.int .i64 a0, .int .i64 a1, .int .i64 a2, .int .i64 a3, .string a4, c5] := by
      match cs, hl with
      | [_, _, _, _, _, _], _ =>
        simp at e0 e1 e2 e3 e4 e5
        simp [e0, e1, e2, e3, e4, e5]
    have key : ∃ ks : List T, KR (rG W) ks c5 ∧ ∀ k ∈ ks, Ri k := by
      rcases DataW.trod_slice Tryz.underlying22 t5 with ⟨h0, _⟩ | ⟨a, len, cap, elems, rest, k, hk, h0, _, hb, hle, hm, hlen', hel, _⟩
      · simp only [List.cons.injEq, and_true] at h0
        subst h0
        exact ⟨[], KR.nil _ _ _, fun k hk => by cases hk⟩
      · simp only [List.cons.injEq, and_true] at h0
        subst h0
        have hex : ∀ i, i < len → ∃ y : T × Value, cQ (rG W) (a.add (i * 6)) (aD y.1 y.2) ∧ KR (rG W) y.1.kids y.2 ∧ Ri y.1 := fun i hi => by
          have he := hel i hi
          rw [List.getElem?_eq_getElem (show i < elems.length by omega)] at he
          obtain ⟨cs', hc, ht'⟩ := Option.bind_eq_some_iff.1 he
          obtain ⟨t, u, rfl, hkr, hri⟩ := ih k (by omega) ht'
          refine ⟨(t, u), fun j v hv => ?_, hkr, hri⟩
          obtain ⟨_, hcl, hat⟩ := World.cells?_some hc
          have hs : Tryz.prog.cellsOf 24 = 6 := by kernel_rfl
          rw [hs] at hat hcl
          have hj : j < 6 := by
            have := (List.getElem?_eq_some_iff.1 hv).1
            simpa using this
          have := hat j hj
          rw [hv] at this
          exact iF.ML this
        obtain ⟨l, hl1, hl2⟩ := vQ len hex
        refine ⟨l.map (·.1), ?_, fun q hq => by
          obtain ⟨y, hy, rfl⟩ := List.mem_map.1 hq
          obtain ⟨i, hi⟩ := List.mem_iff_getElem?.1 hy
          exact (hl2 i y hi).2.2⟩
        have e : len = (l.map (·.1)).length := by simp [hl1]
        rw [e]
        refine .mk _ (some a) cap (fun i => match l[i]? with | some y => y.2 | none => undef) (by rw [← e]; exact hle) (fun i t hi => ?_) (fun i t hi => ?_) (fun i t hi => ?_)
        · rw [List.getElem?_map] at hi
          cases hy : l[i]? with
          | none => rw [hy] at hi; cases hi
          | some y =>
            rw [hy] at hi; cases hi
            exact ⟨a, rfl, (hl2 i y hy).1⟩
        · rw [List.getElem?_map] at hi
          cases hy : l[i]? with
          | none => rw [hy] at hi; cases hi
          | some y => simp only; exact (hl2 i y hy).2.1.one
        · rw [List.getElem?_map] at hi
          cases hy : l[i]? with
          | none => rw [hy] at hi; cases hi
          | some y =>
            rw [hy] at hi; cases hi
            exact (hl2 i y hy).2.1
    obtain ⟨ks, hks, hri⟩ := key
    exact ⟨.mk a0 a1 a2 a3 a4 ks, c5, hcs, hks, .mk (RG r0) (RG r2) (RG r3) hri⟩
theorem JE {r : Reach} {b0 : Nat} {v : Value} {d : DataW H} {p : List MemPlace} (hv : Value.okWide Tryz.prog W r b0 24 v) (h : DataW.Trod enc Tryz.prog W 0 (fun _ => true) true 24 v d p) : ∃ t : T, TV (rG W) t v ∧ Ri t := by
  obtain ⟨fuel, hf⟩ := h
  obtain ⟨t, u, hc, hk, hri⟩ := JI fuel hf
  obtain ⟨cs, rfl, _⟩ := okWide_struct Tryz.underlying24 hv
  have hc : cs.toList = aD t u := by simpa [Value.cells] using hc
  exact ⟨t, ⟨u, by rw [← hc], hk⟩, hri⟩
end
end Go.Proofs.YtocidaibmadekaaGreatDoor
namespace Go.Proofs.YtocidaibmadekaaGreatDoor
open Go.RowKit Go.Vcg
structure Bd where
  (name : ByteArray) (kind : Int) (held : Bool) (slot : Int)
abbrev iU (b : Bd) : List Value := [.string b.name, .int .i64 b.kind, .bool b.held, .int .i64 b.slot]
structure Sc where
  (up fn kind at' : Int) (names : List Bd)
abbrev cX (p : Sc × Value) : List Value := [.int .i64 p.1.up, .int .i64 p.1.fn, .int .i64 p.1.kind, .int .i64 p.1.at', p.2]
def BdV (μ : Mem) (l : List Bd) (v : Value) : Prop := ∃ A c, v = .slice A l.length c ∧ Sl iU 4 μ A l.length l ∧ l.length ≤ 10000000 ∧ l.length ≤ c
theorem BdV.mono {μ μ' : Mem} {l : List Bd} {v : Value} (h : BdV μ l v) (hle : MLe μ μ') : BdV μ' l v := by
  obtain ⟨A, c, e, h1, h2⟩ := h
  exact ⟨A, c, e, h1.mono hle, h2⟩
theorem BdV.one {μ : Mem} {l : List Bd} {v : Value} (h : BdV μ l v) : v.oneCell' = true := by
  obtain ⟨A, c, rfl, -⟩ := h; rfl
def ScR (μ : Mem) (A : Option Addr) (ps : List (Sc × Value)) : Prop := Sl cX 5 μ A ps.length ps ∧ ps.length ≤ 9000 ∧ ∀ p ∈ ps, BdV μ p.1.names p.2
theorem ScR.mono {μ μ' : Mem} {A : Option Addr} {ps : List (Sc × Value)} (h : ScR μ A ps) (hle : MLe μ μ') : ScR μ' A ps := ⟨h.1.mono hle, h.2.1, fun p hp => (h.2.2 p hp).mono hle⟩
def dP (l : List Bd) : Nat := l.countP (fun b => b.held)
theorem tD (l : List Bd) : dP l ≤ l.length := List.countP_le_length
theorem xZ (l : List Bd) : dP (l.take 0) = 0 := by simp [dP]
theorem yB {l : List Bd} {k : Nat} {b : Bd} (h : l[k]? = some b) : dP (l.take (k + 1)) = dP (l.take k) + if b.held = true then 1 else 0 := by
  unfold dP
  rw [List.take_add_one, h, List.countP_append]
  simp [List.countP_cons]
theorem QC {l : List Bd} {k : Nat} (h : l.length ≤ k) : dP (l.take k) = dP l := by rw [List.take_of_length_le h]
theorem yA (l : List Bd) (k : Nat) : dP (l.take k) ≤ k := Nat.le_trans (tD _) (by rw [List.length_take]; omega)
def iZ (fn : Int) : List Sc → Nat
  | [] => 0
  | s :: r => (if s.fn = fn then s.names.length - dP s.names else 0) + iZ fn r
theorem vK (fn : Int) : ∀ a b : List Sc, iZ fn (a ++ b) = iZ fn a + iZ fn b
  | [], b => by simp [iZ]
  | s :: r, b => by
    have := vK fn r b
    simp only [List.cons_append, iZ, this]
    omega
theorem AU {fn : Int} {l : List Sc} {k : Nat} {s : Sc} (h : l[k]? = some s) : iZ fn (l.take (k + 1)) = iZ fn (l.take k) + if s.fn = fn then s.names.length - dP s.names else 0 := by
  rw [List.take_add_one, h, vK]
  simp [iZ]
theorem MS (fn : Int) : ∀ l : List Sc, (∀ s ∈ l, s.names.length ≤ 10000000) → iZ fn l ≤ 10000000 * l.length
  | [], _ => by simp [iZ]
  | s :: r, h => by
    have h1 := MS fn r (fun x hx => h x (List.mem_cons_of_mem _ hx))
    have h2 := h s (List.mem_cons_self ..)
    have h3 := tD s.names
    simp only [iZ, List.length_cons]
    split <;> omega
def eQ (x : ByteArray) : List Bd → Nat → Option Nat
  | [], _ => none
  | b :: r, k => if b.name = x then some k else eQ x r (k + 1)
theorem FN {x : ByteArray} {l : List Bd} {k : Nat} {b : Bd} (h : l[k]? = some b) : eQ x (l.drop k) k = if b.name = x then some k else eQ x (l.drop (k + 1)) (k + 1) := by
  have hlt := (List.getElem?_eq_some_iff.1 h)
  obtain ⟨h1, h2⟩ := hlt
  rw [List.drop_eq_getElem_cons h1, h2]
  rfl
def findF (l : List Sc) (x : ByteArray) : Nat → Int → Option (Nat × Nat)
  | 0, _ => none
  | f + 1, at' => if 0 ≤ at' ∧ at' < l.length then match l[at'.toNat]? with
      | none => none
      | some s => match eQ x s.names 0 with
        | some k => some (at'.toNat, k)
        | none => if s.up ≥ at' then none else findF l x f s.up
    else none
theorem kA {l : List Sc} {x : ByteArray} {f : Nat} {at' : Int} (h : ¬ (0 ≤ at' ∧ at' < l.length)) : findF l x f at' = none := by
  cases f with
  | zero => rfl
  | succ f => unfold findF; rw [if_neg h]
theorem UU {l : List Sc} {x : ByteArray} {f k : Nat} {s : Sc} (h : l[k]? = some s) : findF l x (f + 1) (k : Int) = match eQ x s.names 0 with
    | some j => some (k, j)
    | none => if s.up ≥ (k : Int) then none else findF l x f s.up := by
  have hlt := (List.getElem?_eq_some_iff.1 h).1
  rw [findF, if_pos ⟨by omega, by omega⟩]
  simp only [Int.toNat_natCast, h]
abbrev BK (r : Option (Nat × Nat)) : Value := match r with
  | some (s, k) => .tuple #[.int .i64 (s : Int), .int .i64 (k : Int), .bool true]
  | none => .tuple #[.int .i64 0, .int .i64 0, .bool false]
attribute [local irreducible] dP iZ eQ findF G GC GQ GA bX Calls IntKind.wrap Int.decLt Int.decLe
section
variable (w : World) (μ : Mem) (hμ : MOk μ w)
include hμ
theorem pE (s : Sc) (v : Value) (hv : BdV μ s.names v) : Calls Tryz.prog 24 #[.agg (cX (s, v)).toArray] w fun e w' => e = .returned (.int .i64 (dP s.names)) ∧ Below w.heap.size w w' := by
  obtain ⟨A, c, rfl, hS, hl⟩ := hv
  refine aA (args := [.agg #[.int .i64 s.up, .int .i64 s.fn, .int .i64 s.kind, .int .i64 s.at', .slice A s.names.length c]]) Tryz.func24 rfl Tryz.ntmps24 (by simp) hμ ?_
  repeat' (first | refine KK ?_ | refine NB fun b => ?_ | fail)
  refine aX (ι := Nat × Nat) (fun i => i.1 ≤ s.names.length ∧ i.2 = dP (s.names.take i.1)) (fun i => s.names.length - i.1) (fun _ => μ) (fun i => [(9, .int .i64 (i.1 : Int)), (8, .int .i64 (s.names.length : Int)), (7, .slice A s.names.length c), (3, .int .i64 (i.2 : Int))]) (fun _ => []) (0, 0) ⟨Nat.zero_le _, (xZ _).symm⟩ (fun a w hs => J5 hs) ?_
  rintro ⟨k, n⟩ ⟨hk, hn⟩
  dsimp only at hk hn ⊢
  have hb := yA s.names k
  by_cases hlt : k < s.names.length
  · obtain ⟨ad, y, rfl, hy, hm⟩ := hS.get hlt
    have hn2 := yB hy
    rw [← hn] at hn2 hb
    obtain ⟨nm, kd, hd, sl⟩ := y
    cases hd
    · rw [if_neg (by simp)] at hn2
      repeat' (first | refine KO ?_ | (refine KV (b := by first | exact U1 k | exact U4 hm) (c := ?_)) | refine KI ?_ | refine NB fun b => ?_ | fail)
      all_goals try (exfalso; first | fail)
      all_goals exact J2 (k + 1, n) ⟨by dsimp only; omega, hn2.symm⟩ (by dsimp only; omega)
    · rw [if_pos rfl] at hn2
      repeat' (first | refine KO ?_ | (refine KV (b := by first | exact U1 k | exact U4 hm) (c := ?_)) | refine KI ?_ | refine NB fun b => ?_ | fail)
      all_goals try (exfalso; first | fail)
      all_goals exact J2 (k + 1, n + 1) ⟨by dsimp only; omega, hn2.symm⟩ (by dsimp only; omega)
  · obtain rfl : k = s.names.length := by omega
    rw [QC (Nat.le_refl _)] at hn
    subst hn
    repeat' (first | refine KK ?_ | fail)
    all_goals try (exfalso; first | fail)
    exact aB rfl rfl rfl
end
end Go.Proofs.YtocidaibmadekaaGreatDoor
namespace Go.Proofs.YtocidaibmadekaaGreatDoor
open Go.RowKit Go.Vcg
attribute [local irreducible] G GC GQ GA bX Calls IntKind.wrap Int.decLt Int.decLe
def cZ (t : T) : List T :=
  if t.op = 60 ∨ t.op = 61 ∨ t.op = 5 then t.kids else if t.op = 63 ∨ t.op = 64 then t.kids.take 1 else if t.op = 62 then (t.kids.drop 1).take 1 else []
theorem rQ {t k : T} (h : k ∈ cZ t) : k ∈ t.kids := by
  unfold cZ at h
  split at h
  · exact h
  · split at h
    · exact List.mem_of_mem_take h
    · split at h
      · exact List.mem_of_mem_drop (List.mem_of_mem_take h)
      · cases h
theorem wY {t k : T} (h : k ∈ t.kids) : SizeOf.sizeOf k < SizeOf.sizeOf t := by
  obtain ⟨i, hi⟩ := List.mem_iff_getElem?.1 h
  exact T.IN hi
def aR (t : T) : List ByteArray := if t.op = 34 then [t.s] else (cZ t).attach.flatMap fun k => aR k.1
termination_by SizeOf.sizeOf t
decreasing_by exact wY (rQ k.2)
theorem vI {t : T} (h : t.op = 34) : aR t = [t.s] := by rw [aR, if_pos h]
theorem AR {t : T} (h : t.op ≠ 34) : aR t = (cZ t).flatMap aR := by
  rw [aR, if_neg h]
  simp
theorem T.ind {p : T → Prop} (h : ∀ t, (∀ k, k ∈ t.kids → p k) → p t) (t : T) : p t :=
  (measure (fun t : T => SizeOf.sizeOf t)).wf.induction t fun t ih => h t fun k hk => ih k (wY hk)
def fH (l : List T) : Nat := (l.map T.size).sum
theorem oY (l : List T) (k : Nat) : fH (l.take k) ≤ fH l := by
  have : fH l = fH (l.take k) + fH (l.drop k) := by
    conv => lhs; rw [← List.take_append_drop k l]
    simp only [fH, List.map_append, List.sum_append]
  omega
theorem ET (l : List T) (k : Nat) : fH (l.drop k) ≤ fH l := by
  have : fH l = fH (l.take k) + fH (l.drop k) := by
    conv => lhs; rw [← List.take_append_drop k l]
    simp only [fH, List.map_append, List.sum_append]
  omega
theorem JQ (l : List T) : l.length ≤ fH l := by
  induction l with
  | nil => simp
  | cons k l ih =>
    have := T.size_eq k
    simp [fH] at *
    omega
theorem uT (t : T) : fH (cZ t) < t.size := by
  rw [T.size_eq]
  have h0 : (t.kids.map T.size).sum = fH t.kids := rfl
  rw [h0]
  unfold cZ
  have h1 := oY t.kids 1
  have h2 := ET t.kids 1
  have h3 := oY (t.kids.drop 1) 1
  have h4 : fH [] = 0 := rfl
  split
  · omega
  · split
    · omega
    · split <;> omega
theorem pU {l : List T} (h : ∀ k ∈ l, (aR k).length ≤ k.size) : (l.flatMap aR).length ≤ fH l := by
  induction l with
  | nil => simp [fH]
  | cons k l ih =>
    have h1 := h k (by simp)
    have h2 := ih (fun k hk => h k (by simp [hk]))
    simp [fH] at *
    omega
theorem iQ (t : T) : (aR t).length ≤ t.size := by
  induction t using T.ind with
  | h t ih =>
    by_cases h : t.op = 34
    · rw [vI h, T.size_eq]; simp
    · rw [AR h]
      have := pU (l := cZ t) (fun k hk => ih k (rQ hk))
      have := uT t
      omega
theorem KR.take {μ : Mem} {ks : List T} {A : Option Addr} {n c : Nat} (h : KR μ ks (.slice A n c)) (k : Nat) (hk : k ≤ n) : KR μ (ks.take k) (.slice A k c) := by
  cases h with
  | mk _ A c vs hcap hcell hone hsub =>
    have e : (ks.take k).length = k := by simp; omega
    have h0 : ∀ (i : Nat) (t : T), (ks.take k)[i]? = some t → ks[i]? = some t := fun i t hi => by
      rw [List.getElem?_take] at hi; split at hi <;> simp_all
    have := KR.mk (μ := μ) (ks.take k) A c vs (by omega) (fun i t hi => hcell i t (h0 i t hi)) (fun i t hi => hone i t (h0 i t hi)) (fun i t hi => hsub i t (h0 i t hi))
    rw [e] at this
    exact this
theorem KR.drop {μ : Mem} {ks : List T} {A : Option Addr} {n c : Nat} (h : KR μ ks (.slice A n c)) (k m : Nat) (hk : k ≤ m) (hm : m ≤ n) : KR μ ((ks.drop k).take (m - k)) (.slice (if c = k then A else A.map (·.add (k * 6))) (m - k) (c - k)) := by
  refine KR.take (n := n - k) ?_ (m - k) (by omega)
  cases h with
  | mk _ A c vs hcap hcell hone hsub =>
    have e : (ks.drop k).length = ks.length - k := by simp
    have h0 : ∀ (i : Nat) (t : T), (ks.drop k)[i]? = some t → ks[k + i]? = some t := fun i t hi => by simpa using hi
    have := KR.mk (μ := μ) (ks.drop k) (if c = k then A else A.map (·.add (k * 6))) (c - k) (fun i => vs (k + i)) (by omega) (fun i t hi => ?_) (fun i t hi => hone _ t (h0 i t hi)) (fun i t hi => hsub _ t (h0 i t hi))
    · rw [e] at this
      exact this
    · obtain ⟨a, e, hc⟩ := hcell _ t (h0 i t hi)
      have : k + i < ks.length := (List.getElem?_eq_some_iff.1 (h0 i t hi)).1
      rw [if_neg (by omega), e]
      refine ⟨_, rfl, ?_⟩
      rw [iE, ← Nat.add_mul]
      exact hc
theorem EM (l : List T) : l.take (min 1 l.length) = l.take 1 := by cases l <;> simp
theorem EI (w : World) (μ : Mem) (hμ : MOk μ w) (t : T) (kv : Value) (hk : KR μ t.kids kv) :
    Calls Tryz.prog 142 #[.agg (aD t kv).toArray] w fun e w' => ∃ v μ', e = .returned v ∧ oM w w' μ μ' ∧ KR μ' (cZ t) v := by
  refine aA Tryz.func142 rfl Tryz.ntmps142 (by simp) hμ ?_
  obtain ⟨A, c, rfl, hcap, hget⟩ := hk.form
  repeat' (first | refine KO ?_ | (refine KV (b := by first | ((with_reducible apply RM); exact rfl; exact rfl) | ((with_reducible apply wR (min 1 t.kids.length)); (iterate 4 exact rfl); (focus (split <;> omega; done)); omega) | ((with_reducible apply CC 1 2); (iterate 7 exact rfl); omega; omega)) (c := ?_)) | refine KI ?_ | refine NB fun b => ?_ | ((refine KB ?_ ?_ <;> intro hp)) | fail)
  all_goals refine mZ rfl (bJ rfl) (fun μ' hle _ => ?_)
  all_goals have hk' := hk.mono hle
  all_goals unfold cZ
  · rw [if_pos (by omega)]; exact hk'
  · rw [if_pos (by omega)]; exact hk'
  · rw [if_pos (by omega)]; exact hk'
  · rw [if_neg (by omega), if_pos (by omega)]
    have := hk'.take (min 1 t.kids.length) (Nat.min_le_right _ _)
    rwa [EM] at this
  · rw [if_neg (by omega), if_pos (by omega)]
    have := hk'.take (min 1 t.kids.length) (Nat.min_le_right _ _)
    rwa [EM] at this
  · rw [if_neg (by omega), if_neg (by omega), if_pos (by omega)]
    exact hk'.drop 1 2 (by omega) (by omega)
  · rw [if_neg (by omega), if_neg (by omega), if_pos (by omega), List.drop_of_length_le (by omega)]
    exact KR.nil _ _ _
  · rw [if_neg (by omega), if_neg (by omega), if_neg (by omega)]
    exact KR.nil _ _ _
theorem aBz (l : List ByteArray) : ∀ u ∈ l.flatMap gA, u.oneCell' = true := by
  intro u hu
  obtain ⟨x, _, hx⟩ := List.mem_flatMap.1 hu
  simp at hx; subst hx; rfl
theorem aB8 (l : List ByteArray) : (l.flatMap gA).length = l.length := by
  have := fN (enc := gA) (s := 1) (fun _ => rfl) l
  omega
def EF (f : FuncId) (t : T) : Prop := ∀ (w : World) (μ : Mem) (kv : Value), MOk μ w → KR μ t.kids kv → t.size ≤ 1000000 →
  Calls Tryz.prog f #[.agg (aD t kv).toArray] w (mV w 9 1 (aR t).length ((aR t).flatMap gA))
theorem JJ (t : T) (ih : ∀ k, k ∈ t.kids → EF 93 k) : EF 93 t := by
  intro w μ kv hμ hk hsz
  refine aA Tryz.func93 rfl Tryz.ntmps93 (by simp) hμ ?_
  by_cases hop : t.op = 34
  · repeat' (first | refine KK ?_ | refine NB fun b => ?_ | fail)
    rw [vI hop]
    refine aCk (l' := [(2, .slice (some ⟨b, 0, none⟩) 1 1)]) (L' := [.inl ⟨b, 9, 1, idx 0 [.string t.s]⟩]) PU (by repeat first | exact List.nil_sublist _ | refine List.Sublist.cons_cons _ ?_) ?_
    refine QF 1 1 rfl (aF rfl aJ) (by omega) ?_
    exact nU 0 rfl rfl rfl
  · have hws := uT t
    have hwl := JQ (cZ t)
    have hsub : ∀ i, (((cZ t).take i).flatMap aR).length ≤ t.size := fun i => by
      have h1 := pU (l := (cZ t).take i) (fun k _ => iQ k)
      have h2 := oY (cZ t) i
      omega
    repeat' (first | refine KO ?_ | ((with_reducible apply C2); exact rfl; exact EN; (exact fun w hw => EI w μ hw t kv hk); intro v μ1 hle1 hk1; obtain ⟨A, c, rfl, hcap, hget⟩ := hk1.form) | refine KI ?_ | refine NB fun b => ?_ | fail)
    refine aX (ι := Nat × Value) (fun i => i.1 ≤ (cZ t).length) (fun i => (cZ t).length - i.1) (fun _ => μ1) (fun i => [(15, .int .i64 i.1), (14, .int .i64 (cZ t).length), (13, .slice A (cZ t).length c), (3, i.2)]) (fun i => [.inr ⟨i.2, 9, 1, (((cZ t).take i.1).flatMap aR).length, (((cZ t).take i.1).flatMap aR).flatMap gA⟩]) (0, .slice none 0 0) (by simp) (fun a w hs => (hs.uJ 9 1).sub PU (by repeat first | exact List.nil_sublist _ | refine List.Sublist.cons_cons _ ?_)) ?_
    rintro ⟨i, v⟩ hi
    dsimp only at hi ⊢
    by_cases hlt : i < (cZ t).length
    · have hki : (cZ t)[i]? = some (cZ t)[i] := List.getElem?_eq_getElem hlt
      generalize (cZ t)[i] = k at hki
      obtain ⟨ad, u, rfl, hm, hone, hku⟩ := hget i k hki
      have hkm := rQ (List.mem_of_getElem? hki)
      have hksz : k.size ≤ 1000000 := by
        obtain ⟨j, hj⟩ := List.mem_iff_getElem?.1 hkm
        have := T.dH hj
        omega
      have hsu := hsub (i + 1)
      have htk : ((cZ t).take (i + 1)).flatMap aR = ((cZ t).take i).flatMap aR ++ aR k := by
        rw [List.take_add_one, hki]; simp
      have hall : (aD k u).all (·.oneCell') = true := by simp only [List.all_cons, List.all_nil, Bool.and_true, Bool.and_eq_true]; exact ⟨rfl, rfl, rfl, rfl, rfl, hone⟩
      have hle2 : (((cZ t).take i).flatMap aR).length + (aR k).length ≤ 1000000 := by rw [htk, List.length_append] at hsu; omega
      have h1 := aBz (aR k)
      have h2 := aB8 (aR k)
      repeat' (first | ((with_reducible apply KD); (iterate 5 exact rfl); exact hall; exact rfl; (repeat first | with_reducible exact CW | with_reducible apply wJ)) | refine KO ?_ | ((with_reducible apply C3); exact rfl; exact EN; (exact fun w μc hk hse => ih k hkm w μc u hk (hku.mono hse.le) hksz); intro v2; (with_reducible apply cP 0); exact rfl; rintro A2 c2 rfl hok2) | (((with_reducible apply oG); (iterate 3 exact rfl); (repeat first | with_reducible exact dT | with_reducible apply eI); (iterate 6 exact rfl); (((with_reducible apply XE 0); exact hok2; exact rfl; exact rfl)); (omega); (assumption); omega; omega; intro v)) | (refine KV (b := by first | exact U1 i | exact U4 hm) (c := ?_)) | refine KI ?_ | refine NB fun b => ?_ | fail)
      refine wL (i + 1, v) (by dsimp only; omega) (by dsimp only; omega) rfl PU ?_
      dsimp only
      rw [htk, List.length_append, List.flatMap_append]
      exact (by repeat first | exact List.Sublist.refl _ | refine List.Sublist.cons _ ?_)
    · repeat' (first | refine KK ?_ | fail)
      have hi' : i = (cZ t).length := by omega
      rw [AR hop]
      subst hi'
      simp only [List.take_length]
      exact nU 0 rfl rfl rfl
theorem oC (t : T) : EF 93 t := T.ind JJ t
end Go.Proofs.YtocidaibmadekaaGreatDoor
namespace Go.Proofs.YtocidaibmadekaaGreatDoor
open Go.RowKit Go.Vcg
structure ED where
  (lex : Bool) (ins : List Int) (par : Int) (twice : Bool)
structure EP where
  (strict gen fn head : Bool) (regs : List Int) (labels loops : List ByteArray) (loop choice : Bool) (mine : List ByteArray) (own each : Bool)
structure ES where
  (names : List (ByteArray × List ED)) (regs : Nat) (at' e : Int)
def anI (x y : Int) : Int := IntKind.i64.wrap ((BitVec.ofInt 64 x &&& BitVec.ofInt 64 y).toNat : Int)
def jK (n b : Int) : Bool := decide (0 ≤ n) && decide (anI n b ≠ 0)
def aY (t : T) (i : Nat) : T := (t.kids[i]?).getD T.zero
def tV : ByteArray := "use strict".toUTF8
def zD (t : T) : List T := if t.op = 1 then t.kids else if t.op = 4 ∧ 1 < t.kids.length ∧ (aY t 1).op = 6 then (aY t 1).kids else []
def nR : List T → Bool
  | [] => false
  | s :: r => if s.op = 8 ∧ s.kids.length = 1 ∧ (aY s 0).op = 31 then (if (aY s 0).s = tV then true else nR r) else false
def kE (t : T) : Bool := nR (zD t)
def lB (t : T) : Bool := decide (t.op = 5) && t.kids.all fun k => decide (k.op = 34)
def dN (c : Bool) (a e : Int) (s : ES) : ES := if c = true ∧ s.e = 0 then { s with at' := a, e := e } else s
def gO (a b : ED) : Bool := if b.twice = true ∧ b.par ≠ 0 ∧ a.par = b.par then true else (a.lex || b.lex) && a.ins.any fun r => b.ins.contains r
def gZ (x : ByteArray) : List (ByteArray × List ED) → List ED
  | [] => []
  | (y, l) :: r => if x = y then l else gZ x r
def nZ (x : ByteArray) (l : List ED) : List (ByteArray × List ED) → List (ByteArray × List ED)
  | [] => [(x, l)]
  | (y, m) :: r => if x = y then (y, l) :: r else (y, m) :: nZ x l r
def nO (a : Int) (x : ByteArray) (d : ED) (s : ES) : ES :=
  let s1 := dN ((gZ x s.names).any fun o => gO o d) a 30 s
  { s1 with names := nZ x (gZ x s1.names ++ [d]) s1.names }
def iR (wd : ByteArray → Int) (t : T) (x : ByteArray) (p : EP) (s : ES) : ES :=
  let s1 := dN (decide (wd x = 1) || decide (x = "let".toUTF8)) t.at' 23 s
  let s2 := if t.op = 34 ∨ t.op = 31 then dN (decide (x = "yield".toUTF8) && p.gen) t.at' 34 s1 else s1
  dN (p.strict && decide (wd x = 2)) t.at' 35 s2
def gW (p : EP) : List Int := p.regs.drop (p.regs.length - 1)
def fX (p : EP) (s : ES) : EP := { p with regs := p.regs ++ [((s.regs + 1 : Nat) : Int)] }
def cG (s : ES) : ES := { s with regs := s.regs + 1 }
def kS (p : EP) : EP := { p with mine := [], own := false, each := false }
section
variable (wd : ByteArray → Int) (N : T → EP → ES → ES) (B : T → EP → ED → ES → ES)
def iD (l : List T) (p : EP) (s : ES) : ES := l.foldl (fun s k => N k p s) s
def BW (t : T) (p : EP) (d : ED) (s : ES) : ES :=
  if t.op = 34 then nO t.at' t.s d (iR wd t t.s p s)
  else if t.op = 51 ∨ t.op = 52 then dN true t.at' 24 s
  else if t.op = 63 then N (aY t 1) p (B (aY t 0) p d s)
  else if t.op = 62 then B (aY t 1) p d (N (aY t 0) p s)
  else if t.op = 60 ∨ t.op = 61 ∨ t.op = 64 then t.kids.foldl (fun s k => B k p d s) s
  else s
def gP (t : T) (p : EP) (s : ES) : ES := N t p (dN ((decide (t.op = 4) && jK t.n 1) || (decide (t.op = 2) && (decide (t.n = 1) || decide (t.n = 2)))) t.at' 23 s)
def uB (t : T) (p : EP) (mine : List ByteArray) (s : ES) : ES := gP N t { p with loop := true, loops := p.loops ++ mine } s
def inP (t : T) (p : EP) : EP := ⟨p.strict || kE t, jK t.n 4, true, false, [], [], [], false, false, [], false, false⟩
def QJ (t : T) (p : EP) (own : Bool) (s : ES) : ES :=
  let s1 := if t.s ≠ ⟨#[]⟩ then iR wd t t.s { p with strict := (inP t p).strict } s else s
  let s2 := dN (kE t && !lB (aY t 0)) t.at' 35 s1
  let s3 := if jK t.n 1 then nO t.at' t.s ⟨!own, if own then p.regs else gW p, 0, false⟩ s2 else s2
  let i := fX (inP t p) s3
  let s4 := cG s3
  let s5 := (aY t 0).kids.foldl (fun s k => B k { i with head := true } ⟨false, i.regs, (s4.regs : Int), (i.strict || jK t.n 2 || jK t.n 8 || !lB (aY t 0))⟩ s) s4
  if (aY t 1).op ≠ 6 then N (aY t 1) i s5 else iD N (aY t 1).kids { i with own := true } s5
def zY (t : T) (p : EP) (each : Bool) (s : ES) : ES :=
  let d : ED := if t.n ≠ 0 then ⟨true, gW p, 0, false⟩ else ⟨false, p.regs, 0, false⟩
  t.kids.foldl (fun s k => iD N (k.kids.drop 1) p (B (aY k 0) p d (dN (decide (k.kids.length = 1) && !each && (decide (t.n = 2) || decide ((aY k 0).op ≠ 34))) k.at' 36 s))) s
def AZ (t : T) (p : EP) (s : ES) : ES :=
  if t.s = ⟨#[]⟩ then dN (!p.loop && (decide (t.op = 16) || !p.choice)) t.at' 32 s
  else dN (decide (t.op = 16) && !p.loops.contains t.s) t.at' 32 (dN (!p.labels.contains t.s) t.at' 31 (iR wd t t.s p s))
def AT (t : T) (p : EP) (mine : List ByteArray) (s : ES) : ES :=
  if t.op = 13 then uB N (aY t 1) p mine (N (aY t 0) p s)
  else if t.op = 14 then N (aY t 1) p (uB N (aY t 0) p mine s)
  else
    let q := fX p s
    let s1 := (t.kids.take (t.kids.length - 1)).foldl (fun s k => N k { q with each := decide (t.op ≠ 10) } s) (cG s)
    uB N (aY t (t.kids.length - 1)) q mine s1
def AM (t : T) (p : EP) (s : ES) : ES :=
  if t.op = 15 ∨ t.op = 16 then iD N t.kids p (AZ wd t p s)
  else if t.op = 17 then iD N t.kids p (dN (!p.fn || p.head) t.at' 33 s)
  else if t.op = 34 then iD N t.kids p (iR wd t t.s p s)
  else if t.op = 39 ∧ t.n = 3 then iR wd (aY t 0) (aY t 0).s p s
  else if t.op = 54 then iD N t.kids p (dN (!p.gen || p.head) t.at' 34 s)
  else if t.op = 42 then iD N t.kids p (dN (p.strict && decide (t.s = "delete".toUTF8) && decide ((aY t 0).op = 34)) t.at' 35 s)
  else iD N t.kids p s
def AO (t : T) (p0 : EP) (s : ES) : ES :=
  if s.e ≠ 0 then s else
  let p := kS p0
  if t.op = 2 then zY N B t p p0.each s
  else if t.op = 4 then QJ wd N B t p p0.own s
  else if t.op = 6 then iD N t.kids (fX p s) (cG s)
  else if t.op = 20 then iD N (aY t 1).kids (fX p s) (B (aY t 0) (fX p s) ⟨true, gW (fX p s), 0, false⟩ (cG s))
  else if t.op = 10 ∨ t.op = 11 ∨ t.op = 12 ∨ t.op = 13 ∨ t.op = 14 then AT N t p p0.mine s
  else if t.op = 21 then
    let s1 := N (aY t 0) p s
    iD N (t.kids.drop 1) { fX p s1 with choice := true } (cG s1)
  else if t.op = 9 then (t.kids.drop 1).foldl (fun s k => gP N k p s) (N (aY t 0) p s)
  else if t.op = 23 then
    let s1 := dN (p.labels.contains t.s) t.at' 31 (iR wd t t.s p s)
    gP N (aY t 0) { p with labels := p.labels ++ [t.s], mine := p0.mine ++ [t.s] } s1
  else AM wd N t p s
end
def nbE (wd : ByteArray → Int) : Nat → (T → EP → ES → ES) × (T → EP → ED → ES → ES)
  | 0 => (fun _ _ s => s, fun _ _ _ s => s)
  | f + 1 => (AO wd (nbE wd f).1 (nbE wd f).2, BW wd (nbE wd f).1 (nbE wd f).2)
def IJ (t : T) : EP := ⟨kE t, false, false, false, [1], [], [], false, false, [], true, false⟩
def zB (wd : ByteArray → Int) (f : Nat) (t : T) : ES := iD (nbE wd f).1 t.kids (IJ t) ⟨[], 1, 0, 0⟩
end Go.Proofs.YtocidaibmadekaaGreatDoor
namespace Go.Vcg
open Go.RowKit
section
variable {P : Program} {X : Ctx} {Q : Exit → Act → World → Prop} {μ : Mem} {l : aI} {L L' : List Bk} {a : Act} {w : World}
theorem lI {c : Code} (hp : L'.Perm L) (h : GC P X c Q μ l L') : GC P X c Q μ l L := fun a w hs => h a w (hs.perm hp)
theorem lH {e : Exit} (hp : L'.Perm L) (h : GQ X Q e μ l L') : GQ X Q e μ l L := fun a w hs => h a w (hs.perm hp)
theorem DJ {ops : Array Oper} {rest : List Oper} (hp : L'.Perm L) (h : G P X ops Q rest μ l L') : G P X ops Q rest μ l L := fun a w hs => h a w (hs.perm hp)
theorem fA {F R : List Bk} {k : Nat} {y : Bk} (h : R[k]? = some y) : (y :: (F ++ R.eraseIdx k)).Perm (F ++ R) := by
  obtain ⟨h1, h2⟩ := List.getElem?_eq_some_iff.1 h
  have e : R = R.take k ++ y :: R.drop (k + 1) := by
    rw [← h2]
    simp
  have e2 : R.eraseIdx k = R.take k ++ R.drop (k + 1) := List.eraseIdx_eq_take_drop_succ ..
  rw [e2]
  conv => rhs; rw [e]
  rw [← List.append_assoc, ← List.append_assoc]
  exact List.perm_middle.symm
theorem sY {F R : List Bk} {k : Nat} (y : Bk) (h : k < R.length) : (F ++ R.set k y).Perm (y :: (F ++ R.eraseIdx k)) := by
  have h2 := fA (F := F) (R := R.set k y) (k := k) (y := y) (by rw [List.getElem?_set_self h])
  rw [List.eraseIdx_set_eq] at h2
  exact h2.symm
end
end Go.Vcg
namespace Go.Vcg
open Go.RowKit
theorem mH : ∀ a b : List Bk, splitB a.length (a ++ b) = some (a, b)
  | [], b => rfl
  | x :: a, b => by
    show (match splitB a.length (a ++ b) with | some (p, q) => some (x :: p, q) | none => none) = _
    rw [mH a b]
section
variable {P : Program} {X : Ctx} {ops : Array Oper} {Q : Exit → Act → World → Prop} {rest : List Oper} {μ : Mem} {l : aI} {L : List Bk} {o : Oper} {d : Nat} {w : World}
theorem Ent.perm {L' : List Bk} {f : FuncId} {vs : Array Value} (hp : L'.Perm L) (h : Ent P μ l L o f vs) : Ent P μ l L' o f vs := fun a w hr => h a w ⟨hr.slots, hr.mem, fun x hx => hr.own x (hp.mem_iff.2 hx)⟩
theorem kO {f : FuncId} {vs : Array Value} {ι : Type} {Ls : ι → List Bk} {Post : Mem → Value → ι → Prop} {LB Lr : List Bk} (k : Nat) (hd : o.dst = some d) (hn : Nat.blt d X.n = true) (hw : cV ops l o = some true) (hr : Ent P μ l L o f vs)
    (hL : splitB k L = some (Lr, LB))
    (hc : ∀ w, MOk μ w → Own μ LB w → Calls P f vs w fun e w' => ∃ v μ' i, e = .returned v ∧ fY (eS LB) w w' μ (Ls i) μ' ∧ Post μ' v i)
    (h : ∀ v μ' i, MLe μ μ' → Post μ' v i → G P X ops Q rest μ' ((d, v) :: l) (Lr ++ Ls i)) : G P X ops Q (o :: rest) μ l L := by
  have he := iO hL
  subst he
  exact DJ List.perm_append_comm (mP LB.length hd hn hw (hr.perm List.perm_append_comm) (mH LB Lr) hc fun v μ' i hle hp => DJ List.perm_append_comm (h v μ' i hle hp))
theorem RV.perm {L' : List Bk} {r : ResultVar} {v : Value} (hp : L'.Perm L) (h : RV P μ l L r v) : RV P μ l L' r v := fun a w hr => h a w ⟨hr.slots, hr.mem, fun x hx => hr.own x (hp.mem_iff.2 hx)⟩
theorem MH {fn : Func} {n : Nat} {r : ResultVar} {v : Value} {μ0 : Mem} {M : List Nat} {ι : Type} {Ls : ι → List Bk} {Post : Mem → Value → ι → Prop} {L' Lr : List Bk} (k : Nat) (i : ι) (hM : ∀ D, M.count D ≤ 1) (hr : fn.results = #[r]) (h : RV P μ l L r v) (hL : splitB k L = some (Lr, L')) (hLs : Ls i = L')
    (hp : ∀ μ', MLe μ μ' → Post μ' v i) :
    GQ ⟨w, μ0, M, n⟩ (bodyPost P fn (fun e w' => ∃ v μ' i, e = .returned v ∧ fY M w w' μ0 (Ls i) μ' ∧ Post μ' v i)) .ret μ l L := by
  have he := iO hL
  subst he
  exact lH List.perm_append_comm (CS L'.length i hM hr (h.perm List.perm_append_comm) (mH L' Lr) hLs hp)
theorem pD {fn : Func} {n : Nat} {μ0 : Mem} {M : List Nat} {ι : Type} {Ls : ι → List Bk} {Post : Mem → Value → ι → Prop} {L' Lr : List Bk} {e : Exit} (k : Nat) (i : ι) (he : e = .ret ∨ e = .normal) (hM : ∀ D, M.count D ≤ 1) (hr : fn.results = #[]) (hL : splitB k L = some (Lr, L')) (hLs : Ls i = L')
    (hp : ∀ μ' v, MLe μ μ' → Post μ' v i) :
    GQ ⟨w, μ0, M, n⟩ (bodyPost P fn (fun e w' => ∃ v μ' i, e = .returned v ∧ fY M w w' μ0 (Ls i) μ' ∧ Post μ' v i)) e μ l L := by
  have h1 := iO hL
  subst h1
  exact lH List.perm_append_comm (SS L'.length i he hM hr (mH L' Lr) hLs hp)
theorem eO {c : Code} {Q : Exit → Act → World → Prop} {L' : List Bk} (e : L = L') (h : GC P X c Q μ l L') : GC P X c Q μ l L := by subst e; exact h
theorem fT {c : Exit} {Q : Exit → Act → World → Prop} {L' : List Bk} (hL : Sel L' L) (h : GQ X Q c μ l L') : GQ X Q c μ l L := DF (fun _ _ h => h) hL h
end
end Go.Vcg
namespace Go.Vcg
open Go.RowKit
theorem bV : ∀ L : List Bk, Sel L L
  | [] => .nil _
  | x :: r => bW (eL.refl x) (bV r)
theorem aO {L' L : List Bk} (y : Bk) (h : Sel L' L) : Sel L' (y :: L) := by
  induction h with
  | nil L => exact .nil _
  | cons h hr ih => exact Sel.cons (a := y :: _) h ih
end Go.Vcg
namespace Go.Proofs.YtocidaibmadekaaGreatDoor
open Go.RowKit Go.Vcg Go.MapKept
abbrev KT (i : Int) : List Value := [.int .i64 i]
def IsV (μ : Mem) (v : Value) (xs : List Int) : Prop := ∃ A c, v = .slice A xs.length c ∧ Sl KT 1 μ A xs.length xs ∧ xs.length ≤ c
def SsV (μ : Mem) (v : Value) (xs : List ByteArray) : Prop := ∃ A c, v = .slice A xs.length c ∧ Sl gA 1 μ A xs.length xs ∧ xs.length ≤ c
theorem IsV.mono {μ μ' : Mem} {v : Value} {xs : List Int} (h : IsV μ v xs) (hle : MLe μ μ') : IsV μ' v xs := by
  obtain ⟨A, c, e, h1, h2⟩ := h
  exact ⟨A, c, e, h1.mono hle, h2⟩
theorem SsV.mono {μ μ' : Mem} {v : Value} {xs : List ByteArray} (h : SsV μ v xs) (hle : MLe μ μ') : SsV μ' v xs := by
  obtain ⟨A, c, e, h1, h2⟩ := h
  exact ⟨A, c, e, h1.mono hle, h2⟩
theorem IsV.one {μ : Mem} {v : Value} {xs : List Int} (h : IsV μ v xs) : v.oneCell' = true := by obtain ⟨A, c, rfl, -⟩ := h; rfl
theorem SsV.one {μ : Mem} {v : Value} {xs : List ByteArray} (h : SsV μ v xs) : v.oneCell' = true := by obtain ⟨A, c, rfl, -⟩ := h; rfl
theorem IsV.nil (μ : Mem) : IsV μ (.slice none 0 0) [] := ⟨none, 0, rfl, Sl.nil _ _ _ _, Nat.le_refl _⟩
theorem SsV.nil (μ : Mem) : SsV μ (.slice none 0 0) [] := ⟨none, 0, rfl, Sl.nil _ _ _ _, Nat.le_refl _⟩
abbrev cY (p : EP) (r lb lo mi : Value) : List Value := [.bool p.strict, .bool p.gen, .bool p.fn, .bool p.head, r, lb, lo, .bool p.loop, .bool p.choice, mi, .bool p.own, .bool p.each]
def PV (μ : Mem) (p : EP) (v : Value) : Prop := ∃ r lb lo mi, v = .agg (cY p r lb lo mi).toArray ∧ IsV μ r p.regs ∧ SsV μ lb p.labels ∧ SsV μ lo p.loops ∧ SsV μ mi p.mine
theorem PV.mono {μ μ' : Mem} {p : EP} {v : Value} (h : PV μ p v) (hle : MLe μ μ') : PV μ' p v := by
  obtain ⟨r, lb, lo, mi, e, h1, h2, h3, h4⟩ := h
  exact ⟨r, lb, lo, mi, e, h1.mono hle, h2.mono hle, h3.mono hle, h4.mono hle⟩
abbrev jJ (d : ED × Value) : List Value := [.bool d.1.lex, d.2, .int .i64 d.1.par, .bool d.1.twice]
structure FR where
  (key : ByteArray) (v : Value) (ds : List (ED × Value))
abbrev yN (f : FR) : Bk := .inr ⟨f.v, 129, 4, f.ds.length, f.ds.flatMap jJ⟩
def fV (fs : List FR) : List Bk := fs.map yN
def mkD : List FR → Nat → List MapEntry
  | [], _ => []
  | f :: r, j => MapEntry.mk (.string f.key) f.v j :: mkD r (j + 1)
def pP (x : ByteArray) : List FR → Nat → Option (Nat × FR)
  | [], _ => none
  | f :: r, i => if x = f.key then some (i, f) else pP x r (i + 1)
def nmD (fs : List FR) : List (ByteArray × List ED) := fs.map fun f => (f.key, f.ds.map (·.1))
def EB (xb mb : Nat) (s : ES) (fs : List FR) : List Bk := .inl ⟨xb, 87, 4, [(0, .map (some mb)), (1, .int .i64 (s.regs : Int)), (2, .int .i64 s.at'), (3, .int .i64 s.e)]⟩ :: .mp ⟨mb, mkD fs 0, fs.length⟩ :: fV fs
def ER (μ : Mem) (fs : List FR) (s : ES) : Prop := s.names = nmD fs ∧ ∀ f ∈ fs, ∀ d ∈ f.ds, IsV μ d.2 d.1.ins ∧ d.1.ins.length ≤ 100000
theorem ER.mono {μ μ' : Mem} {fs : List FR} {s : ES} (h : ER μ fs s) (hle : MLe μ μ') : ER μ' fs s := ⟨h.1, fun f hf d hd => ⟨(h.2 f hf d hd).1.mono hle, (h.2 f hf d hd).2⟩⟩
def CEs (f : FuncId) (args : List Value) (xb mb : Nat) (s s' : ES) (μ : Mem) : Prop := ∀ (w : World) (fs : List FR), MOk μ w → ER μ fs s → Go.Vcg.Own μ (EB xb mb s fs) w →
  Calls Tryz.prog f args.toArray w fun e w' => ∃ (v : Value) (μ' : Mem) (i : List FR), e = .returned v ∧ fY (eS (EB xb mb s fs)) w w' μ (EB xb mb s' i) μ' ∧ ER μ' i s'
def CEr (f : FuncId) (args : List Value) (xb mb : Nat) (s s' : ES) (μ : Mem) (R : Mem → Value → Prop) : Prop := ∀ (w : World) (fs : List FR), MOk μ w → ER μ fs s → Go.Vcg.Own μ (EB xb mb s fs) w →
  Calls Tryz.prog f args.toArray w fun e w' => ∃ (v : Value) (μ' : Mem) (i : List FR), e = .returned v ∧ fY (eS (EB xb mb s fs)) w w' μ (EB xb mb s' i) μ' ∧ (ER μ' i s' ∧ R μ' v)
theorem NY (xb mb : Nat) (s : ES) (fs : List FR) : EB xb mb s fs = .inl ⟨xb, 87, 4, [(0, .map (some mb)), (1, .int .i64 (s.regs : Int)), (2, .int .i64 s.at'), (3, .int .i64 s.e)]⟩ :: .mp ⟨mb, mkD fs 0, fs.length⟩ :: fV fs := rfl
section
variable {X : Ctx} {ops : Array Oper} {Q : Exit → Act → World → Prop} {rest : List Oper} {μ : Mem} {l : aI} {L Lr : List Bk} {o : Oper} {d : Nat} {f : FuncId} {args : List Value} {xb mb : Nat} {s s' : ES} {fs : List FR}
theorem dJ (k : Nat) (hd : o.dst = some d) (hn : Nat.blt d X.n = true) (hw : cV ops l o = some true) (hr : Ent Tryz.prog μ l L o f args.toArray) (hL : splitB k L = some (Lr, EB xb mb s fs)) (hR : ER μ fs s) (hc : CEs f args xb mb s s' μ)
    (h : ∀ (v : Value) (μ' : Mem) (i : List FR), MLe μ μ' → ER μ' i s' → G Tryz.prog X ops Q rest μ' ((d, v) :: l) (Lr ++ EB xb mb s' i)) : G Tryz.prog X ops Q (o :: rest) μ l L :=
  kO (Ls := fun i => EB xb mb s' i) (Post := fun μ' _ i => ER μ' i s') k hd hn hw hr hL (fun w hμ hO => hc w fs hμ hR hO) h
theorem HD {R : Mem → Value → Prop} (k : Nat) (hd : o.dst = some d) (hn : Nat.blt d X.n = true) (hw : cV ops l o = some true) (hr : Ent Tryz.prog μ l L o f args.toArray) (hL : splitB k L = some (Lr, EB xb mb s fs)) (hR : ER μ fs s) (hc : CEr f args xb mb s s' μ R)
    (h : ∀ (v : Value) (μ' : Mem) (i : List FR), MLe μ μ' → ER μ' i s' → R μ' v → G Tryz.prog X ops Q rest μ' ((d, v) :: l) (Lr ++ EB xb mb s' i)) : G Tryz.prog X ops Q (o :: rest) μ l L :=
  kO (Ls := fun i => EB xb mb s' i) (Post := fun μ' v i => ER μ' i s' ∧ R μ' v) k hd hn hw hr hL (fun w hμ hO => hc w fs hμ hR hO) fun v μ' i hle hp => h v μ' i hle hp.1 hp.2
end
theorem IsV.iY {μ : Mem} {v : Value} {n : Nat} {ys : List Value} {t : TypeId} {xs : List Int} (h : Bk.sh (.inr ⟨v, t, 1, n, ys⟩) μ) (hn : n = xs.length) (hy : ys = xs.flatMap KT) : IsV μ v xs := by
  subst hn hy
  obtain ⟨A, c, e, hS⟩ := rX (enc := KT) (xs := xs) h rfl (by simp) rfl
  subst e
  exact ⟨A, c, rfl, hS, Bk.cap h⟩
theorem SsV.iY {μ : Mem} {v : Value} {n : Nat} {ys : List Value} {t : TypeId} {xs : List ByteArray} (h : Bk.sh (.inr ⟨v, t, 1, n, ys⟩) μ) (hn : n = xs.length) (hy : ys = xs.flatMap gA) : SsV μ v xs := by
  subst hn hy
  obtain ⟨A, c, e, hS⟩ := rX (enc := gA) (xs := xs) h rfl (by simp) rfl
  subst e
  exact ⟨A, c, rfl, hS, Bk.cap h⟩
theorem LP (x y : ByteArray) : (x == y) = decide (x = y) := by
  by_cases h : x = y
  · subst h
    rw [decide_eq_true rfl]
    show (x.data == x.data) = true
    exact beq_self_eq_true _
  · rw [decide_eq_false h]
    show (x.data == y.data) = false
    refine beq_false_of_ne fun e => h ?_
    obtain ⟨a⟩ := x
    obtain ⟨b⟩ := y
    dsimp only at e
    rw [e]
theorem yI (x : ByteArray) : ∀ (fs : List FR) (j i : Nat), Instr.findNow .string (.string x) (mkD fs j) i = some ((pP x fs i).map fun p => (p.1, p.2.v))
  | [], j, i => by simp [mkD, Instr.findNow, pP]
  | f :: r, j, i => by
    have ih := yI x r (j + 1) (i + 1)
    unfold mkD Instr.findNow pP
    by_cases h : x = f.key
    · rw [← h]
      simp [Instr.sameNow, LP]
    · simp [Instr.sameNow, LP, h, ih]
theorem MR : ∀ (fs : List FR) (f : FR) (j : Nat), mkD (fs ++ [f]) j = mkD fs j ++ [MapEntry.mk (.string f.key) f.v (j + fs.length)]
  | [], f, j => by simp [mkD]
  | g :: r, f, j => by
    have := MR r f (j + 1)
    simp only [List.cons_append, mkD, this, List.length_cons]
    rw [show j + 1 + r.length = j + (r.length + 1) by omega]
theorem tC {x : ByteArray} : ∀ {fs : List FR} {i p : Nat} {f : FR}, pP x fs i = some (p, f) → i ≤ p ∧ fs[p - i]? = some f ∧ f.key = x
  | [], _, _, _, h => by cases h
  | g :: r, i, p, f, h => by
    unfold pP at h
    split at h
    · rename_i hx
      cases h
      exact ⟨Nat.le_refl _, by rw [Nat.sub_self]; rfl, hx.symm⟩
    · obtain ⟨h1, h2, h3⟩ := tC h
      refine ⟨by omega, ?_, h3⟩
      rw [show p - i = (p - (i + 1)) + 1 by omega, List.getElem?_cons_succ]
      exact h2
theorem MQ : ∀ (fs : List FR) (j p : Nat) (f g : FR), fs[p]? = some f → g.key = f.key → (mkD fs j).modify p (fun e => { e with key := .string g.key, val := g.v }) = mkD (fs.set p g) j ∧ ((mkD fs j)[p]?).map (·.key) = some (.string g.key)
  | [], j, p, f, g, h, _ => by simp at h
  | a :: r, j, 0, f, g, h, hk => by
    cases h
    simp [mkD, hk]
  | a :: r, j, p + 1, f, g, h, hk => by
    rw [List.getElem?_cons_succ] at h
    obtain ⟨e1, e2⟩ := MQ r (j + 1) p f g h hk
    simp only [mkD, List.set_cons_succ, List.modify_succ_cons, e1, List.getElem?_cons_succ, e2, and_self]
theorem yG {x : ByteArray} : ∀ {fs : List FR} {i : Nat}, gZ x (nmD fs) = match pP x fs i with | some (_, f) => f.ds.map (·.1) | none => []
  | [], _ => rfl
  | g :: r, i => by
    have ih := yG (x := x) (fs := r) (i := i + 1)
    unfold nmD at ih ⊢
    simp only [List.map_cons, gZ, pP]
    split
    · rfl
    · exact ih
theorem FK {x : ByteArray} {l : List ED} : ∀ {fs : List FR} {i p : Nat} {f : FR} {v : Value} {ds : List (ED × Value)}, pP x fs i = some (p, f) → l = ds.map (·.1) → nZ x l (nmD fs) = nmD (fs.set (p - i) ⟨f.key, v, ds⟩)
  | [], _, _, _, _, _, h, _ => by cases h
  | g :: r, i, p, f, v, ds, h, hl => by
    unfold pP at h
    unfold nmD
    simp only [List.map_cons, nZ]
    split at h
    · rename_i hx
      cases h
      rw [if_pos hx, Nat.sub_self, List.set_cons_zero, List.map_cons, hl]
    · rename_i hx
      obtain ⟨h1, -, -⟩ := tC h
      have ih := FK (v := v) (ds := ds) h hl
      unfold nmD at ih
      rw [if_neg hx, show p - i = (p - (i + 1)) + 1 by omega, List.set_cons_succ, List.map_cons, ih]
theorem FL {x : ByteArray} {l : List ED} : ∀ {fs : List FR} {i : Nat} {v : Value} {ds : List (ED × Value)}, pP x fs i = none → l = ds.map (·.1) → nZ x l (nmD fs) = nmD (fs ++ [⟨x, v, ds⟩])
  | [], _, _, _, _, hl => by simp [nmD, nZ, hl]
  | g :: r, i, v, ds, h, hl => by
    unfold pP at h
    unfold nmD
    simp only [List.map_cons, nZ]
    split at h
    · cases h
    · rename_i hx
      have ih := FL (v := v) (ds := ds) h hl
      unfold nmD at ih
      rw [if_neg hx, List.cons_append, List.map_cons, ih]
theorem VF (fs : List FR) (f : FR) : fV (fs ++ [f]) = fV fs ++ [yN f] := by unfold fV; rw [List.map_append]; rfl
theorem VE {fs : List FR} {i : Nat} {f : FR} (h : fs[i]? = some f) : (fV fs)[i]? = some (yN f) := by unfold fV; rw [List.getElem?_map, h]; rfl
theorem VA (fs : List FR) (i : Nat) (f : FR) : fV (fs.set i f) = (fV fs).set i (yN f) := by unfold fV; rw [List.map_set]
theorem VD (fs : List FR) : (fV fs).length = fs.length := List.length_map ..
end Go.Proofs.YtocidaibmadekaaGreatDoor
