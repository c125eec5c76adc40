/- Reading outcomes, plainly: what is read has the text that it was read from; errors and their lines. (and what leans on it). No statement of the seat is proved here. -/
import Derived.Test.YtfabmichdhbiaaaGreatDoorQae
import Derived.Lib.IndexMore
import Derived.Test.YtfabmichdhbiaaaGreatDoorQad
import Derived.Test.YtfabmichdhbiaaaGreatDoorQac
import Derived.ProofKit
import Derived.OpenShut
import Derived.ShutString
import Derived.ChangeOld
import Derived.Deep.Slices
import Derived.Deep.Fields
import Derived.HandedShaped
import Derived.RangeFuncLeaves
import Derived.OwnWalkIn
import Derived.RangeFuncCalls
import Derived.OrdersIn
import Derived.Test.YtfabmichdhbiaaaGreatDoorShelf
import Derived.KernelRfl
set_option maxRecDepth 20000
set_option maxHeartbeats 2000000
namespace Go.Proofs.YtfabmichdhbiaaaGreatDoor.Ou
open Go
def ofB (l : List UInt8) : ByteArray := ⟨l.toArray⟩
theorem byS_ofB (l : List UInt8) : byS (ofB l) = l := by simp [byS, ofB]
section
variable (R : KeyP → Bool)
def Shaped : Prop := ∀ k : KeyP, R k = true → (k.kind = 0 ∧ k.s = ⟨#[]⟩ ∨ k.kind = 1 ∧ k.n = 0 ∨ k.kind = 2 ∧ k.s = ⟨#[]⟩)
variable {R}
end
end Go.Proofs.YtfabmichdhbiaaaGreatDoor.Ou
namespace Go.Proofs.YtfabmichdhbiaaaGreatDoor.Iq
open Go Go.Proofs.YtfabmichdhbiaaaGreatDoor.Ou
end Go.Proofs.YtfabmichdhbiaaaGreatDoor.Iq
namespace Go.Proofs.YtfabmichdhbiaaaGreatDoor
open Go.RowKit Go.Vcg Ou
theorem tw_get {p : UInt8 → Bool} : ∀ (d : List UInt8) (j : Nat), j < (d.takeWhile p).length → ∃ c, d[j]? = some c ∧ p c = true
  | [], j, h => by simp at h
  | c :: r, j, h => by
    rw [List.takeWhile_cons] at h
    by_cases hc : p c = true
    · rw [if_pos hc] at h
      cases j with
      | zero => exact ⟨c, rfl, hc⟩
      | succ j => exact tw_get r j (by simpa using h)
    · rw [if_neg hc] at h; simp at h
theorem tw_end {p : UInt8 → Bool} : ∀ (d : List UInt8) (c : UInt8), d[(d.takeWhile p).length]? = some c → p c = false
  | [], c, h => by simp at h
  | x :: r, c, h => by
    rw [List.takeWhile_cons] at h
    by_cases hc : p x = true
    · rw [if_pos hc, List.length_cons, List.getElem?_cons_succ] at h
      exact tw_end r c h
    · rw [if_neg hc] at h
      simp at h
      rw [← h]
      simpa using hc
def nameF : List UInt8 → List UInt8
  | [] => []
  | c :: r => if Iq.idStart c = true then c :: r.takeWhile Iq.idPart else []
attribute [local irreducible] G GC GQ GA GAop Calls IntKind.wrap Int.decLt Int.decLe
theorem letter_spec (x : Int) (c : UInt8) (hx : x = c.toNat) (w : World) (μ : Mem) (hμ : MOk μ w) : Calls Tryz.prog 115 #[.int .u8 x] w fun e w' => e = .returned (.bool (Iq.idStart c)) ∧ Below w.heap.size w w' := by
  subst hx
  have hc := c.toNat_lt
  refine call_intro (args := [.int .u8 c.toNat]) Tryz.func115 rfl Tryz.ntmps115 (by simp) hμ ?_
  have h0 : Iq.idStart c = decide ((97 ≤ (c.toNat : Int) ∧ (c.toNat : Int) ≤ 122) ∨ (65 ≤ (c.toNat : Int) ∧ (c.toNat : Int) ≤ 90) ∨ (c.toNat : Int) = 95 ∨ (c.toNat : Int) = 36) := by
    unfold Iq.idStart
    rw [Bool.eq_iff_iff]
    simp
    omega
  rw [h0]
  repeat' (first | refine KK ?_ | ((refine KB ?_ ?_ <;> intro hp)) | refine KG ?_ | fail)
  all_goals first | (exfalso; omega) | (refine ret_s rfl rfl ?_; congr 1; rw [Bool.eq_iff_iff]; simp; omega) | (refine ret_s rfl rfl ?_; congr 1; symm; rw [decide_eq_true_eq]; omega) | (refine ret_s rfl rfl ?_; congr 1; symm; rw [decide_eq_false_iff_not]; omega)
end Go.Proofs.YtfabmichdhbiaaaGreatDoor
namespace Go.Vcg
open Go.ChangeShapes Go.WideShapes Go.ChangeAt Go.RowKit Go.Deep
def memOf (w : World) : Mem := fun b => w.heap[b]?
theorem memOf_ok (w : World) : MOk (memOf w) w := fun _ _ h => h
theorem MCell.of_cell {w : World} {A : Addr} {v : Value} (h : w.cell? A = some v) : MCell (memOf w) A v := by
  unfold World.cell? at h
  split at h
  · rename_i c t f hh
    by_cases hs : A.spot.isSome
    · simp [hs] at h
    · simp [hs] at h
      exact ⟨c, t, f, hh, by simpa using hs, h⟩
  · cases h
theorem exists_list {α : Type} {R : Nat → α → Prop} : ∀ (n : Nat), (∀ i, i < n → ∃ x, R i x) → ∃ l : List α, l.length = n ∧ ∀ i x, l[i]? = some x → R i x
  | 0, _ => ⟨[], rfl, fun i x h => by simp at h⟩
  | n + 1, h => by
    obtain ⟨l, hl, hr⟩ := exists_list n (fun i hi => h i (by omega))
    obtain ⟨x, hx⟩ := h n (by omega)
    refine ⟨l ++ [x], by simp [hl], fun i y hy => ?_⟩
    by_cases hi : i < n
    · rw [List.getElem?_append_left (by omega)] at hy
      exact hr i y hy
    · rw [List.getElem?_append_right (by omega)] at hy
      have : i - l.length = 0 := by
        have := (List.getElem?_eq_some_iff.1 hy).1
        simp at this; omega
      rw [this] at hy
      simp at hy
      subst hy
      have : i = n := by omega
      subst this; exact hx
section
variable {H : Type} {enc : TypeId × Value → H} {P : Program} {W : World} {base : Nat} {spare : Nat → Bool} {held : Bool}
theorem field_at' {t : TypeId} {fs : Array Field} {cs : List Value} {xs : List (DataW H × List MemPlace)} {n : Nat} (hone : oneCellFields P fs = true) (hlen : cs.length = fs.size) (hxl : xs.length = fs.size)
    (hf : ∀ (i : Nat) (f : Field), fs[i]? = some f → DataW.trod enc P W base spare held n f.type ((cs.drop f.offset).take (P.cellsOf f.type)) = xs[i]?) (i : Nat) (f : Field) (hi : fs[i]? = some f) :
    ∃ c y, cs[i]? = some c ∧ DataW.trod enc P W base spare held n f.type [c] = some y ∧ xs[i]? = some y := by
  have hlt : i < fs.size := (Array.getElem?_eq_some_iff.1 hi).1
  obtain ⟨ho, hc⟩ := hone_of hone i f hi
  have h := hf i f hi
  rw [ho, hc] at h
  have hi1 : i < cs.length := by omega
  have hi2 : i < xs.length := by omega
  refine ⟨cs[i], xs[i], List.getElem?_eq_getElem hi1, ?_, List.getElem?_eq_getElem hi2⟩
  rw [List.drop_eq_getElem_cons hi1] at h
  rw [← List.getElem?_eq_getElem hi2, ← h]
  rfl
end
end Go.Vcg
namespace Go
variable {H : Type} {enc : TypeId × Value → H}
theorem returnsInHanded_of_change_both {a : Assume} {C : Checked} {os : Os} {f : FuncId} {fn : Func} {s : ChangeSpec} {conds : List PathCond} {apart fresh handsOn again : Bool} {X : World → Array Value → Prop}
    (hX : ∀ (w w' : World) (args : Array Value), w.heap = w'.heap → X w args → X w' args)
    (own : ownKnob C.prog.godebug = none) (started : os.Started) (noInit : C.prog.inits.idxOf? f = none) (hfn : C.prog.funcs[f]? = some fn)
    (witness : ∃ (w : World) (tape : Tape) (i : Input), w.os = os ∧ (w.forCall tape i).Shaped C.prog ∧ i.vars = [] ∧ Input.okWide C.prog (w.forCall tape i) .any w.heap.size f i ∧
      ((s.pre enc C.prog fn conds apart (w.forCall tape i).memory i.args ∧ X (w.forCall tape i).memory i.args) ∧ sizedMet enc C.prog fn (OpenSpec.ofChange s) apart (w.forCall tape i).memory i.args) ∧ a.holds C.prog (lone (Frame.enter C.prog f i.args .normal) [] (w.forCall tape i)))
    (contract : ∀ (W : World) (base : Nat) (args : Array Value) (ds gs : List (DataW H)) (before : List MemPlace),
      (∀ (j : Nat) t v, fn.params[j]? = some t → args[j]? = some v → Value.okWide C.prog W .any base t v) →
      DataW.Whole enc C.prog fn.params.toList s.vars apart W args.toList ds gs before →
      (DataW.weightsEach C.prog (fn.params.toList ++ s.plain.varTypes C.prog) (ds ++ gs)).all (· ≤ reachBytes) = true → X W args → W.ShapedOpen C.prog →
      Calls C.prog f args W fun e W' => ∃ v, e = .returned v ∧ s.post enc C.prog fn apart fresh handsOn again W args v W') :
    ReturnsInHanded a C os f .any (fun w args => (s.pre enc C.prog fn conds apart w args ∧ X w args) ∧ sizedMet enc C.prog fn (OpenSpec.ofChange s) apart w args) (s.post enc C.prog fn apart fresh handsOn again) := by
  refine returnsInHanded_of_calls own started noInit witness ?_
  intro w tape i _ hsh _ hok hpre _
  obtain ⟨_, _, _, g, hg, _, _, _, _, hval⟩ := hok
  obtain rfl : g = fn := Option.some.inj (hg.symm.trans hfn)
  obtain ⟨⟨⟨ds, gs, before, hw, _⟩, hx⟩, hz⟩ := hpre
  refine (contract (w.forCall tape i) w.heap.size i.args ds gs before hval (DataW.Whole.of_heap (w' := w.forCall tape i) (by rfl) hw) (hz.weights hw) (hX _ _ _ (by rfl) hx) hsh).mono fun e W' hp => ?_
  obtain ⟨v, rfl, hp⟩ := hp
  exact ChangeSpec.post_blind hp
end Go
namespace Go.Vcg
open Go.RowKit
section
variable {P : Program} {X : Ctx} {ops : Array Oper} {Q : Exit → Act → World → Prop} {μ μr : Mem} {l : Slots} {L Lr : List Bk} {fuel i : Nat} {listed : Array Bool}
theorem nth_updB {x y : Bk} : ∀ {L : List Bk} {i : Nat}, nthB L i = some x → nthB (updB L i y) i = some y
  | [], _, h => by simp [nthB] at h
  | z :: r, 0, h => rfl
  | z :: r, i + 1, h => nth_updB (i := i) (by simpa [nthB] using h)
section
variable {rest : List Oper} {o : Oper} {d : Nat} {ty : TypeId} {pos : String} {af : Array Edge} {gd : Option (Nat × Bool)}
theorem AX {p q : Operand} {t e : TypeId} {s bytes m n : Nat} {z v : Value} {news xs : List Value} {F : Rw → List Bk}
    (hn : Nat.blt d X.n = true := by exact rfl) (hw : wants ops l ⟨some d, .call { callee := .builtin .append, args := #[p, q], argTypes := #[t, t] }, ty, pos, af, gd⟩ = some true := by exact rfl)
    (hp : ev l p = some v := by exact rfl) (hr : RowUp L ⟨v, e, s, n, xs⟩ F := by (repeat first | with_reducible exact rowup_hd | with_reducible apply rowup_tl)) (ht : P.underlying t = some (.slice e) := by exact rfl) (hs : sizeT P e = some s := by exact rfl) (hz : zeroT P e = some z := by exact rfl) (hzs : z.cells.toList.length = s := by exact rfl) (hby : bytesT P e = some bytes := by exact rfl) (hpos : Nat.blt 0 s = true := by exact rfl)
    (S : Src μ l L q m news) (A : news.length = m * s) (O : ∀ u ∈ news, u.oneCell' = true) (B : (n + m) * bytes ≤ 140737488355328 := by omega) (C : n + m ≤ 140737488355328 := by omega)
    (k : ∀ v, G P X ops Q rest μ ((d, v) :: l) (F ⟨v, e, s, n + m, xs ++ news⟩)) :
    G P X ops Q (⟨some d, .call { callee := .builtin .append, args := #[p, q], argTypes := #[t, t] }, ty, pos, af, gd⟩ :: rest) μ l L := g_ap hn hw hp hr ht hs hz hzs hby hpos S A O B C k
theorem AI {p q : Operand} {t e : TypeId} {bytes n : Nat} {z v u : Value} {xs : List Value} {F : Rw → List Bk}
    (hn : Nat.blt d X.n = true := by exact rfl) (hw : wants ops l ⟨some d, .call { callee := .builtin .append, args := #[p, q], argTypes := #[t, t] }, ty, pos, af, gd⟩ = some true := by exact rfl)
    (hp : ev l p = some v := by exact rfl) (hr : RowUp L ⟨v, e, 1, n, xs⟩ F := by (repeat first | with_reducible exact rowup_hd | with_reducible apply rowup_tl)) (ht : P.underlying t = some (.slice e) := by exact rfl) (hs : sizeT P e = some 1 := by exact rfl) (hz : zeroT P e = some z := by exact rfl) (hzs : z.cells.toList.length = 1 := by exact rfl) (hby : bytesT P e = some bytes := by exact rfl)
    (S : Src μ l L q 1 [u] := by (with_reducible apply src_in); exact rfl; (repeat first | with_reducible exact inb_hd | with_reducible apply inb_tl); exact rfl) (O : u.oneCell' = true := by exact rfl) (B : (n + 1) * bytes ≤ 140737488355328 := by omega) (C : n + 1 ≤ 140737488355328 := by omega)
    (k : ∀ g cap, n + 1 ≤ cap → G P X ops Q rest μ ((d, .slice (some ⟨g, 0, none⟩) (n + 1) cap) :: l) (F ⟨.slice (some ⟨g, 0, none⟩) (n + 1) cap, e, 1, n + 1, xs ++ [u]⟩)) :
    G P X ops Q (⟨some d, .call { callee := .builtin .append, args := #[p, q], argTypes := #[t, t] }, ty, pos, af, gd⟩ :: rest) μ l L :=
  g_ap hn hw hp hr ht hs hz hzs hby rfl S rfl (fun x hx => by rw [List.mem_singleton.1 hx]; exact O) B C fun v' => by
    obtain ⟨i, h1, h2⟩ := hr
    rw [h2]
    refine g_rowForm i (nth_updB h1) (by omega) fun g cap hv hc => ?_
    subst hv
    have := k g cap hc
    rwa [h2] at this
end
end
end Go.Vcg
namespace Go.Proofs.YtfabmichdhbiaaaGreatDoor
open Go.RowKit Go.Vcg
structure ED where
  (lex : Bool) (ins : List Int) (par : Int) (twice : Bool)
structure EP where
  (strict gen fn head : Bool) (regs : List Int) (labels loops : List ByteArray) (loop choice : Bool) (mine : List ByteArray) (own each : Bool)
structure ES where
  (names : List (ByteArray × List ED)) (regs : Nat) (at' e : Int)
def anI (x y : Int) : Int := IntKind.i64.wrap ((BitVec.ofInt 64 x &&& BitVec.ofInt 64 y).toNat : Int)
def bitE (n b : Int) : Bool := decide (0 ≤ n) && decide (anI n b ≠ 0)
def kidE (t : T) (i : Nat) : T := (t.kids[i]?).getD T.zero
def useStrict : ByteArray := "use strict".toUTF8
def bodyE (t : T) : List T := if t.op = 1 then t.kids else if t.op = 4 ∧ 1 < t.kids.length ∧ (kidE t 1).op = 6 then (kidE t 1).kids else []
def strictL : List T → Bool
  | [] => false
  | s :: r => if s.op = 8 ∧ s.kids.length = 1 ∧ (kidE s 0).op = 31 then (if (kidE s 0).s = useStrict then true else strictL r) else false
def strictE (t : T) : Bool := strictL (bodyE t)
def simpleE (t : T) : Bool := decide (t.op = 5) && t.kids.all fun k => decide (k.op = 34)
def badE (c : Bool) (a e : Int) (s : ES) : ES := if c = true ∧ s.e = 0 then { s with at' := a, e := e } else s
def clashE (a b : ED) : Bool := if b.twice = true ∧ b.par ≠ 0 ∧ a.par = b.par then true else (a.lex || b.lex) && a.ins.any fun r => b.ins.contains r
def getE (x : ByteArray) : List (ByteArray × List ED) → List ED
  | [] => []
  | (y, l) :: r => if x = y then l else getE x r
def putE (x : ByteArray) (l : List ED) : List (ByteArray × List ED) → List (ByteArray × List ED)
  | [] => [(x, l)]
  | (y, m) :: r => if x = y then (y, l) :: r else (y, m) :: putE x l r
def declE (a : Int) (x : ByteArray) (d : ED) (s : ES) : ES :=
  let s1 := badE ((getE x s.names).any fun o => clashE o d) a 30 s
  { s1 with names := putE x (getE x s1.names ++ [d]) s1.names }
def nameE (wd : ByteArray → Int) (t : T) (x : ByteArray) (p : EP) (s : ES) : ES :=
  let s1 := badE (decide (wd x = 1) || decide (x = "let".toUTF8)) t.at' 23 s
  let s2 := if t.op = 34 ∨ t.op = 31 then badE (decide (x = "yield".toUTF8) && p.gen) t.at' 34 s1 else s1
  badE (p.strict && decide (wd x = 2)) t.at' 35 s2
def nearE (p : EP) : List Int := p.regs.drop (p.regs.length - 1)
def withP (p : EP) (s : ES) : EP := { p with regs := p.regs ++ [((s.regs + 1 : Nat) : Int)] }
def withS (s : ES) : ES := { s with regs := s.regs + 1 }
def baseP (p : EP) : EP := { p with mine := [], own := false, each := false }
section
variable (wd : ByteArray → Int) (N : T → EP → ES → ES) (B : T → EP → ED → ES → ES)
def allE (l : List T) (p : EP) (s : ES) : ES := l.foldl (fun s k => N k p s) s
def bindE (t : T) (p : EP) (d : ED) (s : ES) : ES :=
  if t.op = 34 then declE t.at' t.s d (nameE wd t t.s p s)
  else if t.op = 51 ∨ t.op = 52 then badE true t.at' 24 s
  else if t.op = 63 then N (kidE t 1) p (B (kidE t 0) p d s)
  else if t.op = 62 then B (kidE t 1) p d (N (kidE t 0) p s)
  else if t.op = 60 ∨ t.op = 61 ∨ t.op = 64 then t.kids.foldl (fun s k => B k p d s) s
  else s
def aloneE (t : T) (p : EP) (s : ES) : ES := N t p (badE ((decide (t.op = 4) && bitE t.n 1) || (decide (t.op = 2) && (decide (t.n = 1) || decide (t.n = 2)))) t.at' 23 s)
def roundE (t : T) (p : EP) (mine : List ByteArray) (s : ES) : ES := aloneE N t { p with loop := true, loops := p.loops ++ mine } s
def inP (t : T) (p : EP) : EP := ⟨p.strict || strictE t, bitE t.n 4, true, false, [], [], [], false, false, [], false, false⟩
def funE (t : T) (p : EP) (own : Bool) (s : ES) : ES :=
  let s1 := if t.s ≠ ⟨#[]⟩ then nameE wd t t.s { p with strict := (inP t p).strict } s else s
  let s2 := badE (strictE t && !simpleE (kidE t 0)) t.at' 35 s1
  let s3 := if bitE t.n 1 then declE t.at' t.s ⟨!own, if own then p.regs else nearE p, 0, false⟩ s2 else s2
  let i := withP (inP t p) s3
  let s4 := withS s3
  let s5 := (kidE t 0).kids.foldl (fun s k => B k { i with head := true } ⟨false, i.regs, (s4.regs : Int), (i.strict || bitE t.n 2 || bitE t.n 8 || !simpleE (kidE t 0))⟩ s) s4
  if (kidE t 1).op ≠ 6 then N (kidE t 1) i s5 else allE N (kidE t 1).kids { i with own := true } s5
def varsE (t : T) (p : EP) (each : Bool) (s : ES) : ES :=
  let d : ED := if t.n ≠ 0 then ⟨true, nearE p, 0, false⟩ else ⟨false, p.regs, 0, false⟩
  t.kids.foldl (fun s k => allE N (k.kids.drop 1) p (B (kidE k 0) p d (badE (decide (k.kids.length = 1) && !each && (decide (t.n = 2) || decide ((kidE k 0).op ≠ 34))) k.at' 36 s))) s
def jumpE (t : T) (p : EP) (s : ES) : ES :=
  if t.s = ⟨#[]⟩ then badE (!p.loop && (decide (t.op = 16) || !p.choice)) t.at' 32 s
  else badE (decide (t.op = 16) && !p.loops.contains t.s) t.at' 32 (badE (!p.labels.contains t.s) t.at' 31 (nameE wd t t.s p s))
def loopE (t : T) (p : EP) (mine : List ByteArray) (s : ES) : ES :=
  if t.op = 13 then roundE N (kidE t 1) p mine (N (kidE t 0) p s)
  else if t.op = 14 then N (kidE t 1) p (roundE N (kidE t 0) p mine s)
  else
    let q := withP p s
    let s1 := (t.kids.take (t.kids.length - 1)).foldl (fun s k => N k { q with each := decide (t.op ≠ 10) } s) (withS s)
    roundE N (kidE t (t.kids.length - 1)) q mine s1
def partE (t : T) (p : EP) (s : ES) : ES :=
  if t.op = 15 ∨ t.op = 16 then allE N t.kids p (jumpE wd t p s)
  else if t.op = 17 then allE N t.kids p (badE (!p.fn || p.head) t.at' 33 s)
  else if t.op = 34 then allE N t.kids p (nameE wd t t.s p s)
  else if t.op = 39 ∧ t.n = 3 then nameE wd (kidE t 0) (kidE t 0).s p s
  else if t.op = 54 then allE N t.kids p (badE (!p.gen || p.head) t.at' 34 s)
  else if t.op = 42 then allE N t.kids p (badE (p.strict && decide (t.s = "delete".toUTF8) && decide ((kidE t 0).op = 34)) t.at' 35 s)
  else allE N t.kids p s
def nodeE (t : T) (p0 : EP) (s : ES) : ES :=
  if s.e ≠ 0 then s else
  let p := baseP p0
  if t.op = 2 then varsE N B t p p0.each s
  else if t.op = 4 then funE wd N B t p p0.own s
  else if t.op = 6 then allE N t.kids (withP p s) (withS s)
  else if t.op = 20 then allE N (kidE t 1).kids (withP p s) (B (kidE t 0) (withP p s) ⟨true, nearE (withP p s), 0, false⟩ (withS s))
  else if t.op = 10 ∨ t.op = 11 ∨ t.op = 12 ∨ t.op = 13 ∨ t.op = 14 then loopE N t p p0.mine s
  else if t.op = 21 then
    let s1 := N (kidE t 0) p s
    allE N (t.kids.drop 1) { withP p s1 with choice := true } (withS s1)
  else if t.op = 9 then (t.kids.drop 1).foldl (fun s k => aloneE N k p s) (N (kidE t 0) p s)
  else if t.op = 23 then
    let s1 := badE (p.labels.contains t.s) t.at' 31 (nameE wd t t.s p s)
    aloneE N (kidE t 0) { p with labels := p.labels ++ [t.s], mine := p0.mine ++ [t.s] } s1
  else partE wd N t p s
end
def nbE (wd : ByteArray → Int) : Nat → (T → EP → ES → ES) × (T → EP → ED → ES → ES)
  | 0 => (fun _ _ s => s, fun _ _ _ s => s)
  | f + 1 => (nodeE wd (nbE wd f).1 (nbE wd f).2, bindE wd (nbE wd f).1 (nbE wd f).2)
def startP (t : T) : EP := ⟨strictE t, false, false, false, [1], [], [], false, false, [], true, false⟩
def checkE (wd : ByteArray → Int) (f : Nat) (t : T) : ES := allE (nbE wd f).1 t.kids (startP t) ⟨[], 1, 0, 0⟩
end Go.Proofs.YtfabmichdhbiaaaGreatDoor
namespace Go.Vcg
open Go.RowKit
section
variable {P : Program} {X : Ctx} {Q : Exit → Act → World → Prop} {μ : Mem} {l : Slots} {L L' : List Bk} {a : Act} {w : World}
theorem gc_perm {c : Code} (hp : L'.Perm L) (h : GC P X c Q μ l L') : GC P X c Q μ l L := fun a w hs => h a w (hs.perm hp)
theorem gq_perm {e : Exit} (hp : L'.Perm L) (h : GQ X Q e μ l L') : GQ X Q e μ l L := fun a w hs => h a w (hs.perm hp)
theorem g_perm {ops : Array Oper} {rest : List Oper} (hp : L'.Perm L) (h : G P X ops Q rest μ l L') : G P X ops Q rest μ l L := fun a w hs => h a w (hs.perm hp)
theorem perm_take {F R : List Bk} {k : Nat} {y : Bk} (h : R[k]? = some y) : (y :: (F ++ R.eraseIdx k)).Perm (F ++ R) := by
  obtain ⟨h1, h2⟩ := List.getElem?_eq_some_iff.1 h
  have e : R = R.take k ++ y :: R.drop (k + 1) := by
    rw [← h2]
    simp
  have e2 : R.eraseIdx k = R.take k ++ R.drop (k + 1) := List.eraseIdx_eq_take_drop_succ ..
  rw [e2]
  conv => rhs; rw [e]
  rw [← List.append_assoc, ← List.append_assoc]
  exact List.perm_middle.symm
theorem perm_put {F R : List Bk} {k : Nat} (y : Bk) (h : k < R.length) : (F ++ R.set k y).Perm (y :: (F ++ R.eraseIdx k)) := by
  have h2 := perm_take (F := F) (R := R.set k y) (k := k) (y := y) (by rw [List.getElem?_set_self h])
  rw [List.eraseIdx_set_eq] at h2
  exact h2.symm
end
end Go.Vcg
namespace Go.Vcg
open Go.RowKit
theorem splitB_all2 : ∀ a b : List Bk, splitB a.length (a ++ b) = some (a, b)
  | [], b => rfl
  | x :: a, b => by
    show (match splitB a.length (a ++ b) with | some (p, q) => some (x :: p, q) | none => none) = _
    rw [splitB_all2 a b]
section
variable {P : Program} {X : Ctx} {ops : Array Oper} {Q : Exit → Act → World → Prop} {rest : List Oper} {μ : Mem} {l : Slots} {L : List Bk} {o : Oper} {d : Nat} {w : World}
theorem Ent.perm {L' : List Bk} {f : FuncId} {vs : Array Value} (hp : L'.Perm L) (h : Ent P μ l L o f vs) : Ent P μ l L' o f vs := fun a w hr => h a w ⟨hr.slots, hr.mem, fun x hx => hr.own x (hp.mem_iff.2 hx)⟩
theorem g_enter_end {f : FuncId} {vs : Array Value} {ι : Type} {Ls : ι → List Bk} {Post : Mem → Value → ι → Prop} {LB Lr : List Bk} (k : Nat) (hd : o.dst = some d) (hn : Nat.blt d X.n = true) (hw : wants ops l o = some true) (hr : Ent P μ l L o f vs)
    (hL : splitB k L = some (Lr, LB))
    (hc : ∀ w, MOk μ w → Own μ LB w → Calls P f vs w fun e w' => ∃ v μ' i, e = .returned v ∧ BackM (idsOf LB) w w' μ (Ls i) μ' ∧ Post μ' v i)
    (h : ∀ v μ' i, MLe μ μ' → Post μ' v i → G P X ops Q rest μ' ((d, v) :: l) (Lr ++ Ls i)) : G P X ops Q (o :: rest) μ l L := by
  have he := splitB_eq hL
  subst he
  exact g_perm List.perm_append_comm (g_enter_bor LB.length hd hn hw (hr.perm List.perm_append_comm) (splitB_all2 LB Lr) hc fun v μ' i hle hp => g_perm List.perm_append_comm (h v μ' i hle hp))
theorem RV.perm {L' : List Bk} {r : ResultVar} {v : Value} (hp : L'.Perm L) (h : RV P μ l L r v) : RV P μ l L' r v := fun a w hr => h a w ⟨hr.slots, hr.mem, fun x hx => hr.own x (hp.mem_iff.2 hx)⟩
theorem ret_end {fn : Func} {n : Nat} {r : ResultVar} {v : Value} {μ0 : Mem} {M : List Nat} {ι : Type} {Ls : ι → List Bk} {Post : Mem → Value → ι → Prop} {L' Lr : List Bk} (k : Nat) (i : ι) (hM : ∀ D, M.count D ≤ 1) (hr : fn.results = #[r]) (h : RV P μ l L r v) (hL : splitB k L = some (Lr, L')) (hLs : Ls i = L')
    (hp : ∀ μ', MLe μ μ' → Post μ' v i) :
    GQ ⟨w, μ0, M, n⟩ (bodyPost P fn (fun e w' => ∃ v μ' i, e = .returned v ∧ BackM M w w' μ0 (Ls i) μ' ∧ Post μ' v i)) .ret μ l L := by
  have he := splitB_eq hL
  subst he
  exact gq_perm List.perm_append_comm (ret_bor L'.length i hM hr (h.perm List.perm_append_comm) (splitB_all2 L' Lr) hLs hp)
theorem ret_end0 {fn : Func} {n : Nat} {μ0 : Mem} {M : List Nat} {ι : Type} {Ls : ι → List Bk} {Post : Mem → Value → ι → Prop} {L' Lr : List Bk} {e : Exit} (k : Nat) (i : ι) (he : e = .ret ∨ e = .normal) (hM : ∀ D, M.count D ≤ 1) (hr : fn.results = #[]) (hL : splitB k L = some (Lr, L')) (hLs : Ls i = L')
    (hp : ∀ μ' v, MLe μ μ' → Post μ' v i) :
    GQ ⟨w, μ0, M, n⟩ (bodyPost P fn (fun e w' => ∃ v μ' i, e = .returned v ∧ BackM M w w' μ0 (Ls i) μ' ∧ Post μ' v i)) e μ l L := by
  have h1 := splitB_eq hL
  subst h1
  exact gq_perm List.perm_append_comm (ret_bor0 L'.length i he hM hr (splitB_all2 L' Lr) hLs hp)
theorem gc_LEq {c : Code} {Q : Exit → Act → World → Prop} {L' : List Bk} (e : L = L') (h : GC P X c Q μ l L') : GC P X c Q μ l L := by subst e; exact h
theorem gq_selL {c : Exit} {Q : Exit → Act → World → Prop} {L' : List Bk} (hL : Sel L' L) (h : GQ X Q c μ l L') : GQ X Q c μ l L := gq_sel (fun _ _ h => h) hL h
end
end Go.Vcg
namespace Go.Vcg
open Go.RowKit
theorem sel_all : ∀ L : List Bk, Sel L L
  | [] => .nil _
  | x :: r => sel_0 (BkLe.refl x) (sel_all r)
theorem sel_drop {L' L : List Bk} (y : Bk) (h : Sel L' L) : Sel L' (y :: L) := by
  induction h with
  | nil L => exact .nil _
  | cons h hr ih => exact Sel.cons (a := y :: _) h ih
end Go.Vcg
namespace Go.Proofs.YtfabmichdhbiaaaGreatDoor
open Go.RowKit Go.Vcg Go.MapKept
abbrev encJ (i : Int) : List Value := [.int .i64 i]
def IsV (μ : Mem) (v : Value) (xs : List Int) : Prop := ∃ A c, v = .slice A xs.length c ∧ Sl encJ 1 μ A xs.length xs ∧ xs.length ≤ c
def SsV (μ : Mem) (v : Value) (xs : List ByteArray) : Prop := ∃ A c, v = .slice A xs.length c ∧ Sl encStr 1 μ A xs.length xs ∧ xs.length ≤ c
theorem IsV.mono {μ μ' : Mem} {v : Value} {xs : List Int} (h : IsV μ v xs) (hle : MLe μ μ') : IsV μ' v xs := by
  obtain ⟨A, c, e, h1, h2⟩ := h
  exact ⟨A, c, e, h1.mono hle, h2⟩
theorem SsV.mono {μ μ' : Mem} {v : Value} {xs : List ByteArray} (h : SsV μ v xs) (hle : MLe μ μ') : SsV μ' v xs := by
  obtain ⟨A, c, e, h1, h2⟩ := h
  exact ⟨A, c, e, h1.mono hle, h2⟩
theorem IsV.one {μ : Mem} {v : Value} {xs : List Int} (h : IsV μ v xs) : v.oneCell' = true := by obtain ⟨A, c, rfl, -⟩ := h; rfl
theorem SsV.one {μ : Mem} {v : Value} {xs : List ByteArray} (h : SsV μ v xs) : v.oneCell' = true := by obtain ⟨A, c, rfl, -⟩ := h; rfl
theorem IsV.nil (μ : Mem) : IsV μ (.slice none 0 0) [] := ⟨none, 0, rfl, Sl.nil _ _ _ _, Nat.le_refl _⟩
theorem SsV.nil (μ : Mem) : SsV μ (.slice none 0 0) [] := ⟨none, 0, rfl, Sl.nil _ _ _ _, Nat.le_refl _⟩
abbrev encPl (p : EP) (r lb lo mi : Value) : List Value := [.bool p.strict, .bool p.gen, .bool p.fn, .bool p.head, r, lb, lo, .bool p.loop, .bool p.choice, mi, .bool p.own, .bool p.each]
def PV (μ : Mem) (p : EP) (v : Value) : Prop := ∃ r lb lo mi, v = .agg (encPl p r lb lo mi).toArray ∧ IsV μ r p.regs ∧ SsV μ lb p.labels ∧ SsV μ lo p.loops ∧ SsV μ mi p.mine
theorem PV.mono {μ μ' : Mem} {p : EP} {v : Value} (h : PV μ p v) (hle : MLe μ μ') : PV μ' p v := by
  obtain ⟨r, lb, lo, mi, e, h1, h2, h3, h4⟩ := h
  exact ⟨r, lb, lo, mi, e, h1.mono hle, h2.mono hle, h3.mono hle, h4.mono hle⟩
abbrev encD (d : ED × Value) : List Value := [.bool d.1.lex, d.2, .int .i64 d.1.par, .bool d.1.twice]
structure FR where
  (key : ByteArray) (v : Value) (ds : List (ED × Value))
abbrev famRD (f : FR) : Bk := .inr ⟨f.v, 62, 4, f.ds.length, f.ds.flatMap encD⟩
def famD (fs : List FR) : List Bk := fs.map famRD
def mkD : List FR → Nat → List MapEntry
  | [], _ => []
  | f :: r, j => MapEntry.mk (.string f.key) f.v j :: mkD r (j + 1)
def idxD (x : ByteArray) : List FR → Nat → Option (Nat × FR)
  | [], _ => none
  | f :: r, i => if x = f.key then some (i, f) else idxD x r (i + 1)
def nmD (fs : List FR) : List (ByteArray × List ED) := fs.map fun f => (f.key, f.ds.map (·.1))
def EB (xb mb : Nat) (s : ES) (fs : List FR) : List Bk := .inl ⟨xb, 40, 4, [(0, .map (some mb)), (1, .int .i64 (s.regs : Int)), (2, .int .i64 s.at'), (3, .int .i64 s.e)]⟩ :: .mp ⟨mb, mkD fs 0, fs.length⟩ :: famD fs
def ER (μ : Mem) (fs : List FR) (s : ES) : Prop := s.names = nmD fs ∧ ∀ f ∈ fs, ∀ d ∈ f.ds, IsV μ d.2 d.1.ins ∧ d.1.ins.length ≤ 100000
theorem ER.mono {μ μ' : Mem} {fs : List FR} {s : ES} (h : ER μ fs s) (hle : MLe μ μ') : ER μ' fs s := ⟨h.1, fun f hf d hd => ⟨(h.2 f hf d hd).1.mono hle, (h.2 f hf d hd).2⟩⟩
def CEs (f : FuncId) (args : List Value) (xb mb : Nat) (s s' : ES) (μ : Mem) : Prop := ∀ (w : World) (fs : List FR), MOk μ w → ER μ fs s → Go.Vcg.Own μ (EB xb mb s fs) w →
  Calls Tryz.prog f args.toArray w fun e w' => ∃ (v : Value) (μ' : Mem) (i : List FR), e = .returned v ∧ BackM (idsOf (EB xb mb s fs)) w w' μ (EB xb mb s' i) μ' ∧ ER μ' i s'
def CEr (f : FuncId) (args : List Value) (xb mb : Nat) (s s' : ES) (μ : Mem) (R : Mem → Value → Prop) : Prop := ∀ (w : World) (fs : List FR), MOk μ w → ER μ fs s → Go.Vcg.Own μ (EB xb mb s fs) w →
  Calls Tryz.prog f args.toArray w fun e w' => ∃ (v : Value) (μ' : Mem) (i : List FR), e = .returned v ∧ BackM (idsOf (EB xb mb s fs)) w w' μ (EB xb mb s' i) μ' ∧ (ER μ' i s' ∧ R μ' v)
theorem EB_eq (xb mb : Nat) (s : ES) (fs : List FR) : EB xb mb s fs = .inl ⟨xb, 40, 4, [(0, .map (some mb)), (1, .int .i64 (s.regs : Int)), (2, .int .i64 s.at'), (3, .int .i64 s.e)]⟩ :: .mp ⟨mb, mkD fs 0, fs.length⟩ :: famD fs := rfl
section
variable {X : Ctx} {ops : Array Oper} {Q : Exit → Act → World → Prop} {rest : List Oper} {μ : Mem} {l : Slots} {L Lr : List Bk} {o : Oper} {d : Nat} {f : FuncId} {args : List Value} {xb mb : Nat} {s s' : ES} {fs : List FR}
theorem g_ce (k : Nat) (hd : o.dst = some d) (hn : Nat.blt d X.n = true) (hw : wants ops l o = some true) (hr : Ent Tryz.prog μ l L o f args.toArray) (hL : splitB k L = some (Lr, EB xb mb s fs)) (hR : ER μ fs s) (hc : CEs f args xb mb s s' μ)
    (h : ∀ (v : Value) (μ' : Mem) (i : List FR), MLe μ μ' → ER μ' i s' → G Tryz.prog X ops Q rest μ' ((d, v) :: l) (Lr ++ EB xb mb s' i)) : G Tryz.prog X ops Q (o :: rest) μ l L :=
  g_enter_end (Ls := fun i => EB xb mb s' i) (Post := fun μ' _ i => ER μ' i s') k hd hn hw hr hL (fun w hμ hO => hc w fs hμ hR hO) h
theorem g_cer {R : Mem → Value → Prop} (k : Nat) (hd : o.dst = some d) (hn : Nat.blt d X.n = true) (hw : wants ops l o = some true) (hr : Ent Tryz.prog μ l L o f args.toArray) (hL : splitB k L = some (Lr, EB xb mb s fs)) (hR : ER μ fs s) (hc : CEr f args xb mb s s' μ R)
    (h : ∀ (v : Value) (μ' : Mem) (i : List FR), MLe μ μ' → ER μ' i s' → R μ' v → G Tryz.prog X ops Q rest μ' ((d, v) :: l) (Lr ++ EB xb mb s' i)) : G Tryz.prog X ops Q (o :: rest) μ l L :=
  g_enter_end (Ls := fun i => EB xb mb s' i) (Post := fun μ' v i => ER μ' i s' ∧ R μ' v) k hd hn hw hr hL (fun w hμ hO => hc w fs hμ hR hO) fun v μ' i hle hp => h v μ' i hle hp.1 hp.2
end
theorem IsV.of_row {μ : Mem} {v : Value} {n : Nat} {ys : List Value} {t : TypeId} {xs : List Int} (h : Bk.sh (.inr ⟨v, t, 1, n, ys⟩) μ) (hn : n = xs.length) (hy : ys = xs.flatMap encJ) : IsV μ v xs := by
  subst hn hy
  obtain ⟨A, c, e, hS⟩ := row_sl (enc := encJ) (xs := xs) h rfl (by simp) rfl
  subst e
  exact ⟨A, c, rfl, hS, Bk.cap h⟩
theorem SsV.of_row {μ : Mem} {v : Value} {n : Nat} {ys : List Value} {t : TypeId} {xs : List ByteArray} (h : Bk.sh (.inr ⟨v, t, 1, n, ys⟩) μ) (hn : n = xs.length) (hy : ys = xs.flatMap encStr) : SsV μ v xs := by
  subst hn hy
  obtain ⟨A, c, e, hS⟩ := row_sl (enc := encStr) (xs := xs) h rfl (by simp) rfl
  subst e
  exact ⟨A, c, rfl, hS, Bk.cap h⟩
theorem ba_beq (x y : ByteArray) : (x == y) = decide (x = y) := by
  by_cases h : x = y
  · subst h
    rw [decide_eq_true rfl]
    show (x.data == x.data) = true
    exact beq_self_eq_true _
  · rw [decide_eq_false h]
    show (x.data == y.data) = false
    refine beq_false_of_ne fun e => h ?_
    obtain ⟨a⟩ := x
    obtain ⟨b⟩ := y
    dsimp only at e
    rw [e]
theorem find_mkD (x : ByteArray) : ∀ (fs : List FR) (j i : Nat), Instr.findNow .string (.string x) (mkD fs j) i = some ((idxD x fs i).map fun p => (p.1, p.2.v))
  | [], j, i => by simp [mkD, Instr.findNow, idxD]
  | f :: r, j, i => by
    have ih := find_mkD x r (j + 1) (i + 1)
    unfold mkD Instr.findNow idxD
    by_cases h : x = f.key
    · rw [← h]
      simp [Instr.sameNow, ba_beq]
    · simp [Instr.sameNow, ba_beq, h, ih]
theorem mkD_app : ∀ (fs : List FR) (f : FR) (j : Nat), mkD (fs ++ [f]) j = mkD fs j ++ [MapEntry.mk (.string f.key) f.v (j + fs.length)]
  | [], f, j => by simp [mkD]
  | g :: r, f, j => by
    have := mkD_app r f (j + 1)
    simp only [List.cons_append, mkD, this, List.length_cons]
    rw [show j + 1 + r.length = j + (r.length + 1) by omega]
theorem idxD_get {x : ByteArray} : ∀ {fs : List FR} {i p : Nat} {f : FR}, idxD x fs i = some (p, f) → i ≤ p ∧ fs[p - i]? = some f ∧ f.key = x
  | [], _, _, _, h => by cases h
  | g :: r, i, p, f, h => by
    unfold idxD at h
    split at h
    · rename_i hx
      cases h
      exact ⟨Nat.le_refl _, by rw [Nat.sub_self]; rfl, hx.symm⟩
    · obtain ⟨h1, h2, h3⟩ := idxD_get h
      refine ⟨by omega, ?_, h3⟩
      rw [show p - i = (p - (i + 1)) + 1 by omega, List.getElem?_cons_succ]
      exact h2
theorem mkD_set : ∀ (fs : List FR) (j p : Nat) (f g : FR), fs[p]? = some f → g.key = f.key → (mkD fs j).modify p (fun e => { e with key := .string g.key, val := g.v }) = mkD (fs.set p g) j ∧ ((mkD fs j)[p]?).map (·.key) = some (.string g.key)
  | [], j, p, f, g, h, _ => by simp at h
  | a :: r, j, 0, f, g, h, hk => by
    cases h
    simp [mkD, hk]
  | a :: r, j, p + 1, f, g, h, hk => by
    rw [List.getElem?_cons_succ] at h
    obtain ⟨e1, e2⟩ := mkD_set r (j + 1) p f g h hk
    simp only [mkD, List.set_cons_succ, List.modify_succ_cons, e1, List.getElem?_cons_succ, e2, and_self]
theorem getE_idx {x : ByteArray} : ∀ {fs : List FR} {i : Nat}, getE x (nmD fs) = match idxD x fs i with | some (_, f) => f.ds.map (·.1) | none => []
  | [], _ => rfl
  | g :: r, i => by
    have ih := getE_idx (x := x) (fs := r) (i := i + 1)
    unfold nmD at ih ⊢
    simp only [List.map_cons, getE, idxD]
    split
    · rfl
    · exact ih
theorem putE_old {x : ByteArray} {l : List ED} : ∀ {fs : List FR} {i p : Nat} {f : FR} {v : Value} {ds : List (ED × Value)}, idxD x fs i = some (p, f) → l = ds.map (·.1) → putE x l (nmD fs) = nmD (fs.set (p - i) ⟨f.key, v, ds⟩)
  | [], _, _, _, _, _, h, _ => by cases h
  | g :: r, i, p, f, v, ds, h, hl => by
    unfold idxD at h
    unfold nmD
    simp only [List.map_cons, putE]
    split at h
    · rename_i hx
      cases h
      rw [if_pos hx, Nat.sub_self, List.set_cons_zero, List.map_cons, hl]
    · rename_i hx
      obtain ⟨h1, -, -⟩ := idxD_get h
      have ih := putE_old (v := v) (ds := ds) h hl
      unfold nmD at ih
      rw [if_neg hx, show p - i = (p - (i + 1)) + 1 by omega, List.set_cons_succ, List.map_cons, ih]
theorem putE_new {x : ByteArray} {l : List ED} : ∀ {fs : List FR} {i : Nat} {v : Value} {ds : List (ED × Value)}, idxD x fs i = none → l = ds.map (·.1) → putE x l (nmD fs) = nmD (fs ++ [⟨x, v, ds⟩])
  | [], _, _, _, _, hl => by simp [nmD, putE, hl]
  | g :: r, i, v, ds, h, hl => by
    unfold idxD at h
    unfold nmD
    simp only [List.map_cons, putE]
    split at h
    · cases h
    · rename_i hx
      have ih := putE_new (v := v) (ds := ds) h hl
      unfold nmD at ih
      rw [if_neg hx, List.cons_append, List.map_cons, ih]
theorem famD_app (fs : List FR) (f : FR) : famD (fs ++ [f]) = famD fs ++ [famRD f] := by unfold famD; rw [List.map_append]; rfl
theorem famD_get {fs : List FR} {i : Nat} {f : FR} (h : fs[i]? = some f) : (famD fs)[i]? = some (famRD f) := by unfold famD; rw [List.getElem?_map, h]; rfl
theorem famD_set (fs : List FR) (i : Nat) (f : FR) : famD (fs.set i f) = (famD fs).set i (famRD f) := by unfold famD; rw [List.map_set]
theorem famD_len (fs : List FR) : (famD fs).length = fs.length := List.length_map ..
end Go.Proofs.YtfabmichdhbiaaaGreatDoor
namespace Go.Proofs.YtfabmichdhbiaaaGreatDoor
open Go.RowKit Go.Vcg
theorem badE_names (c : Bool) (a e : Int) (s : ES) : (badE c a e s).names = s.names := by unfold badE; split <;> rfl
theorem badE_regs (c : Bool) (a e : Int) (s : ES) : (badE c a e s).regs = s.regs := by unfold badE; split <;> rfl
attribute [local irreducible] famD mkD G GC GQ GA GAop Calls IntKind.wrap Int.decLt Int.decLe
theorem bad_spec (xb mb : Nat) (t : T) (u : Value) (hu : u.oneCell' = true) (c : Bool) (e : Int) (s : ES) (μ : Mem) :
    CEs 39 [.pointer (some ⟨xb, 0, none⟩), .agg (encT t u).toArray, .int .i64 e, .bool c] xb mb s (badE c t.at' e s) μ := by
  intro w fs hμ hR hO
  have hcnt := ids_count hO.diff
  have hR2 : ∀ μ', MLe μ μ' → ER μ' fs (badE c t.at' e s) := fun μ' hle => ⟨by rw [badE_names]; exact hR.1, (hR.mono hle).2⟩
  generalize hs' : badE c t.at' e s = s' at hR2 ⊢
  unfold EB at hO hcnt
  show Calls _ _ _ _ (fun e w' => ∃ (v : Value) (μ' : Mem) (i : List FR), e = .returned v ∧ BackM (idsOf (.inl ⟨xb, 40, 4, [(0, .map (some mb)), (1, .int .i64 (s.regs : Int)), (2, .int .i64 s.at'), (3, .int .i64 s.e)]⟩ :: .mp ⟨mb, mkD fs 0, fs.length⟩ :: famD fs)) w w' μ (EB xb mb s' i) μ' ∧ ER μ' i s')
  refine call_introM (args := [.pointer (some ⟨xb, 0, none⟩), .agg (encT t u).toArray, .int .i64 e, .bool c]) Tryz.func39 rfl Tryz.ntmps39 (by simp) hμ hO ?_
  by_cases hc : c = true
  · subst hc
    by_cases he : s.e = 0
    · have h2 : s' = { s with at' := t.at', e := e } := by rw [← hs', badE, if_pos ⟨rfl, he⟩]
      subst h2
      repeat' (first | refine KK ?_ | refine NB fun b => ?_ | ((refine KB ?_ ?_ <;> intro hp)) | refine KG ?_ | fail)
      all_goals try (exfalso; first | omega | contradiction)
      refine gq_sel (l' := []) (L' := EB xb mb { s with at' := t.at', e := e } fs) PU (by unfold EB; exact sel_1 (.cells PU) (sel_1 (.refl _) (sel_drop _ (sel_all _)))) ?_
      exact ret_end0 0 fs (.inr rfl) hcnt rfl rfl rfl (fun μ' _ hle => hR2 μ' hle)
    · have h2 : s' = s := by rw [← hs', badE, if_neg (fun h => he h.2)]
      subst h2
      repeat' (first | refine KK ?_ | refine NB fun b => ?_ | ((refine KB ?_ ?_ <;> intro hp)) | refine KG ?_ | fail)
      all_goals try (exfalso; first | omega | contradiction)
      refine gq_sel (l' := []) (L' := EB xb mb s' fs) PU (by unfold EB; exact sel_1 (.cells PU) (sel_1 (.refl _) (sel_drop _ (sel_all _)))) ?_
      exact ret_end0 0 fs (.inr rfl) hcnt rfl rfl rfl (fun μ' _ hle => hR2 μ' hle)
  · have h2 : s' = s := by rw [← hs', badE, if_neg (fun h => hc h.1)]
    subst h2
    have hcf : c = false := by simpa using hc
    subst hcf
    repeat' (first | refine KK ?_ | refine NB fun b => ?_ | ((refine KB ?_ ?_ <;> intro hp)) | refine KG ?_ | fail)
    all_goals try (exfalso; first | omega | contradiction)
    refine gq_sel (l' := []) (L' := EB xb mb s' fs) PU (by unfold EB; exact sel_1 (.cells PU) (sel_1 (.refl _) (sel_drop _ (sel_all _)))) ?_
    exact ret_end0 0 fs (.inr rfl) hcnt rfl rfl rfl (fun μ' _ hle => hR2 μ' hle)
end Go.Proofs.YtfabmichdhbiaaaGreatDoor
namespace Go.Vcg
open Go.RowKit
section
variable {P : Program} {X : Ctx} {μ : Mem} {l : Slots} {L : List Bk}
variable {ty : TypeId} {pos : String} {af : Array Edge} {gd : Option (Nat × Bool)} {ds : Option Nat}
theorem v_andK {p q : Operand} {t t2 : TypeId} {k : IntKind} {x y : Int} (hx0 : ev l p = some (.int k x)) (hx1 : ev l q = some (.int k y)) : Val P μ l L ⟨ds, .binOp .and t p q t2, ty, pos, af, gd⟩ (.int k (k.wrap ((BitVec.ofInt k.bits x &&& BitVec.ofInt k.bits y).toNat : Int))) :=
  fun a w hs => by have e0 := hs.eval hx0; have e1 := hs.eval hx1; generalize a.eval = ρ at e0 e1; simp [execOp, e0, e1, eqGuard, binOp, Op.intBits]
end
end Go.Vcg
namespace Go.Proofs.YtfabmichdhbiaaaGreatDoor
open Go.RowKit Go.Vcg
theorem v_andE {P : Program} {μ : Mem} {l : Slots} {L : List Bk} {ty : TypeId} {pos : String} {af : Array Edge} {gd : Option (Nat × Bool)} {ds : Option Nat} {p q : Operand} {t t2 : TypeId} {x y : Int} (hx0 : ev l p = some (.int .i64 x)) (hx1 : ev l q = some (.int .i64 y)) : Val P μ l L ⟨ds, .binOp .and t p q t2, ty, pos, af, gd⟩ (.int .i64 (anI x y)) := v_andK hx0 hx1
theorem flatI : ∀ l : List Int, (l.flatMap encJ).length = l.length
  | [] => rfl
  | x :: r => by
    have := flatI r
    simp only [List.flatMap_cons, List.length_append, List.length_cons, List.length_nil, this]
    omega
theorem flatS : ∀ l : List ByteArray, (l.flatMap encStr).length = l.length
  | [] => rfl
  | x :: r => by
    have := flatS r
    simp only [List.flatMap_cons, List.length_append, List.length_cons, List.length_nil, this]
    omega
theorem ones_I (l : List Int) : ∀ u ∈ l.flatMap encJ, u.oneCell' = true := fun u hu => by
  obtain ⟨b, -, hb⟩ := List.mem_flatMap.1 hu
  simp at hb
  subst hb
  rfl
theorem ones_S (l : List ByteArray) : ∀ u ∈ l.flatMap encStr, u.oneCell' = true := fun u hu => by
  obtain ⟨b, -, hb⟩ := List.mem_flatMap.1 hu
  simp at hb
  subst hb
  rfl
attribute [local irreducible] anI EB famD mkD G GC GQ GA GAop Calls IntKind.wrap Int.decLt Int.decLe
theorem bit_spec (n k : Int) (w : World) (μ : Mem) (hμ : MOk μ w) : Calls Tryz.prog 68 #[.int .i64 n, .int .i64 k] w fun e w' => e = .returned (.bool (bitE n k)) ∧ Below w.heap.size w w' := by
  have hb : bitE n k = (decide (0 ≤ n) && decide (anI n k ≠ 0)) := rfl
  refine call_intro (args := [.int .i64 n, .int .i64 k]) Tryz.func68 rfl Tryz.ntmps68 (by simp) hμ ?_
  repeat' (first | refine KO ?_ | (refine KV (b := by first | ((with_reducible apply v_andE); exact rfl; exact rfl)) (c := ?_)) | refine KI ?_ | ((refine KB ?_ ?_ <;> intro hp)) | refine KG ?_ | fail)
  all_goals refine ret_s rfl rfl (congrArg _ ?_)
  all_goals rw [hb]
  all_goals first | (simp_all; done) | (simp_all; intro; omega) | (simp_all; omega)
theorem clone_I (w : World) (μ : Mem) (hμ : MOk μ w) (l : List Int) (v : Value) (hv : IsV μ v l) (hl : l.length ≤ 1000000) : Calls Tryz.prog 71 #[v] w (RowPost w 3 1 l.length (l.flatMap encJ)) := by
  obtain ⟨A, c, rfl, hS, hcap⟩ := hv
  refine call_intro (args := [.slice A l.length c]) Tryz.func71 rfl Tryz.ntmps71 (by simp) hμ ?_
  have h1 := ones_I l
  have h2 := flatI l
  cases A with
  | none =>
    have h0 : l = [] := by
      cases l with
      | nil => rfl
      | cons x r =>
        obtain ⟨a, e, _⟩ := hS.2 (by simp)
        cases e
    subst h0
    repeat' (first | refine KO ?_ | (refine KV (b := by first | ((with_reducible apply v_isnil); exact rfl; exact rfl)) (c := ?_)) | refine KI ?_ | refine NB fun b => ?_ | ((refine KB ?_ ?_ <;> intro hp)) | refine KG ?_ | fail)
    exact gq_nilRow 3 1 (ret_row 0 rfl rfl rfl)
  | some ad =>
    repeat' (first | ((with_reducible apply g_row0 1)) | refine KO ?_ | (first | ((with_reducible apply g_ap); exact rfl; exact rfl; exact rfl; (repeat first | with_reducible exact rowup_hd | with_reducible apply rowup_tl); (iterate 6 exact rfl); (first | ((with_reducible apply src_sh); exact rfl; exact hS; simp) | ((with_reducible apply src_in); exact rfl; (repeat first | with_reducible exact inb_hd | with_reducible apply inb_tl); exact rfl)); (first | exact rfl | omega | simp); (first | assumption | (exact ones_mem (by (repeat first | with_reducible exact ones_nil | ((with_reducible apply ones_cons); (first | exact rfl | assumption))))) | simp [Value.oneCell']); omega; omega; intro v) | ((with_reducible apply g_append0); (iterate 9 exact rfl); (first | ((with_reducible apply src_sh); exact rfl; exact hS; simp) | ((with_reducible apply src_in); exact rfl; (repeat first | with_reducible exact inb_hd | with_reducible apply inb_tl); exact rfl)); (first | exact rfl | omega | simp); (first | assumption | (exact ones_mem (by (repeat first | with_reducible exact ones_nil | ((with_reducible apply ones_cons); (first | exact rfl | assumption))))) | simp [Value.oneCell']); omega; omega; intro v)) | (refine KV (b := by first | ((with_reducible apply v_isnil); exact rfl; exact rfl)) (c := ?_)) | refine KI ?_ | refine NB fun b => ?_ | ((refine KB ?_ ?_ <;> intro hp)) | refine KG ?_ | fail)
    simp only [Nat.zero_add, List.nil_append]
    exact ret_row 0 rfl rfl rfl
theorem clone_S (w : World) (μ : Mem) (hμ : MOk μ w) (l : List ByteArray) (v : Value) (hv : SsV μ v l) (hl : l.length ≤ 1000000) : Calls Tryz.prog 41 #[v] w (RowPost w 9 1 l.length (l.flatMap encStr)) := by
  obtain ⟨A, c, rfl, hS, hcap⟩ := hv
  refine call_intro (args := [.slice A l.length c]) Tryz.func41 rfl Tryz.ntmps41 (by simp) hμ ?_
  have h1 := ones_S l
  have h2 : (l.flatMap encStr).length = l.length := flatS l
  cases A with
  | none =>
    have h0 : l = [] := by
      cases l with
      | nil => rfl
      | cons x r =>
        obtain ⟨a, e, _⟩ := hS.2 (by simp)
        cases e
    subst h0
    repeat' (first | refine KO ?_ | (refine KV (b := by first | ((with_reducible apply v_isnil); exact rfl; exact rfl)) (c := ?_)) | refine KI ?_ | refine NB fun b => ?_ | ((refine KB ?_ ?_ <;> intro hp)) | refine KG ?_ | fail)
    exact gq_nilRow 9 1 (ret_row 0 rfl rfl rfl)
  | some ad =>
    repeat' (first | ((with_reducible apply g_row0 1)) | refine KO ?_ | (first | ((with_reducible apply g_ap); exact rfl; exact rfl; exact rfl; (repeat first | with_reducible exact rowup_hd | with_reducible apply rowup_tl); (iterate 6 exact rfl); (first | ((with_reducible apply src_sh); exact rfl; exact hS; simp) | ((with_reducible apply src_in); exact rfl; (repeat first | with_reducible exact inb_hd | with_reducible apply inb_tl); exact rfl)); (first | exact rfl | omega | simp); (first | assumption | (exact ones_mem (by (repeat first | with_reducible exact ones_nil | ((with_reducible apply ones_cons); (first | exact rfl | assumption))))) | simp [Value.oneCell']); omega; omega; intro v) | ((with_reducible apply g_append0); (iterate 9 exact rfl); (first | ((with_reducible apply src_sh); exact rfl; exact hS; simp) | ((with_reducible apply src_in); exact rfl; (repeat first | with_reducible exact inb_hd | with_reducible apply inb_tl); exact rfl)); (first | exact rfl | omega | simp); (first | assumption | (exact ones_mem (by (repeat first | with_reducible exact ones_nil | ((with_reducible apply ones_cons); (first | exact rfl | assumption))))) | simp [Value.oneCell']); omega; omega; intro v)) | (refine KV (b := by first | ((with_reducible apply v_isnil); exact rfl; exact rfl)) (c := ?_)) | refine KI ?_ | refine NB fun b => ?_ | ((refine KB ?_ ?_ <;> intro hp)) | refine KG ?_ | fail)
    simp only [Nat.zero_add, List.nil_append]
    exact ret_row 0 rfl rfl rfl
theorem near_spec (μ : Mem) (p : EP) (pv : Value) (hp : PV μ p pv) (hne : 0 < p.regs.length) (hb : p.regs.length ≤ 1000000) : ∃ v, IsV μ v (nearE p) ∧ ∀ (w : World) (μ' : Mem), MOk μ' w → MLe μ μ' → Calls Tryz.prog 35 #[pv] w fun e w' => e = .returned v ∧ Below w.heap.size w w' := by
  obtain ⟨r, lb, lo, mi, rfl, hr, h2, h3, h4⟩ := hp
  have o2 := h2.one
  have o3 := h3.one
  have o4 := h4.one
  obtain ⟨A, c, rfl, hS, hcap⟩ := hr
  refine ⟨.slice (if c = p.regs.length - 1 then A else A.map (·.add ((p.regs.length - 1) * 1))) (p.regs.length - (p.regs.length - 1)) (c - (p.regs.length - 1)), ⟨_, _, by rw [nearE, List.length_drop], by rw [nearE, List.length_drop]; exact hS.drop (by omega) hcap, by rw [nearE, List.length_drop]; omega⟩, fun w μ' hw hle => ?_⟩
  refine call_intro (args := [.agg (encPl p (.slice A p.regs.length c) lb lo mi).toArray]) Tryz.func35 rfl Tryz.ntmps35 (by simp) hw ?_
  repeat' (first | refine KO ?_ | (refine KV (b := by first | ((with_reducible apply v_slice_lo (p.regs.length - 1)); exact rfl; exact rfl; exact rfl; exact rfl; (first | exact rfl | omega); omega)) (c := ?_)) | refine KI ?_ | refine NB fun b => ?_ | ((refine KB ?_ ?_ <;> intro hp)) | refine KG ?_ | fail)
  exact ret_s rfl rfl rfl
end Go.Proofs.YtfabmichdhbiaaaGreatDoor
namespace Go.Proofs.YtfabmichdhbiaaaGreatDoor
open Go.RowKit Go.Vcg
inductive Sm : T → T → Prop
  | mk (a b : T) (h1 : a.op = b.op) (h2 : a.n = b.n) (h3 : a.m = b.m) (h4 : a.s = b.s) (h5 : a.kids.length = b.kids.length) (h6 : ∀ (i : Nat) (x y : T), a.kids[i]? = some x → b.kids[i]? = some y → Sm x y) : Sm a b
def SmL (l m : List T) : Prop := l.length = m.length ∧ ∀ (i : Nat) (x y : T), l[i]? = some x → m[i]? = some y → Sm x y
noncomputable def dB (p : Prop) : Bool := @decide p (Classical.propDecidable p)
theorem dB_t {p : Prop} (h : p) : dB p = true := @decide_eq_true p (Classical.propDecidable p) h
theorem dB_f {p : Prop} (h : ¬p) : dB p = false := @decide_eq_false p (Classical.propDecidable p) h
theorem dB_true {p : Prop} (h : dB p = true) : p := @of_decide_eq_true p (Classical.propDecidable p) h
theorem dB_false {p : Prop} (h : dB p = false) : ¬p := @of_decide_eq_false p (Classical.propDecidable p) h
noncomputable def smB (a b : T) : Bool := dB (Sm a b)
noncomputable def smLB (l m : List T) : Bool := dB (SmL l m)
theorem T.ind2 {p : T → Prop} (h : ∀ t : T, (∀ k, k ∈ t.kids → p k) → p t) (t : T) : p t := by
  have key : ∀ (n : Nat) (t : T), t.size ≤ n → p t := by
    intro n
    induction n with
    | zero => intro t ht; rw [T.size_eq] at ht; omega
    | succ n ih =>
      intro t ht
      refine h t fun k hk => ih k ?_
      obtain ⟨i, hi⟩ := List.mem_iff_getElem?.1 hk
      have := T.size_kid hi
      omega
  exact key t.size t (Nat.le_refl _)
theorem kidsLe (t : T) : t.kids.length < t.size := by
  rw [T.size_eq]
  have : ∀ l : List T, l.length ≤ (l.map T.size).sum := fun l => by
    induction l with
    | nil => simp
    | cons x l ih =>
      have := T.size_eq x
      simp; omega
  have := this t.kids
  omega
attribute [local irreducible] smB smLB G GC GQ GA GAop Calls IntKind.wrap Int.decLt Int.decLe
end Go.Proofs.YtfabmichdhbiaaaGreatDoor
namespace Go.Vcg
open Go.RowKit
def GI (P : Program) (F : Fence) (n : Nat) (X : Ctx) (ops : Array Oper) (Q : Exit → Act → World → Prop) (rest : List Oper) (μ : Mem) (l : Slots) (L : List Bk) : Prop :=
  ∀ a w, St X μ l L a w → wpListIn F n P ops Q rest a w
section
variable {P : Program} {F : Fence} {n : Nat} {X : Ctx} {ops : Array Oper} {Q : Exit → Act → World → Prop} {rest : List Oper} {μ : Mem} {l : Slots} {L : List Bk} {a : Act} {w : World} {o : Oper} {d : Nat}
end
end Go.Vcg
namespace Go.Proofs.YtfabmichdhbiaaaGreatDoor
open Go.RowKit Go.Vcg Go.Shelf
def nameL : List (List UInt8) := [
  [],
  [80, 114, 111, 103, 114, 97, 109],
  [86, 97, 114],
  [68, 101, 99, 108],
  [70, 117, 110, 99],
  [80, 97, 114, 97, 109, 115],
  [66, 108, 111, 99, 107],
  [69, 109, 112, 116, 121],
  [69, 120, 112, 114],
  [73, 102],
  [70, 111, 114],
  [70, 111, 114, 73, 110],
  [70, 111, 114, 79, 102],
  [87, 104, 105, 108, 101],
  [68, 111],
  [66, 114, 101, 97, 107],
  [67, 111, 110, 116, 105, 110, 117, 101],
  [82, 101, 116, 117, 114, 110],
  [84, 104, 114, 111, 119],
  [84, 114, 121],
  [67, 97, 116, 99, 104],
  [83, 119, 105, 116, 99, 104],
  [67, 97, 115, 101],
  [76, 97, 98, 101, 108],
  [],
  [],
  [],
  [],
  [],
  [],
  [78, 117, 109],
  [84, 101, 120, 116],
  [66, 111, 111, 108],
  [78, 117, 108, 108],
  [78, 97, 109, 101],
  [84, 104, 105, 115],
  [84, 101, 109, 112, 108, 97, 116, 101],
  [65, 114, 114, 97, 121],
  [79, 98, 106, 101, 99, 116],
  [80, 114, 111, 112],
  [72, 111, 108, 101],
  [83, 112, 114, 101, 97, 100],
  [85, 110, 97, 114, 121],
  [85, 112, 100, 97, 116, 101],
  [66, 105, 110, 97, 114, 121],
  [76, 111, 103, 105, 99],
  [65, 115, 115, 105, 103, 110],
  [67, 111, 110, 100],
  [83, 101, 113],
  [67, 97, 108, 108],
  [78, 101, 119],
  [68, 111, 116],
  [73, 110, 100, 101, 120],
  [67, 104, 97, 105, 110],
  [89, 105, 101, 108, 100],
  [],
  [],
  [],
  [],
  [],
  [65, 114, 114, 80, 97, 116],
  [79, 98, 106, 80, 97, 116],
  [80, 97, 116, 80, 114, 111, 112],
  [68, 101, 102, 97, 117, 108, 116],
  [82, 101, 115, 116]]
def nameB (op : Int) : List UInt8 := if 0 ≤ op then nameL.getD op.toNat [] else []
theorem nameB_none {op : Int} (h : op < 0 ∨ 65 ≤ op) : nameB op = [] := by
  unfold nameB
  split
  · have : nameL.length = 65 := rfl
    rw [List.getD_eq_getElem?_getD, List.getElem?_eq_none (by omega)]
    rfl
  · rfl
theorem nameB_at {k : Nat} {l : List UInt8} (h : nameL[k]? = some l) : nameB (k : Int) = l := by
  unfold nameB
  rw [if_pos (by omega), Int.toNat_natCast, List.getD_eq_getElem?_getD, h]
  rfl
theorem nameB_gap {op : Int} (h : op = 0 ∨ op = 24 ∨ op = 25 ∨ op = 26 ∨ op = 27 ∨ op = 28 ∨ op = 29 ∨ op = 55 ∨ op = 56 ∨ op = 57 ∨ op = 58 ∨ op = 59) : nameB op = [] := by
  rcases h with rfl | rfl | rfl | rfl | rfl | rfl | rfl | rfl | rfl | rfl | rfl | rfl <;> rfl
abbrev encB (l : List UInt8) : List Value := [.string ⟨l.toArray⟩]
theorem grow_alloc {μ : Mem} {w : World} (hμ : MOk μ w) (o : Obj) : ∃ μ', Grow w (w.alloc o) μ μ' ∧ μ' w.heap.size = some o := by
  have hn : ∀ b, w.heap.size ≤ b → μ b = none := fun b hb => by
    cases h : μ b with
    | none => rfl
    | some x =>
      have := (Array.getElem?_eq_some_iff.1 (hμ b x h)).1
      omega
  refine ⟨fun b => if b = w.heap.size then some o else μ b, ⟨(Below.refl _ w).alloc (Nat.le_refl _) _, fun b x e => ?_, fun b x e => ?_, fun b hb h0 => ?_⟩, by simp⟩
  · have : b ≠ w.heap.size := fun e' => by rw [e', hn _ (Nat.le_refl _)] at e; cases e
    simp [this, e]
  · by_cases hb : b = w.heap.size
    · subst hb
      simp at e
      subst e
      exact World.alloc_heap_new w _
    · simp [hb] at e
      have := hμ b x e
      rw [Below.heap_alloc _ _ _ (Array.getElem?_eq_some_iff.1 this).1]
      exact this
  · have : b ≠ w.heap.size := by omega
    simp [this, h0]
def FieldsPost (ws : List (List UInt8)) (μ : Mem) (v : Value) : Prop := ∃ b, v = .slice (some ⟨b, 0, none⟩) ws.length ws.length ∧ Sl encB 1 μ (some ⟨b, 0, none⟩) ws.length ws
def TabA (μ : Mem) : Prop := ∀ w, MOk μ w → Lib.TabIs Tryz.prog w "strings.asciiSpace" .u8 Lib.asciiSpaceTab
theorem TabA.mono {μ μ' : Mem} (h : TabA μ) (hle : MLe μ μ') : TabA μ' := fun w hw => h w (fun b o e => hw b o (hle b o e))
theorem fields_spec (s : ByteArray) (ws : List (List UInt8)) (hs : Nat.blt s.data.toList.length 4294967281 = true) (ha : s.data.toList.all (fun b => Nat.blt b.toNat 128) = true) (hf : Lib.fields s.data.toList = ws) (w : World) (μ : Mem) (hμ : MOk μ w) (hT : TabA μ) :
    Calls Tryz.prog 85 #[.string s] w fun e w' => ∃ v μ', e = .returned v ∧ Grow w w' μ μ' ∧ FieldsPost ws μ' v := by
  refine (Any.strings_Fields_laid Tryz.laysM157 s w (by have h := Nat.le_of_ble_eq_true hs; rw [Array.length_toList] at h; exact h) (fun j b hb => ?_) (hT w hμ)).mono fun e w' ⟨h1, h2⟩ => ?_
  · have := List.all_eq_true.1 ha b (List.mem_of_getElem? hb)
    exact Nat.le_of_ble_eq_true this
  · subst h2
    rw [hf] at h1 ⊢
    obtain ⟨μ', hg, hm⟩ := grow_alloc hμ (.cells (ws.map fun l => Value.string ⟨l.toArray⟩).toArray (Tryz.laysM157_ren.t 9))
    refine ⟨_, μ', h1, hg, _, rfl, rfl, fun hp => ⟨_, rfl, fun i l hl j v hj => ?_⟩⟩
    match j, hj with
    | 0, hj =>
      simp at hj
      subst hj
      rw [add_add', add_lit]
      exact ⟨_, _, _, hm, rfl, by simp [hl]⟩
    | j + 1, hj => simp at hj
attribute [local irreducible] G GC GQ GA GAop Calls IntKind.wrap Int.decLt Int.decLe
theorem name_spec (op : Int) (hop : -9223372036854775808 ≤ op ∧ op ≤ 9223372036854775807) (w : World) (μ : Mem) (hμ : MOk μ w) (hT : TabA μ) :
    Calls Tryz.prog 48 #[.int .i64 op] w fun e w' => e = .returned (.string ⟨(nameB op).toArray⟩) ∧ Below w.heap.size w w' := by
  refine call_intro (args := [.int .i64 op]) Tryz.func48 rfl Tryz.ntmps48 (by simp) hμ ?_
  have key : ∀ (lo n : Nat) (ws : List (List UInt8)), (nameL.drop lo).take n = ws → ∀ k : Nat, k < n → lo + n ≤ 65 → ∀ {μ' : Mem} {b : Nat}, Sl encB 1 μ' (some ⟨b, 0, none⟩) ws.length ws → MCells μ' ((⟨b, 0, none⟩ : Addr).add (k * 1)) [.string ⟨(nameB ((lo + k : Nat) : Int)).toArray⟩] := by
    intro lo n ws h k hk hlo μ' b hS
    have hl : nameL.length = 65 := rfl
    have hg : nameL[lo + k]? = some nameL[lo + k] := List.getElem?_eq_getElem (by omega)
    have hw : ws[k]? = some nameL[lo + k] := by
      rw [← h, List.getElem?_take_of_lt hk, List.getElem?_drop, hg]
    obtain ⟨a, e, ha⟩ := hS.2 (by have := (List.getElem?_eq_some_iff.1 hw).1; omega)
    cases e
    rw [nameB_at hg]
    exact ha k _ hw
  by_cases h1 : 1 ≤ op ∧ op ≤ 23
  · obtain ⟨k, rfl⟩ : ∃ k : Nat, op = ((1 + k : Nat) : Int) := ⟨(op - 1).toNat, by omega⟩
    repeat' (first | refine KO ?_ | ((with_reducible apply F2 85); exact rfl; exact EN; (exact fun w hw => fields_spec _ ((nameL.drop 1).take 23) (by kernel_rfl) (by kernel_rfl) (by kernel_rfl) w _ hw hT); rintro v2 μ2 hle2 ⟨bf, rfl, hS⟩; (have hc := key 1 23 _ rfl k (by omega) (by omega) hS); (rw [show ((nameL.drop 1).take 23).length = 23 from rfl])) | (refine KV (b := by first | exact U1 k | ((with_reducible apply v_load_sh); exact rfl; exact rfl; exact hc.at 0 rfl)) (c := ?_)) | refine KI ?_ | ((refine KB ?_ ?_ <;> intro hp)) | refine KG ?_ | fail)
    exact ret_v1 rfl (by first | exact rv_tmp rfl | exact (rv_agg 0 rfl rfl rfl rfl rfl (by repeat first | exact lc_nil | refine lc_cons rfl ?_)) | exact (rv_agg 1 rfl rfl rfl rfl rfl (by repeat first | exact lc_nil | refine lc_cons rfl ?_)) | exact (rv_agg 2 rfl rfl rfl rfl rfl (by repeat first | exact lc_nil | refine lc_cons rfl ?_)) | exact (rv_agg 3 rfl rfl rfl rfl rfl (by repeat first | exact lc_nil | refine lc_cons rfl ?_))) rfl
  by_cases h2 : 30 ≤ op ∧ op ≤ 54
  · obtain ⟨k, rfl⟩ : ∃ k : Nat, op = ((30 + k : Nat) : Int) := ⟨(op - 30).toNat, by omega⟩
    repeat' (first | refine KO ?_ | ((with_reducible apply F2 85); exact rfl; exact EN; (exact fun w hw => fields_spec _ ((nameL.drop 30).take 25) (by kernel_rfl) (by kernel_rfl) (by kernel_rfl) w _ hw hT); rintro v2 μ2 hle2 ⟨bf, rfl, hS⟩; (have hc := key 30 25 _ rfl k (by omega) (by omega) hS); (rw [show ((nameL.drop 30).take 25).length = 25 from rfl])) | (refine KV (b := by first | exact U1 k | ((with_reducible apply v_load_sh); exact rfl; exact rfl; exact hc.at 0 rfl)) (c := ?_)) | refine KI ?_ | ((refine KB ?_ ?_ <;> intro hp)) | refine KG ?_ | fail)
    exact ret_v1 rfl (by first | exact rv_tmp rfl | exact (rv_agg 0 rfl rfl rfl rfl rfl (by repeat first | exact lc_nil | refine lc_cons rfl ?_)) | exact (rv_agg 1 rfl rfl rfl rfl rfl (by repeat first | exact lc_nil | refine lc_cons rfl ?_)) | exact (rv_agg 2 rfl rfl rfl rfl rfl (by repeat first | exact lc_nil | refine lc_cons rfl ?_)) | exact (rv_agg 3 rfl rfl rfl rfl rfl (by repeat first | exact lc_nil | refine lc_cons rfl ?_))) rfl
  by_cases h3 : 60 ≤ op ∧ op ≤ 64
  · obtain ⟨k, rfl⟩ : ∃ k : Nat, op = ((60 + k : Nat) : Int) := ⟨(op - 60).toNat, by omega⟩
    repeat' (first | refine KO ?_ | ((with_reducible apply F2 85); exact rfl; exact EN; (exact fun w hw => fields_spec _ ((nameL.drop 60).take 5) (by kernel_rfl) (by kernel_rfl) (by kernel_rfl) w _ hw hT); rintro v2 μ2 hle2 ⟨bf, rfl, hS⟩; (have hc := key 60 5 _ rfl k (by omega) (by omega) hS); (rw [show ((nameL.drop 60).take 5).length = 5 from rfl])) | (refine KV (b := by first | exact U1 k | ((with_reducible apply v_load_sh); exact rfl; exact rfl; exact hc.at 0 rfl)) (c := ?_)) | refine KI ?_ | ((refine KB ?_ ?_ <;> intro hp)) | refine KG ?_ | fail)
    exact ret_v1 rfl (by first | exact rv_tmp rfl | exact (rv_agg 0 rfl rfl rfl rfl rfl (by repeat first | exact lc_nil | refine lc_cons rfl ?_)) | exact (rv_agg 1 rfl rfl rfl rfl rfl (by repeat first | exact lc_nil | refine lc_cons rfl ?_)) | exact (rv_agg 2 rfl rfl rfl rfl rfl (by repeat first | exact lc_nil | refine lc_cons rfl ?_)) | exact (rv_agg 3 rfl rfl rfl rfl rfl (by repeat first | exact lc_nil | refine lc_cons rfl ?_))) rfl
  have hF : nameB op = [] := by
    by_cases h0 : op < 0 ∨ 65 ≤ op
    · exact nameB_none h0
    · exact nameB_gap (by omega)
  rw [hF]
  repeat' (first | refine KK ?_ | ((refine KB ?_ ?_ <;> intro hp)) | refine KG ?_ | fail)
  all_goals exact ret_v1 rfl (by first | exact rv_tmp rfl | exact (rv_agg 0 rfl rfl rfl rfl rfl (by repeat first | exact lc_nil | refine lc_cons rfl ?_)) | exact (rv_agg 1 rfl rfl rfl rfl rfl (by repeat first | exact lc_nil | refine lc_cons rfl ?_)) | exact (rv_agg 2 rfl rfl rfl rfl rfl (by repeat first | exact lc_nil | refine lc_cons rfl ?_)) | exact (rv_agg 3 rfl rfl rfl rfl rfl (by repeat first | exact lc_nil | refine lc_cons rfl ?_))) rfl
end Go.Proofs.YtfabmichdhbiaaaGreatDoor
