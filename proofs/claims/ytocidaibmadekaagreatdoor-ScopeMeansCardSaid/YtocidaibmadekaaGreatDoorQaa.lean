/- Rules for walking Go code with an explicit symbolic state: the slots that are known, the memory of the call's own, the shared memory that does not change. No statement of the seat is proved here. -/
import Derived.Test.YtocidaibmadekaaGreatDoorRows
import Derived.WalkKit
import Derived.WalkSpells
import Derived.WalkLawsBesides
import Derived.OrdersHeld
import Derived.Maps.AppendAt
set_option maxRecDepth 20000
namespace Go.Vcg
open Go.RowKit
abbrev Mem := Nat → Option Obj
abbrev aI := List (Nat × Value)
def lk : aI → Nat → Option Value
  | [], _ => none
  | (t, v) :: r, k => bif Nat.beq t k then some v else lk r k
def ev (l : aI) : Operand → Option Value
  | .tmp t => lk l t
  | .const v => some v
  | .global g => some (.pointer (some ⟨g, 0, none⟩))
  | .func f => some (.func (.func f) #[] #[])
structure Blk where
  b : Nat
  t : TypeId
  sz : Nat
  cs : aI
structure Rw where
  v : Value
  e : TypeId
  s : Nat
  n : Nat
  xs : List Value
structure Mp where
  b : Nat
  es : List MapEntry
  ck : Nat
inductive Bk
  | inl (x : Blk)
  | inr (r : Rw)
  | mp (m : Mp)
  | it (b : Nat) (m : Option Nat) (since : Nat) (seen : Array Nat) (c0 : Nat)
def Bk.at : Bk → World → Prop
  | .inl x, w => ∃ arr : Array Value, w.heap[x.b]? = some (.cells arr x.t (0, 0)) ∧ arr.size = x.sz ∧ ∀ i v, lk x.cs i = some v → arr[i]? = some v
  | .inr r, w => w.ownsRow 0 r.e r.s r.v r.n r.xs
  | .mp m, w => w.heap[m.b]? = some (.map m.es.toArray m.ck)
  | .it b m s x c, w => w.heap[b]? = some (.mapIter m s x c)
def Bk.id : Bk → Option Nat
  | .inl x => some x.b
  | .inr r => r.v.ownBlock
  | .mp m => some m.b
  | .it b _ _ _ _ => some b
theorem Bk.lt {x : Bk} {w : World} (h : Bk.at x w) {b : Nat} (hb : Bk.id x = some b) : b < w.heap.size := by
  cases x with
  | inl x =>
    obtain ⟨arr, hh, _⟩ := h
    cases hb
    exact (Array.getElem?_eq_some_iff.1 hh).1
  | inr r =>
    rcases h.2 with ⟨hv, _⟩ | ⟨g, cap, cur, hv, _, hh, _⟩
    · simp [Bk.id, hv, Value.ownBlock] at hb
    · simp [Bk.id, hv, Value.ownBlock] at hb
      subst hb
      exact (Array.getElem?_eq_some_iff.1 hh).1
  | mp m =>
    cases hb
    exact (Array.getElem?_eq_some_iff.1 h).1
  | it b m s x c =>
    cases hb
    exact (Array.getElem?_eq_some_iff.1 h).1
theorem Bk.cO {x : Bk} {w w' : World} (h : Bk.at x w) (hk : ∀ b, Bk.id x = some b → w'.heap[b]? = w.heap[b]?) : Bk.at x w' := by
  cases x with
  | inl x =>
    obtain ⟨arr, hh, h2⟩ := h
    exact ⟨arr, (hk _ rfl).trans hh, h2⟩
  | inr r =>
    refine ⟨h.1, h.2.imp (fun h => h) ?_⟩
    rintro ⟨g, cap, cur, hv, h0, hh, h3⟩
    exact ⟨g, cap, cur, hv, h0, (hk g (by simp [Bk.id, hv, Value.ownBlock])).trans hh, h3⟩
  | mp m => exact (hk _ rfl).trans h
  | it b m s x c => exact (hk _ rfl).trans h
structure Ctx where
  w0 : World
  μ0 : Mem
  M : List Nat
  n : Nat
def MLe (μ μ' : Mem) : Prop := ∀ b o, μ b = some o → μ' b = some o
def MOk (μ : Mem) (w : World) : Prop := ∀ b o, μ b = some o → w.heap[b]? = some o
theorem MLe.refl (μ : Mem) : MLe μ μ := fun _ _ h => h
theorem MLe.trans {μ μ' μ'' : Mem} (h : MLe μ μ') (k : MLe μ' μ'') : MLe μ μ'' := fun b o e => k b o (h b o e)
structure HW (M : List Nat) (w0 w : World) : Prop where
  os : w.os = w0.os
  tape : w.tape = w0.tape
  output : w.output = w0.output
  size : w0.heap.size ≤ w.heap.size
  block : ∀ b, b < w0.heap.size → b ∉ M → w.heap[b]? = w0.heap[b]?
theorem HW.refl (M : List Nat) (w : World) : HW M w w := ⟨rfl, rfl, rfl, Nat.le_refl _, fun _ _ _ => rfl⟩
theorem HW.below {w0 w : World} (h : HW [] w0 w) : Below w0.heap.size w0 w :=
  ⟨h.os, h.tape, h.output, h.size, fun b hb => h.block b hb (by simp)⟩
def Marks (X : Ctx) (μ : Mem) (ds : List Deferred) : Prop :=
  ∃ Ds : List Nat, ds = Ds.map (fun D => { target := .collected D, args := #[] }) ∧ Ds.Nodup ∧ ∀ D ∈ Ds, 2 ≤ X.M.count D ∧ X.w0.heap.size ≤ D ∧ μ D = some (.deferred (some []))
theorem Marks.nil {X : Ctx} {μ : Mem} : Marks X μ [] := ⟨[], rfl, List.nodup_nil, by simp⟩
theorem Marks.mono {X : Ctx} {μ μ' : Mem} {ds : List Deferred} (h : Marks X μ ds) (hle : MLe μ μ') : Marks X μ' ds := by
  obtain ⟨Ds, h1, h2, h3⟩ := h
  exact ⟨Ds, h1, h2, fun D hD => ⟨(h3 D hD).1, (h3 D hD).2.1, hle _ _ (h3 D hD).2.2⟩⟩
theorem Marks.none {X : Ctx} {μ : Mem} {ds : List Deferred} (h : Marks X μ ds) (hM : ∀ D, X.M.count D ≤ 1) : ds = [] := by
  obtain ⟨Ds, h1, h2, h3⟩ := h
  cases Ds with
  | nil => exact h1
  | cons D r =>
    have h4 := (h3 D (by simp)).1
    have h5 := hM D
    omega
structure St (X : Ctx) (μ : Mem) (l : aI) (L : List Bk) (a : Act) (w : World) : Prop where
  size : a.tmps.size = X.n
  defers : Marks X μ a.defers
  slots : ∀ t v, lk l t = some v → a.tmps[t]? = some v
  cO : HW X.M X.w0 w
  mem : MOk μ w
  from0 : MLe X.μ0 μ
  fresh : ∀ b, b < X.w0.heap.size → b ∉ X.M → X.μ0 b = none → μ b = none
  own : ∀ x ∈ L, Bk.at x w
  priv : ∀ x ∈ L, ∀ b, Bk.id x = some b → μ b = none
  new : ∀ x ∈ L, ∀ b, Bk.id x = some b → b ∈ X.M ∨ X.w0.heap.size ≤ b
  diff : L.Pairwise (fun x y => ∀ b, Bk.id x = some b → Bk.id y ≠ some b)
structure Rd (μ : Mem) (l : aI) (L : List Bk) (a : Act) (w : World) : Prop where
  slots : ∀ t v, lk l t = some v → a.tmps[t]? = some v
  mem : MOk μ w
  own : ∀ x ∈ L, Bk.at x w
theorem St.rd {X : Ctx} {μ : Mem} {l : aI} {L : List Bk} {a : Act} {w : World} (h : St X μ l L a w) : Rd μ l L a w := ⟨h.slots, h.mem, h.own⟩
theorem Rd.eval {μ : Mem} {l : aI} {L : List Bk} {a : Act} {w : World} (h : Rd μ l L a w) {x : Operand} {v : Value} (hx : ev l x = some v) : a.eval x = v := by
  cases x with
  | tmp t =>
    have := h.slots t v hx
    simp [Act.eval, this]
  | const u => simpa [ev, Act.eval] using hx
  | global g => simpa [ev, Act.eval] using hx
  | func f => simpa [ev, Act.eval] using hx
theorem St.eval {X : Ctx} {μ : Mem} {l : aI} {L : List Bk} {a : Act} {w : World} (h : St X μ l L a w) {x : Operand} {v : Value} (hx : ev l x = some v) : a.eval x = v := by
  cases x with
  | tmp t =>
    have := h.slots t v hx
    simp [Act.eval, this]
  | const u => simpa [ev, Act.eval] using hx
  | global g => simpa [ev, Act.eval] using hx
  | func f => simpa [ev, Act.eval] using hx
theorem St.put {X : Ctx} {μ : Mem} {l : aI} {L : List Bk} {a : Act} {w : World} (h : St X μ l L a w) {d : Nat} (hd : Nat.blt d X.n = true) (v : Value) :
    St X μ ((d, v) :: l) L (a.put (some d) v) w := by
  have hd' : d < X.n := by simp [Nat.blt] at hd; omega
  refine ⟨by simp [Act.put, h.size], h.defers, fun t u hu => ?_, h.cO, h.mem, h.from0, h.fresh, h.own, h.priv, h.new, h.diff⟩
  simp only [Act.put]
  by_cases e : d = t
  · subst e
    have : lk ((d, v) :: l) d = some v := by simp [lk]
    rw [this] at hu
    cases hu
    rw [Array.getElem?_setIfInBounds_self_of_lt (by rw [h.size]; exact hd')]
  · have h2 : lk ((d, v) :: l) t = lk l t := by
      have : Nat.beq d t = false := by cases h' : Nat.beq d t with
        | false => rfl
        | true => exact absurd (Nat.eq_of_beq_eq_true h') e
      simp [lk, this]
    rw [h2] at hu
    rw [Array.getElem?_setIfInBounds_ne e]
    exact h.slots t u hu
theorem St.FI {X : Ctx} {μ : Mem} {l : aI} {L : List Bk} {a : Act} {w : World} (h : St X μ l L a w) (v : Value) : St X μ l L (a.put none v) w := h
def G (P : Program) (X : Ctx) (ops : Array Oper) (Q : Exit → Act → World → Prop) (rest : List Oper) (μ : Mem) (l : aI) (L : List Bk) : Prop :=
  ∀ a w, St X μ l L a w → wpList P ops Q rest a w
def GC (P : Program) (X : Ctx) (c : Code) (Q : Exit → Act → World → Prop) (μ : Mem) (l : aI) (L : List Bk) : Prop :=
  ∀ a w, St X μ l L a w → c.wp P Q a w
def GQ (X : Ctx) (Q : Exit → Act → World → Prop) (e : Exit) (μ : Mem) (l : aI) (L : List Bk) : Prop :=
  ∀ a w, St X μ l L a w → Q e a w
section code
variable {P : Program} {X : Ctx} {Q : Exit → Act → World → Prop} {μ : Mem} {l : aI} {L : List Bk}
theorem aCm {x y : Code} (h : GC P X x (Exit.then (y.wp P Q) Q) μ l L) : GC P X (.seq x y) Q μ l L := fun a w hs => wp_seq (h a w hs)
theorem ZB (h : GQ X Q .normal μ l L) : GC P X .skip Q μ l L := fun a w hs => wp_skip (h a w hs)
theorem ZC {id : Nat} (h : GQ X Q (.exit id) μ l L) : GC P X (.exit id) Q μ l L := fun a w hs => wp_exit (h a w hs)
theorem aCn (h : GQ X Q .ret μ l L) : GC P X .ret Q μ l L := fun a w hs => wp_ret (h a w hs)
theorem UF {id : Nat} {c : Code} (h : GC P X c (Exit.inBlock id Q) μ l L) : GC P X (.block id c) Q μ l L := fun a w hs => wp_block (h a w hs)
theorem QH {id : Nat} {ops : List Oper} (h : G P X ops.toArray Q ops μ l L) : GC P X (.region id ops.toArray false) Q μ l L := fun a w hs => wp_region_lit (h a w hs)
theorem aEt {ops : Array Oper} (h : GQ X Q .normal μ l L) : G P X ops Q [] μ l L := fun a w hs => h a w hs
theorem DI {c : Operand} {x y : Code} {b : Bool} (hc : ev l c = some (.bool b)) (ht : b = true → GC P X x Q μ l L) (hf : b = false → GC P X y Q μ l L) :
    GC P X (.cond c x y) Q μ l L := fun a w hs =>
  wp_cond_split (hs.eval hc) (fun h => ht h a w hs) (fun h => hf h a w hs)
theorem YX {y : Code} (h : GC P X y Q μ l L) : GQ X (Exit.then (y.wp P Q) Q) .normal μ l L := h
theorem DE {K : Act → World → Prop} {i : Nat} (h : GQ X Q (.exit i) μ l L) : GQ X (Exit.then K Q) (.exit i) μ l L := h
theorem GZ {K : Act → World → Prop} (h : GQ X Q .ret μ l L) : GQ X (Exit.then K Q) .ret μ l L := h
theorem wB {i : Nat} (h : GQ X Q .normal μ l L) : GQ X (Exit.inBlock i Q) .normal μ l L := h
theorem DG {i : Nat} (h : GQ X Q .ret μ l L) : GQ X (Exit.inBlock i Q) .ret μ l L := h
theorem zT {i : Nat} (h : GQ X Q .normal μ l L) : GQ X (Exit.inBlock i Q) (.exit i) μ l L := fun a w hs => by
  show (if i = i then _ else _); rw [if_pos rfl]; exact h a w hs
theorem yD {i j : Nat} (hij : Nat.beq j i = false) (h : GQ X Q (.exit j) μ l L) : GQ X (Exit.inBlock i Q) (.exit j) μ l L := fun a w hs => by
  show (if j = i then _ else _); rw [if_neg (Nat.ne_of_beq_eq_false hij)]; exact h a w hs
def WH (X : Ctx) {ι : Type} (J : ι → Prop) (m : ι → Nat) (μs : ι → Mem) (ls : ι → aI) (Ls : ι → List Bk) (i : ι) (a : Act) (w : World) : Prop :=
  ∃ j, J j ∧ m j < m i ∧ St X (μs j) (ls j) (Ls j) a w
theorem aX {c : Code} {ι : Type} (J : ι → Prop) (m : ι → Nat) (μs : ι → Mem) (ls : ι → aI) (Ls : ι → List Bk) (i0 : ι) (h0 : J i0)
    (hs0 : ∀ a w, St X μ l L a w → St X (μs i0) (ls i0) (Ls i0) a w)
    (round : ∀ i, J i → GC P X c (Exit.then (WH X J m μs ls Ls i) Q) (μs i) (ls i) (Ls i)) : GC P X (.loop c) Q μ l L := by
  intro a w hs b k cs
  have key : ∀ n i a w, m i = n → J i → St X (μs i) (ls i) (Ls i) a w →
      ∃ e a' w', Q e a' w' ∧ Arrives P (lone (b.at a (.code c :: .inLoop c :: k)) cs w) b k cs e a' w' := by
    intro n
    induction n using Nat.strongRecOn with
    | _ n ih =>
      intro i a w hn hJ hst
      obtain ⟨e, a₁, w₁, hq, harr⟩ := round i hJ a w hst b (.inLoop c :: k) cs
      cases e with
      | normal =>
        obtain ⟨j, hJj, hlt, hstj⟩ := hq
        obtain ⟨e₂, a₂, w₂, hq₂, harr₂⟩ := ih (m j) (hn ▸ hlt) j a₁ w₁ rfl hJj hstj
        exact ⟨e₂, a₂, w₂, hq₂, .of_steps (Steps.trans harr (.one step_inLoop)) harr₂⟩
      | exit id => exact ⟨_, a₁, w₁, hq, .pass (x := .inLoop c) rfl (fun _ _ => .inl (by simp)) harr⟩
      | goto l => exact ⟨_, a₁, w₁, hq, .pass (x := .inLoop c) rfl (fun _ _ => .inl (by simp)) harr⟩
      | ret => exact ⟨_, a₁, w₁, hq, .pass (x := .inLoop c) rfl (fun _ _ => .inl (by simp)) harr⟩
      | panic ch => exact ⟨_, a₁, w₁, hq, .pass (x := .inLoop c) rfl (fun _ _ => .inl (by simp)) harr⟩
      | outgrown => exact ⟨_, a₁, w₁, hq, .pass (x := .inLoop c) rfl (fun _ _ => .inl (by simp)) harr⟩
  obtain ⟨e, a', w', hq, harr⟩ := key _ i0 a w rfl h0 (hs0 a w hs)
  exact ⟨e, a', w', hq, .of_steps (.one step_loop) harr⟩
def nC (l' l : aI) : Prop := ∀ t v, lk l' t = some v → lk l t = some v
theorem cI {l : aI} : nC [] l := fun t v h => by simp [lk] at h
theorem bR {t : Nat} {v : Value} {r l : aI} (h : lk l t = some v) (hr : nC r l) : nC ((t, v) :: r) l := fun k u hu => by
  by_cases e : t = k
  · subst e
    simp [lk] at hu
    subst hu; exact h
  · have : Nat.beq t k = false := by cases h' : Nat.beq t k with
        | false => rfl
        | true => exact absurd (Nat.eq_of_beq_eq_true h') e
    simp [lk, this] at hu
    exact hr k u hu
theorem St.sub {X : Ctx} {μ : Mem} {l l' : aI} {L L' : List Bk} {a : Act} {w : World} (h : St X μ l L a w) (hl : nC l' l) (hL : L'.Sublist L) : St X μ l' L' a w :=
  ⟨h.size, h.defers, fun t v hv => h.slots t v (hl t v hv), h.cO, h.mem, h.from0, h.fresh, fun x hx => h.own x (hL.subset hx), fun x hx => h.priv x (hL.subset hx), fun x hx => h.new x (hL.subset hx), h.diff.sublist hL⟩
theorem wL {ι : Type} {J : ι → Prop} {m : ι → Nat} {μs : ι → Mem} {ls : ι → aI} {Ls : ι → List Bk} {i : ι} (j : ι) (hJ : J j) (hm : m j < m i) (hμ : μs j = μ) (hl : nC (ls j) l) (hL : (Ls j).Sublist L) :
    GQ X (Exit.then (WH X J m μs ls Ls i) Q) .normal μ l L := fun a w hs => ⟨j, hJ, hm, by rw [hμ]; exact hs.sub hl hL⟩
end code
def cV (ops : Array Oper) (l : aI) (o : Oper) : Option Bool :=
  match o.guard with
  | none => some true
  | some (g, want) =>
    match ((ops[g]?).bind (·.dst)).bind (lk l ·) with
    | some (.bool b) => some (b == want)
    | some _ => some false
    | none => none
section ops
variable {P : Program} {X : Ctx} {ops : Array Oper} {Q : Exit → Act → World → Prop} {rest : List Oper} {μ : Mem} {l : aI} {L : List Bk} {a : Act} {w : World} {o : Oper}
theorem St.wanted (h : St X μ l L a w) {b : Bool} (hw : cV ops l o = some b) : Region.wanted o (yielded ops a.tmps) = b := by
  unfold cV at hw
  unfold Region.wanted
  cases hg : o.guard with
  | none => simp [hg] at hw; simp [hw]
  | some gw =>
    obtain ⟨g, want⟩ := gw
    simp only [hg] at hw ⊢
    cases hd : (ops[g]?).bind (·.dst) with
    | none => simp [hd] at hw
    | some t =>
      simp only [hd, Option.bind_some] at hw
      cases hl : lk l t with
      | none => simp [hl] at hw
      | some u =>
        rw [hl] at hw
        have := h.slots t _ hl
        cases u <;> simp at hw <;> simp [yielded, hd, this, ← hw]
theorem aCp {d : Nat} (hd : o.dst = some d) (hn : Nat.blt d X.n = true) (hw : cV ops l o = some false) (h : G P X ops Q rest μ ((d, undef) :: l) L) : G P X ops Q (o :: rest) μ l L := by
  intro a w hs
  unfold wpList
  rw [if_neg (by rw [hs.wanted hw]; simp), hd]
  exact h _ _ (hs.put hn _)
theorem qY (hw : cV ops l o = some true) (h : ∀ a w, St X μ l L a w → o.wp P a w (wpList P ops Q rest) Q) : G P X ops Q (o :: rest) μ l L := by
  intro a w hs
  unfold wpList
  rw [if_pos (hs.wanted hw)]
  exact .inl (h a w hs)
def Val (P : Program) (μ : Mem) (l : aI) (L : List Bk) (o : Oper) (v : Value) : Prop := ∀ a w, Rd μ l L a w → (execOp a.eval o).run P w = .ok (.value v) w
def Ent (P : Program) (μ : Mem) (l : aI) (L : List Bk) (o : Oper) (f : FuncId) (vs : Array Value) : Prop := ∀ a w, Rd μ l L a w → (execOp a.eval o).run P w = .ok (.enter f vs) w
def Alc (P : Program) (μ : Mem) (l : aI) (L : List Bk) (o : Oper) (v : Nat → Value) (t : TypeId) (cs : List Value) : Prop :=
  ∀ a w, Rd μ l L a w → (execOp a.eval o).run P w = .ok (.value (v w.heap.size)) (w.alloc (.cells cs.toArray t))
theorem MZ {d : Nat} {v : Value} (hd : o.dst = some d) (hn : Nat.blt d X.n = true) (hw : cV ops l o = some true)
    (hr : Val P μ l L o v) (h : G P X ops Q rest μ ((d, v) :: l) L) : G P X ops Q (o :: rest) μ l L :=
  qY hw fun a w hs => by
    unfold Oper.wp
    rw [hr a w hs.rd, Oper.upon_value, hd]
    exact h _ _ (hs.put hn _)
theorem ZG {t : Nat} {b : Bool} (hl : lk l t = some (.bool b)) (ht : b = true → G P X ops Q rest μ ((t, .bool true) :: l) L) (hf : b = false → G P X ops Q rest μ ((t, .bool false) :: l) L) : G P X ops Q rest μ l L := by
  intro a w hs
  have hsz := hs.slots t _ hl
  have hn : Nat.blt t X.n = true := by
    have := (Array.getElem?_eq_some_iff.1 hsz).1
    rw [hs.size] at this
    simp [Nat.blt]; omega
  have he : a.put (some t) (.bool b) = a := by
    cases a; simp only [Act.put, Act.mk.injEq, and_true] at *
    exact Array.ext_getElem? fun i => by
      by_cases e : t = i
      · subst e
        rw [Array.getElem?_setIfInBounds_self_of_lt (Array.getElem?_eq_some_iff.1 hsz).1, hsz]
      · rw [Array.getElem?_setIfInBounds_ne e]
  have hp := hs.put hn (.bool b)
  rw [he] at hp
  cases b
  · exact hf rfl a w hp
  · exact ht rfl a w hp
def qQ (ops : Array Oper) (o : Oper) : Option Nat := o.guard.bind fun g => (ops[g.1]?).bind (·.dst)
def zN (_ : Bool) : Prop := True
theorem aD7 (b : Bool) : zN b := trivial
theorem ZH {t : Nat} {b : Bool} (_hg : qQ ops o = some t) (hl : lk l t = some (.bool b)) (_hb : zN b) (ht : b = true → G P X ops Q (o :: rest) μ ((t, .bool true) :: l) L)
    (hf : b = false → G P X ops Q (o :: rest) μ ((t, .bool false) :: l) L) : G P X ops Q (o :: rest) μ l L := ZG hl ht hf
def nH : List Oper → Nat → Option Oper
  | [], _ => none
  | x :: _, 0 => some x
  | _ :: r, i + 1 => nH r i
theorem MM : ∀ (l : List Oper) (i : Nat), nH l i = l[i]?
  | [], _ => by simp [nH]
  | x :: r, 0 => by simp [nH]
  | x :: r, i + 1 => by simp [nH, MM r i]
def dE : List Bk → Nat → Option Bk
  | [], _ => none
  | x :: _, 0 => some x
  | _ :: r, i + 1 => dE r i
def dG : List Bk → Nat → Bk → List Bk
  | [], _, _ => []
  | _ :: r, 0, y => y :: r
  | x :: r, i + 1, y => x :: dG r i y
theorem bO {x : Bk} : ∀ {L : List Bk} {i : Nat}, dE L i = some x → x ∈ L
  | [], _, h => by simp [dE] at h
  | y :: r, 0, h => by simp [dE] at h; simp [h]
  | y :: r, i + 1, h => List.mem_cons_of_mem _ (bO (i := i) (by simpa [dE] using h))
theorem Rd.cell (h : Rd μ l L a w) {x : Blk} (hx : .inl x ∈ L) {i : Nat} {v : Value} (hv : lk x.cs i = some v) : w.cell? ⟨x.b, i, none⟩ = some v := by
  obtain ⟨arr, hh, _, ha⟩ := h.own _ hx
  simp [World.cell?, hh, ha i v hv]
def iF (μ : Mem) (A : Addr) (v : Value) : Prop := ∃ c t f, μ A.block = some (.cells c t f) ∧ A.spot = none ∧ c[A.off]? = some v
def cQ (μ : Mem) (A : Addr) (vs : List Value) : Prop := ∀ j v, vs[j]? = some v → iF μ (A.add j) v
theorem Rd.TF (h : Rd μ l L a w) {A : Addr} {v : Value} (hm : iF μ A v) : w.cell? A = some v := by
  obtain ⟨c, t, f, h1, h2, h3⟩ := hm
  simp [World.cell?, h.mem _ _ h1, h2, h3]
def jH (P : Program) (t : TypeId) : Option Bool :=
  match P.underlying t with
  | some (.struct _) => some true
  | some (.array _ _) => some true
  | some _ => some false
  | none => none
def rE {α : Type} (x : Nat) (k : Nat → α) : α := match x with
  | 0 => k 0 | 1 => k 1 | 2 => k 2 | 3 => k 3 | 4 => k 4 | 5 => k 5 | 6 => k 6 | 7 => k 7 | 8 => k 8 | 9 => k 9 | 10 => k 10 | 11 => k 11 | 12 => k 12 | 13 => k 13 | 14 => k 14 | 15 => k 15 | 16 => k 16 | 17 => k 17 | 18 => k 18 | 19 => k 19 | 20 => k 20 | 21 => k 21 | 22 => k 22 | 23 => k 23 | 24 => k 24 | 25 => k 25 | 26 => k 26 | 27 => k 27 | 28 => k 28 | 29 => k 29 | 30 => k 30 | 31 => k 31 | 32 => k 32 | 33 => k 33 | 34 => k 34 | 35 => k 35 | 36 => k 36 | 37 => k 37 | 38 => k 38 | 39 => k 39 | 40 => k 40 | 41 => k 41 | 42 => k 42 | 43 => k 43 | 44 => k 44 | 45 => k 45 | 46 => k 46 | 47 => k 47 | 48 => k 48 | n + 49 => k (n + 49)
theorem pJ {α : Type} (x : Nat) (k : Nat → α) : rE x k = k x := by
  unfold rE; split <;> rfl
def dR (P : Program) (t : TypeId) : Option Nat := match P.info? t with | some i => rE i.size some | none => none
def gB (P : Program) (t : TypeId) : Option Value := (P.info? t).bind (·.zero)
theorem tZ {b : Bool} {t : TypeId} (h : jH P t = some b) (w : World) : (isAgg t).run P w = .ok b w := by
  unfold jH at h
  cases hu : P.underlying t with
  | none => simp [hu] at h
  | some d => cases d <;> simp [hu] at h <;> simp [isAgg, run_underlying hu, h]
theorem run_sizeOf {t : TypeId} {n : Nat} (h : dR P t = some n) (w : World) : (sizeOf t).run P w = .ok n w := by
  unfold dR at h
  cases hi : P.info? t with
  | none => simp [hi] at h
  | some i => simp [hi, pJ] at h; simp [sizeOf, typeInfo, hi, h]
theorem fZ {t : TypeId} {v : Value} (h : gB P t = some v) (w : World) : (zeroValue t).run P w = .ok v w := by
  unfold gB at h
  cases hi : P.info? t with
  | none => simp [hi] at h
  | some i => simp [hi] at h; simp [zeroValue, typeInfo, hi, h]
theorem lU {t : TypeId} {A : Addr} {v : Value} (hag : jH P t = some false) (hc : w.cell? A = some v) : (Instr.loadAt t (.pointer (some A))).run P w = .ok v w := by
  simp [Instr.loadAt, Instr.sureAddr, loadVar, tZ hag, hc]
theorem mL {t : TypeId} {A : Addr} (vs : List Value) (hag : jH P t = some true) (hsz : dR P t = some vs.length) (hc : ∀ j v, vs[j]? = some v → w.cell? (A.add j) = some v) :
    (Instr.loadAt t (.pointer (some A))).run P w = .ok (.agg vs.toArray) w := by
  simp [Instr.loadAt, Instr.sureAddr, loadVar, tZ hag, run_sizeOf hsz, run_loadCells_list w A vs hc]
end ops
end Go.Vcg
set_option maxRecDepth 20000
namespace Go.Vcg
open Go.RowKit
section
variable {P : Program} {X : Ctx} {ops : Array Oper} {Q : Exit → Act → World → Prop} {rest : List Oper} {μ : Mem} {l : aI} {L : List Bk} {a : Act} {w : World} {o : Oper}
variable {d : Nat} {ds : Option Nat} {ty : TypeId} {pos : String} {af : Array Edge} {gd : Option (Nat × Bool)}
theorem aA5 {x : Operand} {v : Value} (hx0 : ev l x = some (v))  : Val P μ l L ⟨ds, .move x, ty, pos, af, gd⟩ (v) :=
  fun a w hs => by have e0 := hs.eval hx0; generalize a.eval = ρ at e0; simp [execOp, e0]
theorem RN {x : Operand} {v : Value} (hx0 : ev l x = some (v))  : Val P μ l L ⟨ds, .assign x, ty, pos, af, gd⟩ (v) :=
  fun a w hs => by have e0 := hs.eval hx0; generalize a.eval = ρ at e0; simp [execOp, e0]
theorem tU {x : Operand} {v : Value} {t : TypeId} {A : Addr} (hx : ev l x = some (.pointer (some A)))
    (hr : ∀ a w, Rd μ l L a w → (Instr.loadAt t (.pointer (some A))).run P w = .ok v w) : Val P μ l L ⟨ds, .load t x, ty, pos, af, gd⟩ v :=
  fun a w hs => by have e := hs.eval hx; have r := hr a w hs; generalize a.eval = ρ at e; simp [execOp, e, r]
theorem ID {x : Operand} {v : Value} {t : TypeId} {off : Nat} {y : Blk} (i : Nat) (hag : jH P t = some false)
    (hi : dE L i = some (.inl y)) (hx : ev l x = some (.pointer (some ⟨y.b, off, none⟩))) (hv : lk y.cs off = some v) : Val P μ l L ⟨ds, .load t x, ty, pos, af, gd⟩ v :=
  tU hx (fun _ _ hs => lU hag (hs.cell (bO (i := i) hi) hv))
theorem eC {x : Operand} {v : Value} {t : TypeId} {A : Addr} (hag : jH P t = some false)
    (hx : ev l x = some (.pointer (some A))) (hm : iF μ A v) : Val P μ l L ⟨ds, .load t x, ty, pos, af, gd⟩ v :=
  tU hx (fun _ _ hs => lU hag (hs.TF hm))
theorem wT {x : Operand} {t : TypeId} {A : Addr} {n : Nat} {vs : List Value} (hag : jH P t = some true)
    (hsz : dR P t = some n) (hx : ev l x = some (.pointer (some A))) (hm : cQ μ A vs) (hl : vs.length = n) : Val P μ l L ⟨ds, .load t x, ty, pos, af, gd⟩ (.agg vs.toArray) :=
  tU hx (fun _ _ hs => mL vs hag (hl ▸ hsz) (fun j v hv => hs.TF (hm j v hv)))
theorem RJ {c x y : Operand} {v : Value} (hx0 : ev l c = some (.bool true)) (hx1 : ev l x = some (v))  : Val P μ l L ⟨ds, .pick c x y, ty, pos, af, gd⟩ (v) :=
  fun a w hs => by have e0 := hs.eval hx0; have e1 := hs.eval hx1; generalize a.eval = ρ at e0 e1; simp [execOp, e0, e1, asBool]
theorem RL {c x y : Operand} {v : Value} (hx0 : ev l c = some (.bool false)) (hx1 : ev l y = some (v))  : Val P μ l L ⟨ds, .pick c x y, ty, pos, af, gd⟩ (v) :=
  fun a w hs => by have e0 := hs.eval hx0; have e1 := hs.eval hx1; generalize a.eval = ρ at e0 e1; simp [execOp, e0, e1, asBool]
theorem aDq {p q : Operand} {t t2 : TypeId} {k : IntKind} {x y : Int} (hx0 : ev l p = some (.int k x)) (hx1 : ev l q = some (.int k y))  : Val P μ l L ⟨ds, .binOp .add t p q t2, ty, pos, af, gd⟩ (.int k (k.wrap (x + y))) :=
  fun a w hs => by have e0 := hs.eval hx0; have e1 := hs.eval hx1; generalize a.eval = ρ at e0 e1; simp [execOp, e0, e1, eqGuard, binOp, Op.intArith]
theorem WO {p q : Operand} {t t2 : TypeId} {x y : Int} (hx0 : ev l p = some (.int .i64 x)) (hx1 : ev l q = some (.int .i64 y))
    (hb : -9223372036854775808 ≤ x + y ∧ x + y ≤ 9223372036854775807) : Val P μ l L ⟨ds, .binOp .add t p q t2, ty, pos, af, gd⟩ (.int .i64 (x + y)) := by
  have := aDq (P := P) (μ := μ) (L := L) (ds := ds) (ty := ty) (pos := pos) (af := af) (gd := gd) (t := t) (t2 := t2) hx0 hx1
  rwa [IntWalk.i64_in _ hb] at this
theorem aDh {p q : Operand} {t t2 : TypeId} {k : IntKind} {x y : Int} (hx0 : ev l p = some (.int k x)) (hx1 : ev l q = some (.int k y))  : Val P μ l L ⟨ds, .binOp .sub t p q t2, ty, pos, af, gd⟩ (.int k (k.wrap (x - y))) :=
  fun a w hs => by have e0 := hs.eval hx0; have e1 := hs.eval hx1; generalize a.eval = ρ at e0 e1; simp [execOp, e0, e1, eqGuard, binOp, Op.intArith]
theorem LV {p q : Operand} {t t2 : TypeId} {x y : Int} (hx0 : ev l p = some (.int .i64 x)) (hx1 : ev l q = some (.int .i64 y))
    (hb : -9223372036854775808 ≤ x - y ∧ x - y ≤ 9223372036854775807) : Val P μ l L ⟨ds, .binOp .sub t p q t2, ty, pos, af, gd⟩ (.int .i64 (x - y)) := by
  have := aDh (P := P) (μ := μ) (L := L) (ds := ds) (ty := ty) (pos := pos) (af := af) (gd := gd) (t := t) (t2 := t2) hx0 hx1
  rwa [IntWalk.i64_in _ hb] at this
theorem aDk {p q : Operand} {t t2 : TypeId} {k : IntKind} {x y : Int} (hx0 : ev l p = some (.int k x)) (hx1 : ev l q = some (.int k y))  : Val P μ l L ⟨ds, .binOp .mul t p q t2, ty, pos, af, gd⟩ (.int k (k.wrap (x * y))) :=
  fun a w hs => by have e0 := hs.eval hx0; have e1 := hs.eval hx1; generalize a.eval = ρ at e0 e1; simp [execOp, e0, e1, eqGuard, binOp, Op.intArith]
theorem WK {p q : Operand} {t t2 : TypeId} {x y : Int} (hx0 : ev l p = some (.int .i64 x)) (hx1 : ev l q = some (.int .i64 y))
    (hb : -9223372036854775808 ≤ x * y ∧ x * y ≤ 9223372036854775807) : Val P μ l L ⟨ds, .binOp .mul t p q t2, ty, pos, af, gd⟩ (.int .i64 (x * y)) := by
  have := aDk (P := P) (μ := μ) (L := L) (ds := ds) (ty := ty) (pos := pos) (af := af) (gd := gd) (t := t) (t2 := t2) hx0 hx1
  rwa [IntWalk.i64_in _ hb] at this
theorem LA (x y : Int) : (x == y) = decide (x = y) := rfl
theorem LL (x y : Int) : (x != y) = decide (x ≠ y) := by by_cases h : x = y <;> simp [h]
theorem uR (s t : ByteArray) : (s.toList == t.toList) = decide (s = t) := by
  by_cases h : s = t
  · simp [h]
  · have : s.toList ≠ t.toList := fun e => h (by
      rw [Go.ByteArray.toList_eq, Go.ByteArray.toList_eq] at e
      exact ByteArray.ext (Array.toList_inj.mp e))
    simp [h, this]
theorem aDl {p q : Operand} {t t2 : TypeId} {k : IntKind} {x y : Int} (hx0 : ev l p = some (.int k x)) (hx1 : ev l q = some (.int k y))  : Val P μ l L ⟨ds, .binOp .lss t p q t2, ty, pos, af, gd⟩ (.bool (decide (x < y))) :=
  fun a w hs => by have e0 := hs.eval hx0; have e1 := hs.eval hx1; generalize a.eval = ρ at e0 e1; simp [execOp, e0, e1, eqGuard, binOp, Op.intCmp]
theorem aDm {p q : Operand} {t t2 : TypeId} {k : IntKind} {x y : Int} (hx0 : ev l p = some (.int k x)) (hx1 : ev l q = some (.int k y))  : Val P μ l L ⟨ds, .binOp .leq t p q t2, ty, pos, af, gd⟩ (.bool (decide (x ≤ y))) :=
  fun a w hs => by have e0 := hs.eval hx0; have e1 := hs.eval hx1; generalize a.eval = ρ at e0 e1; simp [execOp, e0, e1, eqGuard, binOp, Op.intCmp]
theorem aDn {p q : Operand} {t t2 : TypeId} {k : IntKind} {x y : Int} (hx0 : ev l p = some (.int k x)) (hx1 : ev l q = some (.int k y))  : Val P μ l L ⟨ds, .binOp .gtr t p q t2, ty, pos, af, gd⟩ (.bool (decide (y < x))) :=
  fun a w hs => by have e0 := hs.eval hx0; have e1 := hs.eval hx1; generalize a.eval = ρ at e0 e1; simp [execOp, e0, e1, eqGuard, binOp, Op.intCmp]
theorem aDo {p q : Operand} {t t2 : TypeId} {k : IntKind} {x y : Int} (hx0 : ev l p = some (.int k x)) (hx1 : ev l q = some (.int k y))  : Val P μ l L ⟨ds, .binOp .geq t p q t2, ty, pos, af, gd⟩ (.bool (decide (y ≤ x))) :=
  fun a w hs => by have e0 := hs.eval hx0; have e1 := hs.eval hx1; generalize a.eval = ρ at e0 e1; simp [execOp, e0, e1, eqGuard, binOp, Op.intCmp]
theorem aDp {p q : Operand} {t t2 : TypeId} {k : IntKind} {x y : Int} (hx0 : ev l p = some (.int k x)) (hx1 : ev l q = some (.int k y))  : Val P μ l L ⟨ds, .binOp .eql t p q t2, ty, pos, af, gd⟩ (.bool (decide (x = y))) :=
  fun a w hs => by have e0 := hs.eval hx0; have e1 := hs.eval hx1; generalize a.eval = ρ at e0 e1; simp [execOp, e0, e1, eqGuard, binOp, Op.intCmp, LA]
theorem aDj {p q : Operand} {t t2 : TypeId} {k : IntKind} {x y : Int} (hx0 : ev l p = some (.int k x)) (hx1 : ev l q = some (.int k y))  : Val P μ l L ⟨ds, .binOp .neq t p q t2, ty, pos, af, gd⟩ (.bool (decide (x ≠ y))) :=
  fun a w hs => by have e0 := hs.eval hx0; have e1 := hs.eval hx1; generalize a.eval = ρ at e0 e1; simp [execOp, e0, e1, eqGuard, binOp, Op.intCmp, LL]
theorem RI {p q : Operand} {t t2 : TypeId} {k : IntKind} {x y : Int} (hx0 : ev l p = some (.int k x)) (hx1 : ev l q = some (.int k y)) (hy : y ≠ 0) : Val P μ l L ⟨ds, .binOp .quo t p q t2, ty, pos, af, gd⟩ (.int k (k.wrap (x.tdiv y))) :=
  fun a w hs => by have e0 := hs.eval hx0; have e1 := hs.eval hx1; generalize a.eval = ρ at e0 e1; simp [execOp, e0, e1, eqGuard, binOp, Op.intDiv, hy]
theorem aAg {p q : Operand} {t t2 : TypeId} {k : IntKind} {x y : Int} (hx0 : ev l p = some (.int k x)) (hx1 : ev l q = some (.int k y)) (hy : y ≠ 0) : Val P μ l L ⟨ds, .binOp .rem t p q t2, ty, pos, af, gd⟩ (.int k (x.tmod y)) :=
  fun a w hs => by have e0 := hs.eval hx0; have e1 := hs.eval hx1; generalize a.eval = ρ at e0 e1; simp [execOp, e0, e1, eqGuard, binOp, Op.intDiv, hy]
theorem aA4 {p q : Operand} {t t2 : TypeId} {x y : ByteArray} (hx0 : ev l p = some (.string x)) (hx1 : ev l q = some (.string y))  : Val P μ l L ⟨ds, .binOp .eql t p q t2, ty, pos, af, gd⟩ (.bool (decide (x = y))) :=
  fun a w hs => by have e0 := hs.eval hx0; have e1 := hs.eval hx1; generalize a.eval = ρ at e0 e1; simp [execOp, e0, e1, eqGuard, binOp, Op.stringOp, uR]
theorem aA3 {p q : Operand} {t t2 : TypeId} {x y : ByteArray} (hx0 : ev l p = some (.string x)) (hx1 : ev l q = some (.string y))  : Val P μ l L ⟨ds, .binOp .neq t p q t2, ty, pos, af, gd⟩ (.bool (decide (x ≠ y))) :=
  fun a w hs => by have e0 := hs.eval hx0; have e1 := hs.eval hx1; generalize a.eval = ρ at e0 e1; simp [execOp, e0, e1, eqGuard, binOp, Op.stringOp, uR]
theorem SL (x y : ByteArray) (hb : x.size + y.size ≤ 9223372036854775807) (w : World) : (Op.stringOp .add x y).run P w = .ok (.string (x ++ y)) w := by
  have hm : IntKind.i64.max = 9223372036854775807 := by decide
  have hb' : ¬ ((x.size + y.size : Nat) : Int) > IntKind.i64.max := by omega
  simp only [Op.stringOp, if_neg hb', Sem.run_pure]
theorem IA {p q : Operand} {t t2 : TypeId} {x y : ByteArray} (hx0 : ev l p = some (.string x)) (hx1 : ev l q = some (.string y)) (hb : x.size + y.size ≤ 9223372036854775807) : Val P μ l L ⟨ds, .binOp .add t p q t2, ty, pos, af, gd⟩ (.string (x ++ y)) :=
  fun a w hs => by have e0 := hs.eval hx0; have e1 := hs.eval hx1; generalize a.eval = ρ at e0 e1; simp [execOp, e0, e1, eqGuard, binOp, SL x y hb]
theorem aDi {p : Operand} {t : TypeId} {b : Bool} (hx0 : ev l p = some (.bool b))  : Val P μ l L ⟨ds, .unOp .not t p, ty, pos, af, gd⟩ (.bool (!b)) :=
  fun a w hs => by have e0 := hs.eval hx0; generalize a.eval = ρ at e0; simp [execOp, e0, Op.unary]
def FX : List Value → Nat → Option Value
  | [], _ => none
  | x :: _, 0 => some x
  | _ :: r, i + 1 => FX r i
theorem CZ : ∀ (l : List Value) (i : Nat), FX l i = l[i]?
  | [], _ => by simp [FX]
  | x :: r, 0 => by simp [FX]
  | x :: r, i + 1 => by simp [FX, CZ r i]
theorem OC {p : Operand} {i : Nat} {vs : List Value} {v : Value} (hx0 : ev l p = some (.tuple vs.toArray)) (hv : FX vs i = some v) : Val P μ l L ⟨ds, .extract p i, ty, pos, af, gd⟩ v := fun a w hs => by
  rw [CZ] at hv
  have e0 := hs.eval hx0
  generalize a.eval = ρ at e0
  simp [execOp, e0, Instr.extract, hv]
theorem IB {p : Operand} {A : Addr} (hx0 : ev l p = some (.pointer (some A)))  : Val P μ l L ⟨ds, .nilCheck p, ty, pos, af, gd⟩ (.pointer (some A)) :=
  fun a w hs => by have e0 := hs.eval hx0; generalize a.eval = ρ at e0; simp [execOp, e0]
theorem WL {p : Operand} {t : TypeId} {s : ByteArray} (hx0 : ev l p = some (.string s)) (ht : P.underlying t = some .string) : Val P μ l L ⟨ds, .call { callee := .builtin .len, args := #[p], argTypes := #[t] }, ty, pos, af, gd⟩ (.int .i64 s.size) :=
  fun a w hs => by have e0 := hs.eval hx0; generalize a.eval = ρ at e0; simp [execOp, e0, resolve, invoke, builtin, Builtin.len_, run_underlying ht, goInt]
theorem WM {p : Operand} {t e : TypeId} {A : Option Addr} {n c : Nat} (hx0 : ev l p = some (.slice A n c)) (ht : P.underlying t = some (.slice e)) : Val P μ l L ⟨ds, .call { callee := .builtin .len, args := #[p], argTypes := #[t] }, ty, pos, af, gd⟩ (.int .i64 n) :=
  fun a w hs => by have e0 := hs.eval hx0; generalize a.eval = ρ at e0; simp [execOp, e0, resolve, invoke, builtin, Builtin.len_, run_underlying ht, goInt]
theorem xG {A : Addr} {f : Field} {n : Nat} (hs : dR P f.type = some (n + 1)) (w : World) : (fieldPlace A f).run P w = .ok (A.add f.offset) w := by
  simp [fieldPlace, run_sizeOf hs]
def yM (P : Program) (t : TypeId) (i : Nat) : Option (Nat × Nat) :=
  match P.underlying t with
  | some (.struct fs) => match fs[i]? with
    | some f => match dR P f.type with
      | some (_ + 1) => rE f.offset (fun o => some (0, o))
      | _ => none
    | none => none
  | _ => none
theorem uZ {A : Addr} {t : TypeId} {i ft off : Nat} (hf : yM P t i = some (ft, off)) (w : World) : (Instr.fieldAt t (.pointer (some A)) i).run P w = .ok (.pointer (some (A.add off))) w := by
  unfold yM at hf
  cases hu : P.underlying t with
  | none => simp [hu] at hf
  | some de =>
    cases de <;> simp [hu] at hf
    rename_i fs
    cases hfi : fs[i]? with
    | none => simp [hfi] at hf
    | some f =>
      simp only [hfi] at hf
      cases hs : dR P f.type with
      | none => simp [hs] at hf
      | some n =>
        cases n with
        | zero => simp [hs] at hf
        | succ n =>
          simp [hs, pJ] at hf
          simp [Instr.fieldAt, run_underlying hu, hfi, Instr.sureAddr, xG hs, hf.2]
theorem add_lit (b off n : Nat) : (⟨b, off, none⟩ : Addr).add n = ⟨b, off + n, none⟩ := by unfold Addr.add; split <;> simp_all
theorem iE (A : Addr) (i j : Nat) : (A.add i).add j = A.add (i + j) := by
  unfold Addr.add
  by_cases hi : i = 0 <;> by_cases hj : j = 0 <;> simp [hi, hj, Nat.add_assoc]
theorem EJ {p : Operand} {t : TypeId} {i ft off b k : Nat} (hx0 : ev l p = some (.pointer (some ⟨b, k, none⟩))) (hf : yM P t i = some (ft, off)) : Val P μ l L ⟨ds, .fieldAddr t p i, ty, pos, af, gd⟩ (.pointer (some ⟨b, k + off, none⟩)) :=
  fun a w hs => by have e0 := hs.eval hx0; generalize a.eval = ρ at e0; simp [execOp, e0, uZ hf, add_lit]
theorem FA {t e : TypeId} {A : Addr} {len cap n k : Nat} (ht : P.underlying t = some (.slice e)) (hs : dR P e = some n) (hk : k < len) (w : World) :
    (Instr.indexAt t (.slice (some A) len cap) (.int .i64 (k : Int))).run P w = .ok (.pointer (some (A.add (k * n)))) w := by
  have h1 : (0 : Int) ≤ (k : Int) ∧ (k : Int) < (len : Int) := by omega
  simp [Instr.indexAt, asIntOf, run_underlying ht, run_sizeOf hs, hk]
theorem LW {p q : Operand} {t e : TypeId} {A : Addr} {len cap n : Nat} {i : Int} (k : Nat) (ht : P.underlying t = some (.slice e)) (hs : dR P e = some n)
    (hx0 : ev l p = some (.slice (some A) len cap)) (hx1 : ev l q = some (.int .i64 i)) (hi : i = (k : Int)) (hk : k < len) : Val P μ l L ⟨ds, .indexAddr t p q, ty, pos, af, gd⟩ (.pointer (some (A.add (k * n)))) :=
  fun a w hs' => by have e0 := hs'.eval hx0; have e1 := hs'.eval hx1; generalize a.eval = ρ at e0 e1; subst hi; simp [execOp, e0, e1, FA ht hs hk]
def LC (cs : aI) : Nat → Nat → List Value → Prop
  | _, 0, [] => True
  | off, s + 1, v :: vs => lk cs off = some v ∧ LC cs (off + 1) s vs
  | _, _, _ => False
theorem aJ {cs : aI} {off : Nat} : LC cs off 0 [] := trivial
theorem aF {cs : aI} {off s : Nat} {v : Value} {vs : List Value} (h : lk cs off = some v) (hr : LC cs (off + 1) s vs) : LC cs off (s + 1) (v :: vs) := ⟨h, hr⟩
theorem LC.len {cs : aI} : ∀ {s off : Nat} {vs : List Value}, LC cs off s vs → vs.length = s
  | 0, _, [], _ => rfl
  | 0, _, _ :: _, h => by simp [LC] at h
  | s + 1, _, [], h => by simp [LC] at h
  | s + 1, _, _ :: _, h => by simp [LC.len h.2]
theorem LC.get {cs : aI} : ∀ {s off : Nat} {vs : List Value}, LC cs off s vs → ∀ j v, vs[j]? = some v → lk cs (off + j) = some v
  | 0, _, [], _, j, v, hj => by simp at hj
  | 0, _, _ :: _, h, _, _, _ => by simp [LC] at h
  | s + 1, _, [], h, _, _, _ => by simp [LC] at h
  | s + 1, off, u :: vs, h, 0, v, hj => by simp at hj; subst hj; exact h.1
  | s + 1, off, u :: vs, h, j + 1, v, hj => by
    have := LC.get h.2 j v (by simpa using hj)
    rwa [show off + (j + 1) = off + 1 + j by omega]
theorem IE {x : Operand} {t : TypeId} {off s : Nat} {y : Blk} {vs : List Value} (i : Nat) (hag : jH P t = some true) (hsz : dR P t = some s)
    (hi : dE L i = some (.inl y)) (hx : ev l x = some (.pointer (some ⟨y.b, off, none⟩))) (hc : LC y.cs off s vs) : Val P μ l L ⟨ds, .load t x, ty, pos, af, gd⟩ (.agg vs.toArray) :=
  tU hx (fun _ _ hs => mL vs hag (by rw [hc.len]; exact hsz) (fun j v hv => by rw [add_lit]; exact hs.cell (bO (i := i) hi) (hc.get j v hv)))
def idx : Nat → List Value → aI
  | _, [] => []
  | i, v :: r => (i, v) :: idx (i + 1) r
theorem zF {i j : Nat} (h : i ≠ j) : Nat.beq i j = false := by
  cases h' : Nat.beq i j with
  | false => rfl
  | true => exact absurd (Nat.eq_of_beq_eq_true h') h
theorem pM : ∀ (vs : List Value) (i k : Nat) (v : Value), lk (idx i vs) k = some v → i ≤ k ∧ vs[k - i]? = some v
  | [], i, k, v, h => by simp [idx, lk] at h
  | u :: r, i, k, v, h => by
    by_cases e : i = k
    · subst e
      simp [idx, lk] at h
      simp [h]
    · simp [idx, lk, zF e] at h
      obtain ⟨h1, h2⟩ := pM r (i + 1) k v h
      refine ⟨by omega, ?_⟩
      have : k - i = (k - (i + 1)) + 1 := by omega
      rw [this]; simpa using h2
theorem AV : ∀ (vs : List Value) (i j : Nat) (v : Value), vs[j]? = some v → lk (idx i vs) (i + j) = some v
  | [], i, j, v, h => by simp at h
  | u :: r, i, 0, v, h => by simp at h; simp [idx, lk, h]
  | u :: r, i, j + 1, v, h => by
    have := AV r (i + 1) j v (by simpa using h)
    rw [show i + (j + 1) = i + 1 + j by omega]
    simp [idx, lk, zF (show i ≠ i + 1 + j by omega), this]
theorem St.alloc (h : St X μ l L a w) (t : TypeId) (cs : List Value) : St X μ l (.inl ⟨w.heap.size, t, cs.length, idx 0 cs⟩ :: L) a (w.alloc (.cells cs.toArray t)) := by
  have hold : ∀ b, b < w.heap.size → (w.alloc (.cells cs.toArray t)).heap[b]? = w.heap[b]? := fun b hb => Below.heap_alloc w _ b hb
  have hlt : ∀ x ∈ L, ∀ b, Bk.id x = some b → b < w.heap.size := fun x hx b hb => Bk.lt (h.own x hx) hb
  refine ⟨h.size, h.defers, h.slots, ⟨h.cO.os, h.cO.tape, h.cO.output, Nat.le_trans h.cO.size (by simp), fun b hb hM => ?_⟩, fun b o hb => ?_, h.from0, h.fresh, fun x hx => ?_, fun x hx b hb => ?_, fun x hx b hb => ?_, ?_⟩
  · rw [hold b (Nat.lt_of_lt_of_le hb h.cO.size)]; exact h.cO.block b hb hM
  · have := h.mem b o hb
    rw [hold b (Array.getElem?_eq_some_iff.1 this).1]; exact this
  · rcases List.mem_cons.1 hx with rfl | hx
    · refine ⟨cs.toArray, heap_alloc_new w _, by simp, fun i v hv => ?_⟩
      have := pM cs 0 i v hv
      simpa using this.2
    · exact Bk.cO (h.own x hx) (fun b hb => hold b (hlt x hx b hb))
  · rcases List.mem_cons.1 hx with rfl | hx
    · cases hb
      cases hm : μ w.heap.size with
      | none => rfl
      | some o =>
        have := (Array.getElem?_eq_some_iff.1 (h.mem _ _ hm)).1
        omega
    · exact h.priv x hx b hb
  · rcases List.mem_cons.1 hx with rfl | hx
    · cases hb; exact .inr h.cO.size
    · exact h.new x hx b hb
  · refine List.pairwise_cons.2 ⟨fun y hy b hb hb' => ?_, h.diff⟩
    have h1 := hlt y hy b hb'
    have h2 : w.heap.size = b := Option.some.inj hb
    omega
theorem aAv {v : Nat → Value} {t : TypeId} {cs : List Value} (hd : o.dst = some d) (hn : Nat.blt d X.n = true) (hw : cV ops l o = some true)
    (hr : Alc P μ l L o v t cs) {n : Nat} (hl : rE cs.length some = some n) (h : ∀ b, G P X ops Q rest μ ((d, v b) :: l) (.inl ⟨b, t, n, idx 0 cs⟩ :: L)) : G P X ops Q (o :: rest) μ l L :=
  qY hw fun a w hs => by
    unfold Oper.wp
    rw [hr a w hs.rd, Oper.upon_value, hd]
    rw [pJ] at hl
    cases hl
    exact h _ _ _ ((hs.alloc t cs).put hn _)
theorem OV {x : Operand} {v : Value} {t : TypeId} (hx : ev l x = some v) : Alc P μ l L ⟨ds, .box t x, ty, pos, af, gd⟩ (fun b => .pointer (some ⟨b, 0, none⟩)) t v.cells.toList :=
  fun a w hs => by
    have e := hs.eval hx
    generalize a.eval = ρ at e
    simp [execOp, e, Instr.box, newVar, newRow]
theorem FZ {z : Value} {t : TypeId} (hz : gB P t = some z) : Alc P μ l L ⟨ds, .alloc t, ty, pos, af, gd⟩ (fun b => .pointer (some ⟨b, 0, none⟩)) t z.cells.toList :=
  fun a w hs => by simp [execOp, Instr.alloc, fZ hz, newVar, newRow]
def qK (off : Nat) (vs : List Value) (cs : aI) : aI := idx off vs ++ cs
theorem AW (l1 l2 : aI) (k : Nat) : lk (l1 ++ l2) k = match lk l1 k with | some v => some v | none => lk l2 k := by
  induction l1 with
  | nil => rfl
  | cons x r ih =>
    obtain ⟨t, v⟩ := x
    by_cases e : t = k
    · subst e; simp [lk]
    · simp [lk, zF e, ih]
theorem pL : ∀ (vs : List Value) (i k : Nat), lk (idx i vs) k = none → k < i ∨ i + vs.length ≤ k
  | [], i, k, _ => by simp; omega
  | u :: r, i, k, h => by
    by_cases e : i = k
    · subst e; simp [idx, lk] at h
    · simp [idx, lk, zF e] at h
      rcases pL r (i + 1) k h with h' | h' <;> simp <;> omega
theorem pK {y z : Bk} : ∀ {L : List Bk} {i : Nat}, z ∈ dG L i y → z = y ∨ z ∈ L
  | [], _, h => by simp [dG] at h
  | x :: r, 0, h => (List.mem_cons.1 (by simpa [dG] using h : z ∈ y :: r)).imp id (List.mem_cons_of_mem _)
  | x :: r, i + 1, h => by
    rcases List.mem_cons.1 (by simpa [dG] using h : z ∈ x :: dG r i y) with h | h
    · exact .inr (by simp [h])
    · rcases pK (i := i) h with h | h
      · exact .inl h
      · exact .inr (by simp [h])
theorem vJ {x y z : Bk} : ∀ {L : List Bk} {i : Nat}, dE L i = some x → L.Pairwise (fun x y => ∀ b, Bk.id x = some b → Bk.id y ≠ some b) → z ∈ dG L i y → z = y ∨ (z ∈ L ∧ ∀ b, Bk.id x = some b → Bk.id z ≠ some b)
  | [], _, h, _, _ => by simp [dE] at h
  | u :: r, 0, h, hp, hz => by
    simp [dE] at h; subst h
    obtain ⟨h1, _⟩ := List.pairwise_cons.1 hp
    exact (List.mem_cons.1 (by simpa [dG] using hz : z ∈ y :: r)).imp id (fun h => ⟨List.mem_cons_of_mem _ h, fun b hb => h1 z h b hb⟩)
  | u :: r, i + 1, h, hp, hz => by
    obtain ⟨h1, h2⟩ := List.pairwise_cons.1 hp
    have h' : dE r i = some x := by simpa [dE] using h
    rcases List.mem_cons.1 (by simpa [dG] using hz : z ∈ u :: dG r i y) with rfl | hz
    · exact .inr ⟨by simp, fun b hb hb' => h1 x (bO h') b hb' hb⟩
    · exact (vJ h' h2 hz).imp id (fun h => ⟨List.mem_cons_of_mem _ h.1, h.2⟩)
theorem St.upd (h : St X μ l L a w) {i : Nat} {x y : Bk} (hi : dE L i = some x) {w' : World} (hos : w'.os = w.os) (htape : w'.tape = w.tape) (hout : w'.output = w.output) (hsz : w.heap.size ≤ w'.heap.size)
    (hk : ∀ b, b < w.heap.size → Bk.id x ≠ some b → w'.heap[b]? = w.heap[b]?) (hy : Bk.at y w') (hid : ∀ b, Bk.id y = some b → Bk.id x = some b ∨ w.heap.size ≤ b) : St X μ l (dG L i y) a w' := by
  have hx := bO hi
  have hlt : ∀ x ∈ L, ∀ b, Bk.id x = some b → b < w.heap.size := fun x hx b hb => Bk.lt (h.own x hx) hb
  have hpriv : ∀ b, w.heap.size ≤ b → μ b = none := fun b hb => by
    cases hm : μ b with
    | none => rfl
    | some o =>
      have := (Array.getElem?_eq_some_iff.1 (h.mem _ _ hm)).1
      omega
  refine ⟨h.size, h.defers, h.slots, ⟨hos.trans h.cO.os, htape.trans h.cO.tape, hout.trans h.cO.output, Nat.le_trans h.cO.size hsz, fun b hb hM => ?_⟩, fun b o hb => ?_, h.from0, h.fresh, fun z hz => ?_, fun z hz b hb => ?_, fun z hz b hb => ?_, ?_⟩
  · rw [hk b (Nat.lt_of_lt_of_le hb h.cO.size) (fun e => ?_)]
    · exact h.cO.block b hb hM
    · rcases h.new x hx b e with h1 | h1
      · exact hM h1
      · omega
  · have hm := h.mem b o hb
    rw [hk b (Array.getElem?_eq_some_iff.1 hm).1 (fun e => by rw [h.priv x hx b e] at hb; cases hb)]
    exact hm
  · rcases vJ hi h.diff hz with rfl | ⟨hz, hzb⟩
    · exact hy
    · exact Bk.cO (h.own z hz) (fun b hb => hk b (hlt z hz b hb) (fun e => hzb b e hb))
  · rcases pK hz with rfl | hz
    · rcases hid b hb with h1 | h1
      · exact h.priv x hx b h1
      · exact hpriv b h1
    · exact h.priv z hz b hb
  · rcases pK hz with rfl | hz
    · rcases hid b hb with h1 | h1
      · exact h.new x hx b h1
      · exact .inr (Nat.le_trans h.cO.size h1)
    · exact h.new z hz b hb
  · have key : ∀ {L : List Bk} {i : Nat}, (∀ z ∈ L, ∀ b, Bk.id z = some b → b < w.heap.size) → dE L i = some x → L.Pairwise (fun x y => ∀ b, Bk.id x = some b → Bk.id y ≠ some b) → (dG L i y).Pairwise (fun x y => ∀ b, Bk.id x = some b → Bk.id y ≠ some b) := by
      intro L
      induction L with
      | nil => intro i _ h1 _; simp [dE] at h1
      | cons z r ih =>
        intro i hl h1 hp
        obtain ⟨hp1, hp2⟩ := List.pairwise_cons.1 hp
        cases i with
        | zero =>
          simp [dE] at h1; subst h1
          refine List.pairwise_cons.2 ⟨fun u hu b hb hb' => ?_, hp2⟩
          rcases hid b hb with h4 | h4
          · exact hp1 u hu b h4 hb'
          · have := hl u (by simp [hu]) b hb'; omega
        | succ i =>
          have h' : dE r i = some x := by simpa [dE] using h1
          refine List.pairwise_cons.2 ⟨fun u hu b hb hb' => ?_, ih (fun z hz => hl z (by simp [hz])) h' hp2⟩
          rcases pK hu with rfl | hu
          · rcases hid b hb' with h4 | h4
            · exact hp1 x (bO h') b hb h4
            · have := hl z (by simp) b hb; omega
          · exact hp1 u hu b hb hb'
    exact key hlt hi h.diff
theorem St.setRow (h : St X μ l L a w) {i : Nat} {x : Blk} (hi : dE L i = some (.inl x)) {cs : Array Value} {cs' : aI} (hsz : cs.size = x.sz) (hcs : ∀ k v, lk cs' k = some v → cs[k]? = some v) :
    St X μ l (dG L i (.inl ⟨x.b, x.t, x.sz, cs'⟩)) a (w.setRow x.b cs) := by
  obtain ⟨arr, hh, _⟩ := h.own _ (bO hi)
  exact h.upd hi rfl rfl rfl (by simp) (fun b _ hb => setRow_other w x.b b cs (fun e => hb (by rw [e]; rfl))) ⟨cs, setRow_heap w x.b arr cs x.t (0, 0) hh, hsz, hcs⟩ (fun b hb => .inl hb)
theorem NA {x q : Operand} {t : TypeId} {off n : Nat} {y : Blk} {v : Value} (i : Nat) (hw : cV ops l ⟨none, .store t q x, ty, pos, af, gd⟩ = some true) (hsz : dR P t = some n)
    (hi : dE L i = some (.inl y)) (hq : ev l q = some (.pointer (some ⟨y.b, off, none⟩))) (hx : ev l x = some v) (hlen : v.cells.toList.length = n) (hone : v.cells.toList.all (·.oneCell') = true)
    (hfit : Nat.ble (off + n) y.sz = true)
    (h : G P X ops Q rest μ l (dG L i (.inl ⟨y.b, y.t, y.sz, qK off v.cells.toList y.cs⟩))) : G P X ops Q (⟨none, .store t q x, ty, pos, af, gd⟩ :: rest) μ l L :=
  qY hw fun a w hs => by
    have e0 := hs.eval hq
    have e1 := hs.eval hx
    obtain ⟨arr, hh, hasz, hlk⟩ := hs.own _ (bO hi)
    have hfit' : off + n ≤ y.sz := by simpa using hfit
    have hvs : v.cells.size = n := by simpa using hlen
    have hrow := run_storeCells_at (P := P) y.b off y.t v.cells.toList 0 arr w hh (by rw [hlen, hasz]; omega) (List.all_eq_true.1 hone)
    have hrun : (Instr.storeAt t (.pointer (some ⟨y.b, off, none⟩)) v).run P w = .ok () (w.setRow y.b (arr.toList.take (off + 0) ++ v.cells.toList ++ arr.toList.drop (off + 0 + v.cells.toList.length)).toArray) := by
      have hl' : ¬ v.cells.size ≠ n := by simpa using hlen
      simp only [Instr.storeAt, Instr.sureAddr, storeVar, Sem.run_bind, Sem.run_pure, Result.andThen_ok, run_sizeOf hsz, if_neg hl']
      exact hrow
    unfold Oper.wp
    generalize hρ : a.eval = ρ at e0 e1
    have hex : (execOp ρ ⟨none, .store t q x, ty, pos, af, gd⟩).run P w = .ok .skip (w.setRow y.b (arr.toList.take (off + 0) ++ v.cells.toList ++ arr.toList.drop (off + 0 + v.cells.toList.length)).toArray) := by
      simp only [execOp, e0, e1, Sem.run_bind, hrun, Result.andThen_ok]; rfl
    rw [hex, Oper.upon_skip]
    refine h _ _ ((hs.setRow hi ?_ ?_).FI _)
    · simp [hasz]; omega
    · intro k u hu
      unfold qK at hu
      rw [AW] at hu
      cases hk : lk (idx off v.cells.toList) k with
      | some u' =>
        rw [hk] at hu; cases hu
        obtain ⟨h1, h2⟩ := pM _ _ _ _ hk
        have h3 : k - off < v.cells.toList.length := (List.getElem?_eq_some_iff.1 h2).1
        simp only [List.getElem?_toArray, Nat.add_zero]
        rw [List.append_assoc, List.getElem?_append_right (by simp; omega), List.getElem?_append_left (by simp; omega)]
        have : (arr.toList.take off).length = off := by simp; omega
        rw [this]; exact h2
      | none =>
        rw [hk] at hu
        have h4 := hlk k u hu
        rcases pL _ _ _ hk with h5 | h5
        · simp only [List.getElem?_toArray, Nat.add_zero]
          rw [List.append_assoc, List.getElem?_append_left (by simp; have := (Array.getElem?_eq_some_iff.1 h4).1; omega), List.getElem?_take]
          simp [h5, h4]
        · simp only [List.getElem?_toArray, Nat.add_zero]
          have hlk' := (Array.getElem?_eq_some_iff.1 h4).1
          rw [List.getElem?_append_right (by simp; omega), List.getElem?_drop]
          have : (arr.toList.take off ++ v.cells.toList).length = off + v.cells.toList.length := by simp; omega
          rw [this, show off + v.cells.toList.length + (k - (off + v.cells.toList.length)) = k by omega]
          simpa using h4
def PC : Nat → List Value → aI → aI → Prop
  | _, [], cs, cs' => cs' = cs
  | off, v :: vs, cs, cs' => ∃ r, cs' = (off, v) :: r ∧ PC (off + 1) vs cs r
theorem CW {off : Nat} {cs : aI} : PC off [] cs cs := rfl
theorem wJ {off : Nat} {v : Value} {vs : List Value} {cs r : aI} (h : PC (off + 1) vs cs r) : PC off (v :: vs) cs ((off, v) :: r) := ⟨r, rfl, h⟩
theorem PC.eq : ∀ {vs : List Value} {off : Nat} {cs cs' : aI}, PC off vs cs cs' → cs' = qK off vs cs
  | [], _, _, _, h => h
  | v :: vs, off, cs, cs', h => by
    obtain ⟨r, rfl, hr⟩ := h
    rw [PC.eq hr]; rfl
theorem KD {x q : Operand} {t : TypeId} {off b bt sz s : Nat} {cs cs' : aI} {L : List Bk} {vs : List Value} (hw : cV ops l ⟨none, .store t q x, ty, pos, af, gd⟩ = some true) (hsz : dR P t = some s)
    (hq : ev l q = some (.pointer (some ⟨b, off, none⟩))) (hx : ev l x = some (.agg vs.toArray)) (hlen : vs.length = s) (hone : vs.all (·.oneCell') = true) (hfit : Nat.ble (off + s) sz = true) (hpc : PC off vs cs cs')
    (h : G P X ops Q rest μ l (.inl ⟨b, bt, sz, cs'⟩ :: L)) : G P X ops Q (⟨none, .store t q x, ty, pos, af, gd⟩ :: rest) μ l (.inl ⟨b, bt, sz, cs⟩ :: L) := by
  have e := hpc.eq
  subst e
  exact NA (n := s) 0 hw hsz (y := ⟨b, bt, sz, cs⟩) rfl hq hx (by simpa [Value.cells] using hlen) (by simpa [Value.cells] using hone) hfit h
theorem HF (vs : List Value) : ∀ (off k : Nat) (z : Array Value) (i : Nat),
    ((vs.zipIdx k).foldl (fun (cs : Array Value) (p : Value × Nat) => cs.setIfInBounds (off + p.2) p.1) z)[i]? = if off + k ≤ i ∧ i < off + k + vs.length ∧ i < z.size then vs[i - (off + k)]? else z[i]? := by
  induction vs with
  | nil => intro off k z i; simp; intro h1 h2 h3; omega
  | cons v vs ih =>
    intro off k z i
    simp only [List.zipIdx_cons, List.foldl_cons]
    rw [ih off (k + 1)]
    simp only [List.length_cons, Array.size_setIfInBounds]
    by_cases h1 : off + k = i
    · subst h1
      rw [if_neg (by omega)]
      by_cases h2 : off + k < z.size
      · rw [if_pos (by omega), Array.getElem?_setIfInBounds_self_of_lt h2]; simp
      · rw [if_neg (by omega)]; simp [Array.getElem?_eq_none (Nat.le_of_not_lt h2)]
        exact Nat.le_of_not_lt h2
    · by_cases h2 : off + (k + 1) ≤ i ∧ i < off + (k + 1) + vs.length ∧ i < z.size
      · rw [if_pos h2, if_pos (by omega), show i - (off + k) = (i - (off + (k + 1))) + 1 by omega]; simp
      · rw [if_neg h2, if_neg (by omega), Array.getElem?_setIfInBounds_ne h1]
def flat (vs : List Value) : List Value := vs.flatMap fun v => v.cells.toList
theorem UW (size : Nat) : ∀ (vs : List Value) (k : Nat) (z : Array Value), (∀ v ∈ vs, v.cells.size = size) → (k + vs.length) * size ≤ z.size →
    ∃ r : Array Value, Instr.fill (fun i => some (i * size, size)) z ((vs.zipIdx k).map fun p => (p.2, p.1)) = some r ∧ r.size = z.size ∧
      ∀ i, r[i]? = if k * size ≤ i ∧ i < (k + vs.length) * size then (flat vs)[i - k * size]? else z[i]? := by
  intro vs
  induction vs with
  | nil => intro k z _ _; exact ⟨z, rfl, rfl, fun i => by simp; omega⟩
  | cons v vs ih =>
    intro k z hv hk
    have hvs : v.cells.size = size := hv v (by simp)
    have hle : k * size + size ≤ z.size := by
      have : (k + 1) * size ≤ (k + (v :: vs).length) * size := Nat.mul_le_mul_right _ (by simp)
      rw [Nat.add_mul, Nat.one_mul] at this; omega
    have hk' : (k + 1 + vs.length) * size ≤ z.size := by rw [show k + 1 + vs.length = k + (v :: vs).length by simp; omega]; exact hk
    let z' := v.cells.zipIdx.foldl (fun cs (c, j) => cs.setIfInBounds (k * size + j) c) z
    have hz' : ∀ i, z'[i]? = if k * size ≤ i ∧ i < k * size + size then v.cells[i - k * size]? else z[i]? := by
      intro i
      have := HF v.cells.toList (k * size) 0 z i
      have e : z' = (v.cells.toList.zipIdx 0).foldl (fun (cs : Array Value) (p : Value × Nat) => cs.setIfInBounds (k * size + p.2) p.1) z := by
        show v.cells.zipIdx.foldl _ z = _
        rw [← Array.foldl_toList]; simp
      rw [e, this]
      simp only [Nat.add_zero, Array.length_toList, hvs]
      by_cases hc : k * size ≤ i ∧ i < k * size + size
      · rw [if_pos (by omega), if_pos hc]; simp
      · rw [if_neg (by omega), if_neg hc]
    have hzs : z'.size = z.size := by
      have hfs : ∀ (l : List (Value × Nat)) (z : Array Value), (l.foldl (fun (cs : Array Value) (p : Value × Nat) => cs.setIfInBounds (k * size + p.2) p.1) z).size = z.size := by
        intro l; induction l with
        | nil => intro z; rfl
        | cons p l ih => intro z; simp only [List.foldl_cons]; rw [ih]; simp
      show (v.cells.zipIdx.foldl _ z).size = _
      rw [← Array.foldl_toList]; exact hfs _ _
    obtain ⟨r, h1, h2, h3⟩ := ih (k + 1) z' (fun u hu => hv u (by simp [hu])) (by rw [hzs]; exact hk')
    refine ⟨r, ?_, by rw [h2, hzs], fun i => ?_⟩
    · simp only [List.zipIdx_cons, List.map_cons, Instr.fill]
      rw [if_neg (by simp [hvs]; omega)]
      exact h1
    · rw [h3 i, hz' i]
      have e2 : (k + (v :: vs).length) * size = (k + 1 + vs.length) * size := by rw [show k + (v :: vs).length = k + 1 + vs.length by simp; omega]
      have e3 : (k + 1) * size = k * size + size := by rw [Nat.add_mul, Nat.one_mul]
      have e4 : (k + 1) * size ≤ (k + 1 + vs.length) * size := Nat.mul_le_mul_right _ (by omega)
      rw [e2]
      have hf : flat (v :: vs) = v.cells.toList ++ flat vs := by simp [flat]
      rw [hf]
      by_cases hc : k * size ≤ i ∧ i < (k + 1 + vs.length) * size
      · rw [if_pos hc]
        by_cases hd : (k + 1) * size ≤ i
        · rw [if_pos ⟨hd, hc.2⟩, List.getElem?_append_right (by simp [hvs]; omega)]
          congr 1
          simp [hvs]; omega
        · rw [if_neg (by omega), if_pos (by omega), List.getElem?_append_left (by simp [hvs]; omega)]; simp
      · rw [if_neg (by omega), if_neg (by omega), if_neg hc]
theorem xH {t e : TypeId} {size : Nat} {z : Value} (vs : List Value) (ht : P.underlying t = some (.slice e)) (hs : dR P e = some size) (hz : gB P e = some z) (hv : ∀ v ∈ vs, v.cells.size = size)
    (hb : vs.length * size ≤ 16777216) (w : World) :
    (Instr.buildSlice t vs.length ((vs.zipIdx.map fun p => (p.2, p.1)).toArray)).run P w = .ok (.slice (some ⟨w.heap.size, 0, none⟩) vs.length vs.length) (w.alloc (.cells (flat vs).toArray e)) := by
  have hlen : (flat vs).length = vs.length * size := by
    clear hb
    unfold flat
    induction vs with
    | nil => simp
    | cons v vs ih =>
      simp only [List.flatMap_cons, List.length_append, List.length_cons, Array.length_toList]
      rw [ih (fun u hu => hv u (by simp [hu])), hv v (by simp), Nat.add_mul]; omega
  have hb' : ¬ vs.length * size > 2 ^ 24 := by omega
  have key : ∀ zc : Array Value, Instr.fill (fun i => some (i * size, size)) ((Array.range (vs.length * size)).map (zc[· % zc.size]!)) (vs.zipIdx.map fun p => (p.2, p.1)) = some (flat vs).toArray := by
    intro zc
    obtain ⟨r, h1, h2, h3⟩ := UW size vs 0 ((Array.range (vs.length * size)).map (zc[· % zc.size]!)) hv (by simp)
    rw [h1]
    congr 1
    apply Array.ext_getElem?
    intro i
    rw [h3 i]
    simp only [Nat.zero_add, Nat.zero_mul, Nat.zero_le, true_and, Nat.sub_zero]
    by_cases hi : i < vs.length * size
    · rw [if_pos hi]; simp
    · rw [if_neg hi]
      simp; rw [Array.getElem?_eq_none (by simp; omega), List.getElem?_eq_none (by omega)]; rfl
  unfold Instr.buildSlice
  by_cases h0 : vs.length * size = 0
  · simp only [Sem.run_bind, run_underlying ht, Result.andThen_ok, run_sizeOf hs, if_neg hb', if_pos h0, Sem.run_pure, key]
    rfl
  · simp only [Sem.run_bind, run_underlying ht, Result.andThen_ok, run_sizeOf hs, if_neg hb', if_neg h0, Sem.run_pure, fZ hz, key]
    rfl
def BP (l : aI) (s : Nat) : Nat → List (Nat × Operand) → List Value → List Value → Prop
  | _, [], [], [] => True
  | i, (j, x) :: ps, v :: vs, cs => j = i ∧ ev l x = some v ∧ v.cells.size = s ∧ ∃ r, cs = v.cells.toList ++ r ∧ BP l s (i + 1) ps vs r
  | _, _, _, _ => False
theorem aC7 {l : aI} {s i : Nat} : BP l s i [] [] [] := trivial
def AP : List Value → List Value → List Value → Prop
  | [], r, cs => cs = r
  | u :: us, r, cs => ∃ c, cs = u :: c ∧ AP us r c
theorem AP.eq : ∀ {us r cs : List Value}, AP us r cs → cs = us ++ r
  | [], _, _, h => h
  | u :: us, r, cs, h => by obtain ⟨c, rfl, hc⟩ := h; rw [AP.eq hc]; rfl
theorem BP.spec {s : Nat} : ∀ {ps : List (Nat × Operand)} {i : Nat} {vs cs : List Value}, BP l s i ps vs cs → Rd μ l L a w →
    (ps.map fun (i, x) => (i, a.eval x)) = (vs.zipIdx i).map (fun p => (p.2, p.1)) ∧ flat vs = cs ∧ (∀ v ∈ vs, v.cells.size = s) ∧ vs.length = ps.length
  | [], _, [], [], _, _ => by simp [flat]
  | [], _, [], _ :: _, h, _ => by simp [BP] at h
  | [], _, _ :: _, _, h, _ => by simp [BP] at h
  | (j, x) :: ps, i, [], _, h, _ => by simp [BP] at h
  | (j, x) :: ps, i, v :: vs, cs, h, hs => by
    obtain ⟨rfl, hx, hv, r, rfl, hr⟩ := h
    obtain ⟨h1, h2, h3, h4⟩ := BP.spec hr hs
    refine ⟨by simp [hs.eval hx, h1], by simp [flat] at h2 ⊢; rw [h2], ?_, by simp [h4]⟩
    intro u hu
    rcases List.mem_cons.1 hu with rfl | hu
    · exact hv
    · exact h3 u hu
theorem DA {t e s n : TypeId} {ps : List (Nat × Operand)} {vs cs : List Value} {z : Value} (ht : P.underlying t = some (.slice e)) (hs : dR P e = some s) (hz : gB P e = some z) (hn : ps.length = n) (hb : Nat.ble (n * s) 16777216 = true) (hp : BP l s 0 ps vs cs) :
    Alc P μ l L ⟨ds, .buildSlice t n ps.toArray, ty, pos, af, gd⟩ (fun b => .slice (some ⟨b, 0, none⟩) n n) e cs :=
  fun a w hs' => by
    obtain ⟨h1, h2, h3, h4⟩ := hp.spec hs'
    have hr := xH (P := P) vs ht hs hz h3 (by rw [h4, hn]; simpa using hb) w
    generalize a.eval = ρ at h1
    have e2 : (ps.toArray.map fun (i, x) => (i, ρ x)) = (vs.zipIdx.map fun p => (p.2, p.1)).toArray := by rw [← h1]; simp
    rw [h2, h4, hn] at hr
    simp only [execOp, e2]
    simp only [Sem.run_bind, hr, Result.andThen_ok]; rfl
structure oM (w w' : World) (μ μ' : Mem) : Prop where
  below : Below w.heap.size w w'
  le : MLe μ μ'
  ok : MOk μ' w'
  fresh : ∀ b, b < w.heap.size → μ b = none → μ' b = none
def Bk.sh : Bk → Mem → Prop
  | .inl x, μ => ∃ arr : Array Value, μ x.b = some (.cells arr x.t (0, 0)) ∧ arr.size = x.sz ∧ ∀ i v, lk x.cs i = some v → arr[i]? = some v
  | .inr r, μ => r.xs.length = r.n * r.s ∧ ((r.v = .slice none 0 0 ∧ r.n = 0) ∨
      ∃ g cap cur, r.v = .slice (some ⟨g, 0, none⟩) r.n cap ∧ μ g = some (.cells cur r.e (0, 0)) ∧ r.n ≤ cap ∧ cap ≤ maxLen ∧ cur.size = cap * r.s ∧ cur.toList.take (r.n * r.s) = r.xs)
  | .mp m, μ => μ m.b = some (.map m.es.toArray m.ck)
  | .it b m s x c, μ => μ b = some (.mapIter m s x c)
theorem Bk.wZ {x : Bk} {w : World} {μ : Mem} (h : Bk.at x w) (hm : ∀ b o, Bk.id x = some b → w.heap[b]? = some o → μ b = some o) : Bk.sh x μ := by
  cases x with
  | inl x =>
    obtain ⟨arr, hh, h2⟩ := h
    exact ⟨arr, hm _ _ rfl hh, h2⟩
  | inr r =>
    refine ⟨h.1, h.2.imp (fun h => h) ?_⟩
    rintro ⟨g, cap, cur, hv, h0, hh, h3⟩
    exact ⟨g, cap, cur, hv, hm g _ (by simp [Bk.id, hv, Value.ownBlock]) hh, h3⟩
  | mp m => exact hm _ _ rfl h
  | it b m s x c => exact hm _ _ rfl h
structure EC (μc μ : Mem) (L : List Bk) : Prop where
  le : MLe μ μc
  own : ∀ x ∈ L, Bk.sh x μc
def dI (P : Program) (f : FuncId) : Bool := match P.funcs[f]? with | some fn => fn.body.isSome && !(fn.name == "runtime.NumGoroutine") | none => false
theorem nF {f : FuncId} {xs : Array Operand} {ts : Array TypeId} {ρ : Operand → Value} (hf : dI P f = true) (hρ : ρ (.func f) = .func (.func f) #[] #[]) (w : World) :
    (execOp ρ ⟨ds, .call { callee := .value (.func f), args := xs, argTypes := ts }, ty, pos, af, gd⟩).run P w = .ok (.enter f (xs.map ρ)) w := by
  unfold dI at hf
  cases h : P.funcs[f]? with
  | none => simp [h] at hf
  | some fn =>
    simp only [h, Bool.and_eq_true, Bool.not_eq_true'] at hf
    have hb : ¬ fn.body = none := by intro hb; simp [hb] at hf
    have hn : ¬ fn.name = "runtime.NumGoroutine" := by have := hf.2; simpa using this
    simp [execOp, resolve, hρ, Deferred.ofValue, invoke, callFunc, h, hn, hb]
theorem St.sH (h : St X μ l L a w) {w' : World} (hb : Below w.heap.size w w') : St X μ l L a w' := by
  have hlt : ∀ b o, w.heap[b]? = some o → w'.heap[b]? = some o := fun b o e => by rw [hb.block b (Array.getElem?_eq_some_iff.1 e).1]; exact e
  refine ⟨h.size, h.defers, h.slots, ⟨hb.os.trans h.cO.os, hb.tape.trans h.cO.tape, hb.output.trans h.cO.output, Nat.le_trans h.cO.size hb.size, fun b hb' hM => ?_⟩, fun b o hbo => hlt _ _ (h.mem b o hbo), h.from0, h.fresh, fun x hx => Bk.cO (h.own x hx) (fun b hb' => hb.block b (Bk.lt (h.own x hx) hb')), h.priv, h.new, h.diff⟩
  · rw [hb.block b (Nat.lt_of_lt_of_le hb' h.cO.size)]; exact h.cO.block b hb' hM
theorem St.grow (h : St X μ l L a w) {w' : World} {μ' : Mem} (hg : oM w w' μ μ') : St X μ' l L a w' := by
  have h1 := h.sH hg.below
  exact ⟨h1.size, h1.defers.mono hg.le, h1.slots, h1.cO, hg.ok, h.from0.trans hg.le, fun b hb hm h0 => hg.fresh b (Nat.lt_of_lt_of_le hb h.cO.size) (h.fresh b hb hm h0), h1.own, fun x hx b hb => hg.fresh b (Bk.lt (h.own x hx) hb) (h.priv x hx b hb), h1.new, h1.diff⟩
theorem St.aDv (h : St X μ l L a w) : EC (fun b => w.heap[b]?) μ L := ⟨h.mem, fun x hx => Bk.wZ (h.own x hx) (fun _ _ _ e => e)⟩
theorem BE {f : FuncId} {vs : Array Value} {v : Value} (hd : o.dst = some d) (hn : Nat.blt d X.n = true) (hw : cV ops l o = some true)
    (hr : Ent P μ l L o f vs)
    (hc : ∀ w μc, MOk μc w → EC μc μ L → Calls P f vs w fun e w' => e = .returned v ∧ Below w.heap.size w w')
    (h : G P X ops Q rest μ ((d, v) :: l) L) : G P X ops Q (o :: rest) μ l L :=
  qY hw fun a w hs => by
    unfold Oper.wp
    rw [hr a w hs.rd, Oper.upon_enter]
    refine (hc w _ (fun _ _ h => h) hs.aDv).mono fun e w' he => ?_
    obtain ⟨rfl, hb⟩ := he
    show wpList P ops Q rest (a.put o.dst v) w'
    rw [hd]
    exact h _ _ ((hs.sH hb).put hn _)
theorem aG {f : FuncId} {vs : Array Value} {Post : Mem → Value → Prop} (hd : o.dst = some d) (hn : Nat.blt d X.n = true) (hw : cV ops l o = some true)
    (hr : Ent P μ l L o f vs)
    (hc : ∀ w, MOk μ w → Calls P f vs w fun e w' => ∃ v μ', e = .returned v ∧ oM w w' μ μ' ∧ Post μ' v)
    (h : ∀ v μ', MLe μ μ' → Post μ' v → G P X ops Q rest μ' ((d, v) :: l) L) : G P X ops Q (o :: rest) μ l L :=
  qY hw fun a w hs => by
    unfold Oper.wp
    rw [hr a w hs.rd, Oper.upon_enter]
    refine (hc w hs.mem).mono fun e w' he => ?_
    obtain ⟨v, μ', rfl, hg, hp⟩ := he
    show wpList P ops Q rest (a.put o.dst v) w'
    rw [hd]
    exact h v μ' hg.le hp _ _ ((hs.grow hg).put hn _)
theorem St.aAh {y : Bk} (hs : St X μ l (y :: L) a w) (_ : X.M = X.M) : ∃ μ', MLe μ μ' ∧ Bk.sh y μ' ∧ St X μ' l L a w := by
  have hd := List.pairwise_cons.1 hs.diff
  have hy := hs.own y (by simp)
  cases hid : Bk.id y with
  | none =>
    refine ⟨μ, MLe.refl _, Bk.wZ hy (fun b o e _ => by rw [hid] at e; cases e), hs.size, hs.defers, hs.slots, hs.cO, hs.mem, hs.from0, hs.fresh, fun x hx => hs.own x (by simp [hx]), fun x hx => hs.priv x (by simp [hx]), fun x hx => hs.new x (by simp [hx]), hd.2⟩
  | some g =>
    refine ⟨fun b => if b = g then w.heap[g]? else μ b, fun b o e => ?_, Bk.wZ hy (fun b o e ho => ?_), hs.size, hs.defers.mono (fun b o e => ?_), hs.slots, hs.cO, fun b o e => ?_, fun b o e => ?_, fun b hb hm h0 => ?_, fun x hx => hs.own x (by simp [hx]), fun x hx b hb => ?_, fun x hx => hs.new x (by simp [hx]), hd.2⟩
    · have : b ≠ g := fun e' => by rw [e', hs.priv y (by simp) g hid] at e; cases e
      simp [this, e]
    · rw [hid] at e; cases e; simp [ho]
    · have : b ≠ g := fun e' => by rw [e', hs.priv y (by simp) g hid] at e; cases e
      simp [this, e]
    · by_cases e' : b = g
      · subst e'; simpa using e
      · simp [e'] at e; exact hs.mem b o e
    · have e2 := hs.from0 b o e
      have : b ≠ g := fun e' => by rw [e', hs.priv y (by simp) g hid] at e2; cases e2
      simp [this, e2]
    · have : b ≠ g := fun e' => by
        rcases hs.new y (by simp) g hid with hh | hh
        · exact hm (e' ▸ hh)
        · omega
      simp [this, hs.fresh b hb hm h0]
    · have : b ≠ g := fun e' => hd.1 x hx g hid (e' ▸ hb)
      simp [this, hs.priv x (by simp [hx]) b hb]
theorem aW {y : Bk} (hM : X.M = X.M) (h : ∀ μ', MLe μ μ' → Bk.sh y μ' → G P X ops Q rest μ' l L) : G P X ops Q rest μ l (y :: L) := fun a w hs => by
  obtain ⟨μ', h1, h2, h3⟩ := hs.aAh hM
  exact h μ' h1 h2 a w h3
theorem aA {f : FuncId} {fn : Func} {c : Code} {args : List Value} {n : Nat} {R : Ending → World → Prop} (hf : P.funcs[f]? = some fn) (hb : fn.body = some c) (hn : fn.ntmps = n) (hsz : args.length ≤ n)
    (hμ : MOk μ w) (h : GC P ⟨w, μ, [], n⟩ c (bodyPost P fn R) μ (idx 0 args) []) : Calls P f args.toArray w R := by
  refine calls_of_wp hf hb (h _ _ ⟨?_, Marks.nil, fun t v hv => ?_, HW.refl _ _, hμ, MLe.refl _, fun _ _ _ h => h, by simp, by simp, by simp, List.Pairwise.nil⟩)
  · simp [hn]; omega
  · obtain ⟨_, h2⟩ := pM _ _ _ _ hv
    have hlt : t < args.length := by have := (List.getElem?_eq_some_iff.1 h2).1; simpa using this
    simp only [Nat.sub_zero] at h2
    rw [Array.getElem?_append_left (by simpa using hlt)]
    simpa using h2
theorem aB {fn : Func} {t n : Nat} {v v' : Value} {μ0 : Mem} (hr : fn.results = #[.tmp t]) (hv : lk l t = some v') (e : v' = v) :
    GQ ⟨w, μ0, [], n⟩ (bodyPost P fn (fun e w' => e = .returned v ∧ Below w.heap.size w w')) .ret μ l L := fun a w' hs => by
  have h1 := hs.slots _ _ hv
  refine ⟨hs.defers.none (by simp), v', by simp [results, hr, h1], by rw [e], hs.cO.below⟩
theorem St.MJ {n : Nat} {μ0 : Mem} {w' : World} (hs : St ⟨w, μ0, [], n⟩ μ l L a w') : ∃ μ', oM w w' μ0 μ' ∧ MLe μ μ' ∧ ∀ x ∈ L, Bk.sh x μ' := by
  refine ⟨fun b => if b < w.heap.size then μ0 b else w'.heap[b]?, ⟨hs.cO.below, fun b o e => ?_, fun b o e => ?_, fun b hb h0 => by simp [hb, h0]⟩, fun b o e => ?_, fun x hx => ?_⟩
  · by_cases hb : b < w.heap.size
    · simp [hb, e]
    · simp [hb]; exact hs.mem b o (hs.from0 b o e)
  · by_cases hb : b < w.heap.size
    · simp [hb] at e; exact hs.mem b o (hs.from0 b o e)
    · simp [hb] at e; exact e
  · by_cases hb : b < w.heap.size
    · simp only [hb, if_true]
      cases h0 : μ0 b with
      | none => rw [hs.fresh b hb (by simp) h0] at e; cases e
      | some o' => have := hs.from0 b o' h0; rw [this] at e; exact e
    · simp [hb]; exact hs.mem b o e
  · refine Bk.wZ (hs.own x hx) (fun b o hb ho => ?_)
    have : ¬ b < w.heap.size := by
      rcases hs.new x hx b hb with h3 | h3
      · simp at h3
      · simpa using h3
    simp [this, ho]
theorem NO {f : FuncId} {ts : Array TypeId} (hf : dI P f = true)  : Ent P μ l L ⟨ds, .call { callee := .value (.func f), args := #[], argTypes := ts }, ty, pos, af, gd⟩ f #[] :=
  fun a w hs => by rw [nF hf rfl]; simp
theorem aQ {f : FuncId} {ts : Array TypeId} {x0 : Operand} {v0 : Value} (hf : dI P f = true) (hx0 : ev l x0 = some v0) : Ent P μ l L ⟨ds, .call { callee := .value (.func f), args := #[x0], argTypes := ts }, ty, pos, af, gd⟩ f #[v0] :=
  fun a w hs => by rw [nF hf rfl]; have e0 := hs.eval hx0; simp [e0]
theorem fW {f : FuncId} {ts : Array TypeId} {x0 x1 : Operand} {v0 v1 : Value} (hf : dI P f = true) (hx0 : ev l x0 = some v0) (hx1 : ev l x1 = some v1) : Ent P μ l L ⟨ds, .call { callee := .value (.func f), args := #[x0, x1], argTypes := ts }, ty, pos, af, gd⟩ f #[v0, v1] :=
  fun a w hs => by rw [nF hf rfl]; have e0 := hs.eval hx0; have e1 := hs.eval hx1; simp [e0, e1]
theorem aU {f : FuncId} {ts : Array TypeId} {x0 x1 x2 : Operand} {v0 v1 v2 : Value} (hf : dI P f = true) (hx0 : ev l x0 = some v0) (hx1 : ev l x1 = some v1) (hx2 : ev l x2 = some v2) : Ent P μ l L ⟨ds, .call { callee := .value (.func f), args := #[x0, x1, x2], argTypes := ts }, ty, pos, af, gd⟩ f #[v0, v1, v2] :=
  fun a w hs => by rw [nF hf rfl]; have e0 := hs.eval hx0; have e1 := hs.eval hx1; have e2 := hs.eval hx2; simp [e0, e1, e2]
theorem bZ {f : FuncId} {ts : Array TypeId} {x0 x1 x2 x3 : Operand} {v0 v1 v2 v3 : Value} (hf : dI P f = true) (hx0 : ev l x0 = some v0) (hx1 : ev l x1 = some v1) (hx2 : ev l x2 = some v2) (hx3 : ev l x3 = some v3) : Ent P μ l L ⟨ds, .call { callee := .value (.func f), args := #[x0, x1, x2, x3], argTypes := ts }, ty, pos, af, gd⟩ f #[v0, v1, v2, v3] :=
  fun a w hs => by rw [nF hf rfl]; have e0 := hs.eval hx0; have e1 := hs.eval hx1; have e2 := hs.eval hx2; have e3 := hs.eval hx3; simp [e0, e1, e2, e3]
theorem iH {f : FuncId} {ts : Array TypeId} {x0 x1 x2 x3 x4 : Operand} {v0 v1 v2 v3 v4 : Value} (hf : dI P f = true) (hx0 : ev l x0 = some v0) (hx1 : ev l x1 = some v1) (hx2 : ev l x2 = some v2) (hx3 : ev l x3 = some v3) (hx4 : ev l x4 = some v4) : Ent P μ l L ⟨ds, .call { callee := .value (.func f), args := #[x0, x1, x2, x3, x4], argTypes := ts }, ty, pos, af, gd⟩ f #[v0, v1, v2, v3, v4] :=
  fun a w hs => by rw [nF hf rfl]; have e0 := hs.eval hx0; have e1 := hs.eval hx1; have e2 := hs.eval hx2; have e3 := hs.eval hx3; have e4 := hs.eval hx4; simp [e0, e1, e2, e3, e4]
def oH (l : aI) : List (Nat × Operand) → Option (List (Nat × Value))
  | [] => some []
  | (i, x) :: r => match ev l x with
    | some v => match oH l r with
      | some vs => some ((i, v) :: vs)
      | none => none
    | none => none
theorem tO (h : Rd μ l L a w) : ∀ (ps : List (Nat × Operand)) (vs : List (Nat × Value)), oH l ps = some vs → (ps.map fun (i, x) => (i, a.eval x)) = vs
  | [], vs, e => by simp [oH] at e; simp [e]
  | (i, x) :: r, vs, e => by
    unfold oH at e
    cases hx : ev l x with
    | none => simp [hx] at e
    | some v =>
      cases hr : oH l r with
      | none => simp [hx, hr] at e
      | some us =>
        simp [hx, hr] at e
        have := tO h r us hr
        simp only [List.map_cons, h.eval hx, this, e]
def qL (P : Program) : List Field → Option (List (Nat × Nat))
  | [] => some []
  | f :: r => match dR P f.type with
    | some s => match qL P r with
      | some ps => some ((f.offset, s) :: ps)
      | none => none
    | none => none
theorem run_places : ∀ (fs : List Field) (ps : List (Nat × Nat)), qL P fs = some ps → ∀ w : World, (fs.mapM (m := Sem) fun f => Prod.mk f.offset <$> sizeOf f.type).run P w = .ok ps w
  | [], ps, e, w => by simp [qL] at e; simp [← e]
  | f :: r, ps, e, w => by
    unfold qL at e
    cases hs : dR P f.type with
    | none => simp [hs] at e
    | some s =>
      cases hr : qL P r with
      | none => simp [hs, hr] at e
      | some qs =>
        simp [hs, hr] at e
        simp [List.mapM_cons, run_sizeOf hs, run_places r qs hr, e]
def wI (P : Program) (t : TypeId) : Option (List (Nat × Nat)) :=
  match P.underlying t with
  | some (.struct fields) => qL P fields.toList
  | some (.array n e) => match dR P e with
    | some s => some ((List.range n).map fun i => (i * s, s))
    | none => none
  | _ => none
def jF : Value → List Value
  | .agg cs => cs.toList
  | v => [v]
theorem gU (v : Value) : jF v = v.cells.toList := by cases v <;> rfl
def sL (pl : List (Nat × Nat)) : List (Nat × Value) → aI → aI
  | [], acc => acc
  | (i, v) :: r, acc => match pl[i]? with
    | some (off, _) => sL pl r (idx off (jF v) ++ acc)
    | none => sL pl r acc
def qN (pl : List (Nat × Nat)) (n : Nat) : List (Nat × Value) → Bool
  | [] => true
  | (i, v) :: r => (match pl[i]? with | some (off, s) => Nat.beq (jF v).length s && Nat.ble (off + s) n | none => false) && qN pl n r
theorem vO (pl : List (Nat × Nat)) (place : Nat → Option (Nat × Nat)) (hpl : ∀ i x, pl[i]? = some x → place i = some x) : ∀ (us : List (Nat × Value)) (z : Array Value) (acc : aI), qN pl z.size us = true → (∀ j v, lk acc j = some v → z[j]? = some v) →
    ∃ r, Instr.fill place z us = some r ∧ r.size = z.size ∧ ∀ j v, lk (sL pl us acc) j = some v → r[j]? = some v
  | [], z, acc, _, ha => ⟨z, rfl, rfl, ha⟩
  | (i, u) :: us, z, acc, hok, ha => by
    unfold qN at hok
    cases hp : pl[i]? with
    | none => simp [hp] at hok
    | some x =>
      obtain ⟨off, s⟩ := x
      simp only [hp, Bool.and_eq_true] at hok
      obtain ⟨⟨h1, h2⟩, h3⟩ := hok
      have h1' : u.cells.size = s := by
        have := Nat.eq_of_beq_eq_true h1
        rw [gU] at this; simpa using this
      have h2' : off + s ≤ z.size := by simpa using h2
      let z' := u.cells.zipIdx.foldl (fun cs (c, j) => cs.setIfInBounds (off + j) c) z
      have hz' : ∀ k, z'[k]? = if off ≤ k ∧ k < off + s then u.cells[k - off]? else z[k]? := by
        intro k
        have := HF u.cells.toList off 0 z k
        have e : z' = (u.cells.toList.zipIdx 0).foldl (fun (cs : Array Value) (p : Value × Nat) => cs.setIfInBounds (off + p.2) p.1) z := by
          show u.cells.zipIdx.foldl _ z = _
          rw [← Array.foldl_toList]; simp
        rw [e, this]
        simp only [Nat.add_zero, Array.length_toList, h1']
        by_cases hc : off ≤ k ∧ k < off + s
        · rw [if_pos (by omega), if_pos hc]; simp
        · rw [if_neg (by omega), if_neg hc]
      have hzs : z'.size = z.size := by
        have hfs : ∀ (l : List (Value × Nat)) (z : Array Value), (l.foldl (fun (cs : Array Value) (p : Value × Nat) => cs.setIfInBounds (off + p.2) p.1) z).size = z.size := by
          intro l; induction l with
          | nil => intro z; rfl
          | cons p l ih => intro z; simp only [List.foldl_cons]; rw [ih]; simp
        show (u.cells.zipIdx.foldl _ z).size = _
        rw [← Array.foldl_toList]; exact hfs _ _
      obtain ⟨r, r1, r2, r3⟩ := vO pl place hpl us z' (idx off (jF u) ++ acc) (by rw [hzs]; exact h3) (fun j v hj => by
        rw [AW] at hj
        rw [hz' j]
        cases hk : lk (idx off (jF u)) j with
        | some v' =>
          rw [hk] at hj; cases hj
          obtain ⟨g1, g2⟩ := pM _ _ _ _ hk
          rw [gU] at g2
          have g3 : j - off < u.cells.size := by have := (List.getElem?_eq_some_iff.1 g2).1; simpa using this
          rw [if_pos (by omega)]; simpa using g2
        | none =>
          rw [hk] at hj
          have := pL _ _ _ hk
          rw [gU] at this
          simp only [Array.length_toList, h1'] at this
          rw [if_neg (by omega)]; exact ha j v hj)
      refine ⟨r, ?_, by rw [r2, hzs], ?_⟩
      · simp only [Instr.fill, hpl i _ hp]
        rw [if_neg (by simp [h1']; omega)]
        exact r1
      · intro j v hj
        simp only [sL, hp] at hj
        exact r3 j v hj
theorem run_build {t : TypeId} {z : Value} {us : List (Nat × Value)} {pl : List (Nat × Nat)} {n : Nat} (hz : gB P t = some z) (hpl : wI P t = some pl) (hn : z.cells.toList.length = n) (hok : qN pl n us = true) (cs : List Value) (hlen : cs.length = n)
    (hcs : ∀ j v, cs[j]? = some v → lk (sL pl us (idx 0 z.cells.toList)) j = some v) (w : World) : (Instr.build t us.toArray).run P w = .ok (.agg cs.toArray) w := by
  have hzsz : z.cells.size = n := by simpa using hn
  have key : ∀ place : Nat → Option (Nat × Nat), (∀ i x, pl[i]? = some x → place i = some x) → Instr.fill place z.cells us = some cs.toArray := by
    intro place hp
    obtain ⟨r, h1, h2, h3⟩ := vO pl place hp us z.cells (idx 0 z.cells.toList) (by rw [hzsz]; exact hok) (fun j v hj => by
      obtain ⟨_, g⟩ := pM _ _ _ _ hj
      simpa using g)
    rw [h1]
    congr 1
    apply Array.ext_getElem?
    intro j
    by_cases hj : j < n
    · have hc : cs[j]? = some cs[j] := List.getElem?_eq_getElem (by omega)
      rw [h3 j _ (hcs j _ hc)]; simp [hc]
    · rw [Array.getElem?_eq_none (by omega)]; simp; omega
  unfold wI at hpl
  cases hu : P.underlying t with
  | none => simp [hu] at hpl
  | some de =>
    cases de <;> simp [hu] at hpl
    · rename_i m e
      cases hs : dR P e with
      | none => simp [hs] at hpl
      | some s =>
        simp only [hs, Option.some.injEq] at hpl
        have hk := key (fun i => some (i * s, s)) (fun i x hx => by
          rw [← hpl] at hx
          rw [List.getElem?_map] at hx
          cases hr : (List.range m)[i]? with
          | none => simp [hr] at hx
          | some k =>
            obtain ⟨hk1, hk2⟩ := List.getElem?_eq_some_iff.1 hr
            rw [List.getElem_range] at hk2
            subst hk2
            simp [hr] at hx
            simp [hx])
        simp [Instr.build, fZ hz, run_underlying hu, run_sizeOf hs, hk]
    · rename_i fields
      have hm : (fields.mapM (m := Sem) fun f => do pure (f.offset, ← sizeOf f.type)).run P w = .ok pl.toArray w := by
        rw [Array.mapM_eq_mapM_toList]
        simp [run_places _ _ hpl]
      have hk := key (fun i => pl.toArray[i]?) (fun i x hx => by simpa using hx)
      simp only [Instr.build, Sem.run_bind, fZ hz, Result.andThen_ok, run_underlying hu, hm, hk]
      rfl
theorem WN {t s : TypeId} {ps : List (Nat × Operand)} {us : List (Nat × Value)} {z : Value} {vs : List Value} {pl : List (Nat × Nat)} (hsz : dR P t = some s) (hz : gB P t = some z) (hn : (jF z).length = s) (hpl : wI P t = some pl) (hp : oH l ps = some us) (hok : qN pl s us = true)
    (hc : LC (sL pl us (idx 0 (jF z))) 0 s vs) : Val P μ l L ⟨ds, .build t ps.toArray, ty, pos, af, gd⟩ (.agg vs.toArray) :=
  fun a w hs => by
    have e := tO hs ps us hp
    have r := run_build (P := P) hz hpl (by rw [← gU]; exact hn) hok vs hc.len (fun j v hv => by
      rw [← gU]
      simpa using hc.get j v hv) w
    have _ := hsz
    generalize a.eval = ρ at e
    have e2 : (ps.toArray.map fun (i, x) => (i, ρ x)) = us.toArray := by rw [← e]; simp
    simp only [execOp, e2]
    simp only [Sem.run_bind, r, Result.andThen_ok]; rfl
end
end Go.Vcg
set_option maxRecDepth 20000
namespace Go.Vcg
open Go.RowKit
def Sl {α : Type} (enc : α → List Value) (sz : Nat) (μ : Mem) (A : Option Addr) (n : Nat) (l : List α) : Prop :=
  l.length = n ∧ (0 < n → ∃ ad, A = some ad ∧ ∀ i x, l[i]? = some x → cQ μ (ad.add (i * sz)) (enc x))
theorem iF.mono {μ μ' : Mem} {A : Addr} {v : Value} (h : iF μ A v) (hle : MLe μ μ') : iF μ' A v := by
  obtain ⟨c, t, f, h1, h2, h3⟩ := h
  exact ⟨c, t, f, hle _ _ h1, h2, h3⟩
theorem cQ.mono {μ μ' : Mem} {A : Addr} {vs : List Value} (h : cQ μ A vs) (hle : MLe μ μ') : cQ μ' A vs := fun j v hv => (h j v hv).mono hle
theorem Sl.mono {α : Type} {enc : α → List Value} {sz n : Nat} {μ μ' : Mem} {A : Option Addr} {l : List α} (h : Sl enc sz μ A n l) (hle : MLe μ μ') : Sl enc sz μ' A n l :=
  ⟨h.1, fun hn => by
    obtain ⟨ad, e, hc⟩ := h.2 hn
    exact ⟨ad, e, fun i x hx => (hc i x hx).mono hle⟩⟩
theorem cQ.at {μ : Mem} {A : Addr} {k : Nat} {vs : List Value} (h : cQ μ (A.add k) vs) (j : Nat) {v : Value} (hv : vs[j]? = some v) : iF μ (A.add (k + j)) v := by
  have := h j v hv
  rwa [iE] at this
theorem cQ.nil (μ : Mem) (A : Addr) : cQ μ A [] := fun j v h => by simp at h
theorem Sl.nil {α : Type} (enc : α → List Value) (sz : Nat) (μ : Mem) (A : Option Addr) : Sl enc sz μ A 0 [] := ⟨rfl, fun h => absurd h (by omega)⟩
theorem Sl.get {α : Type} {enc : α → List Value} {sz n : Nat} {μ : Mem} {A : Option Addr} {l : List α} (h : Sl enc sz μ A n l) {k : Nat} (hk : k < n) :
    ∃ ad x, A = some ad ∧ l[k]? = some x ∧ cQ μ (ad.add (k * sz)) (enc x) := by
  obtain ⟨ad, e, hc⟩ := h.2 (by omega)
  have hl : k < l.length := by rw [h.1]; exact hk
  exact ⟨ad, l[k], e, List.getElem?_eq_getElem hl, hc k _ (List.getElem?_eq_getElem hl)⟩
abbrev gA (s : ByteArray) : List Value := [.string s]
theorem EC.hd {μc μ : Mem} {x : Bk} {L : List Bk} (h : EC μc μ (x :: L)) : Bk.sh x μc := h.own x (List.Mem.head _)
theorem Blk.cells {x : Blk} {μ : Mem} (h : Bk.sh (.inl x) μ) {k : Nat} {vs : List Value} (hv : ∀ j v, vs[j]? = some v → lk x.cs (k + j) = some v) : cQ μ ((⟨x.b, 0, none⟩ : Addr).add k) vs := by
  obtain ⟨arr, h1, _, h2⟩ := h
  intro j v hj
  rw [iE, add_lit]
  exact ⟨arr, x.t, (0, 0), h1, rfl, by simpa using h2 _ _ (hv j v hj)⟩
theorem Sl.aB1 {α : Type} {enc : α → List Value} {sz n : Nat} {μ : Mem} {l : List α} {x : Blk} (h : Bk.sh (.inl x) μ) (hn : l.length = n) (hv : ∀ i y, l[i]? = some y → ∀ j v, (enc y)[j]? = some v → lk x.cs (i * sz + j) = some v) :
    Sl enc sz μ (some ⟨x.b, 0, none⟩) n l := ⟨hn, fun _ => ⟨_, rfl, fun i y hy => Blk.cells h (fun j v hj => hv i y hy j v hj)⟩⟩
end Go.Vcg
namespace Go.Proofs.YtocidaibmadekaaGreatDoor
end Go.Proofs.YtocidaibmadekaaGreatDoor
