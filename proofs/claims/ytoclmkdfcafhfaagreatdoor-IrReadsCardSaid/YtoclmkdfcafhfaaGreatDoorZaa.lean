/- Rules for walking Go code with an explicit symbolic state: the slots that are known, the memory of the call's own, the shared memory that does not change. -/
import Derived.Test.YtoclmkdfcafhfaaGreatDoorRows
import Derived.WalkKit
import Derived.WalkSpells
import Derived.WalkLawsBesides
import Derived.OrdersHeld
import Derived.Maps.AppendAt
set_option maxRecDepth 20000
namespace Go.Vcg
open Go.RowKit
abbrev Mem := Nat → Option Obj
abbrev aF := List (Nat × Value)
def lk : aF → Nat → Option Value
  | [], _ => none
  | (t, v) :: r, k => bif Nat.beq t k then some v else lk r k
def ev (l : aF) : Operand → Option Value
  | .tmp t => lk l t
  | .const v => some v
  | .global g => some (.pointer (some ⟨g, 0, none⟩))
  | .func f => some (.func (.func f) #[] #[])
structure Blk where
  b : Nat
  t : TypeId
  sz : Nat
  cs : aF
structure Rw where
  v : Value
  e : TypeId
  s : Nat
  n : Nat
  xs : List Value
structure Mp where
  b : Nat
  es : List MapEntry
  ck : Nat
inductive Bk
  | inl (x : Blk)
  | inr (r : Rw)
  | mp (m : Mp)
  | it (b : Nat) (m : Option Nat) (since : Nat) (seen : Array Nat) (c0 : Nat)
def Bk.at : Bk → World → Prop
  | .inl x, w => ∃ arr : Array Value, w.heap[x.b]? = some (.cells arr x.t (0, 0)) ∧ arr.size = x.sz ∧ ∀ i v, lk x.cs i = some v → arr[i]? = some v
  | .inr r, w => w.ownsRow 0 r.e r.s r.v r.n r.xs
  | .mp m, w => w.heap[m.b]? = some (.map m.es.toArray m.ck)
  | .it b m s x c, w => w.heap[b]? = some (.mapIter m s x c)
def Bk.id : Bk → Option Nat
  | .inl x => some x.b
  | .inr r => r.v.ownBlock
  | .mp m => some m.b
  | .it b _ _ _ _ => some b
theorem Bk.lt {x : Bk} {w : World} (h : Bk.at x w) {b : Nat} (hb : Bk.id x = some b) : b < w.heap.size := by
  cases x with
  | inl x =>
    obtain ⟨arr, hh, _⟩ := h
    cases hb
    exact (Array.getElem?_eq_some_iff.1 hh).1
  | inr r =>
    rcases h.2 with ⟨hv, _⟩ | ⟨g, cap, cur, hv, _, hh, _⟩
    · simp [Bk.id, hv, Value.ownBlock] at hb
    · simp [Bk.id, hv, Value.ownBlock] at hb
      subst hb
      exact (Array.getElem?_eq_some_iff.1 hh).1
  | mp m =>
    cases hb
    exact (Array.getElem?_eq_some_iff.1 h).1
  | it b m s x c =>
    cases hb
    exact (Array.getElem?_eq_some_iff.1 h).1
theorem Bk.aT {x : Bk} {w w' : World} (h : Bk.at x w) (hk : ∀ b, Bk.id x = some b → w'.heap[b]? = w.heap[b]?) : Bk.at x w' := by
  cases x with
  | inl x =>
    obtain ⟨arr, hh, h2⟩ := h
    exact ⟨arr, (hk _ rfl).trans hh, h2⟩
  | inr r =>
    refine ⟨h.1, h.2.imp (fun h => h) ?_⟩
    rintro ⟨g, cap, cur, hv, h0, hh, h3⟩
    exact ⟨g, cap, cur, hv, h0, (hk g (by simp [Bk.id, hv, Value.ownBlock])).trans hh, h3⟩
  | mp m => exact (hk _ rfl).trans h
  | it b m s x c => exact (hk _ rfl).trans h
structure Ctx where
  w0 : World
  μ0 : Mem
  M : List Nat
  n : Nat
def MLe (μ μ' : Mem) : Prop := ∀ b o, μ b = some o → μ' b = some o
def MOk (μ : Mem) (w : World) : Prop := ∀ b o, μ b = some o → w.heap[b]? = some o
theorem MLe.refl (μ : Mem) : MLe μ μ := fun _ _ h => h
theorem MLe.trans {μ μ' μ'' : Mem} (h : MLe μ μ') (k : MLe μ' μ'') : MLe μ μ'' := fun b o e => k b o (h b o e)
structure jP (M : List Nat) (w0 w : World) : Prop where
  os : w.os = w0.os
  tape : w.tape = w0.tape
  output : w.output = w0.output
  size : w0.heap.size ≤ w.heap.size
  block : ∀ b, b < w0.heap.size → b ∉ M → w.heap[b]? = w0.heap[b]?
theorem jP.refl (M : List Nat) (w : World) : jP M w w := ⟨rfl, rfl, rfl, Nat.le_refl _, fun _ _ _ => rfl⟩
theorem jP.below {w0 w : World} (h : jP [] w0 w) : Below w0.heap.size w0 w :=
  ⟨h.os, h.tape, h.output, h.size, fun b hb => h.block b hb (by simp)⟩
def Marks (X : Ctx) (μ : Mem) (ds : List Deferred) : Prop :=
  ∃ Ds : List Nat, ds = Ds.map (fun D => { target := .collected D, args := #[] }) ∧ Ds.Nodup ∧ ∀ D ∈ Ds, 2 ≤ X.M.count D ∧ X.w0.heap.size ≤ D ∧ μ D = some (.deferred (some []))
theorem Marks.nil {X : Ctx} {μ : Mem} : Marks X μ [] := ⟨[], rfl, List.nodup_nil, by simp⟩
theorem Marks.mono {X : Ctx} {μ μ' : Mem} {ds : List Deferred} (h : Marks X μ ds) (hle : MLe μ μ') : Marks X μ' ds := by
  obtain ⟨Ds, h1, h2, h3⟩ := h
  exact ⟨Ds, h1, h2, fun D hD => ⟨(h3 D hD).1, (h3 D hD).2.1, hle _ _ (h3 D hD).2.2⟩⟩
theorem Marks.none {X : Ctx} {μ : Mem} {ds : List Deferred} (h : Marks X μ ds) (hM : ∀ D, X.M.count D ≤ 1) : ds = [] := by
  obtain ⟨Ds, h1, h2, h3⟩ := h
  cases Ds with
  | nil => exact h1
  | cons D r =>
    have h4 := (h3 D (by simp)).1
    have h5 := hM D
    omega
structure St (X : Ctx) (μ : Mem) (l : aF) (L : List Bk) (a : Act) (w : World) : Prop where
  size : a.tmps.size = X.n
  defers : Marks X μ a.defers
  slots : ∀ t v, lk l t = some v → a.tmps[t]? = some v
  aT : jP X.M X.w0 w
  mem : MOk μ w
  from0 : MLe X.μ0 μ
  fresh : ∀ b, b < X.w0.heap.size → b ∉ X.M → X.μ0 b = none → μ b = none
  own : ∀ x ∈ L, Bk.at x w
  priv : ∀ x ∈ L, ∀ b, Bk.id x = some b → μ b = none
  new : ∀ x ∈ L, ∀ b, Bk.id x = some b → b ∈ X.M ∨ X.w0.heap.size ≤ b
  diff : L.Pairwise (fun x y => ∀ b, Bk.id x = some b → Bk.id y ≠ some b)
structure Rd (μ : Mem) (l : aF) (L : List Bk) (a : Act) (w : World) : Prop where
  slots : ∀ t v, lk l t = some v → a.tmps[t]? = some v
  mem : MOk μ w
  own : ∀ x ∈ L, Bk.at x w
theorem St.rd {X : Ctx} {μ : Mem} {l : aF} {L : List Bk} {a : Act} {w : World} (h : St X μ l L a w) : Rd μ l L a w := ⟨h.slots, h.mem, h.own⟩
theorem Rd.eval {μ : Mem} {l : aF} {L : List Bk} {a : Act} {w : World} (h : Rd μ l L a w) {x : Operand} {v : Value} (hx : ev l x = some v) : a.eval x = v := by
  cases x with
  | tmp t =>
    have := h.slots t v hx
    simp [Act.eval, this]
  | const u => simpa [ev, Act.eval] using hx
  | global g => simpa [ev, Act.eval] using hx
  | func f => simpa [ev, Act.eval] using hx
theorem St.eval {X : Ctx} {μ : Mem} {l : aF} {L : List Bk} {a : Act} {w : World} (h : St X μ l L a w) {x : Operand} {v : Value} (hx : ev l x = some v) : a.eval x = v := by
  cases x with
  | tmp t =>
    have := h.slots t v hx
    simp [Act.eval, this]
  | const u => simpa [ev, Act.eval] using hx
  | global g => simpa [ev, Act.eval] using hx
  | func f => simpa [ev, Act.eval] using hx
theorem St.put {X : Ctx} {μ : Mem} {l : aF} {L : List Bk} {a : Act} {w : World} (h : St X μ l L a w) {d : Nat} (hd : Nat.blt d X.n = true) (v : Value) :
    St X μ ((d, v) :: l) L (a.put (some d) v) w := by
  have hd' : d < X.n := by simp [Nat.blt] at hd; omega
  refine ⟨by simp [Act.put, h.size], h.defers, fun t u hu => ?_, h.aT, h.mem, h.from0, h.fresh, h.own, h.priv, h.new, h.diff⟩
  simp only [Act.put]
  by_cases e : d = t
  · subst e
    have : lk ((d, v) :: l) d = some v := by simp [lk]
    rw [this] at hu
    cases hu
    rw [Array.getElem?_setIfInBounds_self_of_lt (by rw [h.size]; exact hd')]
  · have h2 : lk ((d, v) :: l) t = lk l t := by
      have : Nat.beq d t = false := by cases h' : Nat.beq d t with
        | false => rfl
        | true => exact absurd (Nat.eq_of_beq_eq_true h') e
      simp [lk, this]
    rw [h2] at hu
    rw [Array.getElem?_setIfInBounds_ne e]
    exact h.slots t u hu
theorem St.IV {X : Ctx} {μ : Mem} {l : aF} {L : List Bk} {a : Act} {w : World} (h : St X μ l L a w) (v : Value) : St X μ l L (a.put none v) w := h
def G (P : Program) (X : Ctx) (ops : Array Oper) (Q : Exit → Act → World → Prop) (rest : List Oper) (μ : Mem) (l : aF) (L : List Bk) : Prop :=
  ∀ a w, St X μ l L a w → wpList P ops Q rest a w
def GC (P : Program) (X : Ctx) (c : Code) (Q : Exit → Act → World → Prop) (μ : Mem) (l : aF) (L : List Bk) : Prop :=
  ∀ a w, St X μ l L a w → c.wp P Q a w
def GQ (X : Ctx) (Q : Exit → Act → World → Prop) (e : Exit) (μ : Mem) (l : aF) (L : List Bk) : Prop :=
  ∀ a w, St X μ l L a w → Q e a w
section code
variable {P : Program} {X : Ctx} {Q : Exit → Act → World → Prop} {μ : Mem} {l : aF} {L : List Bk}
theorem tU {x y : Code} (h : GC P X x (Exit.then (y.wp P Q) Q) μ l L) : GC P X (.seq x y) Q μ l L := fun a w hs => wp_seq (h a w hs)
theorem aCu (h : GQ X Q .normal μ l L) : GC P X .skip Q μ l L := fun a w hs => wp_skip (h a w hs)
theorem aCv {id : Nat} (h : GQ X Q (.exit id) μ l L) : GC P X (.exit id) Q μ l L := fun a w hs => wp_exit (h a w hs)
theorem aE8 (h : GQ X Q .ret μ l L) : GC P X .ret Q μ l L := fun a w hs => wp_ret (h a w hs)
theorem aAi {id : Nat} {c : Code} (h : GC P X c (Exit.inBlock id Q) μ l L) : GC P X (.block id c) Q μ l L := fun a w hs => wp_block (h a w hs)
theorem WO {id : Nat} {ops : List Oper} (h : G P X ops.toArray Q ops μ l L) : GC P X (.region id ops.toArray false) Q μ l L := fun a w hs => wp_region_lit (h a w hs)
theorem aGu {ops : Array Oper} (h : GQ X Q .normal μ l L) : G P X ops Q [] μ l L := fun a w hs => h a w hs
theorem GK {c : Operand} {x y : Code} {b : Bool} (hc : ev l c = some (.bool b)) (ht : b = true → GC P X x Q μ l L) (hf : b = false → GC P X y Q μ l L) :
    GC P X (.cond c x y) Q μ l L := fun a w hs =>
  wp_cond_split (hs.eval hc) (fun h => ht h a w hs) (fun h => hf h a w hs)
theorem TN {y : Code} (h : GC P X y Q μ l L) : GQ X (Exit.then (y.wp P Q) Q) .normal μ l L := h
theorem GH {K : Act → World → Prop} {i : Nat} (h : GQ X Q (.exit i) μ l L) : GQ X (Exit.then K Q) (.exit i) μ l L := h
theorem KY {K : Act → World → Prop} (h : GQ X Q .ret μ l L) : GQ X (Exit.then K Q) .ret μ l L := h
theorem uX {i : Nat} (h : GQ X Q .normal μ l L) : GQ X (Exit.inBlock i Q) .normal μ l L := h
theorem GI {i : Nat} (h : GQ X Q .ret μ l L) : GQ X (Exit.inBlock i Q) .ret μ l L := h
theorem AG {i : Nat} (h : GQ X Q .normal μ l L) : GQ X (Exit.inBlock i Q) (.exit i) μ l L := fun a w hs => by
  show (if i = i then _ else _); rw [if_pos rfl]; exact h a w hs
theorem yV {i j : Nat} (hij : Nat.beq j i = false) (h : GQ X Q (.exit j) μ l L) : GQ X (Exit.inBlock i Q) (.exit j) μ l L := fun a w hs => by
  show (if j = i then _ else _); rw [if_neg (Nat.ne_of_beq_eq_false hij)]; exact h a w hs
def aBe (X : Ctx) {ι : Type} (J : ι → Prop) (m : ι → Nat) (μs : ι → Mem) (ls : ι → aF) (Ls : ι → List Bk) (i : ι) (a : Act) (w : World) : Prop :=
  ∃ j, J j ∧ m j < m i ∧ St X (μs j) (ls j) (Ls j) a w
theorem aX {c : Code} {ι : Type} (J : ι → Prop) (m : ι → Nat) (μs : ι → Mem) (ls : ι → aF) (Ls : ι → List Bk) (i0 : ι) (h0 : J i0)
    (hs0 : ∀ a w, St X μ l L a w → St X (μs i0) (ls i0) (Ls i0) a w)
    (round : ∀ i, J i → GC P X c (Exit.then (aBe X J m μs ls Ls i) Q) (μs i) (ls i) (Ls i)) : GC P X (.loop c) Q μ l L := by
  intro a w hs b k cs
  have key : ∀ n i a w, m i = n → J i → St X (μs i) (ls i) (Ls i) a w →
      ∃ e a' w', Q e a' w' ∧ Arrives P (lone (b.at a (.code c :: .inLoop c :: k)) cs w) b k cs e a' w' := by
    intro n
    induction n using Nat.strongRecOn with
    | _ n ih =>
      intro i a w hn hJ hst
      obtain ⟨e, a₁, w₁, hq, harr⟩ := round i hJ a w hst b (.inLoop c :: k) cs
      cases e with
      | normal =>
        obtain ⟨j, hJj, hlt, hstj⟩ := hq
        obtain ⟨e₂, a₂, w₂, hq₂, harr₂⟩ := ih (m j) (hn ▸ hlt) j a₁ w₁ rfl hJj hstj
        exact ⟨e₂, a₂, w₂, hq₂, .of_steps (Steps.trans harr (.one step_inLoop)) harr₂⟩
      | exit id => exact ⟨_, a₁, w₁, hq, .pass (x := .inLoop c) rfl (fun _ _ => .inl (by simp)) harr⟩
      | goto l => exact ⟨_, a₁, w₁, hq, .pass (x := .inLoop c) rfl (fun _ _ => .inl (by simp)) harr⟩
      | ret => exact ⟨_, a₁, w₁, hq, .pass (x := .inLoop c) rfl (fun _ _ => .inl (by simp)) harr⟩
      | panic ch => exact ⟨_, a₁, w₁, hq, .pass (x := .inLoop c) rfl (fun _ _ => .inl (by simp)) harr⟩
      | outgrown => exact ⟨_, a₁, w₁, hq, .pass (x := .inLoop c) rfl (fun _ _ => .inl (by simp)) harr⟩
  obtain ⟨e, a', w', hq, harr⟩ := key _ i0 a w rfl h0 (hs0 a w hs)
  exact ⟨e, a', w', hq, .of_steps (.one step_loop) harr⟩
def lH (l' l : aF) : Prop := ∀ t v, lk l' t = some v → lk l t = some v
theorem dZ {l : aF} : lH [] l := fun t v h => by simp [lk] at h
theorem dT {t : Nat} {v : Value} {r l : aF} (h : lk l t = some v) (hr : lH r l) : lH ((t, v) :: r) l := fun k u hu => by
  by_cases e : t = k
  · subst e
    simp [lk] at hu
    subst hu; exact h
  · have : Nat.beq t k = false := by cases h' : Nat.beq t k with
        | false => rfl
        | true => exact absurd (Nat.eq_of_beq_eq_true h') e
    simp [lk, this] at hu
    exact hr k u hu
theorem St.sub {X : Ctx} {μ : Mem} {l l' : aF} {L L' : List Bk} {a : Act} {w : World} (h : St X μ l L a w) (hl : lH l' l) (hL : L'.Sublist L) : St X μ l' L' a w :=
  ⟨h.size, h.defers, fun t v hv => h.slots t v (hl t v hv), h.aT, h.mem, h.from0, h.fresh, fun x hx => h.own x (hL.subset hx), fun x hx => h.priv x (hL.subset hx), fun x hx => h.new x (hL.subset hx), h.diff.sublist hL⟩
theorem lS {ι : Type} {J : ι → Prop} {m : ι → Nat} {μs : ι → Mem} {ls : ι → aF} {Ls : ι → List Bk} {i : ι} (j : ι) (hJ : J j) (hm : m j < m i) (hμ : μs j = μ) (hl : lH (ls j) l) (hL : (Ls j).Sublist L) :
    GQ X (Exit.then (aBe X J m μs ls Ls i) Q) .normal μ l L := fun a w hs => ⟨j, hJ, hm, by rw [hμ]; exact hs.sub hl hL⟩
end code
def dH (ops : Array Oper) (l : aF) (o : Oper) : Option Bool :=
  match o.guard with
  | none => some true
  | some (g, want) =>
    match ((ops[g]?).bind (·.dst)).bind (lk l ·) with
    | some (.bool b) => some (b == want)
    | some _ => some false
    | none => none
section ops
variable {P : Program} {X : Ctx} {ops : Array Oper} {Q : Exit → Act → World → Prop} {rest : List Oper} {μ : Mem} {l : aF} {L : List Bk} {a : Act} {w : World} {o : Oper}
theorem St.wanted (h : St X μ l L a w) {b : Bool} (hw : dH ops l o = some b) : Region.wanted o (yielded ops a.tmps) = b := by
  unfold dH at hw
  unfold Region.wanted
  cases hg : o.guard with
  | none => simp [hg] at hw; simp [hw]
  | some gw =>
    obtain ⟨g, want⟩ := gw
    simp only [hg] at hw ⊢
    cases hd : (ops[g]?).bind (·.dst) with
    | none => simp [hd] at hw
    | some t =>
      simp only [hd, Option.bind_some] at hw
      cases hl : lk l t with
      | none => simp [hl] at hw
      | some u =>
        rw [hl] at hw
        have := h.slots t _ hl
        cases u <;> simp at hw <;> simp [yielded, hd, this, ← hw]
theorem aFa {d : Nat} (hd : o.dst = some d) (hn : Nat.blt d X.n = true) (hw : dH ops l o = some false) (h : G P X ops Q rest μ ((d, undef) :: l) L) : G P X ops Q (o :: rest) μ l L := by
  intro a w hs
  unfold wpList
  rw [if_neg (by rw [hs.wanted hw]; simp), hd]
  exact h _ _ (hs.put hn _)
theorem qG (hw : dH ops l o = some true) (h : ∀ a w, St X μ l L a w → o.wp P a w (wpList P ops Q rest) Q) : G P X ops Q (o :: rest) μ l L := by
  intro a w hs
  unfold wpList
  rw [if_pos (hs.wanted hw)]
  exact .inl (h a w hs)
def Val (P : Program) (μ : Mem) (l : aF) (L : List Bk) (o : Oper) (v : Value) : Prop := ∀ a w, Rd μ l L a w → (execOp a.eval o).run P w = .ok (.value v) w
def Ent (P : Program) (μ : Mem) (l : aF) (L : List Bk) (o : Oper) (f : FuncId) (vs : Array Value) : Prop := ∀ a w, Rd μ l L a w → (execOp a.eval o).run P w = .ok (.enter f vs) w
def Alc (P : Program) (μ : Mem) (l : aF) (L : List Bk) (o : Oper) (v : Nat → Value) (t : TypeId) (cs : List Value) : Prop :=
  ∀ a w, Rd μ l L a w → (execOp a.eval o).run P w = .ok (.value (v w.heap.size)) (w.alloc (.cells cs.toArray t))
theorem TQ {d : Nat} {v : Value} (hd : o.dst = some d) (hn : Nat.blt d X.n = true) (hw : dH ops l o = some true)
    (hr : Val P μ l L o v) (h : G P X ops Q rest μ ((d, v) :: l) L) : G P X ops Q (o :: rest) μ l L :=
  qG hw fun a w hs => by
    unfold Oper.wp
    rw [hr a w hs.rd, Oper.upon_value, hd]
    exact h _ _ (hs.put hn _)
theorem aC1 {t : Nat} {b : Bool} (hl : lk l t = some (.bool b)) (ht : b = true → G P X ops Q rest μ ((t, .bool true) :: l) L) (hf : b = false → G P X ops Q rest μ ((t, .bool false) :: l) L) : G P X ops Q rest μ l L := by
  intro a w hs
  have hsz := hs.slots t _ hl
  have hn : Nat.blt t X.n = true := by
    have := (Array.getElem?_eq_some_iff.1 hsz).1
    rw [hs.size] at this
    simp [Nat.blt]; omega
  have he : a.put (some t) (.bool b) = a := by
    cases a; simp only [Act.put, Act.mk.injEq, and_true] at *
    exact Array.ext_getElem? fun i => by
      by_cases e : t = i
      · subst e
        rw [Array.getElem?_setIfInBounds_self_of_lt (Array.getElem?_eq_some_iff.1 hsz).1, hsz]
      · rw [Array.getElem?_setIfInBounds_ne e]
  have hp := hs.put hn (.bool b)
  rw [he] at hp
  cases b
  · exact hf rfl a w hp
  · exact ht rfl a w hp
def qA (ops : Array Oper) (o : Oper) : Option Nat := o.guard.bind fun g => (ops[g.1]?).bind (·.dst)
def zT (_ : Bool) : Prop := True
theorem aGl (b : Bool) : zT b := trivial
theorem aC3 {t : Nat} {b : Bool} (_hg : qA ops o = some t) (hl : lk l t = some (.bool b)) (_hb : zT b) (ht : b = true → G P X ops Q (o :: rest) μ ((t, .bool true) :: l) L)
    (hf : b = false → G P X ops Q (o :: rest) μ ((t, .bool false) :: l) L) : G P X ops Q (o :: rest) μ l L := aC1 hl ht hf
def mW : List Oper → Nat → Option Oper
  | [], _ => none
  | x :: _, 0 => some x
  | _ :: r, i + 1 => mW r i
theorem SU : ∀ (l : List Oper) (i : Nat), mW l i = l[i]?
  | [], _ => by simp [mW]
  | x :: r, 0 => by simp [mW]
  | x :: r, i + 1 => by simp [mW, SU r i]
def cO : List Bk → Nat → Option Bk
  | [], _ => none
  | x :: _, 0 => some x
  | _ :: r, i + 1 => cO r i
def dY : List Bk → Nat → Bk → List Bk
  | [], _, _ => []
  | _ :: r, 0, y => y :: r
  | x :: r, i + 1, y => x :: dY r i y
theorem bP {x : Bk} : ∀ {L : List Bk} {i : Nat}, cO L i = some x → x ∈ L
  | [], _, h => by simp [cO] at h
  | y :: r, 0, h => by simp [cO] at h; simp [h]
  | y :: r, i + 1, h => List.mem_cons_of_mem _ (bP (i := i) (by simpa [cO] using h))
theorem Rd.cell (h : Rd μ l L a w) {x : Blk} (hx : .inl x ∈ L) {i : Nat} {v : Value} (hv : lk x.cs i = some v) : w.cell? ⟨x.b, i, none⟩ = some v := by
  obtain ⟨arr, hh, _, ha⟩ := h.own _ hx
  simp [World.cell?, hh, ha i v hv]
def oD (μ : Mem) (A : Addr) (v : Value) : Prop := ∃ c t f, μ A.block = some (.cells c t f) ∧ A.spot = none ∧ c[A.off]? = some v
def gI (μ : Mem) (A : Addr) (vs : List Value) : Prop := ∀ j v, vs[j]? = some v → oD μ (A.add j) v
theorem Rd.ZR (h : Rd μ l L a w) {A : Addr} {v : Value} (hm : oD μ A v) : w.cell? A = some v := by
  obtain ⟨c, t, f, h1, h2, h3⟩ := hm
  simp [World.cell?, h.mem _ _ h1, h2, h3]
def eU (P : Program) (t : TypeId) : Option Bool :=
  match P.underlying t with
  | some (.struct _) => some true
  | some (.array _ _) => some true
  | some _ => some false
  | none => none
def qL {α : Type} (x : Nat) (k : Nat → α) : α := match x with
  | 0 => k 0 | 1 => k 1 | 2 => k 2 | 3 => k 3 | 4 => k 4 | 5 => k 5 | 6 => k 6 | 7 => k 7 | 8 => k 8 | 9 => k 9 | 10 => k 10 | 11 => k 11 | 12 => k 12 | 13 => k 13 | 14 => k 14 | 15 => k 15 | 16 => k 16 | 17 => k 17 | 18 => k 18 | 19 => k 19 | 20 => k 20 | 21 => k 21 | 22 => k 22 | 23 => k 23 | 24 => k 24 | 25 => k 25 | 26 => k 26 | 27 => k 27 | 28 => k 28 | 29 => k 29 | 30 => k 30 | 31 => k 31 | 32 => k 32 | 33 => k 33 | 34 => k 34 | 35 => k 35 | 36 => k 36 | 37 => k 37 | 38 => k 38 | 39 => k 39 | 40 => k 40 | 41 => k 41 | 42 => k 42 | 43 => k 43 | 44 => k 44 | 45 => k 45 | 46 => k 46 | 47 => k 47 | 48 => k 48 | n + 49 => k (n + 49)
theorem eR {α : Type} (x : Nat) (k : Nat → α) : qL x k = k x := by
  unfold qL; split <;> rfl
def bA (P : Program) (t : TypeId) : Option Nat := match P.info? t with | some i => qL i.size some | none => none
def cH (P : Program) (t : TypeId) : Option Value := (P.info? t).bind (·.zero)
theorem cI {b : Bool} {t : TypeId} (h : eU P t = some b) (w : World) : (isAgg t).run P w = .ok b w := by
  unfold eU at h
  cases hu : P.underlying t with
  | none => simp [hu] at h
  | some d => cases d <;> simp [hu] at h <;> simp [isAgg, run_underlying hu, h]
theorem run_sizeOf {t : TypeId} {n : Nat} (h : bA P t = some n) (w : World) : (sizeOf t).run P w = .ok n w := by
  unfold bA at h
  cases hi : P.info? t with
  | none => simp [hi] at h
  | some i => simp [hi, eR] at h; simp [sizeOf, typeInfo, hi, h]
theorem aK {t : TypeId} {v : Value} (h : cH P t = some v) (w : World) : (zeroValue t).run P w = .ok v w := by
  unfold cH at h
  cases hi : P.info? t with
  | none => simp [hi] at h
  | some i => simp [hi] at h; simp [zeroValue, typeInfo, hi, h]
theorem fB {t : TypeId} {A : Addr} {v : Value} (hag : eU P t = some false) (hc : w.cell? A = some v) : (Instr.loadAt t (.pointer (some A))).run P w = .ok v w := by
  simp [Instr.loadAt, Instr.sureAddr, loadVar, cI hag, hc]
theorem jV {t : TypeId} {A : Addr} (vs : List Value) (hag : eU P t = some true) (hsz : bA P t = some vs.length) (hc : ∀ j v, vs[j]? = some v → w.cell? (A.add j) = some v) :
    (Instr.loadAt t (.pointer (some A))).run P w = .ok (.agg vs.toArray) w := by
  simp [Instr.loadAt, Instr.sureAddr, loadVar, cI hag, run_sizeOf hsz, run_loadCells_list w A vs hc]
end ops
end Go.Vcg
namespace Go.Proofs.YtoclmkdfcafhfaaGreatDoor
end Go.Proofs.YtoclmkdfcafhfaaGreatDoor
