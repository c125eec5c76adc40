/- Rules for walking Go code with an explicit symbolic state: the slots that are known, the memory of the call's own, the shared memory that does not change. (and what leans on it). No statement of the seat is proved here. -/
import Derived.Test.YtfabmichdhbiaaaGreatDoorRows
import Derived.WalkKit
import Derived.WalkSpells
import Derived.WalkLawsBesides
import Derived.OrdersHeld
import Derived.Maps.AppendAt
set_option maxRecDepth 20000
namespace Go.Vcg
open Go.RowKit
abbrev Mem := Nat → Option Obj
abbrev Slots := List (Nat × Value)
def lk : Slots → Nat → Option Value
  | [], _ => none
  | (t, v) :: r, k => bif Nat.beq t k then some v else lk r k
def ev (l : Slots) : Operand → Option Value
  | .tmp t => lk l t
  | .const v => some v
  | .global g => some (.pointer (some ⟨g, 0, none⟩))
  | .func f => some (.func (.func f) #[] #[])
structure Blk where
  b : Nat
  t : TypeId
  sz : Nat
  cs : Slots
structure Rw where
  v : Value
  e : TypeId
  s : Nat
  n : Nat
  xs : List Value
structure Mp where
  b : Nat
  es : List MapEntry
  ck : Nat
inductive Bk
  | inl (x : Blk)
  | inr (r : Rw)
  | mp (m : Mp)
  | it (b : Nat) (m : Option Nat) (since : Nat) (seen : Array Nat) (c0 : Nat)
def Bk.at : Bk → World → Prop
  | .inl x, w => ∃ arr : Array Value, w.heap[x.b]? = some (.cells arr x.t (0, 0)) ∧ arr.size = x.sz ∧ ∀ i v, lk x.cs i = some v → arr[i]? = some v
  | .inr r, w => w.ownsRow 0 r.e r.s r.v r.n r.xs
  | .mp m, w => w.heap[m.b]? = some (.map m.es.toArray m.ck)
  | .it b m s x c, w => w.heap[b]? = some (.mapIter m s x c)
def Bk.id : Bk → Option Nat
  | .inl x => some x.b
  | .inr r => r.v.ownBlock
  | .mp m => some m.b
  | .it b _ _ _ _ => some b
theorem Bk.lt {x : Bk} {w : World} (h : Bk.at x w) {b : Nat} (hb : Bk.id x = some b) : b < w.heap.size := by
  cases x with
  | inl x =>
    obtain ⟨arr, hh, _⟩ := h
    cases hb
    exact (Array.getElem?_eq_some_iff.1 hh).1
  | inr r =>
    rcases h.2 with ⟨hv, _⟩ | ⟨g, cap, cur, hv, _, hh, _⟩
    · simp [Bk.id, hv, Value.ownBlock] at hb
    · simp [Bk.id, hv, Value.ownBlock] at hb
      subst hb
      exact (Array.getElem?_eq_some_iff.1 hh).1
  | mp m =>
    cases hb
    exact (Array.getElem?_eq_some_iff.1 h).1
  | it b m s x c =>
    cases hb
    exact (Array.getElem?_eq_some_iff.1 h).1
theorem Bk.keep {x : Bk} {w w' : World} (h : Bk.at x w) (hk : ∀ b, Bk.id x = some b → w'.heap[b]? = w.heap[b]?) : Bk.at x w' := by
  cases x with
  | inl x =>
    obtain ⟨arr, hh, h2⟩ := h
    exact ⟨arr, (hk _ rfl).trans hh, h2⟩
  | inr r =>
    refine ⟨h.1, h.2.imp (fun h => h) ?_⟩
    rintro ⟨g, cap, cur, hv, h0, hh, h3⟩
    exact ⟨g, cap, cur, hv, h0, (hk g (by simp [Bk.id, hv, Value.ownBlock])).trans hh, h3⟩
  | mp m => exact (hk _ rfl).trans h
  | it b m s x c => exact (hk _ rfl).trans h
structure Ctx where
  w0 : World
  μ0 : Mem
  M : List Nat
  n : Nat
def MLe (μ μ' : Mem) : Prop := ∀ b o, μ b = some o → μ' b = some o
def MOk (μ : Mem) (w : World) : Prop := ∀ b o, μ b = some o → w.heap[b]? = some o
theorem MLe.refl (μ : Mem) : MLe μ μ := fun _ _ h => h
theorem MLe.trans {μ μ' μ'' : Mem} (h : MLe μ μ') (k : MLe μ' μ'') : MLe μ μ'' := fun b o e => k b o (h b o e)
structure Keep (M : List Nat) (w0 w : World) : Prop where
  os : w.os = w0.os
  tape : w.tape = w0.tape
  output : w.output = w0.output
  size : w0.heap.size ≤ w.heap.size
  block : ∀ b, b < w0.heap.size → b ∉ M → w.heap[b]? = w0.heap[b]?
theorem Keep.refl (M : List Nat) (w : World) : Keep M w w := ⟨rfl, rfl, rfl, Nat.le_refl _, fun _ _ _ => rfl⟩
theorem Keep.below {w0 w : World} (h : Keep [] w0 w) : Below w0.heap.size w0 w :=
  ⟨h.os, h.tape, h.output, h.size, fun b hb => h.block b hb (by simp)⟩
def Marks (X : Ctx) (μ : Mem) (ds : List Deferred) : Prop :=
  ∃ Ds : List Nat, ds = Ds.map (fun D => { target := .collected D, args := #[] }) ∧ Ds.Nodup ∧ ∀ D ∈ Ds, 2 ≤ X.M.count D ∧ X.w0.heap.size ≤ D ∧ μ D = some (.deferred (some []))
theorem Marks.nil {X : Ctx} {μ : Mem} : Marks X μ [] := ⟨[], rfl, List.nodup_nil, by simp⟩
theorem Marks.mono {X : Ctx} {μ μ' : Mem} {ds : List Deferred} (h : Marks X μ ds) (hle : MLe μ μ') : Marks X μ' ds := by
  obtain ⟨Ds, h1, h2, h3⟩ := h
  exact ⟨Ds, h1, h2, fun D hD => ⟨(h3 D hD).1, (h3 D hD).2.1, hle _ _ (h3 D hD).2.2⟩⟩
theorem Marks.none {X : Ctx} {μ : Mem} {ds : List Deferred} (h : Marks X μ ds) (hM : ∀ D, X.M.count D ≤ 1) : ds = [] := by
  obtain ⟨Ds, h1, h2, h3⟩ := h
  cases Ds with
  | nil => exact h1
  | cons D r =>
    have h4 := (h3 D (by simp)).1
    have h5 := hM D
    omega
structure St (X : Ctx) (μ : Mem) (l : Slots) (L : List Bk) (a : Act) (w : World) : Prop where
  size : a.tmps.size = X.n
  defers : Marks X μ a.defers
  slots : ∀ t v, lk l t = some v → a.tmps[t]? = some v
  keep : Keep X.M X.w0 w
  mem : MOk μ w
  from0 : MLe X.μ0 μ
  fresh : ∀ b, b < X.w0.heap.size → b ∉ X.M → X.μ0 b = none → μ b = none
  own : ∀ x ∈ L, Bk.at x w
  priv : ∀ x ∈ L, ∀ b, Bk.id x = some b → μ b = none
  new : ∀ x ∈ L, ∀ b, Bk.id x = some b → b ∈ X.M ∨ X.w0.heap.size ≤ b
  diff : L.Pairwise (fun x y => ∀ b, Bk.id x = some b → Bk.id y ≠ some b)
structure Rd (μ : Mem) (l : Slots) (L : List Bk) (a : Act) (w : World) : Prop where
  slots : ∀ t v, lk l t = some v → a.tmps[t]? = some v
  mem : MOk μ w
  own : ∀ x ∈ L, Bk.at x w
theorem St.rd {X : Ctx} {μ : Mem} {l : Slots} {L : List Bk} {a : Act} {w : World} (h : St X μ l L a w) : Rd μ l L a w := ⟨h.slots, h.mem, h.own⟩
theorem Rd.eval {μ : Mem} {l : Slots} {L : List Bk} {a : Act} {w : World} (h : Rd μ l L a w) {x : Operand} {v : Value} (hx : ev l x = some v) : a.eval x = v := by
  cases x with
  | tmp t =>
    have := h.slots t v hx
    simp [Act.eval, this]
  | const u => simpa [ev, Act.eval] using hx
  | global g => simpa [ev, Act.eval] using hx
  | func f => simpa [ev, Act.eval] using hx
theorem St.eval {X : Ctx} {μ : Mem} {l : Slots} {L : List Bk} {a : Act} {w : World} (h : St X μ l L a w) {x : Operand} {v : Value} (hx : ev l x = some v) : a.eval x = v := by
  cases x with
  | tmp t =>
    have := h.slots t v hx
    simp [Act.eval, this]
  | const u => simpa [ev, Act.eval] using hx
  | global g => simpa [ev, Act.eval] using hx
  | func f => simpa [ev, Act.eval] using hx
theorem St.put {X : Ctx} {μ : Mem} {l : Slots} {L : List Bk} {a : Act} {w : World} (h : St X μ l L a w) {d : Nat} (hd : Nat.blt d X.n = true) (v : Value) :
    St X μ ((d, v) :: l) L (a.put (some d) v) w := by
  have hd' : d < X.n := by simp [Nat.blt] at hd; omega
  refine ⟨by simp [Act.put, h.size], h.defers, fun t u hu => ?_, h.keep, h.mem, h.from0, h.fresh, h.own, h.priv, h.new, h.diff⟩
  simp only [Act.put]
  by_cases e : d = t
  · subst e
    have : lk ((d, v) :: l) d = some v := by simp [lk]
    rw [this] at hu
    cases hu
    rw [Array.getElem?_setIfInBounds_self_of_lt (by rw [h.size]; exact hd')]
  · have h2 : lk ((d, v) :: l) t = lk l t := by
      have : Nat.beq d t = false := by cases h' : Nat.beq d t with
        | false => rfl
        | true => exact absurd (Nat.eq_of_beq_eq_true h') e
      simp [lk, this]
    rw [h2] at hu
    rw [Array.getElem?_setIfInBounds_ne e]
    exact h.slots t u hu
theorem St.put_none {X : Ctx} {μ : Mem} {l : Slots} {L : List Bk} {a : Act} {w : World} (h : St X μ l L a w) (v : Value) : St X μ l L (a.put none v) w := h
def G (P : Program) (X : Ctx) (ops : Array Oper) (Q : Exit → Act → World → Prop) (rest : List Oper) (μ : Mem) (l : Slots) (L : List Bk) : Prop :=
  ∀ a w, St X μ l L a w → wpList P ops Q rest a w
def GC (P : Program) (X : Ctx) (c : Code) (Q : Exit → Act → World → Prop) (μ : Mem) (l : Slots) (L : List Bk) : Prop :=
  ∀ a w, St X μ l L a w → c.wp P Q a w
def GQ (X : Ctx) (Q : Exit → Act → World → Prop) (e : Exit) (μ : Mem) (l : Slots) (L : List Bk) : Prop :=
  ∀ a w, St X μ l L a w → Q e a w
section code
variable {P : Program} {X : Ctx} {Q : Exit → Act → World → Prop} {μ : Mem} {l : Slots} {L : List Bk}
theorem gc_seq {x y : Code} (h : GC P X x (Exit.then (y.wp P Q) Q) μ l L) : GC P X (.seq x y) Q μ l L := fun a w hs => wp_seq (h a w hs)
theorem gc_skip (h : GQ X Q .normal μ l L) : GC P X .skip Q μ l L := fun a w hs => wp_skip (h a w hs)
theorem gc_exit {id : Nat} (h : GQ X Q (.exit id) μ l L) : GC P X (.exit id) Q μ l L := fun a w hs => wp_exit (h a w hs)
theorem gc_ret (h : GQ X Q .ret μ l L) : GC P X .ret Q μ l L := fun a w hs => wp_ret (h a w hs)
theorem gc_block {id : Nat} {c : Code} (h : GC P X c (Exit.inBlock id Q) μ l L) : GC P X (.block id c) Q μ l L := fun a w hs => wp_block (h a w hs)
theorem gc_region {id : Nat} {ops : List Oper} (h : G P X ops.toArray Q ops μ l L) : GC P X (.region id ops.toArray false) Q μ l L := fun a w hs => wp_region_lit (h a w hs)
theorem g_nil {ops : Array Oper} (h : GQ X Q .normal μ l L) : G P X ops Q [] μ l L := fun a w hs => h a w hs
theorem gc_cond_bool {c : Operand} {x y : Code} {b : Bool} (hc : ev l c = some (.bool b)) (ht : b = true → GC P X x Q μ l L) (hf : b = false → GC P X y Q μ l L) :
    GC P X (.cond c x y) Q μ l L := fun a w hs =>
  wp_cond_split (hs.eval hc) (fun h => ht h a w hs) (fun h => hf h a w hs)
theorem gq_then {y : Code} (h : GC P X y Q μ l L) : GQ X (Exit.then (y.wp P Q) Q) .normal μ l L := h
theorem gq_then_exit {K : Act → World → Prop} {i : Nat} (h : GQ X Q (.exit i) μ l L) : GQ X (Exit.then K Q) (.exit i) μ l L := h
theorem gq_then_ret {K : Act → World → Prop} (h : GQ X Q .ret μ l L) : GQ X (Exit.then K Q) .ret μ l L := h
theorem gq_block_normal {i : Nat} (h : GQ X Q .normal μ l L) : GQ X (Exit.inBlock i Q) .normal μ l L := h
theorem gq_block_ret {i : Nat} (h : GQ X Q .ret μ l L) : GQ X (Exit.inBlock i Q) .ret μ l L := h
theorem gq_block_same {i : Nat} (h : GQ X Q .normal μ l L) : GQ X (Exit.inBlock i Q) (.exit i) μ l L := fun a w hs => by
  show (if i = i then _ else _); rw [if_pos rfl]; exact h a w hs
theorem gq_block_other {i j : Nat} (hij : Nat.beq j i = false) (h : GQ X Q (.exit j) μ l L) : GQ X (Exit.inBlock i Q) (.exit j) μ l L := fun a w hs => by
  show (if j = i then _ else _); rw [if_neg (Nat.ne_of_beq_eq_false hij)]; exact h a w hs
def Back (X : Ctx) {ι : Type} (J : ι → Prop) (m : ι → Nat) (μs : ι → Mem) (ls : ι → Slots) (Ls : ι → List Bk) (i : ι) (a : Act) (w : World) : Prop :=
  ∃ j, J j ∧ m j < m i ∧ St X (μs j) (ls j) (Ls j) a w
theorem gc_loop {c : Code} {ι : Type} (J : ι → Prop) (m : ι → Nat) (μs : ι → Mem) (ls : ι → Slots) (Ls : ι → List Bk) (i0 : ι) (h0 : J i0)
    (hs0 : ∀ a w, St X μ l L a w → St X (μs i0) (ls i0) (Ls i0) a w)
    (round : ∀ i, J i → GC P X c (Exit.then (Back X J m μs ls Ls i) Q) (μs i) (ls i) (Ls i)) : GC P X (.loop c) Q μ l L := by
  intro a w hs b k cs
  have key : ∀ n i a w, m i = n → J i → St X (μs i) (ls i) (Ls i) a w →
      ∃ e a' w', Q e a' w' ∧ Arrives P (lone (b.at a (.code c :: .inLoop c :: k)) cs w) b k cs e a' w' := by
    intro n
    induction n using Nat.strongRecOn with
    | _ n ih =>
      intro i a w hn hJ hst
      obtain ⟨e, a₁, w₁, hq, harr⟩ := round i hJ a w hst b (.inLoop c :: k) cs
      cases e with
      | normal =>
        obtain ⟨j, hJj, hlt, hstj⟩ := hq
        obtain ⟨e₂, a₂, w₂, hq₂, harr₂⟩ := ih (m j) (hn ▸ hlt) j a₁ w₁ rfl hJj hstj
        exact ⟨e₂, a₂, w₂, hq₂, .of_steps (Steps.trans harr (.one step_inLoop)) harr₂⟩
      | exit id => exact ⟨_, a₁, w₁, hq, .pass (x := .inLoop c) rfl (fun _ _ => .inl (by simp)) harr⟩
      | goto l => exact ⟨_, a₁, w₁, hq, .pass (x := .inLoop c) rfl (fun _ _ => .inl (by simp)) harr⟩
      | ret => exact ⟨_, a₁, w₁, hq, .pass (x := .inLoop c) rfl (fun _ _ => .inl (by simp)) harr⟩
      | panic ch => exact ⟨_, a₁, w₁, hq, .pass (x := .inLoop c) rfl (fun _ _ => .inl (by simp)) harr⟩
      | outgrown => exact ⟨_, a₁, w₁, hq, .pass (x := .inLoop c) rfl (fun _ _ => .inl (by simp)) harr⟩
  obtain ⟨e, a', w', hq, harr⟩ := key _ i0 a w rfl h0 (hs0 a w hs)
  exact ⟨e, a', w', hq, .of_steps (.one step_loop) harr⟩
def SubS (l' l : Slots) : Prop := ∀ t v, lk l' t = some v → lk l t = some v
theorem subS_nil {l : Slots} : SubS [] l := fun t v h => by simp [lk] at h
theorem subS_cons {t : Nat} {v : Value} {r l : Slots} (h : lk l t = some v) (hr : SubS r l) : SubS ((t, v) :: r) l := fun k u hu => by
  by_cases e : t = k
  · subst e
    simp [lk] at hu
    subst hu; exact h
  · have : Nat.beq t k = false := by cases h' : Nat.beq t k with
        | false => rfl
        | true => exact absurd (Nat.eq_of_beq_eq_true h') e
    simp [lk, this] at hu
    exact hr k u hu
theorem St.sub {X : Ctx} {μ : Mem} {l l' : Slots} {L L' : List Bk} {a : Act} {w : World} (h : St X μ l L a w) (hl : SubS l' l) (hL : L'.Sublist L) : St X μ l' L' a w :=
  ⟨h.size, h.defers, fun t v hv => h.slots t v (hl t v hv), h.keep, h.mem, h.from0, h.fresh, fun x hx => h.own x (hL.subset hx), fun x hx => h.priv x (hL.subset hx), fun x hx => h.new x (hL.subset hx), h.diff.sublist hL⟩
theorem gq_back {ι : Type} {J : ι → Prop} {m : ι → Nat} {μs : ι → Mem} {ls : ι → Slots} {Ls : ι → List Bk} {i : ι} (j : ι) (hJ : J j) (hm : m j < m i) (hμ : μs j = μ) (hl : SubS (ls j) l) (hL : (Ls j).Sublist L) :
    GQ X (Exit.then (Back X J m μs ls Ls i) Q) .normal μ l L := fun a w hs => ⟨j, hJ, hm, by rw [hμ]; exact hs.sub hl hL⟩
end code
def wants (ops : Array Oper) (l : Slots) (o : Oper) : Option Bool :=
  match o.guard with
  | none => some true
  | some (g, want) =>
    match ((ops[g]?).bind (·.dst)).bind (lk l ·) with
    | some (.bool b) => some (b == want)
    | some _ => some false
    | none => none
section ops
variable {P : Program} {X : Ctx} {ops : Array Oper} {Q : Exit → Act → World → Prop} {rest : List Oper} {μ : Mem} {l : Slots} {L : List Bk} {a : Act} {w : World} {o : Oper}
theorem St.wanted (h : St X μ l L a w) {b : Bool} (hw : wants ops l o = some b) : Region.wanted o (yielded ops a.tmps) = b := by
  unfold wants at hw
  unfold Region.wanted
  cases hg : o.guard with
  | none => simp [hg] at hw; simp [hw]
  | some gw =>
    obtain ⟨g, want⟩ := gw
    simp only [hg] at hw ⊢
    cases hd : (ops[g]?).bind (·.dst) with
    | none => simp [hd] at hw
    | some t =>
      simp only [hd, Option.bind_some] at hw
      cases hl : lk l t with
      | none => simp [hl] at hw
      | some u =>
        rw [hl] at hw
        have := h.slots t _ hl
        cases u <;> simp at hw <;> simp [yielded, hd, this, ← hw]
theorem g_skip {d : Nat} (hd : o.dst = some d) (hn : Nat.blt d X.n = true) (hw : wants ops l o = some false) (h : G P X ops Q rest μ ((d, undef) :: l) L) : G P X ops Q (o :: rest) μ l L := by
  intro a w hs
  unfold wpList
  rw [if_neg (by rw [hs.wanted hw]; simp), hd]
  exact h _ _ (hs.put hn _)
theorem g_wp (hw : wants ops l o = some true) (h : ∀ a w, St X μ l L a w → o.wp P a w (wpList P ops Q rest) Q) : G P X ops Q (o :: rest) μ l L := by
  intro a w hs
  unfold wpList
  rw [if_pos (hs.wanted hw)]
  exact .inl (h a w hs)
def Val (P : Program) (μ : Mem) (l : Slots) (L : List Bk) (o : Oper) (v : Value) : Prop := ∀ a w, Rd μ l L a w → (execOp a.eval o).run P w = .ok (.value v) w
def Ent (P : Program) (μ : Mem) (l : Slots) (L : List Bk) (o : Oper) (f : FuncId) (vs : Array Value) : Prop := ∀ a w, Rd μ l L a w → (execOp a.eval o).run P w = .ok (.enter f vs) w
def Alc (P : Program) (μ : Mem) (l : Slots) (L : List Bk) (o : Oper) (v : Nat → Value) (t : TypeId) (cs : List Value) : Prop :=
  ∀ a w, Rd μ l L a w → (execOp a.eval o).run P w = .ok (.value (v w.heap.size)) (w.alloc (.cells cs.toArray t))
theorem g_val {d : Nat} {v : Value} (hd : o.dst = some d) (hn : Nat.blt d X.n = true) (hw : wants ops l o = some true)
    (hr : Val P μ l L o v) (h : G P X ops Q rest μ ((d, v) :: l) L) : G P X ops Q (o :: rest) μ l L :=
  g_wp hw fun a w hs => by
    unfold Oper.wp
    rw [hr a w hs.rd, Oper.upon_value, hd]
    exact h _ _ (hs.put hn _)
theorem g_split {t : Nat} {b : Bool} (hl : lk l t = some (.bool b)) (ht : b = true → G P X ops Q rest μ ((t, .bool true) :: l) L) (hf : b = false → G P X ops Q rest μ ((t, .bool false) :: l) L) : G P X ops Q rest μ l L := by
  intro a w hs
  have hsz := hs.slots t _ hl
  have hn : Nat.blt t X.n = true := by
    have := (Array.getElem?_eq_some_iff.1 hsz).1
    rw [hs.size] at this
    simp [Nat.blt]; omega
  have he : a.put (some t) (.bool b) = a := by
    cases a; simp only [Act.put, Act.mk.injEq, and_true] at *
    exact Array.ext_getElem? fun i => by
      by_cases e : t = i
      · subst e
        rw [Array.getElem?_setIfInBounds_self_of_lt (Array.getElem?_eq_some_iff.1 hsz).1, hsz]
      · rw [Array.getElem?_setIfInBounds_ne e]
  have hp := hs.put hn (.bool b)
  rw [he] at hp
  cases b
  · exact hf rfl a w hp
  · exact ht rfl a w hp
def guardSlot (ops : Array Oper) (o : Oper) : Option Nat := o.guard.bind fun g => (ops[g.1]?).bind (·.dst)
def NLit (_ : Bool) : Prop := True
theorem nLit (b : Bool) : NLit b := trivial
theorem g_guard {t : Nat} {b : Bool} (_hg : guardSlot ops o = some t) (hl : lk l t = some (.bool b)) (_hb : NLit b) (ht : b = true → G P X ops Q (o :: rest) μ ((t, .bool true) :: l) L)
    (hf : b = false → G P X ops Q (o :: rest) μ ((t, .bool false) :: l) L) : G P X ops Q (o :: rest) μ l L := g_split hl ht hf
def nthO : List Oper → Nat → Option Oper
  | [], _ => none
  | x :: _, 0 => some x
  | _ :: r, i + 1 => nthO r i
theorem nthO_eq : ∀ (l : List Oper) (i : Nat), nthO l i = l[i]?
  | [], _ => by simp [nthO]
  | x :: r, 0 => by simp [nthO]
  | x :: r, i + 1 => by simp [nthO, nthO_eq r i]
def nthB : List Bk → Nat → Option Bk
  | [], _ => none
  | x :: _, 0 => some x
  | _ :: r, i + 1 => nthB r i
def updB : List Bk → Nat → Bk → List Bk
  | [], _, _ => []
  | _ :: r, 0, y => y :: r
  | x :: r, i + 1, y => x :: updB r i y
theorem nthB_mem {x : Bk} : ∀ {L : List Bk} {i : Nat}, nthB L i = some x → x ∈ L
  | [], _, h => by simp [nthB] at h
  | y :: r, 0, h => by simp [nthB] at h; simp [h]
  | y :: r, i + 1, h => List.mem_cons_of_mem _ (nthB_mem (i := i) (by simpa [nthB] using h))
theorem Rd.cell (h : Rd μ l L a w) {x : Blk} (hx : .inl x ∈ L) {i : Nat} {v : Value} (hv : lk x.cs i = some v) : w.cell? ⟨x.b, i, none⟩ = some v := by
  obtain ⟨arr, hh, _, ha⟩ := h.own _ hx
  simp [World.cell?, hh, ha i v hv]
def MCell (μ : Mem) (A : Addr) (v : Value) : Prop := ∃ c t f, μ A.block = some (.cells c t f) ∧ A.spot = none ∧ c[A.off]? = some v
def MCells (μ : Mem) (A : Addr) (vs : List Value) : Prop := ∀ j v, vs[j]? = some v → MCell μ (A.add j) v
theorem Rd.mcell (h : Rd μ l L a w) {A : Addr} {v : Value} (hm : MCell μ A v) : w.cell? A = some v := by
  obtain ⟨c, t, f, h1, h2, h3⟩ := hm
  simp [World.cell?, h.mem _ _ h1, h2, h3]
def aggOf (P : Program) (t : TypeId) : Option Bool :=
  match P.underlying t with
  | some (.struct _) => some true
  | some (.array _ _) => some true
  | some _ => some false
  | none => none
def nat16 {α : Type} (x : Nat) (k : Nat → α) : α := match x with
  | 0 => k 0 | 1 => k 1 | 2 => k 2 | 3 => k 3 | 4 => k 4 | 5 => k 5 | 6 => k 6 | 7 => k 7 | 8 => k 8 | 9 => k 9 | 10 => k 10 | 11 => k 11 | 12 => k 12 | 13 => k 13 | 14 => k 14 | 15 => k 15 | 16 => k 16 | 17 => k 17 | 18 => k 18 | 19 => k 19 | 20 => k 20 | 21 => k 21 | 22 => k 22 | 23 => k 23 | 24 => k 24 | 25 => k 25 | 26 => k 26 | 27 => k 27 | 28 => k 28 | 29 => k 29 | 30 => k 30 | 31 => k 31 | 32 => k 32 | 33 => k 33 | 34 => k 34 | 35 => k 35 | 36 => k 36 | 37 => k 37 | 38 => k 38 | 39 => k 39 | 40 => k 40 | 41 => k 41 | 42 => k 42 | 43 => k 43 | 44 => k 44 | 45 => k 45 | 46 => k 46 | 47 => k 47 | 48 => k 48 | n + 49 => k (n + 49)
theorem nat16_eq {α : Type} (x : Nat) (k : Nat → α) : nat16 x k = k x := by
  unfold nat16; split <;> rfl
def sizeT (P : Program) (t : TypeId) : Option Nat := match P.info? t with | some i => nat16 i.size some | none => none
def zeroT (P : Program) (t : TypeId) : Option Value := (P.info? t).bind (·.zero)
theorem run_isAgg {b : Bool} {t : TypeId} (h : aggOf P t = some b) (w : World) : (isAgg t).run P w = .ok b w := by
  unfold aggOf at h
  cases hu : P.underlying t with
  | none => simp [hu] at h
  | some d => cases d <;> simp [hu] at h <;> simp [isAgg, run_underlying hu, h]
theorem run_sizeOf {t : TypeId} {n : Nat} (h : sizeT P t = some n) (w : World) : (sizeOf t).run P w = .ok n w := by
  unfold sizeT at h
  cases hi : P.info? t with
  | none => simp [hi] at h
  | some i => simp [hi, nat16_eq] at h; simp [sizeOf, typeInfo, hi, h]
theorem run_zeroValue {t : TypeId} {v : Value} (h : zeroT P t = some v) (w : World) : (zeroValue t).run P w = .ok v w := by
  unfold zeroT at h
  cases hi : P.info? t with
  | none => simp [hi] at h
  | some i => simp [hi] at h; simp [zeroValue, typeInfo, hi, h]
theorem run_loadScalar {t : TypeId} {A : Addr} {v : Value} (hag : aggOf P t = some false) (hc : w.cell? A = some v) : (Instr.loadAt t (.pointer (some A))).run P w = .ok v w := by
  simp [Instr.loadAt, Instr.sureAddr, loadVar, run_isAgg hag, hc]
theorem run_loadAgg {t : TypeId} {A : Addr} (vs : List Value) (hag : aggOf P t = some true) (hsz : sizeT P t = some vs.length) (hc : ∀ j v, vs[j]? = some v → w.cell? (A.add j) = some v) :
    (Instr.loadAt t (.pointer (some A))).run P w = .ok (.agg vs.toArray) w := by
  simp [Instr.loadAt, Instr.sureAddr, loadVar, run_isAgg hag, run_sizeOf hsz, run_loadCells_list w A vs hc]
end ops
end Go.Vcg
