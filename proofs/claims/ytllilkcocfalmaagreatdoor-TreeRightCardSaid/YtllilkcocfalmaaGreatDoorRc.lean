/- A machine for closed runs: how a change of the real world is followed. No statement of the seat is proved here. -/
import Derived.Test.YtllilkcocfalmaaGreatDoorRb
import Derived.Test.YtllilkcocfalmaaGreatDoorVa
set_option maxRecDepth 20000
namespace Go.Rex
open Go.RowKit Go.MapKept
open Go.Vcg (Keep beq_ne add_lit sizeT zeroT bytesT run_sizeOf)

def ext (ρ : Env) (b : Nat) (x : Nat × Nat × Nat) : Env := fun c => bif Nat.beq c b then some x else ρ c
theorem ext_same {ρ : Env} {b : Nat} {x : Nat × Nat × Nat} : ext ρ b x b = some x := by simp [ext]
theorem ext_ne {ρ : Env} {b c : Nat} {x : Nat × Nat × Nat} (h : c ≠ b) : ext ρ b x c = ρ c := by simp [ext, beq_ne h]
theorem ext_le {ρ : Env} {b : Nat} {x : Nat × Nat × Nat} (h : ρ b = none) : ELe ρ (ext ρ b x) := fun c y e => by
  by_cases hc : c = b
  · subst hc; rw [h] at e; cases e
  · rw [ext_ne hc]; exact e

/-- a number that stands for nothing yet -/
structure Fresh (ρ : Env) (nx b nx' : Nat) : Prop where
  free : ρ b = none
  le : nx ≤ nx'
  lt : b < nx'
  small : nx' ≤ 1048576
/-- what was not written is as it was -/
def Pr (h h' : Heap) : Prop := h'.mw ≤ h.mw ∧ ∀ b, b < h'.mw → hget h' b = hget h b
theorem Pr.refl (h : Heap) : Pr h h := ⟨Nat.le_refl _, fun _ _ => rfl⟩
theorem Pr.trans {h h' h'' : Heap} (p : Pr h h') (q : Pr h' h'') : Pr h h'' := ⟨Nat.le_trans q.1 p.1, fun b hb => (q.2 b hb).trans (p.2 b (Nat.lt_of_lt_of_le hb q.1))⟩
theorem hset_mw (h : Heap) (b : Nat) (o : Option AObj) : (hset h b o).mw ≤ h.mw ∧ (hset h b o).mw ≤ b := by
  show (bif Nat.blt b h.mw then b else h.mw) ≤ h.mw ∧ (bif Nat.blt b h.mw then b else h.mw) ≤ b
  cases hb : Nat.blt b h.mw with
  | true => have : b < h.mw := by simp [Nat.blt] at hb; omega
            simp; omega
  | false =>
    have : h.mw ≤ b := Nat.le_of_not_lt fun hlt => by
      rw [show Nat.blt b h.mw = true from (by rw [Nat.blt, Nat.ble_eq]; exact hlt)] at hb; cases hb
    simpa using this
theorem Pr.set {h : Heap} {b : Nat} (hb : b < 1048576) (o : Option AObj) : Pr h (hset h b o) := ⟨(hset_mw h b o).1, fun c hc => hget_set_other hb (by have := (hset_mw h b o).2; omega)⟩
/-- the world changes at block 'B' and behind its old end alone -/
structure Fr (B : Nat) (w w' : World) : Prop where
  os : w'.os = w.os
  tape : w'.tape = w.tape
  output : w'.output = w.output
  size : w.heap.size ≤ w'.heap.size
  block : ∀ b, b < w.heap.size → b ≠ B → w'.heap[b]? = w.heap[b]?

/-- likewise, at two blocks -/
structure Fr2 (B B2 : Nat) (w w' : World) : Prop where
  os : w'.os = w.os
  tape : w'.tape = w.tape
  output : w'.output = w.output
  size : w.heap.size ≤ w'.heap.size
  block : ∀ b, b < w.heap.size → b ≠ B → b ≠ B2 → w'.heap[b]? = w.heap[b]?
theorem Fr.two {B : Nat} {w w' : World} (h : Fr B w w') : Fr2 B B w w' := ⟨h.os, h.tape, h.output, h.size, fun b hb h1 _ => h.block b hb h1⟩
theorem ObjOk.lt {ρ : Env} {C : Nat} {o : AObj} {w : World} {B : Nat} (h : ObjOk ρ C o w.heap[B]?) : B < w.heap.size := by
  cases o with
  | cells cs t r => obtain ⟨_, _, h2⟩ := h; exact (Array.getElem?_eq_some_iff.1 h2).1
  | row cs t sz => obtain ⟨_, _, _, h2, _⟩ := h; exact (Array.getElem?_eq_some_iff.1 h2).1
  | map es => obtain ⟨_, _, h2⟩ := h; exact (Array.getElem?_eq_some_iff.1 h2).1
  | tab cs => obtain ⟨_, _, _, _, h2⟩ := h; exact (Array.getElem?_eq_some_iff.1 h2).1

section
variable {w0 w w' : World} {ρ : Env} {h : Heap} {nx : Nat}
theorem Fr.keep (r : Rel w0 ρ h nx w) {B : Nat} (fr : Fr B w w') (hB0 : w0.heap.size ≤ B) : Keep [] w0 w' :=
  ⟨fr.os.trans r.keep.os, fr.tape.trans r.keep.tape, fr.output.trans r.keep.output, Nat.le_trans r.keep.size fr.size, fun b hb _ => by
    rw [fr.block b (Nat.lt_of_lt_of_le hb r.keep.size) (by omega)]; exact r.keep.block b hb (by simp)⟩

theorem Rel.put2 {b0 nx' : Nat} (r : Rel w0 ρ h nx w) (hf : Fresh ρ nx b0 nx') {B B2 C : Nat} {o : AObj} (hro : o.ro = false) (fr : Fr2 B B2 w w') (hB0 : w0.heap.size ≤ B) (hB2 : w0.heap.size ≤ B2)
    (hfree2 : ∀ c o C', hget h c = some o → ρ c = some (B2, C', 0) → False) (hfree : ∀ c o C', hget h c = some o → ρ c = some (B, C', 0) → False) (ho : ObjOk (ext ρ b0 (B, C, 0)) C o w'.heap[B]?) : Rel w0 (ext ρ b0 (B, C, 0)) (hset h b0 (some o)) nx' w' :=
  have hbs : b0 < 1048576 := Nat.lt_of_lt_of_le hf.lt hf.small
  { 
  ok := fun b o' e => by
    by_cases hb : b = b0
    · subst hb; rw [hget_set_same hbs] at e; cases e; exact ⟨B, C, ext_same, ho⟩
    · rw [hget_set_other hbs hb] at e
      obtain ⟨B', C', h1, h2⟩ := r.ok b o' e
      have hne : B' ≠ B := fun e' => hfree b o' C' e (by rw [← e']; exact h1)
      refine ⟨B', C', by rw [ext_ne hb]; exact h1, ?_⟩
      have hne2 : B' ≠ B2 := fun e' => hfree2 b o' C' e (by rw [← e']; exact h1)
      rw [fr.block B' h2.lt hne hne2]
      exact h2.mono (ext_le hf.free)
  inj := fun b b' o1 o2 B' C' C'' e e' h1 h2 => by
    by_cases hb : b = b0
    · by_cases hb' : b' = b0
      · rw [hb, hb']
      · subst hb
        rw [ext_same] at h1; cases h1
        rw [hget_set_other hbs hb'] at e'
        rw [ext_ne hb'] at h2
        exact (hfree b' o2 C'' e' h2).elim
    · rw [hget_set_other hbs hb] at e
      rw [ext_ne hb] at h1
      by_cases hb' : b' = b0
      · subst hb'
        rw [ext_same] at h2; cases h2
        exact (hfree b o1 C' e h1).elim
      · rw [hget_set_other hbs hb'] at e'
        rw [ext_ne hb'] at h2
        exact r.inj b b' o1 o2 B' C' C'' e e' h1 h2
  new := fun b hb => by rw [ext_ne (by have := hf.lt; omega)]; exact r.new b (by have := hf.le; omega)
  small := hf.small
  own := fun b o' e hr B' C' h1 => by
    by_cases hb : b = b0
    · subst hb; rw [ext_same] at h1; cases h1; exact hB0
    · rw [hget_set_other hbs hb] at e
      rw [ext_ne hb] at h1
      exact r.own b o' e hr B' C' h1
  old := fun b o' e hr B' C' h1 => by
    by_cases hb : b = b0
    · subst hb; rw [hget_set_same hbs] at e; cases e; rw [hro] at hr; cases hr
    · rw [hget_set_other hbs hb] at e
      rw [ext_ne hb] at h1
      exact r.old b o' e hr B' C' h1
  keep := ⟨fr.os.trans r.keep.os, fr.tape.trans r.keep.tape, fr.output.trans r.keep.output, Nat.le_trans r.keep.size fr.size, fun b hb _ => by
    rw [fr.block b (Nat.lt_of_lt_of_le hb r.keep.size) (by omega) (by omega)]; exact r.keep.block b hb (by simp)⟩ }
theorem Rel.put {b0 nx' : Nat} (r : Rel w0 ρ h nx w) (hf : Fresh ρ nx b0 nx') {B C : Nat} {o : AObj} (hro : o.ro = false) (fr : Fr B w w') (hB0 : w0.heap.size ≤ B)
    (hfree : ∀ c o C', hget h c = some o → ρ c = some (B, C', 0) → False) (ho : ObjOk (ext ρ b0 (B, C, 0)) C o w'.heap[B]?) : Rel w0 (ext ρ b0 (B, C, 0)) (hset h b0 (some o)) nx' w' :=
  r.put2 hf hro fr.two hB0 hB0 hfree hfree ho

theorem Rel.drop (r : Rel w0 ρ h nx w) {b : Nat} (hb : b < 1048576) : Rel w0 ρ (hset h b none) nx w := by
  have key : ∀ c o, hget (hset h b none) c = some o → hget h c = some o := fun c o e => by
    by_cases hc : c = b
    · subst hc; rw [hget_set_same hb] at e; cases e
    · rw [hget_set_other hb hc] at e; exact e
  exact ⟨fun c o e => r.ok c o (key c o e), fun c c' o o' B C C' e e' => r.inj c c' o o' B C C' (key _ _ e) (key _ _ e'), r.new, r.small, fun c o e => r.own c o (key _ _ e), fun c o e => r.old c o (key _ _ e), r.keep⟩

theorem Rel.upd (r : Rel w0 ρ h nx w) {b B C : Nat} {o o' : AObj} (hb : hget h b = some o) (hro : o.ro = false) (hro' : o'.ro = false) (hB : ρ b = some (B, C, 0)) (fr : Fr B w w') (ho : ObjOk ρ C o' w'.heap[B]?) : Rel w0 ρ (hset h b (some o')) nx w' where
  ok := fun c o1 e => by
    by_cases hc : c = b
    · subst hc; rw [hget_set_same (hget_lt hb)] at e; cases e; exact ⟨B, C, hB, ho⟩
    · rw [hget_set_other (hget_lt hb) hc] at e
      obtain ⟨B', C', h1, h2⟩ := r.ok c o1 e
      have hne : B' ≠ B := fun e' => hc (r.inj c b o1 o B' C' C e hb h1 (by rw [e']; exact hB))
      exact ⟨B', C', h1, by rw [fr.block B' h2.lt hne]; exact h2⟩
  inj := fun c c' o1 o2 B' C' C'' e e' h1 h2 => by
    have key : ∀ c o1, hget (hset h b (some o')) c = some o1 → ∃ o2, hget h c = some o2 := fun c o1 e => by
      by_cases hc : c = b
      · subst hc; exact ⟨o, hb⟩
      · rw [hget_set_other (hget_lt hb) hc] at e; exact ⟨o1, e⟩
    obtain ⟨p, hp⟩ := key _ _ e
    obtain ⟨q, hq⟩ := key _ _ e'
    exact r.inj c c' p q B' C' C'' hp hq h1 h2
  new := r.new
  small := r.small
  own := fun c o1 e hr B' C' h1 => by
    by_cases hc : c = b
    · subst hc; exact r.own c o hb hro B' C' h1
    · rw [hget_set_other (hget_lt hb) hc] at e; exact r.own c o1 e hr B' C' h1
  old := fun c o1 e hr B' C' h1 => by
    by_cases hc : c = b
    · subst hc; rw [hget_set_same (hget_lt hb)] at e; cases e; rw [hro'] at hr; cases hr
    · rw [hget_set_other (hget_lt hb) hc] at e; exact r.old c o1 e hr B' C' h1
  keep := fr.keep r (r.own b o hb hro B C hB)

/-- the world changes behind its end alone -/
theorem Rel.after (r : Rel w0 ρ h nx w) (fr : Fr w.heap.size w w') : Rel w0 ρ h nx w' :=
  ⟨fun b o e => by
    obtain ⟨B, C, h1, h2⟩ := r.ok b o e
    exact ⟨B, C, h1, by rw [fr.block B h2.lt (by have := h2.lt; omega)]; exact h2⟩, r.inj, r.new, r.small, r.own, r.old, fr.keep r r.keep.size⟩

/-- a new name for a place -/
theorem Rel.name {b0 nx' : Nat} (r : Rel w0 ρ h nx w) (hf : Fresh ρ nx b0 nx') (x : Nat × Nat × Nat) : Rel w0 (ext ρ b0 x) h nx' w := by
  have hle := ext_le (x := x) hf.free
  have key : ∀ b o, hget h b = some o → ext ρ b0 x b = ρ b := fun b o e => ext_ne (fun hb => by
    obtain ⟨B, C, h1, _⟩ := r.ok b o e
    rw [hb, hf.free] at h1; cases h1)
  exact ⟨fun b o e => by
    obtain ⟨B, C, h1, h2⟩ := r.ok b o e
    exact ⟨B, C, hle _ _ h1, h2.mono hle⟩, fun b b' o o' B C C' e e' h1 h2 => r.inj b b' o o' B C C' e e' (by rw [← key b o e]; exact h1) (by rw [← key b' o' e']; exact h2),
    fun b hb => by rw [ext_ne (by have := hf.lt; omega)]; exact r.new b (by have := hf.le; omega), hf.small, fun b o e hr B C h1 => r.own b o e hr B C (by rw [← key b o e]; exact h1), fun b o e hr B C h1 => r.old b o e hr B C (by rw [← key b o e]; exact h1), r.keep⟩

theorem fr_alloc (w : World) (o : Obj) : Fr w.heap.size w (w.alloc o) := ⟨rfl, rfl, rfl, by simp, fun b hb _ => Below.heap_alloc w _ b hb⟩
theorem fr_alloc_drew (w : World) (o : Obj) : Fr w.heap.size w (w.drew.alloc o) := ⟨rfl, rfl, rfl, by simp, fun b hb _ => Below.heap_alloc w.drew _ b (by simpa using hb)⟩
theorem Rel.noSize (r : Rel w0 ρ h nx w) : ∀ c o C', hget h c = some o → ρ c = some (w.heap.size, C', 0) → False := fun c o C' e h1 => by
  obtain ⟨B, C, h2, h3⟩ := r.ok c o e
  rw [h1] at h2; cases h2
  have := h3.lt
  omega

/-- a new block of cells -/
theorem Rel.cells {b0 nx' : Nat} (r : Rel w0 ρ h nx w) (hf : Fresh ρ nx b0 nx') {cs CS : List Value} (hc : rvs ρ cs = some CS) (t : TypeId) :
    Rel w0 (ext ρ b0 (w.heap.size, 0, 0)) (hset h b0 (some (.cells cs t false))) nx' (w.alloc (.cells CS.toArray t)) :=
  r.put hf rfl (fr_alloc w _) r.keep.size r.noSize ⟨CS, rvs_mono (ext_le hf.free) hc, heap_alloc_new w _⟩

/-- a block begins a row -/
theorem Rel.row {b0 nx' : Nat} (r : Rel w0 ρ h nx w) (hf : Fresh ρ nx b0 nx') {cs CS : List Value} (hc : rvs ρ cs = some CS) (t : TypeId) {sz C : Nat} {arr : Array Value} (h1 : arr.size = C * sz) (h2 : C ≤ maxLen) (h3 : CS.length ≤ arr.size) (h4 : arr.toList.take CS.length = CS) :
    Rel w0 (ext ρ b0 (w.heap.size, C, 0)) (hset h b0 (some (.row cs t sz))) nx' (w.drew.alloc (.cells arr t)) :=
  r.put hf rfl (fr_alloc_drew w _) r.keep.size r.noSize ⟨CS, arr, rvs_mono (ext_le hf.free) hc, by
    have := heap_alloc_new w.drew (.cells arr t); simpa using this, h1, h2, h3, h4⟩
end

/-! values -/
theorem rv_one {ρ : Env} {v V : Value} (h : rv ρ v = some V) : V.oneCell' = v.oneCell' := by
  cases v with
  | bool b => cases rv_nil h rfl; rfl
  | int k n => cases rv_nil h rfl; rfl
  | float k n => cases rv_nil h rfl; rfl
  | complex _ _ _ => simp [rv] at h
  | chan _ => simp [rv] at h
  | string s => cases rv_nil h rfl; rfl
  | pointer p =>
    match p with
    | none => cases rv_nil h rfl; rfl
    | some ⟨b, o, none⟩ => obtain ⟨A, rfl⟩ := rv_pointer_some h; rfl
    | some ⟨b, o, some _⟩ => simp [rv] at h
  | slice p n c =>
    match p with
    | none => cases rv_nil h rfl; rfl
    | some ⟨b, o, none⟩ => obtain ⟨A, C, rfl⟩ := rv_slice_some h; rfl
    | some ⟨b, o, some _⟩ => simp [rv] at h
  | map m =>
    cases m with
    | none => cases rv_nil h rfl; rfl
    | some b => obtain ⟨_, _, _, _, rfl⟩ := rv_map_some h; rfl
  | func f p q =>
    cases f with
    | func f => obtain ⟨_, _, _, _, rfl⟩ := rv_func h; rfl
    | method _ => simp [rv] at h
    | methodOf _ _ => simp [rv] at h
    | via _ _ _ _ => simp [rv] at h
    | yield _ => simp [rv] at h
  | nilFunc => cases rv_nil h rfl; rfl
  | iface t v => obtain ⟨_, _, rfl⟩ := rv_iface h; rfl
  | nilIface => cases rv_nil h rfl; rfl
  | agg p => obtain ⟨_, _, rfl⟩ := rv_agg h; rfl
  | tuple p => obtain ⟨_, _, rfl⟩ := rv_tuple h; rfl
theorem rvs_one {ρ : Env} : ∀ {l L : List Value}, rvs ρ l = some L → l.all (·.oneCell') = true → ∀ u ∈ L, u.oneCell' = true
  | [], L, h, _, u, hu => by simp [rvs] at h; subst h; cases hu
  | v :: r, L, h, ha, u, hu => by
    unfold rvs at h
    split at h
    · rename_i V R hv hr
      cases h
      simp only [List.all_cons, Bool.and_eq_true] at ha
      rcases List.mem_cons.1 hu with rfl | hu
      · rw [rv_one hv]; exact ha.1
      · exact rvs_one hr ha.2 u hu
    · cases h
/-- the cells of a value -/
def cellsOf : Value → List Value
  | .agg ⟨l⟩ => l
  | v => [v]
theorem rv_cells {ρ : Env} {v V : Value} (h : rv ρ v = some V) (h1 : (cellsOf v).all (·.oneCell') = true) : rvs ρ (cellsOf v) = some V.cells.toList := by
  cases v with
  | agg p => obtain ⟨X, hx, rfl⟩ := rv_agg h; simpa [cellsOf, Value.cells] using hx
  | tuple p => simp [cellsOf, Value.oneCell'] at h1
  | _ =>
    have h2 := rv_one h
    have h3 : V.cells = #[V] := Go.Vcg.one_cells (by rw [h2]; rfl)
    simp [cellsOf, rvs, h, h3]
end Go.Rex
