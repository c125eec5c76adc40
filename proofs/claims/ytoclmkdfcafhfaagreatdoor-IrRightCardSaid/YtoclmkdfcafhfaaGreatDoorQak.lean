/- A machine for closed runs: how a change of the real world is followed. -/
import Derived.Test.YtoclmkdfcafhfaaGreatDoorQaj
set_option maxRecDepth 20000
namespace Go.Rex
section
open Go.RowKit Go.MapKept
open Go.Vcg (Keep beq_ne add_lit sizeT zeroT bytesT run_sizeOf)
def ext (ρ : Env) (b : Nat) (x : Nat × Nat × Nat) : Env := fun c => bif Nat.beq c b then some x else ρ c
theorem ext_same {ρ : Env} {b : Nat} {x : Nat × Nat × Nat} : ext ρ b x b = some x := by simp [ext]
theorem ext_ne {ρ : Env} {b c : Nat} {x : Nat × Nat × Nat} (h : c ≠ b) : ext ρ b x c = ρ c := by simp [ext, beq_ne h]
theorem ext_le {ρ : Env} {b : Nat} {x : Nat × Nat × Nat} (h : ρ b = none) : ELe ρ (ext ρ b x) := fun c y e => by
  by_cases hc : c = b
  · subst hc; rw [h] at e; cases e
  · rw [ext_ne hc]; exact e
structure Fresh (ρ : Env) (nx b nx' : Nat) : Prop where
  free : ρ b = none
  le : nx ≤ nx'
  lt : b < nx'
  small : nx' ≤ 1048576
def Pr (h h' : Heap) : Prop := h'.mw ≤ h.mw ∧ ∀ b, b < h'.mw → hget h' b = hget h b
theorem Pr.refl (h : Heap) : Pr h h := ⟨Nat.le_refl _, fun _ _ => rfl⟩
theorem Pr.trans {h h' h'' : Heap} (p : Pr h h') (q : Pr h' h'') : Pr h h'' := ⟨Nat.le_trans q.1 p.1, fun b hb => (q.2 b hb).trans (p.2 b (Nat.lt_of_lt_of_le hb q.1))⟩
theorem hset_mw (h : Heap) (b : Nat) (o : Option AObj) : (hset h b o).mw ≤ h.mw ∧ (hset h b o).mw ≤ b := by
  show (bif Nat.blt b h.mw then b else h.mw) ≤ h.mw ∧ (bif Nat.blt b h.mw then b else h.mw) ≤ b
  cases hb : Nat.blt b h.mw with
  | true => have : b < h.mw := by simp [Nat.blt] at hb; omega
            simp; omega
  | false =>
    have : h.mw ≤ b := Nat.le_of_not_lt fun hlt => by
      rw [show Nat.blt b h.mw = true from (by rw [Nat.blt, Nat.ble_eq]; exact hlt)] at hb; cases hb
    simpa using this
theorem Pr.set {h : Heap} {b : Nat} (hb : b < 1048576) (o : Option AObj) : Pr h (hset h b o) := ⟨(hset_mw h b o).1, fun c hc => hget_set_other hb (by have := (hset_mw h b o).2; omega)⟩
structure Fr (B : Nat) (w w' : World) : Prop where
  os : w'.os = w.os
  tape : w'.tape = w.tape
  output : w'.output = w.output
  size : w.heap.size ≤ w'.heap.size
  block : ∀ b, b < w.heap.size → b ≠ B → w'.heap[b]? = w.heap[b]?
structure Fr2 (B B2 : Nat) (w w' : World) : Prop where
  os : w'.os = w.os
  tape : w'.tape = w.tape
  output : w'.output = w.output
  size : w.heap.size ≤ w'.heap.size
  block : ∀ b, b < w.heap.size → b ≠ B → b ≠ B2 → w'.heap[b]? = w.heap[b]?
theorem Fr.two {B : Nat} {w w' : World} (h : Fr B w w') : Fr2 B B w w' := ⟨h.os, h.tape, h.output, h.size, fun b hb h1 _ => h.block b hb h1⟩
theorem ObjOk.lt {ρ : Env} {C : Nat} {o : AObj} {w : World} {B : Nat} (h : ObjOk ρ C o w.heap[B]?) : B < w.heap.size := by
  cases o with
  | cells cs t r => obtain ⟨_, _, h2⟩ := h; exact (Array.getElem?_eq_some_iff.1 h2).1
  | row cs t sz => obtain ⟨_, _, _, h2, _⟩ := h; exact (Array.getElem?_eq_some_iff.1 h2).1
  | map es => obtain ⟨_, _, h2⟩ := h; exact (Array.getElem?_eq_some_iff.1 h2).1
  | tab cs => obtain ⟨_, _, _, _, h2⟩ := h; exact (Array.getElem?_eq_some_iff.1 h2).1
section
variable {w0 w w' : World} {ρ : Env} {h : Heap} {nx : Nat}
theorem Fr.keep (r : Rel w0 ρ h nx w) {B : Nat} (fr : Fr B w w') (hB0 : w0.heap.size ≤ B) : Keep [] w0 w' :=
  ⟨fr.os.trans r.keep.os, fr.tape.trans r.keep.tape, fr.output.trans r.keep.output, Nat.le_trans r.keep.size fr.size, fun b hb _ => by
    rw [fr.block b (Nat.lt_of_lt_of_le hb r.keep.size) (by omega)]; exact r.keep.block b hb (by simp)⟩
theorem Rel.put2 {b0 nx' : Nat} (r : Rel w0 ρ h nx w) (hf : Fresh ρ nx b0 nx') {B B2 C : Nat} {o : AObj} (hro : o.ro = false) (fr : Fr2 B B2 w w') (hB0 : w0.heap.size ≤ B) (hB2 : w0.heap.size ≤ B2)
    (hfree2 : ∀ c o C', hget h c = some o → ρ c = some (B2, C', 0) → False) (hfree : ∀ c o C', hget h c = some o → ρ c = some (B, C', 0) → False) (ho : ObjOk (ext ρ b0 (B, C, 0)) C o w'.heap[B]?) : Rel w0 (ext ρ b0 (B, C, 0)) (hset h b0 (some o)) nx' w' :=
  have hbs : b0 < 1048576 := Nat.lt_of_lt_of_le hf.lt hf.small
  { 
  ok := fun b o' e => by
    by_cases hb : b = b0
    · subst hb; rw [hget_set_same hbs] at e; cases e; exact ⟨B, C, ext_same, ho⟩
    · rw [hget_set_other hbs hb] at e
      obtain ⟨B', C', h1, h2⟩ := r.ok b o' e
      have hne : B' ≠ B := fun e' => hfree b o' C' e (by rw [← e']; exact h1)
      refine ⟨B', C', by rw [ext_ne hb]; exact h1, ?_⟩
      have hne2 : B' ≠ B2 := fun e' => hfree2 b o' C' e (by rw [← e']; exact h1)
      rw [fr.block B' h2.lt hne hne2]
      exact h2.mono (ext_le hf.free)
  inj := fun b b' o1 o2 B' C' C'' e e' h1 h2 => by
    by_cases hb : b = b0
    · by_cases hb' : b' = b0
      · rw [hb, hb']
      · subst hb
        rw [ext_same] at h1; cases h1
        rw [hget_set_other hbs hb'] at e'
        rw [ext_ne hb'] at h2
        exact (hfree b' o2 C'' e' h2).elim
    · rw [hget_set_other hbs hb] at e
      rw [ext_ne hb] at h1
      by_cases hb' : b' = b0
      · subst hb'
        rw [ext_same] at h2; cases h2
        exact (hfree b o1 C' e h1).elim
      · rw [hget_set_other hbs hb'] at e'
        rw [ext_ne hb'] at h2
        exact r.inj b b' o1 o2 B' C' C'' e e' h1 h2
  new := fun b hb => by rw [ext_ne (by have := hf.lt; omega)]; exact r.new b (by have := hf.le; omega)
  small := hf.small
  own := fun b o' e hr B' C' h1 => by
    by_cases hb : b = b0
    · subst hb; rw [ext_same] at h1; cases h1; exact hB0
    · rw [hget_set_other hbs hb] at e
      rw [ext_ne hb] at h1
      exact r.own b o' e hr B' C' h1
  old := fun b o' e hr B' C' h1 => by
    by_cases hb : b = b0
    · subst hb; rw [hget_set_same hbs] at e; cases e; rw [hro] at hr; cases hr
    · rw [hget_set_other hbs hb] at e
      rw [ext_ne hb] at h1
      exact r.old b o' e hr B' C' h1
  keep := ⟨fr.os.trans r.keep.os, fr.tape.trans r.keep.tape, fr.output.trans r.keep.output, Nat.le_trans r.keep.size fr.size, fun b hb _ => by
    rw [fr.block b (Nat.lt_of_lt_of_le hb r.keep.size) (by omega) (by omega)]; exact r.keep.block b hb (by simp)⟩ }
theorem Rel.put {b0 nx' : Nat} (r : Rel w0 ρ h nx w) (hf : Fresh ρ nx b0 nx') {B C : Nat} {o : AObj} (hro : o.ro = false) (fr : Fr B w w') (hB0 : w0.heap.size ≤ B)
    (hfree : ∀ c o C', hget h c = some o → ρ c = some (B, C', 0) → False) (ho : ObjOk (ext ρ b0 (B, C, 0)) C o w'.heap[B]?) : Rel w0 (ext ρ b0 (B, C, 0)) (hset h b0 (some o)) nx' w' :=
  r.put2 hf hro fr.two hB0 hB0 hfree hfree ho
theorem Rel.drop (r : Rel w0 ρ h nx w) {b : Nat} (hb : b < 1048576) : Rel w0 ρ (hset h b none) nx w := by
  have key : ∀ c o, hget (hset h b none) c = some o → hget h c = some o := fun c o e => by
    by_cases hc : c = b
    · subst hc; rw [hget_set_same hb] at e; cases e
    · rw [hget_set_other hb hc] at e; exact e
  exact ⟨fun c o e => r.ok c o (key c o e), fun c c' o o' B C C' e e' => r.inj c c' o o' B C C' (key _ _ e) (key _ _ e'), r.new, r.small, fun c o e => r.own c o (key _ _ e), fun c o e => r.old c o (key _ _ e), r.keep⟩
theorem Rel.upd (r : Rel w0 ρ h nx w) {b B C : Nat} {o o' : AObj} (hb : hget h b = some o) (hro : o.ro = false) (hro' : o'.ro = false) (hB : ρ b = some (B, C, 0)) (fr : Fr B w w') (ho : ObjOk ρ C o' w'.heap[B]?) : Rel w0 ρ (hset h b (some o')) nx w' where
  ok := fun c o1 e => by
    by_cases hc : c = b
    · subst hc; rw [hget_set_same (hget_lt hb)] at e; cases e; exact ⟨B, C, hB, ho⟩
    · rw [hget_set_other (hget_lt hb) hc] at e
      obtain ⟨B', C', h1, h2⟩ := r.ok c o1 e
      have hne : B' ≠ B := fun e' => hc (r.inj c b o1 o B' C' C e hb h1 (by rw [e']; exact hB))
      exact ⟨B', C', h1, by rw [fr.block B' h2.lt hne]; exact h2⟩
  inj := fun c c' o1 o2 B' C' C'' e e' h1 h2 => by
    have key : ∀ c o1, hget (hset h b (some o')) c = some o1 → ∃ o2, hget h c = some o2 := fun c o1 e => by
      by_cases hc : c = b
      · subst hc; exact ⟨o, hb⟩
      · rw [hget_set_other (hget_lt hb) hc] at e; exact ⟨o1, e⟩
    obtain ⟨p, hp⟩ := key _ _ e
    obtain ⟨q, hq⟩ := key _ _ e'
    exact r.inj c c' p q B' C' C'' hp hq h1 h2
  new := r.new
  small := r.small
  own := fun c o1 e hr B' C' h1 => by
    by_cases hc : c = b
    · subst hc; exact r.own c o hb hro B' C' h1
    · rw [hget_set_other (hget_lt hb) hc] at e; exact r.own c o1 e hr B' C' h1
  old := fun c o1 e hr B' C' h1 => by
    by_cases hc : c = b
    · subst hc; rw [hget_set_same (hget_lt hb)] at e; cases e; rw [hro'] at hr; cases hr
    · rw [hget_set_other (hget_lt hb) hc] at e; exact r.old c o1 e hr B' C' h1
  keep := fr.keep r (r.own b o hb hro B C hB)
theorem Rel.after (r : Rel w0 ρ h nx w) (fr : Fr w.heap.size w w') : Rel w0 ρ h nx w' :=
  ⟨fun b o e => by
    obtain ⟨B, C, h1, h2⟩ := r.ok b o e
    exact ⟨B, C, h1, by rw [fr.block B h2.lt (by have := h2.lt; omega)]; exact h2⟩, r.inj, r.new, r.small, r.own, r.old, fr.keep r r.keep.size⟩
theorem Rel.name {b0 nx' : Nat} (r : Rel w0 ρ h nx w) (hf : Fresh ρ nx b0 nx') (x : Nat × Nat × Nat) : Rel w0 (ext ρ b0 x) h nx' w := by
  have hle := ext_le (x := x) hf.free
  have key : ∀ b o, hget h b = some o → ext ρ b0 x b = ρ b := fun b o e => ext_ne (fun hb => by
    obtain ⟨B, C, h1, _⟩ := r.ok b o e
    rw [hb, hf.free] at h1; cases h1)
  exact ⟨fun b o e => by
    obtain ⟨B, C, h1, h2⟩ := r.ok b o e
    exact ⟨B, C, hle _ _ h1, h2.mono hle⟩, fun b b' o o' B C C' e e' h1 h2 => r.inj b b' o o' B C C' e e' (by rw [← key b o e]; exact h1) (by rw [← key b' o' e']; exact h2),
    fun b hb => by rw [ext_ne (by have := hf.lt; omega)]; exact r.new b (by have := hf.le; omega), hf.small, fun b o e hr B C h1 => r.own b o e hr B C (by rw [← key b o e]; exact h1), fun b o e hr B C h1 => r.old b o e hr B C (by rw [← key b o e]; exact h1), r.keep⟩
theorem fr_alloc (w : World) (o : Obj) : Fr w.heap.size w (w.alloc o) := ⟨rfl, rfl, rfl, by simp, fun b hb _ => Below.heap_alloc w _ b hb⟩
theorem fr_alloc_drew (w : World) (o : Obj) : Fr w.heap.size w (w.drew.alloc o) := ⟨rfl, rfl, rfl, by simp, fun b hb _ => Below.heap_alloc w.drew _ b (by simpa using hb)⟩
theorem Rel.noSize (r : Rel w0 ρ h nx w) : ∀ c o C', hget h c = some o → ρ c = some (w.heap.size, C', 0) → False := fun c o C' e h1 => by
  obtain ⟨B, C, h2, h3⟩ := r.ok c o e
  rw [h1] at h2; cases h2
  have := h3.lt
  omega
theorem Rel.cells {b0 nx' : Nat} (r : Rel w0 ρ h nx w) (hf : Fresh ρ nx b0 nx') {cs CS : List Value} (hc : rvs ρ cs = some CS) (t : TypeId) :
    Rel w0 (ext ρ b0 (w.heap.size, 0, 0)) (hset h b0 (some (.cells cs t false))) nx' (w.alloc (.cells CS.toArray t)) :=
  r.put hf rfl (fr_alloc w _) r.keep.size r.noSize ⟨CS, rvs_mono (ext_le hf.free) hc, heap_alloc_new w _⟩
theorem Rel.row {b0 nx' : Nat} (r : Rel w0 ρ h nx w) (hf : Fresh ρ nx b0 nx') {cs CS : List Value} (hc : rvs ρ cs = some CS) (t : TypeId) {sz C : Nat} {arr : Array Value} (h1 : arr.size = C * sz) (h2 : C ≤ maxLen) (h3 : CS.length ≤ arr.size) (h4 : arr.toList.take CS.length = CS) :
    Rel w0 (ext ρ b0 (w.heap.size, C, 0)) (hset h b0 (some (.row cs t sz))) nx' (w.drew.alloc (.cells arr t)) :=
  r.put hf rfl (fr_alloc_drew w _) r.keep.size r.noSize ⟨CS, arr, rvs_mono (ext_le hf.free) hc, by
    have := heap_alloc_new w.drew (.cells arr t); simpa using this, h1, h2, h3, h4⟩
end
theorem rv_one {ρ : Env} {v V : Value} (h : rv ρ v = some V) : V.oneCell' = v.oneCell' := by
  cases v with
  | bool b => cases rv_nil h rfl; rfl
  | int k n => cases rv_nil h rfl; rfl
  | float k n => cases rv_nil h rfl; rfl
  | complex _ _ _ => simp [rv] at h
  | chan _ => simp [rv] at h
  | string s => cases rv_nil h rfl; rfl
  | pointer p =>
    match p with
    | none => cases rv_nil h rfl; rfl
    | some ⟨b, o, none⟩ => obtain ⟨A, rfl⟩ := rv_pointer_some h; rfl
    | some ⟨b, o, some _⟩ => simp [rv] at h
  | slice p n c =>
    match p with
    | none => cases rv_nil h rfl; rfl
    | some ⟨b, o, none⟩ => obtain ⟨A, C, rfl⟩ := rv_slice_some h; rfl
    | some ⟨b, o, some _⟩ => simp [rv] at h
  | map m =>
    cases m with
    | none => cases rv_nil h rfl; rfl
    | some b => obtain ⟨_, _, _, _, rfl⟩ := rv_map_some h; rfl
  | func f p q =>
    cases f with
    | func f => obtain ⟨_, _, _, _, rfl⟩ := rv_func h; rfl
    | method _ => simp [rv] at h
    | methodOf _ _ => simp [rv] at h
    | via _ _ _ _ => simp [rv] at h
    | yield _ => simp [rv] at h
  | nilFunc => cases rv_nil h rfl; rfl
  | iface t v => obtain ⟨_, _, rfl⟩ := rv_iface h; rfl
  | nilIface => cases rv_nil h rfl; rfl
  | agg p => obtain ⟨_, _, rfl⟩ := rv_agg h; rfl
  | tuple p => obtain ⟨_, _, rfl⟩ := rv_tuple h; rfl
theorem rvs_one {ρ : Env} : ∀ {l L : List Value}, rvs ρ l = some L → l.all (·.oneCell') = true → ∀ u ∈ L, u.oneCell' = true
  | [], L, h, _, u, hu => by simp [rvs] at h; subst h; cases hu
  | v :: r, L, h, ha, u, hu => by
    unfold rvs at h
    split at h
    · rename_i V R hv hr
      cases h
      simp only [List.all_cons, Bool.and_eq_true] at ha
      rcases List.mem_cons.1 hu with rfl | hu
      · rw [rv_one hv]; exact ha.1
      · exact rvs_one hr ha.2 u hu
    · cases h
def cellsOf : Value → List Value
  | .agg ⟨l⟩ => l
  | v => [v]
theorem rv_cells {ρ : Env} {v V : Value} (h : rv ρ v = some V) (h1 : (cellsOf v).all (·.oneCell') = true) : rvs ρ (cellsOf v) = some V.cells.toList := by
  cases v with
  | agg p => obtain ⟨X, hx, rfl⟩ := rv_agg h; simpa [cellsOf, Value.cells] using hx
  | tuple p => simp [cellsOf, Value.oneCell'] at h1
  | _ =>
    have h2 := rv_one h
    have h3 : V.cells = #[V] := Go.Vcg.one_cells (by rw [h2]; rfl)
    simp [cellsOf, rvs, h, h3]
end
section
open Go.RowKit Go.MapKept
open Go.Vcg (Keep beq_ne aggOf sizeT zeroT bytesT fieldT run_fieldAt run_indexAt add_lit callable run_zeroValue)
attribute [local irreducible] capU
section
variable {P : Program} {N : Nat} {ρ : Env} {h : Heap} {l : Sls} {a : Act} {w : World} {nx : Nat}
variable {ds : Option Nat} {ty : TypeId} {pos : String} {af : Array Edge} {gd : Option (Nat × Bool)}
theorem blt_t {a b : Nat} (h : Nat.blt a b = true) : a < b := by simp [Nat.blt] at h; omega
theorem blt_f {a b : Nat} (h : Nat.blt a b = false) : b ≤ a := Nat.le_of_not_lt fun hlt => by
  rw [show Nat.blt a b = true from (by rw [Nat.blt, Nat.ble_eq]; exact hlt)] at h; cases h
theorem ble_t {a b : Nat} (h : Nat.ble a b = true) : a ≤ b := by simpa using h
def pflat (P : Program) (s : Sem Value) : Option Value := match psem P s with
  | some r => match flat2 r with
    | true => some r
    | false => none
  | none => none
theorem pflat_sound {s : Sem Value} {v : Value} (e : pflat P s = some v) : (∀ w : World, s.run P w = .ok v w) ∧ ∀ ρ, rv ρ v = some v := by
  unfold pflat at e
  split at e
  · rename_i r hr
    split at e
    · rename_i hf; cases e; exact ⟨psem_run hr, fun ρ => rv_flat2 hf⟩
    · cases e
  · cases e
def f1 (u : Value) (k : Unit → Option Value) : Option Value := match flat2 u with
  | true => k ()
  | false => none
theorem f1_sound {u U v : Value} {k : Unit → Option Value} (hu : rv ρ u = some U) (e : f1 u k = some v) : U = u ∧ k () = some v := by
  unfold f1 at e
  split at e
  · rename_i hf; exact ⟨rv_flat2_eq hf hu, e⟩
  · cases e
def qlen (P : Program) (ts : List TypeId) (u : Value) : Option Value := match ts with
  | [t] => match u with
    | .slice _ n _ => match P.underlying t with
      | some (.slice _) => some (.int .i64 n)
      | _ => none
    | _ => none
  | _ => none
theorem qlen_sound {ts : List TypeId} {x : Operand} {u v : Value} (hu : rv ρ u = some (a.eval x)) (e : qlen P ts u = some v) : Yes P ρ a w ⟨ds, .call { callee := .builtin .len, args := #[x], argTypes := ts.toArray }, ty, pos, af, gd⟩ v := by
  unfold qlen at e
  split at e
  · rename_i t
    split at e
    · rename_i A n c
      split at e
      · rename_i el ht
        cases e
        refine ⟨_, rv_flat rfl, ?_⟩
        have : ∃ A' c', a.eval x = .slice A' n c' := by
          rcases A with _ | ⟨b, o, _ | s⟩
          · exact ⟨_, _, rv_nil hu rfl⟩
          · obtain ⟨A', C, h1⟩ := rv_slice_some hu; exact ⟨_, _, h1⟩
          · simp [rv] at hu
        obtain ⟨A', c', h1⟩ := this
        generalize a.eval = ev at h1
        simp [execOp, h1, resolve, invoke, builtin, Builtin.len_, run_underlying ht, goInt]
      · cases e
    · cases e
  · cases e
def qfield (P : Program) (t : TypeId) (u : Value) (i : Nat) : Option Value := match P.underlying t with
  | some (.struct fs) => match fs[i]? with
    | some f => match u with
      | .agg ⟨cs⟩ => varAt P f.type cs f.offset
      | _ => none
    | none => none
  | _ => none
theorem qfield_sound {t : TypeId} {u U v : Value} {i : Nat} (hu : rv ρ u = some U) (e : qfield P t u i = some v) : ∃ V, rv ρ v = some V ∧ (Instr.field t U i).run P w = .ok V w := by
  unfold qfield at e
  split at e
  · rename_i fs hT
    split at e
    · rename_i f hf
      split at e
      · rename_i cs
        obtain ⟨X, hX, rfl⟩ := rv_agg hu
        obtain ⟨V, h1, h2⟩ := run_part (P := P) (w := w) hX e
        exact ⟨V, h1, by simp [Instr.field, run_underlying hT, hf, asAgg, h2]⟩
      · cases e
    · cases e
  · cases e
def qfaddr (P : Program) (t : TypeId) (u : Value) (i : Nat) : Option Value := match u with
  | .pointer (some ⟨b, o, none⟩) => match fieldT P t i with
    | some (_, off) => some (.pointer (some ⟨b, o + off, none⟩))
    | none => none
  | _ => none
theorem rv_ptr' {b o : Nat} {V : Value} (e : rv ρ (.pointer (some ⟨b, o, none⟩)) = some V) : ∃ B C O, ρ b = some (B, C, O) ∧ V = .pointer (some ⟨B, O + o, none⟩) := by
  unfold rv at e
  split at e
  · rename_i B C O hb; cases e; exact ⟨B, C, O, hb, rfl⟩
  · cases e
theorem qfaddr_sound {t : TypeId} {u U v : Value} {i : Nat} (hu : rv ρ u = some U) (e : qfaddr P t u i = some v) : ∃ V, rv ρ v = some V ∧ (Instr.fieldAt t U i).run P w = .ok V w := by
  unfold qfaddr at e
  split at e
  · rename_i b o
    split at e
    · rename_i ft off hf
      cases e
      obtain ⟨B, C, O, hb, rfl⟩ := rv_ptr' hu
      exact ⟨_, by simp [rv, hb]; rfl, by rw [run_fieldAt hf, add_lit, Nat.add_assoc]⟩
    · cases e
  · cases e
def qiaddr (P : Program) (t : TypeId) (u : Value) (i : Value) : Option Value := match i with
  | .int .i64 (.ofNat k) => match u with
    | .slice (some ⟨b, o, none⟩) n _ => match Nat.blt k n with
      | true => match P.underlying t with
        | some (.slice e) => match sizeT P e with
          | some s => some (.pointer (some ⟨b, o + k * s, none⟩))
          | none => none
        | _ => none
      | false => none
    | _ => none
  | _ => none
def qiarr (P : Program) (t : TypeId) (u : Value) (i : Value) : Option Value := match i with
  | .int _ (.ofNat k) => match u with
    | .pointer (some ⟨b, o, none⟩) => match P.underlying t with
        | some (.array n e) => match Nat.blt k n with
          | true => match sizeT P e with
            | some s => some (.pointer (some ⟨b, o + k * s, none⟩))
            | none => none
          | false => none
        | _ => none
    | _ => none
  | _ => none
theorem qiaddr_sound {t : TypeId} {u U i v : Value} (hu : rv ρ u = some U) (e : qiaddr P t u i = some v) : ∃ V, rv ρ v = some V ∧ (Instr.indexAt t U i).run P w = .ok V w := by
  unfold qiaddr at e
  split at e
  · rename_i k
    split at e
    · rename_i b o n c
      split at e
      · rename_i hk
        split at e
        · rename_i el hT
          split at e
          · rename_i s hs
            cases e
            have hk' : k < n := blt_t hk
            obtain ⟨B, C, O, hb, h1⟩ := rv_slice hu
            have h2 : ∃ c', U = .slice (some ⟨B, O + o, none⟩) n c' := by
              rcases h1 with ⟨_, rfl⟩ | ⟨_, _, rfl⟩ <;> exact ⟨_, rfl⟩
            obtain ⟨c', rfl⟩ := h2
            refine ⟨.pointer (some ⟨B, O + (o + k * s), none⟩), by simp [rv, hb], ?_⟩
            have := run_indexAt (P := P) (A := ⟨B, O + o, none⟩) (cap := c') hT hs hk' w
            rw [add_lit, Nat.add_assoc] at this
            exact this
          · cases e
        · cases e
      · cases e
    · cases e
  · cases e
theorem qiarr_sound {t : TypeId} {u U i v : Value} (hu : rv ρ u = some U) (e : qiarr P t u i = some v) : ∃ V, rv ρ v = some V ∧ (Instr.indexAt t U i).run P w = .ok V w := by
  unfold qiarr at e
  split at e
  · rename_i kd k
    split at e
    · rename_i b o
      split at e
      · rename_i n el hT
        split at e
        · rename_i hk
          split at e
          · rename_i s hs
            cases e
            have hk' : k < n := blt_t hk
            obtain ⟨B, C, O, hb, rfl⟩ := rv_ptr' hu
            refine ⟨.pointer (some ⟨B, O + (o + k * s), none⟩), by simp [rv, hb], ?_⟩
            simp [Instr.indexAt, asIntOf, run_underlying hT, Instr.sureAddr, Go.Vcg.run_sizeOf hs, hk', add_lit, Nat.add_assoc]
          · cases e
        · cases e
      · cases e
    · cases e
  · cases e
def boundOf (x : Option Value) (d : Nat) : Option Nat := match x with
  | none => some d
  | some (.int .i64 (.ofNat k)) => some k
  | some _ => none
def boundMax (hi : Option Value) (m : Value) : Option Nat := match hi with
  | none => none
  | some _ => boundOf (some m) 0
def qsliceU (capU : Nat) (P : Program) (t : TypeId) (u : Value) (lo hi mx : Option Value) : Option Value := match P.underlying t with
  | some (.slice e) => match sizeT P e with
    | some s => match u with
      | .slice (some ⟨b, o, none⟩) n c => match boundOf lo 0, boundOf hi n with
        | some i, some j => match mx with
          | none => match Nat.ble i j with
            | true => match Nat.blt c capU with
              | true => match Nat.ble j c with
                | true => match Nat.beq c i with
                  | true => some (.slice (some ⟨b, o, none⟩) (j - i) (c - i))
                  | false => some (.slice (some ⟨b, o + i * s, none⟩) (j - i) (c - i))
                | false => none
              | false => match Nat.ble j n with
                | true => match Nat.beq i 0 with
                  | true => some (.slice (some ⟨b, o, none⟩) (j - i) c)
                  | false => match Nat.blt i n with
                    | true => some (.slice (some ⟨b, o + i * s, none⟩) (j - i) (c + i))
                    | false => none
                | false => none
            | false => none
          | some m => match boundMax hi m with
            | some m => match Nat.ble i j with
              | true => match Nat.ble j m with
                | true => match Nat.ble m n with
                  | true => match Nat.ble m c with
                    | true => match Nat.beq m i with
                      | true => match Nat.blt m capU with
                        | true => some (.slice (some ⟨b, o, none⟩) (j - i) (m - i))
                        | false => none
                      | false => match Nat.blt m capU with
                        | true => some (.slice (some ⟨b, o + i * s, none⟩) (j - i) (m - i))
                        | false => none
                    | false => none
                  | false => none
                | false => none
              | false => none
            | none => none
        | _, _ => none
      | .slice none 0 0 => match boundOf lo 0, boundOf hi 0 with
        | some 0, some 0 => match mx with
          | none => some (.slice none 0 0)
          | some m => match boundMax hi m with
            | some 0 => some (.slice none 0 0)
            | _ => none
        | _, _ => none
      | _ => none
    | none => none
  | _ => none
theorem run_bound {x : Value} {k y : Nat} (e : boundOf (some x) 0 = some k) (hk : k ≤ y) (c : BoundsCode) : (Instr.sliceBound x y c).run P w = .ok k w := by
  unfold boundOf at e
  split at e
  · rename_i h1; cases h1
  · rename_i k' h1
    cases h1; cases e
    have h2 : (0 : Int) ≤ (k : Int) ∧ (k : Int) ≤ (y : Int) := by omega
    simp [Instr.sliceBound, asIntOf, hk]
  · cases e
theorem boundOf_some (u : Value) (n : Nat) : boundOf (some u) n = boundOf (some u) 0 := by
  unfold boundOf
  split <;> simp_all
theorem run_sliceAt {t e : TypeId} {s n c i j : Nat} {A : Option Addr} {lo hi : Option Value} (ht : P.underlying t = some (.slice e)) (hs : sizeT P e = some s) (hi' : boundOf lo 0 = some i) (hj : boundOf hi n = some j) (h1 : i ≤ j) (h2 : j ≤ c) :
    (Instr.sliceAt t (.slice A n c) lo hi none).run P w = .ok (.slice (if c = i then A else A.map (·.add (i * s))) (j - i) (c - i)) w := by
  have hlo : (match lo with | some v => Instr.sliceBound v j .sliceB | none => pure 0 : Sem Nat).run P w = .ok i w := by
    cases lo with
    | none => simp [boundOf] at hi'; simp [hi']
    | some v => exact run_bound hi' h1 _
  cases hi with
  | none =>
    simp [boundOf] at hj
    subst hj
    cases lo with
    | none => simp [boundOf] at hi'; subst hi'; simp [Instr.sliceAt, Instr.slice, run_underlying ht, Instr.sliceBounds, Go.Vcg.run_sizeOf hs]
    | some v => simp [Instr.sliceAt, Instr.slice, run_underlying ht, Instr.sliceBounds, Go.Vcg.run_sizeOf hs, run_bound hi' h1]
  | some u =>
    have hj' : boundOf (some u) 0 = some j := by rw [← boundOf_some u n]; exact hj
    cases lo with
    | none => simp [boundOf] at hi'; subst hi'; simp [Instr.sliceAt, Instr.slice, run_underlying ht, Instr.sliceBounds, Go.Vcg.run_sizeOf hs, run_bound hj' h2]
    | some v => simp [Instr.sliceAt, Instr.slice, run_underlying ht, Instr.sliceBounds, Go.Vcg.run_sizeOf hs, run_bound hi' h1, run_bound hj' h2]
theorem run_sliceAt3 {t e : TypeId} {s n c i j m : Nat} {A : Option Addr} {lo : Option Value} {hv mv : Value} (ht : P.underlying t = some (.slice e)) (hs : sizeT P e = some s) (hi' : boundOf lo 0 = some i) (hj : boundOf (some hv) 0 = some j) (hm : boundOf (some mv) 0 = some m) (h1 : i ≤ j) (h2 : j ≤ m) (h3 : m ≤ c) :
    (Instr.sliceAt t (.slice A n c) lo (some hv) (some mv)).run P w = .ok (.slice (if m = i then A else A.map (·.add (i * s))) (j - i) (m - i)) w := by
  cases lo with
  | none => simp [boundOf] at hi'; subst hi'; simp [Instr.sliceAt, Instr.slice, run_underlying ht, Instr.sliceBounds, Go.Vcg.run_sizeOf hs, run_bound hj h2, run_bound hm h3]
  | some v => simp [Instr.sliceAt, Instr.slice, run_underlying ht, Instr.sliceBounds, Go.Vcg.run_sizeOf hs, run_bound hi' h1, run_bound hj h2, run_bound hm h3]
theorem rv_slice_mk {b o n c B C O : Nat} (hb : ρ b = some (B, C, O)) (hc : c < capU) : rv ρ (.slice (some ⟨b, o, none⟩) n c) = some (.slice (some ⟨B, O + o, none⟩) n c) := by
  simp [rv, hb, hc]
theorem rv_slice_mku {b o n c B C O : Nat} (hb : ρ b = some (B, C, O)) (hc : capU ≤ c) (hn : n + (c - capU) ≤ C) : rv ρ (.slice (some ⟨b, o, none⟩) n c) = some (.slice (some ⟨B, O + o, none⟩) n (C - (c - capU))) := by
  simp [rv, hb, show ¬ c < capU by omega, hn]
theorem qsliceU_sound {U0 : Nat} (mk : ∀ (b o n c B C O : Nat), ρ b = some (B, C, O) → c < U0 → rv ρ (.slice (some ⟨b, o, none⟩) n c) = some (.slice (some ⟨B, O + o, none⟩) n c))
    (mku : ∀ (b o n c B C O : Nat), ρ b = some (B, C, O) → U0 ≤ c → n + (c - U0) ≤ C → rv ρ (.slice (some ⟨b, o, none⟩) n c) = some (.slice (some ⟨B, O + o, none⟩) n (C - (c - U0))))
    (rs : ∀ (b o n c : Nat) (V : Value), rv ρ (.slice (some ⟨b, o, none⟩) n c) = some V → ∃ B C O, ρ b = some (B, C, O) ∧ ((c < U0 ∧ V = .slice (some ⟨B, O + o, none⟩) n c) ∨ (U0 ≤ c ∧ n + (c - U0) ≤ C ∧ V = .slice (some ⟨B, O + o, none⟩) n (C - (c - U0)))))
    {t : TypeId} {u U v : Value} {lo hi mx : Option Value} (hu : rv ρ u = some U) (e : qsliceU U0 P t u lo hi mx = some v) : ∃ V, rv ρ v = some V ∧ (Instr.sliceAt t U lo hi mx).run P w = .ok V w := by
  unfold qsliceU at e
  split at e
  · rename_i el ht
    split at e
    · rename_i s hs
      split at e
      · rename_i b o n c
        split at e
        · rename_i i j hi' hj
          obtain ⟨B, C, O, hb, hU⟩ := rs _ _ _ _ _ hu
          split at e
          · split at e
            · rename_i hij
              have hij' : i ≤ j := ble_t hij
              split at e
              · rename_i hc
                have hc' : c < U0 := blt_t hc
                rcases hU with ⟨_, rfl⟩ | ⟨h', _⟩
                · split at e
                  · rename_i hjc
                    have hjc' : j ≤ c := ble_t hjc
                    have hr := run_sliceAt (P := P) (w := w) (A := some ⟨B, O + o, none⟩) (n := n) ht hs hi' hj hij' hjc'
                    split at e
                    · rename_i hci
                      have hci' : c = i := Nat.eq_of_beq_eq_true hci
                      cases e
                      refine ⟨_, mk _ _ _ _ _ _ _ hb (by omega), ?_⟩
                      rw [hr, if_pos hci']
                    · rename_i hci
                      have hci' : c ≠ i := Nat.ne_of_beq_eq_false hci
                      cases e
                      refine ⟨_, mk _ _ _ _ _ _ _ hb (by omega), ?_⟩
                      rw [hr, if_neg hci']
                      simp [add_lit, Nat.add_assoc]
                  · cases e
                · omega
              · rename_i hc
                have hc' : U0 ≤ c := blt_f hc
                rcases hU with ⟨h', _⟩ | ⟨_, hnC, rfl⟩
                · omega
                · split at e
                  · rename_i hjn
                    have hjn' : j ≤ n := ble_t hjn
                    have hr := run_sliceAt (P := P) (w := w) (A := some ⟨B, O + o, none⟩) (n := n) (c := C - (c - U0)) ht hs hi' hj hij' (by omega)
                    split at e
                    · rename_i h0
                      have h0' : i = 0 := Nat.eq_of_beq_eq_true h0
                      subst h0'
                      cases e
                      refine ⟨_, mku _ _ _ _ _ _ _ hb hc' (by omega), ?_⟩
                      rw [hr]
                      by_cases h0 : C - (c - U0) = 0
                      · rw [if_pos h0]; simp
                      · rw [if_neg h0]; simp [add_lit]
                    · split at e
                      · rename_i hin
                        have hin' : i < n := blt_t hin
                        cases e
                        refine ⟨_, mku _ _ _ _ _ _ _ hb (by omega) (by omega), ?_⟩
                        rw [hr, if_neg (by omega)]
                        simp only [Option.map_some, add_lit, Nat.add_assoc]
                        congr 2
                        omega
                      · cases e
                  · cases e
            · cases e
          · rename_i m0
            split at e
            · rename_i m hm
              unfold boundMax at hm
              split at hm
              · cases hm
              · rename_i hv
                split at e
                · rename_i hij
                  have hij' : i ≤ j := ble_t hij
                  split at e
                  · rename_i hjm
                    have hjm' : j ≤ m := ble_t hjm
                    split at e
                    · rename_i hmn
                      have hmn' : m ≤ n := ble_t hmn
                      split at e
                      · rename_i hmc
                        have hmc' : m ≤ c := ble_t hmc
                        have hU' : ∃ c', U = .slice (some ⟨B, O + o, none⟩) n c' ∧ m ≤ c' := by
                          rcases hU with ⟨_, rfl⟩ | ⟨_, h2, rfl⟩
                          · exact ⟨_, rfl, hmc'⟩
                          · exact ⟨_, rfl, by omega⟩
                        obtain ⟨c', rfl, h3⟩ := hU'
                        have hr := run_sliceAt3 (P := P) (w := w) (A := some ⟨B, O + o, none⟩) (n := n) ht hs hi' (by rw [← boundOf_some hv n]; exact hj) hm hij' hjm' h3
                        split at e
                        · rename_i hmi
                          have hmi' : m = i := Nat.eq_of_beq_eq_true hmi
                          split at e
                          · rename_i hcu
                            have hcu' : m < U0 := blt_t hcu
                            cases e
                            refine ⟨_, mk _ _ _ _ _ _ _ hb (by omega), ?_⟩
                            rw [hr, if_pos hmi']
                          · cases e
                        · rename_i hmi
                          have hmi' : m ≠ i := Nat.ne_of_beq_eq_false hmi
                          split at e
                          · rename_i hcu
                            have hcu' : m < U0 := blt_t hcu
                            cases e
                            refine ⟨_, mk _ _ _ _ _ _ _ hb (by omega), ?_⟩
                            rw [hr, if_neg hmi']
                            simp [add_lit, Nat.add_assoc]
                          · cases e
                      · cases e
                    · cases e
                  · cases e
                · cases e
            · cases e
        · cases e
      · cases rv_nil hu rfl
        split at e
        · rename_i hi' hj
          split at e
          · cases e
            refine ⟨_, rv_flat rfl, ?_⟩
            rw [run_sliceAt ht hs hi' hj (Nat.le_refl _) (Nat.le_refl _)]
            simp
          · split at e
            · rename_i hm
              cases e
              unfold boundMax at hm
              split at hm
              · cases hm
              · refine ⟨_, rv_flat rfl, ?_⟩
                rw [run_sliceAt3 ht hs hi' hj hm (Nat.le_refl _) (Nat.le_refl _) (Nat.le_refl _)]
                simp
            · cases e
        · cases e
      · cases e
    · cases e
  · cases e
def qslice (P : Program) (t : TypeId) (u : Value) (lo hi mx : Option Value) : Option Value := qsliceU capU P t u lo hi mx
theorem qslice_sound {t : TypeId} {u U v : Value} {lo hi mx : Option Value} (hu : rv ρ u = some U) (e : qslice P t u lo hi mx = some v) : ∃ V, rv ρ v = some V ∧ (Instr.sliceAt t U lo hi mx).run P w = .ok V w :=
  qsliceU_sound (fun _ _ _ _ _ _ _ => rv_slice_mk) (fun _ _ _ _ _ _ _ => rv_slice_mku) (fun _ _ _ _ _ => rv_slice) hu e
end
end
section
open Go.RowKit Go.MapKept
open Go.Vcg (Keep beq_ne aggOf sizeT zeroT bytesT add_lit callable run_zeroValue run_append_row run_append_call run_buildSlice BP nat16_eq natB_eq)
theorem setRow_fr (w : World) (B : Nat) (cs : Array Value) : Fr B w (w.setRow B cs) := ⟨rfl, rfl, rfl, by simp, fun b _ hb => setRow_other w B b cs hb⟩
theorem splice_get {xs vs : List Value} {off i : Nat} (h : off + vs.length ≤ xs.length) : (xs.take off ++ vs ++ xs.drop (off + vs.length))[i]? = if i < off then xs[i]? else if i < off + vs.length then vs[i - off]? else xs[i]? := by
  have e1 : (xs.take off).length = off := by simp; omega
  by_cases h1 : i < off
  · rw [if_pos h1, List.append_assoc, List.getElem?_append_left (by omega), List.getElem?_take, if_pos h1]
  · rw [if_neg h1, List.append_assoc, List.getElem?_append_right (by omega), e1]
    by_cases h2 : i < off + vs.length
    · rw [if_pos h2, List.getElem?_append_left (by omega)]
    · rw [if_neg h2, List.getElem?_append_right (by omega), List.getElem?_drop]
      congr 1
      omega
section
variable {P : Program} {N : Nat} {w0 : World} {ρ : Env} {h : Heap} {l : Sls} {a : Act} {w : World} {nx : Nat}
variable {ds : Option Nat} {ty : TypeId} {pos : String} {af : Array Edge} {gd : Option (Nat × Bool)}
def hstore (h : Heap) (b off : Nat) (vs : List Value) : Option Heap := match hget h b with
  | some (.cells cs t false) => match layD off vs cs with
    | some cs' => some (hset h b (some (.cells cs' t false)))
    | none => none
  | some (.row cs t sz) => match layD off vs cs with
    | some cs' => some (hset h b (some (.row cs' t sz)))
    | none => none
  | _ => none
theorem hstore_sound (r : Rel w0 ρ h nx w) {b off : Nat} {vs VS : List Value} {h' : Heap} (e : hstore h b off vs = some h') (hv : rvs ρ vs = some VS) (h1 : ∀ u ∈ VS, u.oneCell' = true) :
    ∃ B C w', ρ b = some (B, C, 0) ∧ Pr h h' ∧ Rel w0 ρ h' nx w' ∧ ∀ t V, V.cells.toList = VS → sizeT P t = some VS.length → (Instr.storeAt t (.pointer (some ⟨B, off, none⟩)) V).run P w = .ok () w' := by
  have run : ∀ B (arr : Array Value) et t V, w.heap[B]? = some (.cells arr et (0, 0)) → off + VS.length ≤ arr.size → V.cells.toList = VS → sizeT P t = some VS.length →
      (Instr.storeAt t (.pointer (some ⟨B, off, none⟩)) V).run P w = .ok () (w.setRow B (arr.toList.take off ++ VS ++ arr.toList.drop (off + VS.length)).toArray) := fun B arr et t V hh hfit hV hsz => by
    have hrow := run_storeCells_at (P := P) B off et VS 0 arr w hh (by omega) h1
    have hl : V.cells.size = VS.length := by rw [← hV]; simp
    have hl' : ¬ V.cells.size ≠ VS.length := by simpa using hl
    simp only [Instr.storeAt, Instr.sureAddr, storeVar, Sem.run_bind, Sem.run_pure, Result.andThen_ok, Go.Vcg.run_sizeOf hsz, if_neg hl', hV]
    simpa using hrow
  unfold hstore at e
  split at e
  · rename_i cs t hg
    split at e
    · rename_i cs' hl
      cases e
      obtain ⟨B, C, hB, CS, g1, g2⟩ := r.ok b _ hg
      obtain ⟨k1, k2⟩ := rvs_layD g1 hv hl
      refine ⟨B, C, _, hB, Pr.set (hget_lt hg) _, r.upd hg rfl rfl hB (setRow_fr w B _) ⟨_, k2, ?_⟩, fun t' V hV hsz => run B CS.toArray t t' V g2 (by simpa using k1) hV hsz⟩
      exact setRow_heap w B CS.toArray _ t (0, 0) g2
    · cases e
  · rename_i cs t sz hg
    split at e
    · rename_i cs' hl
      cases e
      obtain ⟨B, C, hB, CS, arr, g1, g2, g3, g4, g5, g6⟩ := r.ok b _ hg
      obtain ⟨k1, k2⟩ := rvs_layD g1 hv hl
      have hlen : (CS.take off ++ VS ++ CS.drop (off + VS.length)).length = CS.length := by simp; omega
      refine ⟨B, C, _, hB, Pr.set (hget_lt hg) _, r.upd hg rfl rfl hB (setRow_fr w B _) ⟨_, _, k2, setRow_heap w B arr (arr.toList.take off ++ VS ++ arr.toList.drop (off + VS.length)).toArray t (0, 0) g2, ?_, g4, ?_, ?_⟩, fun t' V hV hsz => run B arr t t' V g2 (by omega) hV hsz⟩
      · rw [← g3]; simp; omega
      · rw [hlen]; simp; omega
      · rw [hlen]
        apply List.ext_getElem?
        intro i
        have hcs : ∀ i, i < CS.length → CS[i]? = arr[i]? := fun i hi => by rw [← g6, List.getElem?_take, if_pos hi]; simp
        rw [List.getElem?_take]
        by_cases hi : i < CS.length
        · rw [if_pos hi]
          have q1 := splice_get (xs := arr.toList) (vs := VS) (off := off) (i := i) (by simp; omega)
          have q2 := splice_get (xs := CS) (vs := VS) (off := off) (i := i) k1
          have q3 := hcs i hi
          rw [q1, q2]
          simp [q3]
        · rw [if_neg hi, List.getElem?_eq_none (by omega)]
    · cases e
  · cases e
inductive Eff where
  | val (v : Value) (h : Heap) (nx : Nat)
  | skip (h : Heap) (nx : Nat)
def Does (P : Program) (w0 : World) (ρ : Env) (h : Heap) (b0 : Nat) (a : Act) (w : World) (o : Oper) : Eff → Prop
  | .val v h' nx' => ∃ ρ' V w', ELe ρ ρ' ∧ (∀ c, c ≠ b0 → ρ' c = ρ c) ∧ Pr h h' ∧ rv ρ' v = some V ∧ Rel w0 ρ' h' nx' w' ∧ (execOp a.eval o).run P w = .ok (.value V) w'
  | .skip h' nx' => ∃ w', Pr h h' ∧ Rel w0 ρ h' nx' w' ∧ (execOp a.eval o).run P w = .ok .skip w'
theorem ext_other {ρ : Env} {b : Nat} {x : Nat × Nat × Nat} : ∀ c, c ≠ b → ext ρ b x c = ρ c := fun _ hc => ext_ne hc
def estore (P : Program) (h : Heap) (nx : Nat) (t : TypeId) (u v : Value) : Option Eff := match u with
  | .pointer (some ⟨b, o, none⟩) => match sizeT P t with
    | some n => match Nat.beq (cellsOf v).length n with
      | true => match (cellsOf v).all (·.oneCell') with
        | true => match hstore h b o (cellsOf v) with
          | some h' => some (.skip h' nx)
          | none => none
        | false => none
      | false => none
    | none => none
  | _ => none
theorem estore_sound (r : Rel w0 ρ h nx w) {t : TypeId} {x y : Operand} {u v : Value} {f : Eff} (hu : rv ρ u = some (a.eval x)) (hv : rv ρ v = some (a.eval y)) {b0 : Nat} (e : estore P h nx t u v = some f) : Does P w0 ρ h b0 a w ⟨ds, .store t x y, ty, pos, af, gd⟩ f := by
  unfold estore at e
  split at e
  · rename_i b o
    split at e
    · rename_i n hn
      split at e
      · rename_i hl
        split at e
        · rename_i h1
          split at e
          · rename_i h' hs
            cases e
            have hc := rv_cells hv h1
            obtain ⟨B, C, w', g1, gp, g2, g3⟩ := hstore_sound (P := P) r hs hc (rvs_one hc h1)
            obtain ⟨B', C', O', g4, g5⟩ := rv_ptr' hu
            rw [g1] at g4
            cases g4
            have hlen := rvs_length hc
            have hl' := Nat.eq_of_beq_eq_true hl
            have hr := g3 t (a.eval y) rfl (by rw [hn]; congr 1; omega)
            refine ⟨w', gp, g2, ?_⟩
            rw [Nat.zero_add] at g5
            generalize a.eval = ev at g5 hr
            simp [execOp, g5, hr]
          · cases e
        · cases e
      · cases e
    · cases e
  · cases e
def ebox (h : Heap) (b0 nx : Nat) (t : TypeId) (v : Value) : Option Eff := match (cellsOf v).all (·.oneCell') with
  | true => some (.val (.pointer (some ⟨b0, 0, none⟩)) (hset h b0 (some (.cells (cellsOf v) t false))) nx)
  | false => none
theorem rv_newptr {B C : Nat} {b : Nat} : rv (ext ρ b (B, C, 0)) (.pointer (some ⟨b, 0, none⟩)) = some (.pointer (some ⟨B, 0, none⟩)) := by simp [rv, ext_same]
theorem ebox_sound {b0 nx' : Nat} (r : Rel w0 ρ h nx w) (hf : Fresh ρ nx b0 nx') {t : TypeId} {x : Operand} {v : Value} {f : Eff} (hv : rv ρ v = some (a.eval x)) (e : ebox h b0 nx' t v = some f) : Does P w0 ρ h b0 a w ⟨ds, .box t x, ty, pos, af, gd⟩ f := by
  unfold ebox at e
  split at e
  · rename_i h1
    cases e
    have hc := rv_cells hv h1
    refine ⟨_, _, _, ext_le hf.free, ext_other, Pr.set (Nat.lt_of_lt_of_le hf.lt hf.small) _, rv_newptr, r.cells hf hc t, ?_⟩
    generalize a.eval = ev
    simp [execOp, Instr.box, newVar, newRow]
  · cases e
def ealloc (P : Program) (h : Heap) (b0 nx : Nat) (t : TypeId) : Option Eff := match zeroT P t with
  | some z => match flat2 z with
    | true => match (cellsOf z).all (·.oneCell') with
      | true => some (.val (.pointer (some ⟨b0, 0, none⟩)) (hset h b0 (some (.cells (cellsOf z) t false))) nx)
      | false => none
    | false => none
  | none => none
theorem ealloc_sound {b0 nx' : Nat} (r : Rel w0 ρ h nx w) (hf : Fresh ρ nx b0 nx') {t : TypeId} {f : Eff} (e : ealloc P h b0 nx' t = some f) : Does P w0 ρ h b0 a w ⟨ds, .alloc t, ty, pos, af, gd⟩ f := by
  unfold ealloc at e
  split at e
  · rename_i z hz
    split at e
    · rename_i hfl
      split at e
      · rename_i h1
        cases e
        have hc := rv_cells (rv_flat2 (ρ := ρ) hfl) h1
        refine ⟨_, _, _, ext_le hf.free, ext_other, Pr.set (Nat.lt_of_lt_of_le hf.lt hf.small) _, rv_newptr, r.cells hf hc t, ?_⟩
        generalize a.eval = ev
        simp [execOp, Instr.alloc, run_zeroValue hz, newVar, newRow]
      · cases e
    · cases e
  · cases e
def partsM (N : Nat) (l : Sls) (s : Nat) : Nat → List (Nat × Operand) → Option (List Value)
  | _, [] => some []
  | i, (j, x) :: ps => match Nat.beq j i with
    | true => match aev N l x with
      | some v => match (cellsOf v).all (·.oneCell') with
        | true => match Nat.beq (cellsOf v).length s with
          | true => match partsM N l s (i + 1) ps with
            | some r => some (cellsOf v ++ r)
            | none => none
          | false => none
        | false => none
      | none => none
    | false => none
theorem partsM_sound (hs : Sl N ρ l a) {s : Nat} : ∀ {ps : List (Nat × Operand)} {i : Nat} {cs : List Value}, partsM N l s i ps = some cs →
    ∃ VS : List Value, (ps.map fun (i, x) => (i, a.eval x)) = (VS.zipIdx i).map (fun p => (p.2, p.1)) ∧ rvs ρ cs = some (Go.Vcg.flat VS) ∧ (∀ v ∈ VS, v.cells.size = s) ∧ VS.length = ps.length
  | [], i, cs, e => by unfold partsM at e; cases e; exact ⟨[], by simp, by simp [rvs, Go.Vcg.flat], by simp, rfl⟩
  | (j, x) :: ps, i, cs, e => by
    unfold partsM at e
    split at e
    · rename_i hj
      split at e
      · rename_i v hv
        split at e
        · rename_i h1
          split at e
          · rename_i hl
            split at e
            · rename_i r hr
              cases e
              obtain ⟨VS, g1, g2, g3, g4⟩ := partsM_sound hs hr
              have hx := aev_sound hs hv
              have hc := rv_cells hx h1
              have hji := Nat.eq_of_beq_eq_true hj
              subst hji
              refine ⟨a.eval x :: VS, by simp [g1], ?_, ?_, by simp [g4]⟩
              · have : Go.Vcg.flat (a.eval x :: VS) = (a.eval x).cells.toList ++ Go.Vcg.flat VS := by simp [Go.Vcg.flat]
                rw [this]
                exact rvs_append hc g2
              · intro u hu
                rcases List.mem_cons.1 hu with rfl | hu
                · have := rvs_length hc
                  have h2 := Nat.eq_of_beq_eq_true hl
                  rw [← h2, ← this]; simp
                · exact g3 u hu
            · cases e
          · cases e
        · cases e
      · cases e
    · cases e
def ebuild (P : Program) (N : Nat) (h : Heap) (b0 nx : Nat) (l : Sls) (t : TypeId) (n : Nat) (ps : List (Nat × Operand)) : Option Eff := match P.underlying t with
  | some (.slice el) => match sizeT P el with
    | some s => match zeroT P el with
      | some _ => match Nat.beq ps.length n with
        | true => match Nat.ble (n * s) 16777216 with
          | true => match Nat.blt n capU with
            | true => match partsM N l s 0 ps with
              | some cs => some (.val (.slice (some ⟨b0, 0, none⟩) n n) (hset h b0 (some (.cells cs el false))) nx)
              | none => none
            | false => none
          | false => none
        | false => none
      | none => none
    | none => none
  | _ => none
theorem ebuild_sound {b0 nx' : Nat} (r : Rel w0 ρ h nx w) (hf : Fresh ρ nx b0 nx') (hs : Sl N ρ l a) {t : TypeId} {n : Nat} {ps : List (Nat × Operand)} {f : Eff} (e : ebuild P N h b0 nx' l t n ps = some f) : Does P w0 ρ h b0 a w ⟨ds, .buildSlice t n ps.toArray, ty, pos, af, gd⟩ f := by
  unfold ebuild at e
  split at e
  · rename_i el hT
    split at e
    · rename_i s hsz
      split at e
      · rename_i z hz
        split at e
        · rename_i hl
          split at e
          · rename_i hb
            split at e
            · rename_i hu
              split at e
              · rename_i cs hp
                cases e
                obtain ⟨VS, g1, g2, g3, g4⟩ := partsM_sound hs hp
                have hl' := Nat.eq_of_beq_eq_true hl
                refine ⟨_, .slice (some ⟨w.heap.size, 0 + 0, none⟩) n n, _, ext_le hf.free, ext_other, Pr.set (Nat.lt_of_lt_of_le hf.lt hf.small) _, rv_slice_mk ext_same (blt_t hu), r.cells hf g2 el, ?_⟩
                have hr := run_buildSlice (P := P) VS hT hsz hz g3 (by rw [g4, hl']; exact ble_t hb) w
                generalize a.eval = ev at g1
                rw [g4, hl', ← g1] at hr
                simp [execOp, hr]
              · cases e
            · cases e
          · cases e
        · cases e
      · cases e
    · cases e
  · cases e
end
end
end Go.Rex
namespace Go.Proofs.YtoclmkdfcafhfaaGreatDoor
end Go.Proofs.YtoclmkdfcafhfaaGreatDoor
