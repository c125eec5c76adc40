/- Rules for maps of the call's own. No statement of the seat is proved here. -/
import Derived.Test.YtmihpkdhfomcgaaGreatDoorVq
import Derived.MapKept
set_option maxRecDepth 20000
namespace Go.Vcg
open Go.RowKit Go.MapKept
section
variable {P : Program} {X : Ctx} {ops : Array Oper} {Q : Exit → Act → World → Prop} {rest : List Oper} {μ μr : Mem} {l : Slots} {L Lr : List Bk} {a : Act} {w : World} {o : Oper} {d fuel i : Nat} {listed : Array Bool}
variable {ty : TypeId} {pos : String} {af : Array Edge} {gd : Option (Nat × Bool)} {ds : Option Nat}

/-- A new block of whatever kind. -/
theorem St.newB (h : St X μ l L a w) (x : Obj) (y : Bk) (hid : Bk.id y = some w.heap.size) (hy : Bk.at y (w.alloc x)) : St X μ l (y :: L) a (w.alloc x) := by
  have hold : ∀ b, b < w.heap.size → (w.alloc x).heap[b]? = w.heap[b]? := fun b hb => Below.heap_alloc w _ b hb
  have hlt : ∀ x ∈ L, ∀ b, Bk.id x = some b → b < w.heap.size := fun x hx b hb => Bk.lt (h.own x hx) hb
  refine ⟨h.size, h.defers, h.slots, ⟨h.keep.os, h.keep.tape, h.keep.output, Nat.le_trans h.keep.size (by simp), fun b hb hM => ?_⟩, fun b o hb => ?_, h.from0, h.fresh, fun x hx => ?_, fun x hx b hb => ?_, fun x hx b hb => ?_, ?_⟩
  · rw [hold b (Nat.lt_of_lt_of_le hb h.keep.size)]; exact h.keep.block b hb hM
  · have := h.mem b o hb
    rw [hold b (Array.getElem?_eq_some_iff.1 this).1]; exact this
  · rcases List.mem_cons.1 hx with rfl | hx
    · exact hy
    · exact Bk.keep (h.own x hx) (fun b hb => hold b (hlt x hx b hb))
  · rcases List.mem_cons.1 hx with rfl | hx
    · rw [hid] at hb
      cases hb
      cases hm : μ w.heap.size with
      | none => rfl
      | some o =>
        have := (Array.getElem?_eq_some_iff.1 (h.mem _ _ hm)).1
        omega
    · exact h.priv x hx b hb
  · rcases List.mem_cons.1 hx with rfl | hx
    · rw [hid] at hb
      cases hb; exact .inr h.keep.size
    · exact h.new x hx b hb
  · refine List.pairwise_cons.2 ⟨fun y hy b hb hb' => ?_, h.diff⟩
    have h1 := hlt y hy b hb'
    rw [hid] at hb
    have h2 : w.heap.size = b := Option.some.inj hb
    omega

theorem g_mkmap {t : TypeId} (hn : Nat.blt d X.n = true) (hw : wants ops l ⟨some d, .makeMap t none, ty, pos, af, gd⟩ = some true)
    (h : ∀ b, G P X ops Q rest μ ((d, .map (some b)) :: l) (.mp ⟨b, [], 0⟩ :: L)) : G P X ops Q (⟨some d, .makeMap t none, ty, pos, af, gd⟩ :: rest) μ l L :=
  g_wp hw fun a w hs => by
    have e : (execOp a.eval ⟨some d, .makeMap t none, ty, pos, af, gd⟩).run P w = .ok (.value (.map (some w.heap.size))) (w.alloc (.map #[] 0)) := by
      simp [execOp, run_makeMap]
    unfold Oper.wp
    rw [e, Oper.upon_value]
    exact h _ _ _ ((hs.newB (.map #[] 0) (.mp ⟨w.heap.size, [], 0⟩) rfl (heap_alloc_new w _)).put hn _)

def InM (L : List Bk) (b : Nat) (m : Mp) : Prop := ∃ i, nthB L i = some (.mp m) ∧ m.b = b
theorem inm_hd {b ck : Nat} {es : List MapEntry} {L : List Bk} : InM (.mp ⟨b, es, ck⟩ :: L) b ⟨b, es, ck⟩ := ⟨0, rfl, rfl⟩
theorem inm_tl {b : Nat} {m : Mp} {x : Bk} {L : List Bk} (h : InM L b m) : InM (x :: L) b m := by
  obtain ⟨i, h1, h2⟩ := h
  exact ⟨i + 1, h1, h2⟩
def UpM (L : List Bk) (b : Nat) (m : Mp) (F : Mp → List Bk) : Prop := ∃ i, nthB L i = some (.mp m) ∧ m.b = b ∧ ∀ m', F m' = updB L i (.mp m')
theorem upm_hd {b ck : Nat} {es : List MapEntry} {L : List Bk} : UpM (.mp ⟨b, es, ck⟩ :: L) b ⟨b, es, ck⟩ (fun m => .mp m :: L) := ⟨0, rfl, rfl, fun _ => rfl⟩
theorem upm_tl {b : Nat} {m : Mp} {x : Bk} {L : List Bk} {F : Mp → List Bk} (h : UpM L b m F) : UpM (x :: L) b m (fun m => x :: F m) := by
  obtain ⟨i, h1, h2, h3⟩ := h
  exact ⟨i + 1, h1, h2, fun m' => by show x :: F m' = x :: updB L i (.mp m'); rw [h3]⟩

/-- the key is not there yet -/
theorem run_mapUpdate_new {t kt et : TypeId} {dk : TypeDesc} {b ck : Nat} {es : List MapEntry} {k v : Value} (ht : P.underlying t = some (.map kt et)) (hk : P.underlying kt = some dk) (hkey : IsKey dk k)
    (hb : w.heap[b]? = some (.map es.toArray ck)) (hf : Instr.findNow dk k es 0 = some none) : (Instr.mapUpdate t (.map (some b)) k v).run P w = .ok () { w with heap := w.heap.setIfInBounds b (.map (es ++ [MapEntry.mk k v ck]).toArray (ck + 1)) } := by
  simp [Instr.mapUpdate, run_underlying ht, MapKept.run_getObj_map hb, MapKept.run_checkKey hk hkey, MapKept.run_findKey hk hf, MapKept.run_setObj_map _ hb]
theorem g_mapset {t kt et : TypeId} {dk : TypeDesc} {m k x : Operand} {b ck : Nat} {es : List MapEntry} {kv v : Value} {F : Mp → List Bk} {op : Op} (hop : op = .insert t m k x ∨ op = .mapUpdate t m k x) (hw : wants ops l ⟨none, op, ty, pos, af, gd⟩ = some true) (hm : ev l m = some (.map (some b))) (hk : ev l k = some kv) (hx : ev l x = some v)
    (ht : P.underlying t = some (.map kt et)) (hkt : P.underlying kt = some dk) (hkey : IsKey dk kv) (hu : UpM L b ⟨b, es, ck⟩ F) (hf : Instr.findNow dk kv es 0 = some none)
    (h : G P X ops Q rest μ l (F ⟨b, es ++ [MapEntry.mk kv v ck], ck + 1⟩)) : G P X ops Q (⟨none, op, ty, pos, af, gd⟩ :: rest) μ l L :=
  g_wp hw fun a w hs => by
    obtain ⟨i, hi, _, hF⟩ := hu
    have hb : w.heap[b]? = some (.map es.toArray ck) := hs.own _ (nthB_mem hi)
    have e1 := hs.eval hm; have e2 := hs.eval hk; have e3 := hs.eval hx
    have e : (execOp a.eval ⟨none, op, ty, pos, af, gd⟩).run P w = .ok .skip { w with heap := w.heap.setIfInBounds b (.map (es ++ [MapEntry.mk kv v ck]).toArray (ck + 1)) } := by
      generalize a.eval = ρ at e1 e2 e3
      rcases hop with rfl | rfl <;> simp [execOp, e1, e2, e3, run_mapUpdate_new ht hkt hkey hb hf]
    unfold Oper.wp
    rw [e, Oper.upon_skip]
    have hlt := (Array.getElem?_eq_some_iff.1 hb).1
    have := hs.upd hi (y := .mp ⟨b, es ++ [MapEntry.mk kv v ck], ck + 1⟩) (w' := { w with heap := w.heap.setIfInBounds b (.map (es ++ [MapEntry.mk kv v ck]).toArray (ck + 1)) }) rfl rfl rfl (by simp)
      (fun c hc hne => by
        have : b ≠ c := fun e => hne (by rw [e]; rfl)
        simp [Array.getElem?_setIfInBounds_ne this])
      (by show (w.heap.setIfInBounds b _)[b]? = _; rw [Array.getElem?_setIfInBounds_self_of_lt hlt])
      (fun c hc => .inl hc)
    rw [hF] at h
    exact h _ _ this
/-- what a look-up answers -/
def lookV (P : Program) (et : TypeId) : Option (Option (Nat × Value)) → Option (Value × Bool)
  | some (some (_, v)) => some (v, true)
  | some none => match zeroT P et with
    | some z => some (z, false)
    | none => none
  | none => none
theorem run_lookup_own {t kt et : TypeId} {dk : TypeDesc} {b ck : Nat} {es : List MapEntry} {k v : Value} {ok c : Bool} (ht : P.underlying t = some (.map kt et)) (hk : P.underlying kt = some dk) (hkey : IsKey dk k)
    (hb : w.heap[b]? = some (.map es.toArray ck)) (hf : lookV P et (Instr.findNow dk k es 0) = some (v, ok)) : (Instr.lookup t (.map (some b)) k c).run P w = .ok (if c then .tuple #[v, .bool ok] else v) w := by
  cases hr : Instr.findNow dk k es 0 with
  | none => simp [hr, lookV] at hf
  | some r =>
    cases r with
    | none =>
      simp only [hr, lookV] at hf
      split at hf
      · rename_i z hz
        simp only [Option.some.injEq, Prod.mk.injEq] at hf
        obtain ⟨rfl, rfl⟩ := hf
        simp [Instr.lookup, run_underlying ht, MapKept.run_getObj_map hb, MapKept.run_checkKey hk hkey, MapKept.run_findKey hk hr, run_zeroValue hz]
        try (cases c <;> rfl)
      · cases hf
    | some r =>
      obtain ⟨j, u⟩ := r
      simp only [hr, lookV, Option.some.injEq, Prod.mk.injEq] at hf
      obtain ⟨rfl, rfl⟩ := hf
      simp [Instr.lookup, run_underlying ht, MapKept.run_getObj_map hb, MapKept.run_checkKey hk hkey, MapKept.run_findKey hk hr]
      try (cases c <;> rfl)
theorem v_lookup {t kt et : TypeId} {dk : TypeDesc} {m k : Operand} {b ck : Nat} {es : List MapEntry} {kv v : Value} {ok : Bool} (hm : ev l m = some (.map (some b))) (hk : ev l k = some kv) (ht : P.underlying t = some (.map kt et)) (hkt : P.underlying kt = some dk) (hkey : IsKey dk kv)
    (hu : InM L b ⟨b, es, ck⟩) (hf : lookV P et (Instr.findNow dk kv es 0) = some (v, ok)) : Val P μ l L ⟨ds, .lookup t m k false, ty, pos, af, gd⟩ v := fun a w hs => by
  obtain ⟨i, hi, _⟩ := hu
  have hb : w.heap[b]? = some (.map es.toArray ck) := hs.own _ (nthB_mem hi)
  have e1 := hs.eval hm; have e2 := hs.eval hk
  generalize a.eval = ρ at e1 e2
  simp [execOp, e1, e2, run_lookup_own (c := false) ht hkt hkey hb hf]
theorem v_lookup2 {t kt et : TypeId} {dk : TypeDesc} {m k : Operand} {b ck : Nat} {es : List MapEntry} {kv v : Value} {ok : Bool} (hm : ev l m = some (.map (some b))) (hk : ev l k = some kv) (ht : P.underlying t = some (.map kt et)) (hkt : P.underlying kt = some dk) (hkey : IsKey dk kv)
    (hu : InM L b ⟨b, es, ck⟩) (hf : lookV P et (Instr.findNow dk kv es 0) = some (v, ok)) : Val P μ l L ⟨ds, .lookup t m k true, ty, pos, af, gd⟩ (.tuple #[v, .bool ok]) := fun a w hs => by
  obtain ⟨i, hi, _⟩ := hu
  have hb : w.heap[b]? = some (.map es.toArray ck) := hs.own _ (nthB_mem hi)
  have e1 := hs.eval hm; have e2 := hs.eval hk
  generalize a.eval = ρ at e1 e2
  simp [execOp, e1, e2, run_lookup_own (c := true) ht hkt hkey hb hf]
end
end Go.Vcg
