/- More rules: bytes of strings, small integers. -/
import Derived.Test.YtoclmkdfcafhfaaGreatDoorQad
import Derived.MapKept
set_option maxRecDepth 20000
namespace Go.Vcg
section
open Go.RowKit
section
variable {P : Program} {X : Ctx} {ops : Array Oper} {Q : Exit → Act → World → Prop} {rest : List Oper} {μ μr : Mem} {l : Slots} {L Lr : List Bk} {a : Act} {w : World} {o : Oper} {d fuel i : Nat} {listed : Array Bool}
variable {ty : TypeId} {pos : String} {af : Array Edge} {gd : Option (Nat × Bool)} {ds : Option Nat}
def bAt (s : ByteArray) (k : Nat) : Int := ((s.data.toList[k]?).getD 0).toNat
theorem bAt_lo (s : ByteArray) (k : Nat) : 0 ≤ bAt s k := by unfold bAt; omega
theorem bAt_hi (s : ByteArray) (k : Nat) : bAt s k ≤ 255 := by
  unfold bAt
  have := ((s.data.toList[k]?).getD 0).toNat_lt
  omega
theorem run_sindex {t : TypeId} {s : ByteArray} {k : Nat} (ht : P.underlying t = some .string) (hk : k < s.size) (w : World) : (Instr.index t (.string s) (.int .i64 (k : Int))).run P w = .ok (.int .u8 (bAt s k)) w := by
  have h1 : s[k]? = some s[k] := by simp [hk]
  have h2 : bAt s k = s[k].toNat := by
    unfold bAt
    have : s.data.toList[k]? = some s[k] := by
      rw [Array.getElem?_toList]
      exact Array.getElem?_eq_getElem hk
    rw [this]; rfl
  simp [Instr.index, asIntOf, run_underlying ht, h1, h2]
theorem v_sindex {p q : Operand} {t : TypeId} {s : ByteArray} {i : Int} (k : Nat) (ht : P.underlying t = some .string) (hx0 : ev l p = some (.string s)) (hx1 : ev l q = some (.int .i64 i)) (hi : i = (k : Int)) (hk : k < s.size) :
    Val P μ l L ⟨ds, .index t p q, ty, pos, af, gd⟩ (.int .u8 (bAt s k)) := fun a w hs => by
  have e0 := hs.eval hx0; have e1 := hs.eval hx1; generalize a.eval = ρ at e0 e1; subst hi; simp [execOp, e0, e1, run_sindex ht hk]
theorem v_sindex_n {p q : Operand} {t : TypeId} {s : ByteArray} {k : Nat} (ht : P.underlying t = some .string) (hx0 : ev l p = some (.string s)) (hx1 : ev l q = some (.int .i64 (k : Int))) (hk : k < s.size) :
    Val P μ l L ⟨ds, .index t p q, ty, pos, af, gd⟩ (.int .u8 (bAt s k)) := v_sindex k ht hx0 hx1 rfl hk
theorem wrap_u8 {x : Int} (h : 0 ≤ x ∧ x ≤ 255) : IntKind.wrap .u8 x = x := by
  simp only [IntKind.wrap]
  simp [IntKind.signed, IntKind.bits]
  omega
theorem wrap_i64 {x : Int} (h : -9223372036854775808 ≤ x ∧ x ≤ 9223372036854775807) : IntKind.wrap .i64 x = x := by
  simp only [IntKind.wrap]
  simp [IntKind.signed, IntKind.bits]
  omega
def arB (l : Slots) (op : Op) : Option Int := match op with
  | .binOp op _ p q _ => match ev l p, ev l q with
    | some (.int .u8 x), some (.int .u8 y) => match op with
      | .add => some (x + y)
      | .sub => some (x - y)
      | _ => none
    | _, _ => none
  | _ => none
theorem arB_sound {op : Op} {r : Int} (h : arB l op = some r) (hb : 0 ≤ r ∧ r ≤ 255) : Val P μ l L ⟨ds, op, ty, pos, af, gd⟩ (.int .u8 r) := by
  unfold arB at h
  split at h
  · split at h
    · rename_i x y hp hq
      split at h
      · simp only [Option.some.injEq] at h; subst h
        rw [show (Value.int .u8 (x + y)) = .int .u8 (IntKind.wrap .u8 (x + y)) by rw [wrap_u8 hb]]
        exact v_add hp hq
      · simp only [Option.some.injEq] at h; subst h
        rw [show (Value.int .u8 (x - y)) = .int .u8 (IntKind.wrap .u8 (x - y)) by rw [wrap_u8 hb]]
        exact v_sub hp hq
      · cases h
    · cases h
  · cases h
theorem v_conv_int {p : Operand} {t u : TypeId} {k : IntKind} {x : Int} {de : TypeDesc} (hx0 : ev l p = some (.int k x)) (ht : P.underlying t = some de) (hu : P.underlying u = some (.int .i64)) (hb : -9223372036854775808 ≤ x ∧ x ≤ 9223372036854775807) : Val P μ l L ⟨ds, .convert t u p, ty, pos, af, gd⟩ (.int .i64 x) := by
  have := v_conv (P := P) (μ := μ) (L := L) (ds := ds) (ty := ty) (pos := pos) (af := af) (gd := gd) hx0 ht hu
  rw [wrap_i64 hb] at this
  exact this
theorem v_neg_i {p : Operand} {t : TypeId} {x : Int} (hx0 : ev l p = some (.int .i64 x)) (hb : -9223372036854775808 ≤ -x ∧ -x ≤ 9223372036854775807) : Val P μ l L ⟨ds, .unOp .neg t p, ty, pos, af, gd⟩ (.int .i64 (-x)) := by
  rw [show (Value.int .i64 (-x)) = .int .i64 (IntKind.wrap .i64 (-x)) by rw [wrap_i64 hb]]
  exact v_neg hx0
theorem v_quo_i {p q : Operand} {t t2 : TypeId} {x y : Int} (hx0 : ev l p = some (.int .i64 x)) (hx1 : ev l q = some (.int .i64 y)) (hy : y ≠ 0) (hb : -9223372036854775808 ≤ x.tdiv y ∧ x.tdiv y ≤ 9223372036854775807) : Val P μ l L ⟨ds, .binOp .quo t p q t2, ty, pos, af, gd⟩ (.int .i64 (x.tdiv y)) := by
  rw [show (Value.int .i64 (x.tdiv y)) = .int .i64 (IntKind.wrap .i64 (x.tdiv y)) by rw [wrap_i64 hb]]
  exact v_quo hx0 hx1 hy
theorem v_max2 {x y : Operand} {ts : Array TypeId} {i j : Int} (h0 : ev l x = some (.int .i64 i)) (h1 : ev l y = some (.int .i64 j)) : Val P μ l L ⟨ds, .call { callee := .builtin .max, args := #[x, y], argTypes := ts }, ty, pos, af, gd⟩ (.int .i64 (if i < j then j else i)) := fun a w hs => by
  have e0 := hs.eval h0
  have e1 := hs.eval h1
  generalize a.eval = ρ at e0 e1
  simp [execOp, resolve, invoke, builtin, Builtin.max_, Builtin.max2, e0, e1]
def fieldV (P : Program) (t : TypeId) (i : Nat) (vs : List Value) : Option Value := match P.underlying t with
  | some (.struct fs) => match fs[i]? with
    | some f => match aggOf P f.type with
      | some false => nat16 f.offset fun k => nthV vs k
      | _ => none
    | none => none
  | _ => none
theorem v_fieldv {p : Operand} {t : TypeId} {i : Nat} {vs : List Value} {v : Value} (hx0 : ev l p = some (.agg vs.toArray)) (hf : fieldV P t i vs = some v) : Val P μ l L ⟨ds, .field t p i, ty, pos, af, gd⟩ v := fun a w hs => by
  have e0 := hs.eval hx0
  generalize a.eval = ρ at e0
  unfold fieldV at hf
  split at hf
  · rename_i fs hu
    split at hf
    · rename_i f hi
      split at hf
      · rename_i hag
        rw [nat16_eq, nthV_eq] at hf
        have : (part f.type vs.toArray f.offset).run P w = .ok v w := run_partScalar hag (by simpa using hf)
        simp [execOp, e0, Instr.field, run_underlying hu, hi, asAgg, this]
      · cases hf
    · cases hf
  · cases hf
abbrev bl (s : ByteArray) : List UInt8 := s.data.toList
theorem bl_len (s : ByteArray) : (bl s).length = s.size := by simp [bl]
theorem bl_inj {s t : ByteArray} (h : bl s = bl t) : s = t := by
  cases s; cases t
  simp only [bl] at h
  congr
  exact Array.toList_inj.1 h
theorem bl_extract (s : ByteArray) (a b : Nat) : bl (s.extract a b) = ((bl s).drop a).take (b - a) := by
  simp [bl, ByteArray.data_extract]
theorem bAt_get {s : ByteArray} {k : Nat} {b : UInt8} (h : (bl s)[k]? = some b) : bAt s k = b.toNat := by
  unfold bAt; rw [h]; rfl
theorem bl_empty_iff (s : ByteArray) : s = ⟨#[]⟩ ↔ bl s = [] := by
  constructor
  · rintro rfl; rfl
  · intro h; exact bl_inj (by rw [h])
end
end
section
open Go.RowKit
section
variable {P : Program} {μ : Mem} {l : Slots} {L : List Bk} {ds : Option Nat} {ty : TypeId} {pos : String} {af : Array Edge} {gd : Option (Nat × Bool)}
end
section
variable {P : Program} {μ : Mem} {l : Slots} {L : List Bk} {ds : Option Nat} {ty : TypeId} {pos : String} {af : Array Edge} {gd : Option (Nat × Bool)}
end
section
variable {P : Program} {μ : Mem} {l : Slots} {L : List Bk} {a : Act} {w : World}
def RVs (P : Program) (μ : Mem) (l : Slots) (L : List Bk) : List ResultVar → List Value → Prop
  | [], [] => True
  | r :: rs, v :: vs => RV P μ l L r v ∧ RVs P μ l L rs vs
  | _, _ => False
theorem rvs_nil : RVs P μ l L [] [] := trivial
theorem rvs_cons {r : ResultVar} {rs : List ResultVar} {v : Value} {vs : List Value} (h : RV P μ l L r v) (hs : RVs P μ l L rs vs) : RVs P μ l L (r :: rs) (v :: vs) := ⟨h, hs⟩
theorem run_mapM_get (hs : Rd μ l L a w) : ∀ {rs : List ResultVar} {vs : List Value}, RVs P μ l L rs vs → (rs.mapM (ResultVar.get a.tmps)).run P w = .ok vs w
  | [], [], _ => by simp
  | r :: rs, v :: vs, h => by
    have h1 := h.1 a w hs
    have h2 := run_mapM_get hs h.2
    simp [List.mapM_cons, h1, h2]
  | [], _ :: _, h => by cases h
  | _ :: _, [], h => by cases h
theorem resultsN {fn : Func} {rs : List ResultVar} {vs : List Value} (hr : fn.results = rs.toArray) (h : RVs P μ l L rs vs) (hl : Nat.beq vs.length 1 = false) (hs : Rd μ l L a w) : (results fn a.tmps).run P w = .ok (.tuple vs.toArray) w := by
  have h1 := run_mapM_get hs h
  have h2 : ¬ vs.length = 1 := Nat.ne_of_beq_eq_false hl
  have e : results fn a.tmps = (do let vs ← rs.toArray.mapM (ResultVar.get a.tmps); pure (if h : vs.size = 1 then vs[0] else .tuple vs)) := by
    unfold results
    rw [hr]
    refine congrArg (fun f => (rs.toArray.mapM f >>= fun vs => pure (if h : vs.size = 1 then vs[0] else .tuple vs) : Sem Value)) ?_
    funext r
    cases r <;> rfl
  rw [e]
  simp only [List.mapM_toArray]
  simp [h1, h2]
theorem ret_vn {fn : Func} {n : Nat} {rs : List ResultVar} {vs : List Value} {v : Value} {w : World} {μ0 : Mem} (hr : fn.results = rs.toArray) (h : RVs P μ l L rs vs) (hl : Nat.beq vs.length 1 = false) (e : .tuple vs.toArray = v) :
    GQ ⟨w, μ0, [], n⟩ (bodyPost P fn (fun e w' => e = .returned v ∧ Below w.heap.size w w')) .ret μ l L := fun a w' hs =>
  ⟨hs.defers.none (by simp), .tuple vs.toArray, resultsN hr h hl hs.rd, by rw [e], hs.keep.below⟩
end
end
section
open Go.RowKit Go.MapKept
section
variable {P : Program} {X : Ctx} {ops : Array Oper} {Q : Exit → Act → World → Prop} {rest : List Oper} {μ μr : Mem} {l : Slots} {L Lr : List Bk} {a : Act} {w : World} {o : Oper} {d fuel i : Nat} {listed : Array Bool}
variable {ty : TypeId} {pos : String} {af : Array Edge} {gd : Option (Nat × Bool)} {ds : Option Nat}
theorem St.newB (h : St X μ l L a w) (x : Obj) (y : Bk) (hid : Bk.id y = some w.heap.size) (hy : Bk.at y (w.alloc x)) : St X μ l (y :: L) a (w.alloc x) := by
  have hold : ∀ b, b < w.heap.size → (w.alloc x).heap[b]? = w.heap[b]? := fun b hb => Below.heap_alloc w _ b hb
  have hlt : ∀ x ∈ L, ∀ b, Bk.id x = some b → b < w.heap.size := fun x hx b hb => Bk.lt (h.own x hx) hb
  refine ⟨h.size, h.defers, h.slots, ⟨h.keep.os, h.keep.tape, h.keep.output, Nat.le_trans h.keep.size (by simp), fun b hb hM => ?_⟩, fun b o hb => ?_, h.from0, h.fresh, fun x hx => ?_, fun x hx b hb => ?_, fun x hx b hb => ?_, ?_⟩
  · rw [hold b (Nat.lt_of_lt_of_le hb h.keep.size)]; exact h.keep.block b hb hM
  · have := h.mem b o hb
    rw [hold b (Array.getElem?_eq_some_iff.1 this).1]; exact this
  · rcases List.mem_cons.1 hx with rfl | hx
    · exact hy
    · exact Bk.keep (h.own x hx) (fun b hb => hold b (hlt x hx b hb))
  · rcases List.mem_cons.1 hx with rfl | hx
    · rw [hid] at hb
      cases hb
      cases hm : μ w.heap.size with
      | none => rfl
      | some o =>
        have := (Array.getElem?_eq_some_iff.1 (h.mem _ _ hm)).1
        omega
    · exact h.priv x hx b hb
  · rcases List.mem_cons.1 hx with rfl | hx
    · rw [hid] at hb
      cases hb; exact .inr h.keep.size
    · exact h.new x hx b hb
  · refine List.pairwise_cons.2 ⟨fun y hy b hb hb' => ?_, h.diff⟩
    have h1 := hlt y hy b hb'
    rw [hid] at hb
    have h2 : w.heap.size = b := Option.some.inj hb
    omega
theorem g_mkmap {t : TypeId} (hn : Nat.blt d X.n = true) (hw : wants ops l ⟨some d, .makeMap t none, ty, pos, af, gd⟩ = some true)
    (h : ∀ b, G P X ops Q rest μ ((d, .map (some b)) :: l) (.mp ⟨b, [], 0⟩ :: L)) : G P X ops Q (⟨some d, .makeMap t none, ty, pos, af, gd⟩ :: rest) μ l L :=
  g_wp hw fun a w hs => by
    have e : (execOp a.eval ⟨some d, .makeMap t none, ty, pos, af, gd⟩).run P w = .ok (.value (.map (some w.heap.size))) (w.alloc (.map #[] 0)) := by
      simp [execOp, run_makeMap]
    unfold Oper.wp
    rw [e, Oper.upon_value]
    exact h _ _ _ ((hs.newB (.map #[] 0) (.mp ⟨w.heap.size, [], 0⟩) rfl (heap_alloc_new w _)).put hn _)
def UpM (L : List Bk) (b : Nat) (m : Mp) (F : Mp → List Bk) : Prop := ∃ i, nthB L i = some (.mp m) ∧ m.b = b ∧ ∀ m', F m' = updB L i (.mp m')
theorem upm_hd {b ck : Nat} {es : List MapEntry} {L : List Bk} : UpM (.mp ⟨b, es, ck⟩ :: L) b ⟨b, es, ck⟩ (fun m => .mp m :: L) := ⟨0, rfl, rfl, fun _ => rfl⟩
theorem upm_tl {b : Nat} {m : Mp} {x : Bk} {L : List Bk} {F : Mp → List Bk} (h : UpM L b m F) : UpM (x :: L) b m (fun m => x :: F m) := by
  obtain ⟨i, h1, h2, h3⟩ := h
  exact ⟨i + 1, h1, h2, fun m' => by show x :: F m' = x :: updB L i (.mp m'); rw [h3]⟩
theorem run_mapUpdate_new {t kt et : TypeId} {dk : TypeDesc} {b ck : Nat} {es : List MapEntry} {k v : Value} (ht : P.underlying t = some (.map kt et)) (hk : P.underlying kt = some dk) (hkey : IsKey dk k)
    (hb : w.heap[b]? = some (.map es.toArray ck)) (hf : Instr.findNow dk k es 0 = some none) : (Instr.mapUpdate t (.map (some b)) k v).run P w = .ok () { w with heap := w.heap.setIfInBounds b (.map (es ++ [MapEntry.mk k v ck]).toArray (ck + 1)) } := by
  simp [Instr.mapUpdate, run_underlying ht, MapKept.run_getObj_map hb, MapKept.run_checkKey hk hkey, MapKept.run_findKey hk hf, MapKept.run_setObj_map _ hb]
theorem g_mapset {t kt et : TypeId} {dk : TypeDesc} {m k x : Operand} {b ck : Nat} {es : List MapEntry} {kv v : Value} {F : Mp → List Bk} {op : Op} (hop : op = .insert t m k x ∨ op = .mapUpdate t m k x) (hw : wants ops l ⟨none, op, ty, pos, af, gd⟩ = some true) (hm : ev l m = some (.map (some b))) (hk : ev l k = some kv) (hx : ev l x = some v)
    (ht : P.underlying t = some (.map kt et)) (hkt : P.underlying kt = some dk) (hkey : IsKey dk kv) (hu : UpM L b ⟨b, es, ck⟩ F) (hf : Instr.findNow dk kv es 0 = some none)
    (h : G P X ops Q rest μ l (F ⟨b, es ++ [MapEntry.mk kv v ck], ck + 1⟩)) : G P X ops Q (⟨none, op, ty, pos, af, gd⟩ :: rest) μ l L :=
  g_wp hw fun a w hs => by
    obtain ⟨i, hi, _, hF⟩ := hu
    have hb : w.heap[b]? = some (.map es.toArray ck) := hs.own _ (nthB_mem hi)
    have e1 := hs.eval hm; have e2 := hs.eval hk; have e3 := hs.eval hx
    have e : (execOp a.eval ⟨none, op, ty, pos, af, gd⟩).run P w = .ok .skip { w with heap := w.heap.setIfInBounds b (.map (es ++ [MapEntry.mk kv v ck]).toArray (ck + 1)) } := by
      generalize a.eval = ρ at e1 e2 e3
      rcases hop with rfl | rfl <;> simp [execOp, e1, e2, e3, run_mapUpdate_new ht hkt hkey hb hf]
    unfold Oper.wp
    rw [e, Oper.upon_skip]
    have hlt := (Array.getElem?_eq_some_iff.1 hb).1
    have := hs.upd hi (y := .mp ⟨b, es ++ [MapEntry.mk kv v ck], ck + 1⟩) (w' := { w with heap := w.heap.setIfInBounds b (.map (es ++ [MapEntry.mk kv v ck]).toArray (ck + 1)) }) rfl rfl rfl (by simp)
      (fun c hc hne => by
        have : b ≠ c := fun e => hne (by rw [e]; rfl)
        simp [Array.getElem?_setIfInBounds_ne this])
      (by show (w.heap.setIfInBounds b _)[b]? = _; rw [Array.getElem?_setIfInBounds_self_of_lt hlt])
      (fun c hc => .inl hc)
    rw [hF] at h
    exact h _ _ this
def lookV (P : Program) (et : TypeId) : Option (Option (Nat × Value)) → Option (Value × Bool)
  | some (some (_, v)) => some (v, true)
  | some none => match zeroT P et with
    | some z => some (z, false)
    | none => none
  | none => none
theorem run_lookup_own {t kt et : TypeId} {dk : TypeDesc} {b ck : Nat} {es : List MapEntry} {k v : Value} {ok c : Bool} (ht : P.underlying t = some (.map kt et)) (hk : P.underlying kt = some dk) (hkey : IsKey dk k)
    (hb : w.heap[b]? = some (.map es.toArray ck)) (hf : lookV P et (Instr.findNow dk k es 0) = some (v, ok)) : (Instr.lookup t (.map (some b)) k c).run P w = .ok (if c then .tuple #[v, .bool ok] else v) w := by
  cases hr : Instr.findNow dk k es 0 with
  | none => simp [hr, lookV] at hf
  | some r =>
    cases r with
    | none =>
      simp only [hr, lookV] at hf
      split at hf
      · rename_i z hz
        simp only [Option.some.injEq, Prod.mk.injEq] at hf
        obtain ⟨rfl, rfl⟩ := hf
        simp [Instr.lookup, run_underlying ht, MapKept.run_getObj_map hb, MapKept.run_checkKey hk hkey, MapKept.run_findKey hk hr, run_zeroValue hz]
        try (cases c <;> rfl)
      · cases hf
    | some r =>
      obtain ⟨j, u⟩ := r
      simp only [hr, lookV, Option.some.injEq, Prod.mk.injEq] at hf
      obtain ⟨rfl, rfl⟩ := hf
      simp [Instr.lookup, run_underlying ht, MapKept.run_getObj_map hb, MapKept.run_checkKey hk hkey, MapKept.run_findKey hk hr]
      try (cases c <;> rfl)
end
end
section
open Go.RowKit
def idsOf : List Bk → List Nat
  | [] => []
  | x :: r => match Bk.id x with
    | some b => b :: idsOf r
    | none => idsOf r
theorem mem_idsOf {L : List Bk} {b : Nat} : b ∈ idsOf L ↔ ∃ x ∈ L, Bk.id x = some b := by
  induction L with
  | nil => simp [idsOf]
  | cons y r ih =>
    unfold idsOf
    cases h : Bk.id y with
    | none => simp [ih, h]
    | some c =>
      simp only [List.mem_cons, ih, exists_eq_or_imp, h, Option.some.injEq]
      constructor
      · rintro (rfl | h) <;> simp [*]
      · rintro (rfl | h) <;> simp [*]
structure Own (μ : Mem) (L : List Bk) (w : World) : Prop where
  own : ∀ x ∈ L, Bk.at x w
  priv : ∀ x ∈ L, ∀ b, Bk.id x = some b → μ b = none
  diff : L.Pairwise (fun x y => ∀ b, Bk.id x = some b → Bk.id y ≠ some b)
structure GrowM (M : List Nat) (w w' : World) (μ μ' : Mem) : Prop where
  os : w'.os = w.os
  tape : w'.tape = w.tape
  output : w'.output = w.output
  size : w.heap.size ≤ w'.heap.size
  block : ∀ b, b < w.heap.size → b ∉ M → w'.heap[b]? = w.heap[b]?
  le : MLe μ μ'
  ok : MOk μ' w'
  fresh : ∀ b, b < w.heap.size → b ∉ M → μ b = none → μ' b = none
def BackM (M : List Nat) (w w' : World) (μ : Mem) (L' : List Bk) (μ' : Mem) : Prop :=
  GrowM M w w' μ μ' ∧ Own μ' L' w' ∧ ∀ x ∈ L', ∀ b, Bk.id x = some b → b ∈ M ∨ w.heap.size ≤ b
section
variable {P : Program} {X : Ctx} {ops : Array Oper} {Q : Exit → Act → World → Prop} {rest : List Oper} {μ : Mem} {l : Slots} {L : List Bk} {a : Act} {w : World} {o : Oper} {d : Nat}
theorem St.borrow {LB Lr L' : List Bk} {w' : World} {μ' : Mem} (h : St X μ l (LB ++ Lr) a w) (hb : BackM (idsOf LB) w w' μ L' μ') : St X μ' l (L' ++ Lr) a w' := by
  obtain ⟨hg, ho, hn⟩ := hb
  have hd := List.pairwise_append.1 h.diff
  have hlt : ∀ x ∈ LB ++ Lr, ∀ b, Bk.id x = some b → b < w.heap.size := fun x hx b hb => Bk.lt (h.own x hx) hb
  have hids : ∀ b ∈ idsOf LB, b ∈ X.M ∨ X.w0.heap.size ≤ b := fun b hb => by
    obtain ⟨x, hx, hxb⟩ := mem_idsOf.1 hb
    exact h.new x (List.mem_append_left _ hx) b hxb
  have hr : ∀ x ∈ Lr, ∀ b, Bk.id x = some b → b ∉ idsOf LB := fun x hx b hxb hb => by
    obtain ⟨y, hy, hyb⟩ := mem_idsOf.1 hb
    exact hd.2.2 y hy x hx b hyb hxb
  refine ⟨h.size, h.defers.mono hg.le, h.slots, ⟨hg.os.trans h.keep.os, hg.tape.trans h.keep.tape, hg.output.trans h.keep.output, Nat.le_trans h.keep.size hg.size, fun b hb hM => ?_⟩, hg.ok, h.from0.trans hg.le, fun b hb hM h0 => ?_, fun x hx => ?_, fun x hx b hxb => ?_, fun x hx b hxb => ?_, ?_⟩
  · have : b ∉ idsOf LB := fun hbi => by
      rcases hids b hbi with h1 | h1
      · exact hM h1
      · omega
    rw [hg.block b (Nat.lt_of_lt_of_le hb h.keep.size) this]
    exact h.keep.block b hb hM
  · have : b ∉ idsOf LB := fun hbi => by
      rcases hids b hbi with h1 | h1
      · exact hM h1
      · omega
    exact hg.fresh b (Nat.lt_of_lt_of_le hb h.keep.size) this (h.fresh b hb hM h0)
  · rcases List.mem_append.1 hx with hx | hx
    · exact ho.own x hx
    · exact Bk.keep (h.own x (List.mem_append_right _ hx)) fun b hb => hg.block b (hlt x (List.mem_append_right _ hx) b hb) (hr x hx b hb)
  · rcases List.mem_append.1 hx with hx | hx
    · exact ho.priv x hx b hxb
    · exact hg.fresh b (hlt x (List.mem_append_right _ hx) b hxb) (hr x hx b hxb) (h.priv x (List.mem_append_right _ hx) b hxb)
  · rcases List.mem_append.1 hx with hx | hx
    · rcases hn x hx b hxb with h1 | h1
      · exact hids b h1
      · exact .inr (Nat.le_trans h.keep.size h1)
    · exact h.new x (List.mem_append_right _ hx) b hxb
  · refine List.pairwise_append.2 ⟨ho.diff, hd.2.1, fun x hx y hy b hxb hyb => ?_⟩
    rcases hn x hx b hxb with h1 | h1
    · exact hr y hy b hyb h1
    · have := hlt y (List.mem_append_right _ hy) b hyb
      omega
def splitB : Nat → List Bk → Option (List Bk × List Bk)
  | 0, L => some ([], L)
  | _ + 1, [] => none
  | k + 1, x :: r => match splitB k r with
    | some (a, b) => some (x :: a, b)
    | none => none
theorem splitB_eq : ∀ {k : Nat} {L a b : List Bk}, splitB k L = some (a, b) → L = a ++ b
  | 0, L, a, b, h => by simp [splitB] at h; obtain ⟨rfl, rfl⟩ := h; rfl
  | k + 1, [], a, b, h => by simp [splitB] at h
  | k + 1, x :: r, a, b, h => by
    unfold splitB at h
    split at h
    · rename_i a' b' he
      cases h
      rw [splitB_eq he]
      rfl
    · cases h
theorem g_enter_bor {f : FuncId} {vs : Array Value} {ι : Type} {Ls : ι → List Bk} {Post : Mem → Value → ι → Prop} {LB Lr : List Bk} (k : Nat) (hd : o.dst = some d) (hn : Nat.blt d X.n = true) (hw : wants ops l o = some true) (hr : Ent P μ l L o f vs)
    (hL : splitB k L = some (LB, Lr))
    (hc : ∀ w, MOk μ w → Own μ LB w → Calls P f vs w fun e w' => ∃ v μ' i, e = .returned v ∧ BackM (idsOf LB) w w' μ (Ls i) μ' ∧ Post μ' v i)
    (h : ∀ v μ' i, MLe μ μ' → Post μ' v i → G P X ops Q rest μ' ((d, v) :: l) (Ls i ++ Lr)) : G P X ops Q (o :: rest) μ l L :=
  g_wp hw fun a w hs => by
    unfold Oper.wp
    rw [hr a w hs.rd, Oper.upon_enter]
    have he := splitB_eq hL
    subst he
    have hO : Own μ LB w := ⟨fun x hx => hs.own x (List.mem_append_left _ hx), fun x hx => hs.priv x (List.mem_append_left _ hx), (List.pairwise_append.1 hs.diff).1⟩
    refine (hc w hs.mem hO).mono fun e w' he => ?_
    obtain ⟨v, μ', i, rfl, hb, hp⟩ := he
    show wpList P ops Q rest (a.put o.dst v) w'
    rw [hd]
    exact h v μ' i hb.1.le hp _ _ ((hs.borrow hb).put hn _)
theorem call_introM {f : FuncId} {fn : Func} {c : Code} {args : List Value} {n : Nat} {R : Ending → World → Prop} {LB : List Bk} (hf : P.funcs[f]? = some fn) (hb : fn.body = some c) (hn : fn.ntmps = n) (hsz : args.length ≤ n)
    (hμ : MOk μ w) (hO : Own μ LB w) (h : GC P ⟨w, μ, idsOf LB, n⟩ c (bodyPost P fn R) μ (idx 0 args) LB) : Calls P f args.toArray w R := by
  refine calls_of_wp hf hb (h _ _ ⟨?_, Marks.nil, fun t v hv => ?_, Keep.refl _ _, hμ, MLe.refl _, fun _ _ _ h => h, hO.own, hO.priv, fun x hx b hxb => .inl (mem_idsOf.2 ⟨x, hx, hxb⟩), hO.diff⟩)
  · simp [hn]; omega
  · obtain ⟨_, h2⟩ := lk_idx _ _ _ _ hv
    have hlt : t < args.length := by have := (List.getElem?_eq_some_iff.1 h2).1; simpa using this
    simp only [Nat.sub_zero] at h2
    rw [Array.getElem?_append_left (by simpa using hlt)]
    simpa using h2
theorem St.giveBack {n : Nat} {μ0 : Mem} {w' : World} {M : List Nat} {L' Lr : List Bk} (hs : St ⟨w, μ0, M, n⟩ μ l (L' ++ Lr) a w') : ∃ μ', BackM M w w' μ0 L' μ' ∧ MLe μ μ' := by
  have hd := List.pairwise_append.1 hs.diff
  refine ⟨fun b => if b < w.heap.size then μ b else if b ∈ idsOf L' then none else w'.heap[b]?, ⟨⟨hs.keep.os, hs.keep.tape, hs.keep.output, hs.keep.size, hs.keep.block, fun b o e => ?_, fun b o e => ?_, fun b hb hM h0 => ?_⟩, ⟨fun x hx => hs.own x (List.mem_append_left _ hx), fun x hx b hxb => ?_, hd.1⟩, fun x hx => hs.new x (List.mem_append_left _ hx)⟩, fun b o e => ?_⟩
  · have e2 := hs.from0 b o e
    by_cases hb : b < w.heap.size
    · simp [hb, e2]
    · have : b ∉ idsOf L' := fun hbi => by
        obtain ⟨x, hx, hxb⟩ := mem_idsOf.1 hbi
        rw [hs.priv x (List.mem_append_left _ hx) b hxb] at e2
        cases e2
      simp [hb, this]
      exact hs.mem b o e2
  · by_cases hb : b < w.heap.size
    · simp [hb] at e; exact hs.mem b o e
    · by_cases hbi : b ∈ idsOf L'
      · simp [hb, hbi] at e
      · simp [hb, hbi] at e; exact e
  · simp [hb]; exact hs.fresh b hb hM h0
  · have := hs.priv x (List.mem_append_left _ hx) b hxb
    by_cases hb : b < w.heap.size
    · simp [hb, this]
    · simp [hb, mem_idsOf.2 ⟨x, hx, hxb⟩]
  · by_cases hb : b < w.heap.size
    · simp [hb, e]
    · have : b ∉ idsOf L' := fun hbi => by
        obtain ⟨x, hx, hxb⟩ := mem_idsOf.1 hbi
        rw [hs.priv x (List.mem_append_left _ hx) b hxb] at e
        cases e
      simp [hb, this]
      exact hs.mem b o e
theorem ret_bor {fn : Func} {n : Nat} {r : ResultVar} {v : Value} {μ0 : Mem} {M : List Nat} {ι : Type} {Ls : ι → List Bk} {Post : Mem → Value → ι → Prop} {L' Lr : List Bk} (k : Nat) (i : ι) (hM : ∀ D, M.count D ≤ 1) (hr : fn.results = #[r]) (h : RV P μ l L r v) (hL : splitB k L = some (L', Lr)) (hLs : Ls i = L')
    (hp : ∀ μ', MLe μ μ' → Post μ' v i) :
    GQ ⟨w, μ0, M, n⟩ (bodyPost P fn (fun e w' => ∃ v μ' i, e = .returned v ∧ BackM M w w' μ0 (Ls i) μ' ∧ Post μ' v i)) .ret μ l L := fun a w' hs => by
  have he := splitB_eq hL
  subst he
  obtain ⟨μ', hb, hle⟩ := hs.giveBack
  subst hLs
  exact ⟨hs.defers.none hM, v, results1 hr h hs.rd, v, μ', i, rfl, hb, hp μ' hle⟩
theorem ret_bor0 {fn : Func} {n : Nat} {μ0 : Mem} {M : List Nat} {ι : Type} {Ls : ι → List Bk} {Post : Mem → Value → ι → Prop} {L' Lr : List Bk} {e : Exit} (k : Nat) (i : ι) (he : e = .ret ∨ e = .normal) (hM : ∀ D, M.count D ≤ 1) (hr : fn.results = #[]) (hL : splitB k L = some (L', Lr)) (hLs : Ls i = L')
    (hp : ∀ μ' v, MLe μ μ' → Post μ' v i) :
    GQ ⟨w, μ0, M, n⟩ (bodyPost P fn (fun e w' => ∃ v μ' i, e = .returned v ∧ BackM M w w' μ0 (Ls i) μ' ∧ Post μ' v i)) e μ l L := fun a w' hs => by
  have he' := splitB_eq hL
  subst he'
  obtain ⟨μ', hb, hle⟩ := hs.giveBack
  subst hLs
  have : ∃ v, (results fn a.tmps).run P w' = .ok v w' := by simp [results, hr]
  obtain ⟨v, hv⟩ := this
  rcases he with rfl | rfl
  all_goals exact ⟨hs.defers.none hM, v, hv, v, μ', i, rfl, hb, hp μ' v hle⟩
end
end
section
open Go.RowKit
theorem ids_count : ∀ {L : List Bk}, L.Pairwise (fun x y => ∀ b, Bk.id x = some b → Bk.id y ≠ some b) → ∀ D, (idsOf L).count D ≤ 1
  | [], _, D => by simp [idsOf]
  | x :: r, h, D => by
    obtain ⟨h1, h2⟩ := List.pairwise_cons.1 h
    have ih := ids_count h2 D
    unfold idsOf
    cases hx : Bk.id x with
    | none => exact ih
    | some c =>
      dsimp only
      rw [List.count_cons]
      by_cases hc : c = D
      · subst hc
        have : (idsOf r).count c = 0 := List.count_eq_zero.2 fun hm => by
          obtain ⟨y, hy, hyb⟩ := mem_idsOf.1 hm
          exact h1 y hy c hx hyb
        simp [this]
      · simp [hc]; exact ih
end
section
open Go.RowKit
inductive BkLe : Bk → Bk → Prop
  | refl (x : Bk) : BkLe x x
  | cells {b : Nat} {t : TypeId} {sz : Nat} {cs cs' : Slots} (h : SubS cs' cs) : BkLe (.inl ⟨b, t, sz, cs'⟩) (.inl ⟨b, t, sz, cs⟩)
inductive Sel : List Bk → List Bk → Prop
  | nil (L : List Bk) : Sel [] L
  | cons {x y : Bk} {r a b : List Bk} (h : BkLe x y) (hr : Sel r (a ++ b)) : Sel (x :: r) (a ++ y :: b)
theorem BkLe.id {x y : Bk} (h : BkLe x y) : Bk.id x = Bk.id y := by cases h <;> rfl
theorem BkLe.at {x y : Bk} {w : World} (h : BkLe x y) (hy : Bk.at y w) : Bk.at x w := by
  cases h with
  | refl => exact hy
  | cells h =>
    obtain ⟨arr, h1, h2, h3⟩ := hy
    exact ⟨arr, h1, h2, fun k v hk => h3 k v (h k v hk)⟩
theorem sel_mem {L' L : List Bk} (h : Sel L' L) : ∀ x ∈ L', ∃ y ∈ L, BkLe x y := by
  induction h with
  | nil L => intro x hx; cases hx
  | cons h hr ih =>
    intro z hz
    rcases List.mem_cons.1 hz with rfl | hz
    · exact ⟨_, by simp, h⟩
    · obtain ⟨y, hy, hle⟩ := ih z hz
      refine ⟨y, ?_, hle⟩
      rcases List.mem_append.1 hy with hy | hy <;> simp [hy]
def Df (x y : Bk) : Prop := ∀ b, Bk.id x = some b → Bk.id y ≠ some b
theorem sel_diff {L' L : List Bk} (h : Sel L' L) : L.Pairwise Df → L'.Pairwise Df := by
  induction h with
  | nil L => intro _; exact List.Pairwise.nil
  | @cons x y r a b h hr ih =>
    intro hd
    have hd2 : (y :: (a ++ b)).Pairwise Df := (List.perm_middle.pairwise_iff (fun {_ _} hxy b hb hb' => hxy b hb' hb)).1 hd
    obtain ⟨h1, h2⟩ := List.pairwise_cons.1 hd2
    refine List.pairwise_cons.2 ⟨fun z hz c hc hzc => ?_, ih h2⟩
    obtain ⟨y2, hy2, hle⟩ := sel_mem hr z hz
    exact h1 y2 hy2 c (by rw [← h.id]; exact hc) (by rw [← hle.id]; exact hzc)
section
variable {P : Program} {X : Ctx} {Q : Exit → Act → World → Prop} {μ : Mem} {l : Slots} {L : List Bk} {a : Act} {w : World}
theorem St.sel {l' : Slots} {L' : List Bk} (h : St X μ l L a w) (hl : SubS l' l) (hL : Sel L' L) : St X μ l' L' a w :=
  ⟨h.size, h.defers, fun t v hv => h.slots t v (hl t v hv), h.keep, h.mem, h.from0, h.fresh, fun x hx => let ⟨y, hy, hle⟩ := sel_mem hL x hx; hle.at (h.own y hy), fun x hx b hb => let ⟨y, hy, hle⟩ := sel_mem hL x hx; h.priv y hy b (by rw [← hle.id]; exact hb), fun x hx b hb => let ⟨y, hy, hle⟩ := sel_mem hL x hx; h.new y hy b (by rw [← hle.id]; exact hb), sel_diff hL h.diff⟩
theorem gq_joinS {ι : Type} {J : ι → Prop} {μs : ι → Mem} {ls : ι → Slots} {Ls : ι → List Bk} (j : ι) (hJ : J j) (hμ : μs j = μ) (hl : SubS (ls j) l) (hL : Sel (Ls j) L) :
    GQ X (Exit.then (Join X J μs ls Ls) Q) .normal μ l L := fun a w hs => ⟨j, hJ, by rw [hμ]; exact hs.sel hl hL⟩
theorem gq_backS {ι : Type} {J : ι → Prop} {m : ι → Nat} {μs : ι → Mem} {ls : ι → Slots} {Ls : ι → List Bk} {i : ι} (j : ι) (hJ : J j) (hm : m j < m i) (hμ : μs j = μ) (hl : SubS (ls j) l) (hL : Sel (Ls j) L) :
    GQ X (Exit.then (Back X J m μs ls Ls i) Q) .normal μ l L := fun a w hs => ⟨j, hJ, hm, by rw [hμ]; exact hs.sel hl hL⟩
theorem gc_sel {c : Code} {l' : Slots} {L' : List Bk} (hl : SubS l' l) (hL : Sel L' L) (h : GC P X c Q μ l' L') : GC P X c Q μ l L := fun a w hs => h a w (hs.sel hl hL)
theorem gq_sel {e : Exit} {l' : Slots} {L' : List Bk} (hl : SubS l' l) (hL : Sel L' L) (h : GQ X Q e μ l' L') : GQ X Q e μ l L := fun a w hs => h a w (hs.sel hl hL)
theorem sel_0 {x y : Bk} {r L : List Bk} (h : BkLe x y) (hr : Sel r (L)) : Sel (x :: r) (y :: L) := Sel.cons (a := []) h hr
theorem sel_1 {x y : Bk} {y0 : Bk} {r L : List Bk} (h : BkLe x y) (hr : Sel r (y0 :: L)) : Sel (x :: r) (y0 :: y :: L) := Sel.cons (a := [y0]) h hr
theorem sel_2 {x y : Bk} {y0 y1 : Bk} {r L : List Bk} (h : BkLe x y) (hr : Sel r (y0 :: y1 :: L)) : Sel (x :: r) (y0 :: y1 :: y :: L) := Sel.cons (a := [y0, y1]) h hr
theorem sel_3 {x y : Bk} {y0 y1 y2 : Bk} {r L : List Bk} (h : BkLe x y) (hr : Sel r (y0 :: y1 :: y2 :: L)) : Sel (x :: r) (y0 :: y1 :: y2 :: y :: L) := Sel.cons (a := [y0, y1, y2]) h hr
theorem sel_4 {x y : Bk} {y0 y1 y2 y3 : Bk} {r L : List Bk} (h : BkLe x y) (hr : Sel r (y0 :: y1 :: y2 :: y3 :: L)) : Sel (x :: r) (y0 :: y1 :: y2 :: y3 :: y :: L) := Sel.cons (a := [y0, y1, y2, y3]) h hr
theorem sel_5 {x y : Bk} {y0 y1 y2 y3 y4 : Bk} {r L : List Bk} (h : BkLe x y) (hr : Sel r (y0 :: y1 :: y2 :: y3 :: y4 :: L)) : Sel (x :: r) (y0 :: y1 :: y2 :: y3 :: y4 :: y :: L) := Sel.cons (a := [y0, y1, y2, y3, y4]) h hr
theorem sel_6 {x y : Bk} {y0 y1 y2 y3 y4 y5 : Bk} {r L : List Bk} (h : BkLe x y) (hr : Sel r (y0 :: y1 :: y2 :: y3 :: y4 :: y5 :: L)) : Sel (x :: r) (y0 :: y1 :: y2 :: y3 :: y4 :: y5 :: y :: L) := Sel.cons (a := [y0, y1, y2, y3, y4, y5]) h hr
theorem sel_7 {x y : Bk} {y0 y1 y2 y3 y4 y5 y6 : Bk} {r L : List Bk} (h : BkLe x y) (hr : Sel r (y0 :: y1 :: y2 :: y3 :: y4 :: y5 :: y6 :: L)) : Sel (x :: r) (y0 :: y1 :: y2 :: y3 :: y4 :: y5 :: y6 :: y :: L) := Sel.cons (a := [y0, y1, y2, y3, y4, y5, y6]) h hr
theorem sel_8 {x y : Bk} {y0 y1 y2 y3 y4 y5 y6 y7 : Bk} {r L : List Bk} (h : BkLe x y) (hr : Sel r (y0 :: y1 :: y2 :: y3 :: y4 :: y5 :: y6 :: y7 :: L)) : Sel (x :: r) (y0 :: y1 :: y2 :: y3 :: y4 :: y5 :: y6 :: y7 :: y :: L) := Sel.cons (a := [y0, y1, y2, y3, y4, y5, y6, y7]) h hr
theorem updB_id : ∀ {L : List Bk} {i : Nat} {x : Bk}, nthB L i = some x → updB L i x = L
  | [], _, _, h => by simp [nthB] at h
  | y :: r, 0, x, h => by simp [nthB] at h; simp [updB, h]
  | y :: r, i + 1, x, h => by simp only [updB]; rw [updB_id (i := i) (by simpa [nthB] using h)]
theorem St.rowEq {i : Nat} {v : Value} {e s n n' : Nat} {xs xs' : List Value} (h : St X μ l L a w) (hi : nthB L i = some (.inr ⟨v, e, s, n, xs⟩)) (hn : n = n') (hx : xs = xs') : St X μ l (updB L i (.inr ⟨v, e, s, n', xs'⟩)) a w := by
  subst hn hx
  rw [updB_id hi]
  exact h
theorem gq_rowEq {ex : Exit} {v : Value} {e s n n' : Nat} {xs xs' : List Value} (i : Nat) (hi : nthB L i = some (.inr ⟨v, e, s, n, xs⟩)) (hn : n = n') (hx : xs = xs') (h : GQ X Q ex μ l (updB L i (.inr ⟨v, e, s, n', xs'⟩))) : GQ X Q ex μ l L := fun a w hs => h a w (hs.rowEq hi hn hx)
theorem gc_nilR {c : Code} (e s : Nat) (h : GC P X c Q μ l (.inr ⟨.slice none 0 0, e, s, 0, []⟩ :: L)) : GC P X c Q μ l L := fun a w hs => h a w (hs.nilRow e s)
def GCs (P : Program) (X : Ctx) (c : Code) (Q : Exit → Act → World → Prop) (μ : Mem) (l : Slots) (L : List Bk) : Prop := GC P X c Q μ l L
theorem gc_stop {c : Code} (h : GCs P X c Q μ l L) : GC P X c Q μ l L := h
theorem gcs {c : Code} (h : GC P X c Q μ l L) : GCs P X c Q μ l L := h
end
end
end Go.Vcg
namespace Go.Proofs.YtoclmkdfcafhfaaGreatDoor
end Go.Proofs.YtoclmkdfcafhfaaGreatDoor
