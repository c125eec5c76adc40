/- Rules of single operations over the symbolic state of YtfabmichdhbiaaaGreatDoorVc. (and what leans on it). No statement of the seat is proved here. -/
import Derived.Test.YtfabmichdhbiaaaGreatDoorQaa
set_option maxRecDepth 20000
namespace Go.Vcg
open Go.RowKit
section
variable {P : Program} {X : Ctx} {ops : Array Oper} {Q : Exit → Act → World → Prop} {rest : List Oper} {μ : Mem} {l : Slots} {L : List Bk} {a : Act} {w : World} {o : Oper}
variable {d : Nat} {ds : Option Nat} {ty : TypeId} {pos : String} {af : Array Edge} {gd : Option (Nat × Bool)}
theorem v_move {x : Operand} {v : Value} (hx0 : ev l x = some (v))  : Val P μ l L ⟨ds, .move x, ty, pos, af, gd⟩ (v) :=
  fun a w hs => by have e0 := hs.eval hx0; generalize a.eval = ρ at e0; simp [execOp, e0]
theorem v_assign {x : Operand} {v : Value} (hx0 : ev l x = some (v))  : Val P μ l L ⟨ds, .assign x, ty, pos, af, gd⟩ (v) :=
  fun a w hs => by have e0 := hs.eval hx0; generalize a.eval = ρ at e0; simp [execOp, e0]
theorem v_load {x : Operand} {v : Value} {t : TypeId} {A : Addr} (hx : ev l x = some (.pointer (some A)))
    (hr : ∀ a w, Rd μ l L a w → (Instr.loadAt t (.pointer (some A))).run P w = .ok v w) : Val P μ l L ⟨ds, .load t x, ty, pos, af, gd⟩ v :=
  fun a w hs => by have e := hs.eval hx; have r := hr a w hs; generalize a.eval = ρ at e; simp [execOp, e, r]
theorem v_load_own {x : Operand} {v : Value} {t : TypeId} {off : Nat} {y : Blk} (i : Nat) (hag : aggOf P t = some false)
    (hi : nthB L i = some (.inl y)) (hx : ev l x = some (.pointer (some ⟨y.b, off, none⟩))) (hv : lk y.cs off = some v) : Val P μ l L ⟨ds, .load t x, ty, pos, af, gd⟩ v :=
  v_load hx (fun _ _ hs => run_loadScalar hag (hs.cell (nthB_mem (i := i) hi) hv))
theorem v_load_sh {x : Operand} {v : Value} {t : TypeId} {A : Addr} (hag : aggOf P t = some false)
    (hx : ev l x = some (.pointer (some A))) (hm : MCell μ A v) : Val P μ l L ⟨ds, .load t x, ty, pos, af, gd⟩ v :=
  v_load hx (fun _ _ hs => run_loadScalar hag (hs.mcell hm))
theorem v_load_shs {x : Operand} {t : TypeId} {A : Addr} {n : Nat} {vs : List Value} (hag : aggOf P t = some true)
    (hsz : sizeT P t = some n) (hx : ev l x = some (.pointer (some A))) (hm : MCells μ A vs) (hl : vs.length = n) : Val P μ l L ⟨ds, .load t x, ty, pos, af, gd⟩ (.agg vs.toArray) :=
  v_load hx (fun _ _ hs => run_loadAgg vs hag (hl ▸ hsz) (fun j v hv => hs.mcell (hm j v hv)))
theorem v_pick_t {c x y : Operand} {v : Value} (hx0 : ev l c = some (.bool true)) (hx1 : ev l x = some (v))  : Val P μ l L ⟨ds, .pick c x y, ty, pos, af, gd⟩ (v) :=
  fun a w hs => by have e0 := hs.eval hx0; have e1 := hs.eval hx1; generalize a.eval = ρ at e0 e1; simp [execOp, e0, e1, asBool]
theorem v_pick_f {c x y : Operand} {v : Value} (hx0 : ev l c = some (.bool false)) (hx1 : ev l y = some (v))  : Val P μ l L ⟨ds, .pick c x y, ty, pos, af, gd⟩ (v) :=
  fun a w hs => by have e0 := hs.eval hx0; have e1 := hs.eval hx1; generalize a.eval = ρ at e0 e1; simp [execOp, e0, e1, asBool]
theorem v_add {p q : Operand} {t t2 : TypeId} {k : IntKind} {x y : Int} (hx0 : ev l p = some (.int k x)) (hx1 : ev l q = some (.int k y))  : Val P μ l L ⟨ds, .binOp .add t p q t2, ty, pos, af, gd⟩ (.int k (k.wrap (x + y))) :=
  fun a w hs => by have e0 := hs.eval hx0; have e1 := hs.eval hx1; generalize a.eval = ρ at e0 e1; simp [execOp, e0, e1, eqGuard, binOp, Op.intArith]
theorem v_add_i {p q : Operand} {t t2 : TypeId} {x y : Int} (hx0 : ev l p = some (.int .i64 x)) (hx1 : ev l q = some (.int .i64 y))
    (hb : -9223372036854775808 ≤ x + y ∧ x + y ≤ 9223372036854775807) : Val P μ l L ⟨ds, .binOp .add t p q t2, ty, pos, af, gd⟩ (.int .i64 (x + y)) := by
  have := v_add (P := P) (μ := μ) (L := L) (ds := ds) (ty := ty) (pos := pos) (af := af) (gd := gd) (t := t) (t2 := t2) hx0 hx1
  rwa [IntWalk.i64_in _ hb] at this
theorem v_sub {p q : Operand} {t t2 : TypeId} {k : IntKind} {x y : Int} (hx0 : ev l p = some (.int k x)) (hx1 : ev l q = some (.int k y))  : Val P μ l L ⟨ds, .binOp .sub t p q t2, ty, pos, af, gd⟩ (.int k (k.wrap (x - y))) :=
  fun a w hs => by have e0 := hs.eval hx0; have e1 := hs.eval hx1; generalize a.eval = ρ at e0 e1; simp [execOp, e0, e1, eqGuard, binOp, Op.intArith]
theorem v_sub_i {p q : Operand} {t t2 : TypeId} {x y : Int} (hx0 : ev l p = some (.int .i64 x)) (hx1 : ev l q = some (.int .i64 y))
    (hb : -9223372036854775808 ≤ x - y ∧ x - y ≤ 9223372036854775807) : Val P μ l L ⟨ds, .binOp .sub t p q t2, ty, pos, af, gd⟩ (.int .i64 (x - y)) := by
  have := v_sub (P := P) (μ := μ) (L := L) (ds := ds) (ty := ty) (pos := pos) (af := af) (gd := gd) (t := t) (t2 := t2) hx0 hx1
  rwa [IntWalk.i64_in _ hb] at this
theorem v_mul {p q : Operand} {t t2 : TypeId} {k : IntKind} {x y : Int} (hx0 : ev l p = some (.int k x)) (hx1 : ev l q = some (.int k y))  : Val P μ l L ⟨ds, .binOp .mul t p q t2, ty, pos, af, gd⟩ (.int k (k.wrap (x * y))) :=
  fun a w hs => by have e0 := hs.eval hx0; have e1 := hs.eval hx1; generalize a.eval = ρ at e0 e1; simp [execOp, e0, e1, eqGuard, binOp, Op.intArith]
theorem v_mul_i {p q : Operand} {t t2 : TypeId} {x y : Int} (hx0 : ev l p = some (.int .i64 x)) (hx1 : ev l q = some (.int .i64 y))
    (hb : -9223372036854775808 ≤ x * y ∧ x * y ≤ 9223372036854775807) : Val P μ l L ⟨ds, .binOp .mul t p q t2, ty, pos, af, gd⟩ (.int .i64 (x * y)) := by
  have := v_mul (P := P) (μ := μ) (L := L) (ds := ds) (ty := ty) (pos := pos) (af := af) (gd := gd) (t := t) (t2 := t2) hx0 hx1
  rwa [IntWalk.i64_in _ hb] at this
theorem decide_beq (x y : Int) : (x == y) = decide (x = y) := rfl
theorem bne_decide (x y : Int) : (x != y) = decide (x ≠ y) := by by_cases h : x = y <;> simp [h]
theorem beq_bytes (s t : ByteArray) : (s.toList == t.toList) = decide (s = t) := by
  by_cases h : s = t
  · simp [h]
  · have : s.toList ≠ t.toList := fun e => h (by
      rw [Go.ByteArray.toList_eq, Go.ByteArray.toList_eq] at e
      exact ByteArray.ext (Array.toList_inj.mp e))
    simp [h, this]
theorem v_lss {p q : Operand} {t t2 : TypeId} {k : IntKind} {x y : Int} (hx0 : ev l p = some (.int k x)) (hx1 : ev l q = some (.int k y))  : Val P μ l L ⟨ds, .binOp .lss t p q t2, ty, pos, af, gd⟩ (.bool (decide (x < y))) :=
  fun a w hs => by have e0 := hs.eval hx0; have e1 := hs.eval hx1; generalize a.eval = ρ at e0 e1; simp [execOp, e0, e1, eqGuard, binOp, Op.intCmp]
theorem v_leq {p q : Operand} {t t2 : TypeId} {k : IntKind} {x y : Int} (hx0 : ev l p = some (.int k x)) (hx1 : ev l q = some (.int k y))  : Val P μ l L ⟨ds, .binOp .leq t p q t2, ty, pos, af, gd⟩ (.bool (decide (x ≤ y))) :=
  fun a w hs => by have e0 := hs.eval hx0; have e1 := hs.eval hx1; generalize a.eval = ρ at e0 e1; simp [execOp, e0, e1, eqGuard, binOp, Op.intCmp]
theorem v_gtr {p q : Operand} {t t2 : TypeId} {k : IntKind} {x y : Int} (hx0 : ev l p = some (.int k x)) (hx1 : ev l q = some (.int k y))  : Val P μ l L ⟨ds, .binOp .gtr t p q t2, ty, pos, af, gd⟩ (.bool (decide (y < x))) :=
  fun a w hs => by have e0 := hs.eval hx0; have e1 := hs.eval hx1; generalize a.eval = ρ at e0 e1; simp [execOp, e0, e1, eqGuard, binOp, Op.intCmp]
theorem v_geq {p q : Operand} {t t2 : TypeId} {k : IntKind} {x y : Int} (hx0 : ev l p = some (.int k x)) (hx1 : ev l q = some (.int k y))  : Val P μ l L ⟨ds, .binOp .geq t p q t2, ty, pos, af, gd⟩ (.bool (decide (y ≤ x))) :=
  fun a w hs => by have e0 := hs.eval hx0; have e1 := hs.eval hx1; generalize a.eval = ρ at e0 e1; simp [execOp, e0, e1, eqGuard, binOp, Op.intCmp]
theorem v_eql {p q : Operand} {t t2 : TypeId} {k : IntKind} {x y : Int} (hx0 : ev l p = some (.int k x)) (hx1 : ev l q = some (.int k y))  : Val P μ l L ⟨ds, .binOp .eql t p q t2, ty, pos, af, gd⟩ (.bool (decide (x = y))) :=
  fun a w hs => by have e0 := hs.eval hx0; have e1 := hs.eval hx1; generalize a.eval = ρ at e0 e1; simp [execOp, e0, e1, eqGuard, binOp, Op.intCmp, decide_beq]
theorem v_neq {p q : Operand} {t t2 : TypeId} {k : IntKind} {x y : Int} (hx0 : ev l p = some (.int k x)) (hx1 : ev l q = some (.int k y))  : Val P μ l L ⟨ds, .binOp .neq t p q t2, ty, pos, af, gd⟩ (.bool (decide (x ≠ y))) :=
  fun a w hs => by have e0 := hs.eval hx0; have e1 := hs.eval hx1; generalize a.eval = ρ at e0 e1; simp [execOp, e0, e1, eqGuard, binOp, Op.intCmp, bne_decide]
theorem v_quo {p q : Operand} {t t2 : TypeId} {k : IntKind} {x y : Int} (hx0 : ev l p = some (.int k x)) (hx1 : ev l q = some (.int k y)) (hy : y ≠ 0) : Val P μ l L ⟨ds, .binOp .quo t p q t2, ty, pos, af, gd⟩ (.int k (k.wrap (x.tdiv y))) :=
  fun a w hs => by have e0 := hs.eval hx0; have e1 := hs.eval hx1; generalize a.eval = ρ at e0 e1; simp [execOp, e0, e1, eqGuard, binOp, Op.intDiv, hy]
theorem v_rem {p q : Operand} {t t2 : TypeId} {k : IntKind} {x y : Int} (hx0 : ev l p = some (.int k x)) (hx1 : ev l q = some (.int k y)) (hy : y ≠ 0) : Val P μ l L ⟨ds, .binOp .rem t p q t2, ty, pos, af, gd⟩ (.int k (x.tmod y)) :=
  fun a w hs => by have e0 := hs.eval hx0; have e1 := hs.eval hx1; generalize a.eval = ρ at e0 e1; simp [execOp, e0, e1, eqGuard, binOp, Op.intDiv, hy]
theorem v_seql {p q : Operand} {t t2 : TypeId} {x y : ByteArray} (hx0 : ev l p = some (.string x)) (hx1 : ev l q = some (.string y))  : Val P μ l L ⟨ds, .binOp .eql t p q t2, ty, pos, af, gd⟩ (.bool (decide (x = y))) :=
  fun a w hs => by have e0 := hs.eval hx0; have e1 := hs.eval hx1; generalize a.eval = ρ at e0 e1; simp [execOp, e0, e1, eqGuard, binOp, Op.stringOp, beq_bytes]
theorem v_sneq {p q : Operand} {t t2 : TypeId} {x y : ByteArray} (hx0 : ev l p = some (.string x)) (hx1 : ev l q = some (.string y))  : Val P μ l L ⟨ds, .binOp .neq t p q t2, ty, pos, af, gd⟩ (.bool (decide (x ≠ y))) :=
  fun a w hs => by have e0 := hs.eval hx0; have e1 := hs.eval hx1; generalize a.eval = ρ at e0 e1; simp [execOp, e0, e1, eqGuard, binOp, Op.stringOp, beq_bytes]
theorem run_sadd (x y : ByteArray) (hb : x.size + y.size ≤ 9223372036854775807) (w : World) : (Op.stringOp .add x y).run P w = .ok (.string (x ++ y)) w := by
  have hm : IntKind.i64.max = 9223372036854775807 := by decide
  have hb' : ¬ ((x.size + y.size : Nat) : Int) > IntKind.i64.max := by omega
  simp only [Op.stringOp, if_neg hb', Sem.run_pure]
theorem v_sadd {p q : Operand} {t t2 : TypeId} {x y : ByteArray} (hx0 : ev l p = some (.string x)) (hx1 : ev l q = some (.string y)) (hb : x.size + y.size ≤ 9223372036854775807) : Val P μ l L ⟨ds, .binOp .add t p q t2, ty, pos, af, gd⟩ (.string (x ++ y)) :=
  fun a w hs => by have e0 := hs.eval hx0; have e1 := hs.eval hx1; generalize a.eval = ρ at e0 e1; simp [execOp, e0, e1, eqGuard, binOp, run_sadd x y hb]
theorem v_not {p : Operand} {t : TypeId} {b : Bool} (hx0 : ev l p = some (.bool b))  : Val P μ l L ⟨ds, .unOp .not t p, ty, pos, af, gd⟩ (.bool (!b)) :=
  fun a w hs => by have e0 := hs.eval hx0; generalize a.eval = ρ at e0; simp [execOp, e0, Op.unary]
theorem v_neg {p : Operand} {t : TypeId} {k : IntKind} {x : Int} (hx0 : ev l p = some (.int k x))  : Val P μ l L ⟨ds, .unOp .neg t p, ty, pos, af, gd⟩ (.int k (k.wrap (-x))) :=
  fun a w hs => by have e0 := hs.eval hx0; generalize a.eval = ρ at e0; simp [execOp, e0, Op.unary, Op.intArith]
theorem v_conv {p : Operand} {t u : TypeId} {k k2 : IntKind} {x : Int} {de : TypeDesc} (hx0 : ev l p = some (.int k x)) (ht : P.underlying t = some de) (hu : P.underlying u = some (.int k2)) : Val P μ l L ⟨ds, .convert t u p, ty, pos, af, gd⟩ (.int k2 (k2.wrap x)) :=
  fun a w hs => by have e0 := hs.eval hx0; generalize a.eval = ρ at e0; simp [execOp, e0, convert, run_underlying ht, run_underlying hu, Conv.intToInt]
def nthV : List Value → Nat → Option Value
  | [], _ => none
  | x :: _, 0 => some x
  | _ :: r, i + 1 => nthV r i
theorem nthV_eq : ∀ (l : List Value) (i : Nat), nthV l i = l[i]?
  | [], _ => by simp [nthV]
  | x :: r, 0 => by simp [nthV]
  | x :: r, i + 1 => by simp [nthV, nthV_eq r i]
theorem v_extract {p : Operand} {i : Nat} {vs : List Value} {v : Value} (hx0 : ev l p = some (.tuple vs.toArray)) (hv : nthV vs i = some v) : Val P μ l L ⟨ds, .extract p i, ty, pos, af, gd⟩ v := fun a w hs => by
  rw [nthV_eq] at hv
  have e0 := hs.eval hx0
  generalize a.eval = ρ at e0
  simp [execOp, e0, Instr.extract, hv]
theorem v_nilCheck {p : Operand} {A : Addr} (hx0 : ev l p = some (.pointer (some A)))  : Val P μ l L ⟨ds, .nilCheck p, ty, pos, af, gd⟩ (.pointer (some A)) :=
  fun a w hs => by have e0 := hs.eval hx0; generalize a.eval = ρ at e0; simp [execOp, e0]
theorem v_len_s {p : Operand} {t : TypeId} {s : ByteArray} (hx0 : ev l p = some (.string s)) (ht : P.underlying t = some .string) : Val P μ l L ⟨ds, .call { callee := .builtin .len, args := #[p], argTypes := #[t] }, ty, pos, af, gd⟩ (.int .i64 s.size) :=
  fun a w hs => by have e0 := hs.eval hx0; generalize a.eval = ρ at e0; simp [execOp, e0, resolve, invoke, builtin, Builtin.len_, run_underlying ht, goInt]
theorem v_len_l {p : Operand} {t e : TypeId} {A : Option Addr} {n c : Nat} (hx0 : ev l p = some (.slice A n c)) (ht : P.underlying t = some (.slice e)) : Val P μ l L ⟨ds, .call { callee := .builtin .len, args := #[p], argTypes := #[t] }, ty, pos, af, gd⟩ (.int .i64 n) :=
  fun a w hs => by have e0 := hs.eval hx0; generalize a.eval = ρ at e0; simp [execOp, e0, resolve, invoke, builtin, Builtin.len_, run_underlying ht, goInt]
theorem run_fieldPlace {A : Addr} {f : Field} {n : Nat} (hs : sizeT P f.type = some (n + 1)) (w : World) : (fieldPlace A f).run P w = .ok (A.add f.offset) w := by
  simp [fieldPlace, run_sizeOf hs]
def fieldT (P : Program) (t : TypeId) (i : Nat) : Option (Nat × Nat) :=
  match P.underlying t with
  | some (.struct fs) => match fs[i]? with
    | some f => match sizeT P f.type with
      | some (_ + 1) => nat16 f.offset (fun o => some (0, o))
      | _ => none
    | none => none
  | _ => none
theorem run_fieldAt {A : Addr} {t : TypeId} {i ft off : Nat} (hf : fieldT P t i = some (ft, off)) (w : World) : (Instr.fieldAt t (.pointer (some A)) i).run P w = .ok (.pointer (some (A.add off))) w := by
  unfold fieldT at hf
  cases hu : P.underlying t with
  | none => simp [hu] at hf
  | some de =>
    cases de <;> simp [hu] at hf
    rename_i fs
    cases hfi : fs[i]? with
    | none => simp [hfi] at hf
    | some f =>
      simp only [hfi] at hf
      cases hs : sizeT P f.type with
      | none => simp [hs] at hf
      | some n =>
        cases n with
        | zero => simp [hs] at hf
        | succ n =>
          simp [hs, nat16_eq] at hf
          simp [Instr.fieldAt, run_underlying hu, hfi, Instr.sureAddr, run_fieldPlace hs, hf.2]
theorem add_lit (b off n : Nat) : (⟨b, off, none⟩ : Addr).add n = ⟨b, off + n, none⟩ := by unfold Addr.add; split <;> simp_all
theorem add_add' (A : Addr) (i j : Nat) : (A.add i).add j = A.add (i + j) := by
  unfold Addr.add
  by_cases hi : i = 0 <;> by_cases hj : j = 0 <;> simp [hi, hj, Nat.add_assoc]
theorem v_field_lit {p : Operand} {t : TypeId} {i ft off b k : Nat} (hx0 : ev l p = some (.pointer (some ⟨b, k, none⟩))) (hf : fieldT P t i = some (ft, off)) : Val P μ l L ⟨ds, .fieldAddr t p i, ty, pos, af, gd⟩ (.pointer (some ⟨b, k + off, none⟩)) :=
  fun a w hs => by have e0 := hs.eval hx0; generalize a.eval = ρ at e0; simp [execOp, e0, run_fieldAt hf, add_lit]
theorem run_indexAt {t e : TypeId} {A : Addr} {len cap n k : Nat} (ht : P.underlying t = some (.slice e)) (hs : sizeT P e = some n) (hk : k < len) (w : World) :
    (Instr.indexAt t (.slice (some A) len cap) (.int .i64 (k : Int))).run P w = .ok (.pointer (some (A.add (k * n)))) w := by
  have h1 : (0 : Int) ≤ (k : Int) ∧ (k : Int) < (len : Int) := by omega
  simp [Instr.indexAt, asIntOf, run_underlying ht, run_sizeOf hs, hk]
theorem v_index {p q : Operand} {t e : TypeId} {A : Addr} {len cap n : Nat} {i : Int} (k : Nat) (ht : P.underlying t = some (.slice e)) (hs : sizeT P e = some n)
    (hx0 : ev l p = some (.slice (some A) len cap)) (hx1 : ev l q = some (.int .i64 i)) (hi : i = (k : Int)) (hk : k < len) : Val P μ l L ⟨ds, .indexAddr t p q, ty, pos, af, gd⟩ (.pointer (some (A.add (k * n)))) :=
  fun a w hs' => by have e0 := hs'.eval hx0; have e1 := hs'.eval hx1; generalize a.eval = ρ at e0 e1; subst hi; simp [execOp, e0, e1, run_indexAt ht hs hk]
def LC (cs : Slots) : Nat → Nat → List Value → Prop
  | _, 0, [] => True
  | off, s + 1, v :: vs => lk cs off = some v ∧ LC cs (off + 1) s vs
  | _, _, _ => False
theorem lc_nil {cs : Slots} {off : Nat} : LC cs off 0 [] := trivial
theorem lc_cons {cs : Slots} {off s : Nat} {v : Value} {vs : List Value} (h : lk cs off = some v) (hr : LC cs (off + 1) s vs) : LC cs off (s + 1) (v :: vs) := ⟨h, hr⟩
theorem LC.len {cs : Slots} : ∀ {s off : Nat} {vs : List Value}, LC cs off s vs → vs.length = s
  | 0, _, [], _ => rfl
  | 0, _, _ :: _, h => by simp [LC] at h
  | s + 1, _, [], h => by simp [LC] at h
  | s + 1, _, _ :: _, h => by simp [LC.len h.2]
theorem LC.get {cs : Slots} : ∀ {s off : Nat} {vs : List Value}, LC cs off s vs → ∀ j v, vs[j]? = some v → lk cs (off + j) = some v
  | 0, _, [], _, j, v, hj => by simp at hj
  | 0, _, _ :: _, h, _, _, _ => by simp [LC] at h
  | s + 1, _, [], h, _, _, _ => by simp [LC] at h
  | s + 1, off, u :: vs, h, 0, v, hj => by simp at hj; subst hj; exact h.1
  | s + 1, off, u :: vs, h, j + 1, v, hj => by
    have := LC.get h.2 j v (by simpa using hj)
    rwa [show off + (j + 1) = off + 1 + j by omega]
theorem v_load_agg {x : Operand} {t : TypeId} {off s : Nat} {y : Blk} {vs : List Value} (i : Nat) (hag : aggOf P t = some true) (hsz : sizeT P t = some s)
    (hi : nthB L i = some (.inl y)) (hx : ev l x = some (.pointer (some ⟨y.b, off, none⟩))) (hc : LC y.cs off s vs) : Val P μ l L ⟨ds, .load t x, ty, pos, af, gd⟩ (.agg vs.toArray) :=
  v_load hx (fun _ _ hs => run_loadAgg vs hag (by rw [hc.len]; exact hsz) (fun j v hv => by rw [add_lit]; exact hs.cell (nthB_mem (i := i) hi) (hc.get j v hv)))
def idx : Nat → List Value → Slots
  | _, [] => []
  | i, v :: r => (i, v) :: idx (i + 1) r
theorem beq_ne {i j : Nat} (h : i ≠ j) : Nat.beq i j = false := by
  cases h' : Nat.beq i j with
  | false => rfl
  | true => exact absurd (Nat.eq_of_beq_eq_true h') h
theorem lk_idx : ∀ (vs : List Value) (i k : Nat) (v : Value), lk (idx i vs) k = some v → i ≤ k ∧ vs[k - i]? = some v
  | [], i, k, v, h => by simp [idx, lk] at h
  | u :: r, i, k, v, h => by
    by_cases e : i = k
    · subst e
      simp [idx, lk] at h
      simp [h]
    · simp [idx, lk, beq_ne e] at h
      obtain ⟨h1, h2⟩ := lk_idx r (i + 1) k v h
      refine ⟨by omega, ?_⟩
      have : k - i = (k - (i + 1)) + 1 := by omega
      rw [this]; simpa using h2
theorem lk_idx_of : ∀ (vs : List Value) (i j : Nat) (v : Value), vs[j]? = some v → lk (idx i vs) (i + j) = some v
  | [], i, j, v, h => by simp at h
  | u :: r, i, 0, v, h => by simp at h; simp [idx, lk, h]
  | u :: r, i, j + 1, v, h => by
    have := lk_idx_of r (i + 1) j v (by simpa using h)
    rw [show i + (j + 1) = i + 1 + j by omega]
    simp [idx, lk, beq_ne (show i ≠ i + 1 + j by omega), this]
theorem St.alloc (h : St X μ l L a w) (t : TypeId) (cs : List Value) : St X μ l (.inl ⟨w.heap.size, t, cs.length, idx 0 cs⟩ :: L) a (w.alloc (.cells cs.toArray t)) := by
  have hold : ∀ b, b < w.heap.size → (w.alloc (.cells cs.toArray t)).heap[b]? = w.heap[b]? := fun b hb => Below.heap_alloc w _ b hb
  have hlt : ∀ x ∈ L, ∀ b, Bk.id x = some b → b < w.heap.size := fun x hx b hb => Bk.lt (h.own x hx) hb
  refine ⟨h.size, h.defers, h.slots, ⟨h.keep.os, h.keep.tape, h.keep.output, Nat.le_trans h.keep.size (by simp), fun b hb hM => ?_⟩, fun b o hb => ?_, h.from0, h.fresh, fun x hx => ?_, fun x hx b hb => ?_, fun x hx b hb => ?_, ?_⟩
  · rw [hold b (Nat.lt_of_lt_of_le hb h.keep.size)]; exact h.keep.block b hb hM
  · have := h.mem b o hb
    rw [hold b (Array.getElem?_eq_some_iff.1 this).1]; exact this
  · rcases List.mem_cons.1 hx with rfl | hx
    · refine ⟨cs.toArray, heap_alloc_new w _, by simp, fun i v hv => ?_⟩
      have := lk_idx cs 0 i v hv
      simpa using this.2
    · exact Bk.keep (h.own x hx) (fun b hb => hold b (hlt x hx b hb))
  · rcases List.mem_cons.1 hx with rfl | hx
    · cases hb
      cases hm : μ w.heap.size with
      | none => rfl
      | some o =>
        have := (Array.getElem?_eq_some_iff.1 (h.mem _ _ hm)).1
        omega
    · exact h.priv x hx b hb
  · rcases List.mem_cons.1 hx with rfl | hx
    · cases hb; exact .inr h.keep.size
    · exact h.new x hx b hb
  · refine List.pairwise_cons.2 ⟨fun y hy b hb hb' => ?_, h.diff⟩
    have h1 := hlt y hy b hb'
    have h2 : w.heap.size = b := Option.some.inj hb
    omega
theorem g_new {v : Nat → Value} {t : TypeId} {cs : List Value} (hd : o.dst = some d) (hn : Nat.blt d X.n = true) (hw : wants ops l o = some true)
    (hr : Alc P μ l L o v t cs) {n : Nat} (hl : nat16 cs.length some = some n) (h : ∀ b, G P X ops Q rest μ ((d, v b) :: l) (.inl ⟨b, t, n, idx 0 cs⟩ :: L)) : G P X ops Q (o :: rest) μ l L :=
  g_wp hw fun a w hs => by
    unfold Oper.wp
    rw [hr a w hs.rd, Oper.upon_value, hd]
    rw [nat16_eq] at hl
    cases hl
    exact h _ _ _ ((hs.alloc t cs).put hn _)
theorem n_box_any {x : Operand} {v : Value} {t : TypeId} (hx : ev l x = some v) : Alc P μ l L ⟨ds, .box t x, ty, pos, af, gd⟩ (fun b => .pointer (some ⟨b, 0, none⟩)) t v.cells.toList :=
  fun a w hs => by
    have e := hs.eval hx
    generalize a.eval = ρ at e
    simp [execOp, e, Instr.box, newVar, newRow]
theorem n_alloc_any {z : Value} {t : TypeId} (hz : zeroT P t = some z) : Alc P μ l L ⟨ds, .alloc t, ty, pos, af, gd⟩ (fun b => .pointer (some ⟨b, 0, none⟩)) t z.cells.toList :=
  fun a w hs => by simp [execOp, Instr.alloc, run_zeroValue hz, newVar, newRow]
def pushCells (off : Nat) (vs : List Value) (cs : Slots) : Slots := idx off vs ++ cs
theorem lk_append (l1 l2 : Slots) (k : Nat) : lk (l1 ++ l2) k = match lk l1 k with | some v => some v | none => lk l2 k := by
  induction l1 with
  | nil => rfl
  | cons x r ih =>
    obtain ⟨t, v⟩ := x
    by_cases e : t = k
    · subst e; simp [lk]
    · simp [lk, beq_ne e, ih]
theorem lk_idx_none : ∀ (vs : List Value) (i k : Nat), lk (idx i vs) k = none → k < i ∨ i + vs.length ≤ k
  | [], i, k, _ => by simp; omega
  | u :: r, i, k, h => by
    by_cases e : i = k
    · subst e; simp [idx, lk] at h
    · simp [idx, lk, beq_ne e] at h
      rcases lk_idx_none r (i + 1) k h with h' | h' <;> simp <;> omega
theorem mem_updB {y z : Bk} : ∀ {L : List Bk} {i : Nat}, z ∈ updB L i y → z = y ∨ z ∈ L
  | [], _, h => by simp [updB] at h
  | x :: r, 0, h => (List.mem_cons.1 (by simpa [updB] using h : z ∈ y :: r)).imp id (List.mem_cons_of_mem _)
  | x :: r, i + 1, h => by
    rcases List.mem_cons.1 (by simpa [updB] using h : z ∈ x :: updB r i y) with h | h
    · exact .inr (by simp [h])
    · rcases mem_updB (i := i) h with h | h
      · exact .inl h
      · exact .inr (by simp [h])
theorem mem_updB_ne {x y z : Bk} : ∀ {L : List Bk} {i : Nat}, nthB L i = some x → L.Pairwise (fun x y => ∀ b, Bk.id x = some b → Bk.id y ≠ some b) → z ∈ updB L i y → z = y ∨ (z ∈ L ∧ ∀ b, Bk.id x = some b → Bk.id z ≠ some b)
  | [], _, h, _, _ => by simp [nthB] at h
  | u :: r, 0, h, hp, hz => by
    simp [nthB] at h; subst h
    obtain ⟨h1, _⟩ := List.pairwise_cons.1 hp
    exact (List.mem_cons.1 (by simpa [updB] using hz : z ∈ y :: r)).imp id (fun h => ⟨List.mem_cons_of_mem _ h, fun b hb => h1 z h b hb⟩)
  | u :: r, i + 1, h, hp, hz => by
    obtain ⟨h1, h2⟩ := List.pairwise_cons.1 hp
    have h' : nthB r i = some x := by simpa [nthB] using h
    rcases List.mem_cons.1 (by simpa [updB] using hz : z ∈ u :: updB r i y) with rfl | hz
    · exact .inr ⟨by simp, fun b hb hb' => h1 x (nthB_mem h') b hb' hb⟩
    · exact (mem_updB_ne h' h2 hz).imp id (fun h => ⟨List.mem_cons_of_mem _ h.1, h.2⟩)
theorem St.upd (h : St X μ l L a w) {i : Nat} {x y : Bk} (hi : nthB L i = some x) {w' : World} (hos : w'.os = w.os) (htape : w'.tape = w.tape) (hout : w'.output = w.output) (hsz : w.heap.size ≤ w'.heap.size)
    (hk : ∀ b, b < w.heap.size → Bk.id x ≠ some b → w'.heap[b]? = w.heap[b]?) (hy : Bk.at y w') (hid : ∀ b, Bk.id y = some b → Bk.id x = some b ∨ w.heap.size ≤ b) : St X μ l (updB L i y) a w' := by
  have hx := nthB_mem hi
  have hlt : ∀ x ∈ L, ∀ b, Bk.id x = some b → b < w.heap.size := fun x hx b hb => Bk.lt (h.own x hx) hb
  have hpriv : ∀ b, w.heap.size ≤ b → μ b = none := fun b hb => by
    cases hm : μ b with
    | none => rfl
    | some o =>
      have := (Array.getElem?_eq_some_iff.1 (h.mem _ _ hm)).1
      omega
  refine ⟨h.size, h.defers, h.slots, ⟨hos.trans h.keep.os, htape.trans h.keep.tape, hout.trans h.keep.output, Nat.le_trans h.keep.size hsz, fun b hb hM => ?_⟩, fun b o hb => ?_, h.from0, h.fresh, fun z hz => ?_, fun z hz b hb => ?_, fun z hz b hb => ?_, ?_⟩
  · rw [hk b (Nat.lt_of_lt_of_le hb h.keep.size) (fun e => ?_)]
    · exact h.keep.block b hb hM
    · rcases h.new x hx b e with h1 | h1
      · exact hM h1
      · omega
  · have hm := h.mem b o hb
    rw [hk b (Array.getElem?_eq_some_iff.1 hm).1 (fun e => by rw [h.priv x hx b e] at hb; cases hb)]
    exact hm
  · rcases mem_updB_ne hi h.diff hz with rfl | ⟨hz, hzb⟩
    · exact hy
    · exact Bk.keep (h.own z hz) (fun b hb => hk b (hlt z hz b hb) (fun e => hzb b e hb))
  · rcases mem_updB hz with rfl | hz
    · rcases hid b hb with h1 | h1
      · exact h.priv x hx b h1
      · exact hpriv b h1
    · exact h.priv z hz b hb
  · rcases mem_updB hz with rfl | hz
    · rcases hid b hb with h1 | h1
      · exact h.new x hx b h1
      · exact .inr (Nat.le_trans h.keep.size h1)
    · exact h.new z hz b hb
  · have key : ∀ {L : List Bk} {i : Nat}, (∀ z ∈ L, ∀ b, Bk.id z = some b → b < w.heap.size) → nthB L i = some x → L.Pairwise (fun x y => ∀ b, Bk.id x = some b → Bk.id y ≠ some b) → (updB L i y).Pairwise (fun x y => ∀ b, Bk.id x = some b → Bk.id y ≠ some b) := by
      intro L
      induction L with
      | nil => intro i _ h1 _; simp [nthB] at h1
      | cons z r ih =>
        intro i hl h1 hp
        obtain ⟨hp1, hp2⟩ := List.pairwise_cons.1 hp
        cases i with
        | zero =>
          simp [nthB] at h1; subst h1
          refine List.pairwise_cons.2 ⟨fun u hu b hb hb' => ?_, hp2⟩
          rcases hid b hb with h4 | h4
          · exact hp1 u hu b h4 hb'
          · have := hl u (by simp [hu]) b hb'; omega
        | succ i =>
          have h' : nthB r i = some x := by simpa [nthB] using h1
          refine List.pairwise_cons.2 ⟨fun u hu b hb hb' => ?_, ih (fun z hz => hl z (by simp [hz])) h' hp2⟩
          rcases mem_updB hu with rfl | hu
          · rcases hid b hb' with h4 | h4
            · exact hp1 x (nthB_mem h') b hb h4
            · have := hl z (by simp) b hb; omega
          · exact hp1 u hu b hb hb'
    exact key hlt hi h.diff
theorem St.setRow (h : St X μ l L a w) {i : Nat} {x : Blk} (hi : nthB L i = some (.inl x)) {cs : Array Value} {cs' : Slots} (hsz : cs.size = x.sz) (hcs : ∀ k v, lk cs' k = some v → cs[k]? = some v) :
    St X μ l (updB L i (.inl ⟨x.b, x.t, x.sz, cs'⟩)) a (w.setRow x.b cs) := by
  obtain ⟨arr, hh, _⟩ := h.own _ (nthB_mem hi)
  exact h.upd hi rfl rfl rfl (by simp) (fun b _ hb => setRow_other w x.b b cs (fun e => hb (by rw [e]; rfl))) ⟨cs, setRow_heap w x.b arr cs x.t (0, 0) hh, hsz, hcs⟩ (fun b hb => .inl hb)
theorem g_store {x q : Operand} {t : TypeId} {off n : Nat} {y : Blk} {v : Value} (i : Nat) (hw : wants ops l ⟨none, .store t q x, ty, pos, af, gd⟩ = some true) (hsz : sizeT P t = some n)
    (hi : nthB L i = some (.inl y)) (hq : ev l q = some (.pointer (some ⟨y.b, off, none⟩))) (hx : ev l x = some v) (hlen : v.cells.toList.length = n) (hone : v.cells.toList.all (·.oneCell') = true)
    (hfit : Nat.ble (off + n) y.sz = true)
    (h : G P X ops Q rest μ l (updB L i (.inl ⟨y.b, y.t, y.sz, pushCells off v.cells.toList y.cs⟩))) : G P X ops Q (⟨none, .store t q x, ty, pos, af, gd⟩ :: rest) μ l L :=
  g_wp hw fun a w hs => by
    have e0 := hs.eval hq
    have e1 := hs.eval hx
    obtain ⟨arr, hh, hasz, hlk⟩ := hs.own _ (nthB_mem hi)
    have hfit' : off + n ≤ y.sz := by simpa using hfit
    have hvs : v.cells.size = n := by simpa using hlen
    have hrow := run_storeCells_at (P := P) y.b off y.t v.cells.toList 0 arr w hh (by rw [hlen, hasz]; omega) (List.all_eq_true.1 hone)
    have hrun : (Instr.storeAt t (.pointer (some ⟨y.b, off, none⟩)) v).run P w = .ok () (w.setRow y.b (arr.toList.take (off + 0) ++ v.cells.toList ++ arr.toList.drop (off + 0 + v.cells.toList.length)).toArray) := by
      have hl' : ¬ v.cells.size ≠ n := by simpa using hlen
      simp only [Instr.storeAt, Instr.sureAddr, storeVar, Sem.run_bind, Sem.run_pure, Result.andThen_ok, run_sizeOf hsz, if_neg hl']
      exact hrow
    unfold Oper.wp
    generalize hρ : a.eval = ρ at e0 e1
    have hex : (execOp ρ ⟨none, .store t q x, ty, pos, af, gd⟩).run P w = .ok .skip (w.setRow y.b (arr.toList.take (off + 0) ++ v.cells.toList ++ arr.toList.drop (off + 0 + v.cells.toList.length)).toArray) := by
      simp only [execOp, e0, e1, Sem.run_bind, hrun, Result.andThen_ok]; rfl
    rw [hex, Oper.upon_skip]
    refine h _ _ ((hs.setRow hi ?_ ?_).put_none _)
    · simp [hasz]; omega
    · intro k u hu
      unfold pushCells at hu
      rw [lk_append] at hu
      cases hk : lk (idx off v.cells.toList) k with
      | some u' =>
        rw [hk] at hu; cases hu
        obtain ⟨h1, h2⟩ := lk_idx _ _ _ _ hk
        have h3 : k - off < v.cells.toList.length := (List.getElem?_eq_some_iff.1 h2).1
        simp only [List.getElem?_toArray, Nat.add_zero]
        rw [List.append_assoc, List.getElem?_append_right (by simp; omega), List.getElem?_append_left (by simp; omega)]
        have : (arr.toList.take off).length = off := by simp; omega
        rw [this]; exact h2
      | none =>
        rw [hk] at hu
        have h4 := hlk k u hu
        rcases lk_idx_none _ _ _ hk with h5 | h5
        · simp only [List.getElem?_toArray, Nat.add_zero]
          rw [List.append_assoc, List.getElem?_append_left (by simp; have := (Array.getElem?_eq_some_iff.1 h4).1; omega), List.getElem?_take]
          simp [h5, h4]
        · simp only [List.getElem?_toArray, Nat.add_zero]
          have hlk' := (Array.getElem?_eq_some_iff.1 h4).1
          rw [List.getElem?_append_right (by simp; omega), List.getElem?_drop]
          have : (arr.toList.take off ++ v.cells.toList).length = off + v.cells.toList.length := by simp; omega
          rw [this, show off + v.cells.toList.length + (k - (off + v.cells.toList.length)) = k by omega]
          simpa using h4
def PC : Nat → List Value → Slots → Slots → Prop
  | _, [], cs, cs' => cs' = cs
  | off, v :: vs, cs, cs' => ∃ r, cs' = (off, v) :: r ∧ PC (off + 1) vs cs r
theorem pc_nil {off : Nat} {cs : Slots} : PC off [] cs cs := rfl
theorem pc_cons {off : Nat} {v : Value} {vs : List Value} {cs r : Slots} (h : PC (off + 1) vs cs r) : PC off (v :: vs) cs ((off, v) :: r) := ⟨r, rfl, h⟩
theorem PC.eq : ∀ {vs : List Value} {off : Nat} {cs cs' : Slots}, PC off vs cs cs' → cs' = pushCells off vs cs
  | [], _, _, _, h => h
  | v :: vs, off, cs, cs', h => by
    obtain ⟨r, rfl, hr⟩ := h
    rw [PC.eq hr]; rfl
theorem g_storeS_1 {x q : Operand} {t : TypeId} {off b bt sz s : Nat} {cs cs' : Slots} {y0 : Bk} {L : List Bk} {vs : List Value} (hw : wants ops l ⟨none, .store t q x, ty, pos, af, gd⟩ = some true) (hsz : sizeT P t = some s)
    (hq : ev l q = some (.pointer (some ⟨b, off, none⟩))) (hx : ev l x = some (.agg vs.toArray)) (hlen : vs.length = s) (hone : vs.all (·.oneCell') = true) (hfit : Nat.ble (off + s) sz = true) (hpc : PC off vs cs cs')
    (h : G P X ops Q rest μ l (y0 :: .inl ⟨b, bt, sz, cs'⟩ :: L)) : G P X ops Q (⟨none, .store t q x, ty, pos, af, gd⟩ :: rest) μ l (y0 :: .inl ⟨b, bt, sz, cs⟩ :: L) := by
  have e := hpc.eq
  subst e
  exact g_store (n := s) 1 hw hsz (y := ⟨b, bt, sz, cs⟩) rfl hq hx (by simpa [Value.cells] using hlen) (by simpa [Value.cells] using hone) hfit h
theorem fold_set (vs : List Value) : ∀ (off k : Nat) (z : Array Value) (i : Nat),
    ((vs.zipIdx k).foldl (fun (cs : Array Value) (p : Value × Nat) => cs.setIfInBounds (off + p.2) p.1) z)[i]? = if off + k ≤ i ∧ i < off + k + vs.length ∧ i < z.size then vs[i - (off + k)]? else z[i]? := by
  induction vs with
  | nil => intro off k z i; simp; intro h1 h2 h3; omega
  | cons v vs ih =>
    intro off k z i
    simp only [List.zipIdx_cons, List.foldl_cons]
    rw [ih off (k + 1)]
    simp only [List.length_cons, Array.size_setIfInBounds]
    by_cases h1 : off + k = i
    · subst h1
      rw [if_neg (by omega)]
      by_cases h2 : off + k < z.size
      · rw [if_pos (by omega), Array.getElem?_setIfInBounds_self_of_lt h2]; simp
      · rw [if_neg (by omega)]; simp [Array.getElem?_eq_none (Nat.le_of_not_lt h2)]
        exact Nat.le_of_not_lt h2
    · by_cases h2 : off + (k + 1) ≤ i ∧ i < off + (k + 1) + vs.length ∧ i < z.size
      · rw [if_pos h2, if_pos (by omega), show i - (off + k) = (i - (off + (k + 1))) + 1 by omega]; simp
      · rw [if_neg h2, if_neg (by omega), Array.getElem?_setIfInBounds_ne h1]
def flat (vs : List Value) : List Value := vs.flatMap fun v => v.cells.toList
theorem fill_seq (size : Nat) : ∀ (vs : List Value) (k : Nat) (z : Array Value), (∀ v ∈ vs, v.cells.size = size) → (k + vs.length) * size ≤ z.size →
    ∃ r : Array Value, Instr.fill (fun i => some (i * size, size)) z ((vs.zipIdx k).map fun p => (p.2, p.1)) = some r ∧ r.size = z.size ∧
      ∀ i, r[i]? = if k * size ≤ i ∧ i < (k + vs.length) * size then (flat vs)[i - k * size]? else z[i]? := by
  intro vs
  induction vs with
  | nil => intro k z _ _; exact ⟨z, rfl, rfl, fun i => by simp; omega⟩
  | cons v vs ih =>
    intro k z hv hk
    have hvs : v.cells.size = size := hv v (by simp)
    have hle : k * size + size ≤ z.size := by
      have : (k + 1) * size ≤ (k + (v :: vs).length) * size := Nat.mul_le_mul_right _ (by simp)
      rw [Nat.add_mul, Nat.one_mul] at this; omega
    have hk' : (k + 1 + vs.length) * size ≤ z.size := by rw [show k + 1 + vs.length = k + (v :: vs).length by simp; omega]; exact hk
    let z' := v.cells.zipIdx.foldl (fun cs (c, j) => cs.setIfInBounds (k * size + j) c) z
    have hz' : ∀ i, z'[i]? = if k * size ≤ i ∧ i < k * size + size then v.cells[i - k * size]? else z[i]? := by
      intro i
      have := fold_set v.cells.toList (k * size) 0 z i
      have e : z' = (v.cells.toList.zipIdx 0).foldl (fun (cs : Array Value) (p : Value × Nat) => cs.setIfInBounds (k * size + p.2) p.1) z := by
        show v.cells.zipIdx.foldl _ z = _
        rw [← Array.foldl_toList]; simp
      rw [e, this]
      simp only [Nat.add_zero, Array.length_toList, hvs]
      by_cases hc : k * size ≤ i ∧ i < k * size + size
      · rw [if_pos (by omega), if_pos hc]; simp
      · rw [if_neg (by omega), if_neg hc]
    have hzs : z'.size = z.size := by
      have hfs : ∀ (l : List (Value × Nat)) (z : Array Value), (l.foldl (fun (cs : Array Value) (p : Value × Nat) => cs.setIfInBounds (k * size + p.2) p.1) z).size = z.size := by
        intro l; induction l with
        | nil => intro z; rfl
        | cons p l ih => intro z; simp only [List.foldl_cons]; rw [ih]; simp
      show (v.cells.zipIdx.foldl _ z).size = _
      rw [← Array.foldl_toList]; exact hfs _ _
    obtain ⟨r, h1, h2, h3⟩ := ih (k + 1) z' (fun u hu => hv u (by simp [hu])) (by rw [hzs]; exact hk')
    refine ⟨r, ?_, by rw [h2, hzs], fun i => ?_⟩
    · simp only [List.zipIdx_cons, List.map_cons, Instr.fill]
      rw [if_neg (by simp [hvs]; omega)]
      exact h1
    · rw [h3 i, hz' i]
      have e2 : (k + (v :: vs).length) * size = (k + 1 + vs.length) * size := by rw [show k + (v :: vs).length = k + 1 + vs.length by simp; omega]
      have e3 : (k + 1) * size = k * size + size := by rw [Nat.add_mul, Nat.one_mul]
      have e4 : (k + 1) * size ≤ (k + 1 + vs.length) * size := Nat.mul_le_mul_right _ (by omega)
      rw [e2]
      have hf : flat (v :: vs) = v.cells.toList ++ flat vs := by simp [flat]
      rw [hf]
      by_cases hc : k * size ≤ i ∧ i < (k + 1 + vs.length) * size
      · rw [if_pos hc]
        by_cases hd : (k + 1) * size ≤ i
        · rw [if_pos ⟨hd, hc.2⟩, List.getElem?_append_right (by simp [hvs]; omega)]
          congr 1
          simp [hvs]; omega
        · rw [if_neg (by omega), if_pos (by omega), List.getElem?_append_left (by simp [hvs]; omega)]; simp
      · rw [if_neg (by omega), if_neg (by omega), if_neg hc]
theorem run_buildSlice {t e : TypeId} {size : Nat} {z : Value} (vs : List Value) (ht : P.underlying t = some (.slice e)) (hs : sizeT P e = some size) (hz : zeroT P e = some z) (hv : ∀ v ∈ vs, v.cells.size = size)
    (hb : vs.length * size ≤ 16777216) (w : World) :
    (Instr.buildSlice t vs.length ((vs.zipIdx.map fun p => (p.2, p.1)).toArray)).run P w = .ok (.slice (some ⟨w.heap.size, 0, none⟩) vs.length vs.length) (w.alloc (.cells (flat vs).toArray e)) := by
  have hlen : (flat vs).length = vs.length * size := by
    clear hb
    unfold flat
    induction vs with
    | nil => simp
    | cons v vs ih =>
      simp only [List.flatMap_cons, List.length_append, List.length_cons, Array.length_toList]
      rw [ih (fun u hu => hv u (by simp [hu])), hv v (by simp), Nat.add_mul]; omega
  have hb' : ¬ vs.length * size > 2 ^ 24 := by omega
  have key : ∀ zc : Array Value, Instr.fill (fun i => some (i * size, size)) ((Array.range (vs.length * size)).map (zc[· % zc.size]!)) (vs.zipIdx.map fun p => (p.2, p.1)) = some (flat vs).toArray := by
    intro zc
    obtain ⟨r, h1, h2, h3⟩ := fill_seq size vs 0 ((Array.range (vs.length * size)).map (zc[· % zc.size]!)) hv (by simp)
    rw [h1]
    congr 1
    apply Array.ext_getElem?
    intro i
    rw [h3 i]
    simp only [Nat.zero_add, Nat.zero_mul, Nat.zero_le, true_and, Nat.sub_zero]
    by_cases hi : i < vs.length * size
    · rw [if_pos hi]; simp
    · rw [if_neg hi]
      simp; rw [Array.getElem?_eq_none (by simp; omega), List.getElem?_eq_none (by omega)]; rfl
  unfold Instr.buildSlice
  by_cases h0 : vs.length * size = 0
  · simp only [Sem.run_bind, run_underlying ht, Result.andThen_ok, run_sizeOf hs, if_neg hb', if_pos h0, Sem.run_pure, key]
    rfl
  · simp only [Sem.run_bind, run_underlying ht, Result.andThen_ok, run_sizeOf hs, if_neg hb', if_neg h0, Sem.run_pure, run_zeroValue hz, key]
    rfl
def BP (l : Slots) (s : Nat) : Nat → List (Nat × Operand) → List Value → List Value → Prop
  | _, [], [], [] => True
  | i, (j, x) :: ps, v :: vs, cs => j = i ∧ ev l x = some v ∧ v.cells.size = s ∧ ∃ r, cs = v.cells.toList ++ r ∧ BP l s (i + 1) ps vs r
  | _, _, _, _ => False
theorem bp_nil {l : Slots} {s i : Nat} : BP l s i [] [] [] := trivial
def AP : List Value → List Value → List Value → Prop
  | [], r, cs => cs = r
  | u :: us, r, cs => ∃ c, cs = u :: c ∧ AP us r c
theorem AP.eq : ∀ {us r cs : List Value}, AP us r cs → cs = us ++ r
  | [], _, _, h => h
  | u :: us, r, cs, h => by obtain ⟨c, rfl, hc⟩ := h; rw [AP.eq hc]; rfl
theorem BP.spec {s : Nat} : ∀ {ps : List (Nat × Operand)} {i : Nat} {vs cs : List Value}, BP l s i ps vs cs → Rd μ l L a w →
    (ps.map fun (i, x) => (i, a.eval x)) = (vs.zipIdx i).map (fun p => (p.2, p.1)) ∧ flat vs = cs ∧ (∀ v ∈ vs, v.cells.size = s) ∧ vs.length = ps.length
  | [], _, [], [], _, _ => by simp [flat]
  | [], _, [], _ :: _, h, _ => by simp [BP] at h
  | [], _, _ :: _, _, h, _ => by simp [BP] at h
  | (j, x) :: ps, i, [], _, h, _ => by simp [BP] at h
  | (j, x) :: ps, i, v :: vs, cs, h, hs => by
    obtain ⟨rfl, hx, hv, r, rfl, hr⟩ := h
    obtain ⟨h1, h2, h3, h4⟩ := BP.spec hr hs
    refine ⟨by simp [hs.eval hx, h1], by simp [flat] at h2 ⊢; rw [h2], ?_, by simp [h4]⟩
    intro u hu
    rcases List.mem_cons.1 hu with rfl | hu
    · exact hv
    · exact h3 u hu
theorem n_buildSlice {t e s n : TypeId} {ps : List (Nat × Operand)} {vs cs : List Value} {z : Value} (ht : P.underlying t = some (.slice e)) (hs : sizeT P e = some s) (hz : zeroT P e = some z) (hn : ps.length = n) (hb : Nat.ble (n * s) 16777216 = true) (hp : BP l s 0 ps vs cs) :
    Alc P μ l L ⟨ds, .buildSlice t n ps.toArray, ty, pos, af, gd⟩ (fun b => .slice (some ⟨b, 0, none⟩) n n) e cs :=
  fun a w hs' => by
    obtain ⟨h1, h2, h3, h4⟩ := hp.spec hs'
    have hr := run_buildSlice (P := P) vs ht hs hz h3 (by rw [h4, hn]; simpa using hb) w
    generalize a.eval = ρ at h1
    have e2 : (ps.toArray.map fun (i, x) => (i, ρ x)) = (vs.zipIdx.map fun p => (p.2, p.1)).toArray := by rw [← h1]; simp
    rw [h2, h4, hn] at hr
    simp only [execOp, e2]
    simp only [Sem.run_bind, hr, Result.andThen_ok]; rfl
structure Grow (w w' : World) (μ μ' : Mem) : Prop where
  below : Below w.heap.size w w'
  le : MLe μ μ'
  ok : MOk μ' w'
  fresh : ∀ b, b < w.heap.size → μ b = none → μ' b = none
def Bk.sh : Bk → Mem → Prop
  | .inl x, μ => ∃ arr : Array Value, μ x.b = some (.cells arr x.t (0, 0)) ∧ arr.size = x.sz ∧ ∀ i v, lk x.cs i = some v → arr[i]? = some v
  | .inr r, μ => r.xs.length = r.n * r.s ∧ ((r.v = .slice none 0 0 ∧ r.n = 0) ∨
      ∃ g cap cur, r.v = .slice (some ⟨g, 0, none⟩) r.n cap ∧ μ g = some (.cells cur r.e (0, 0)) ∧ r.n ≤ cap ∧ cap ≤ maxLen ∧ cur.size = cap * r.s ∧ cur.toList.take (r.n * r.s) = r.xs)
  | .mp m, μ => μ m.b = some (.map m.es.toArray m.ck)
  | .it b m s x c, μ => μ b = some (.mapIter m s x c)
theorem Bk.sh_of {x : Bk} {w : World} {μ : Mem} (h : Bk.at x w) (hm : ∀ b o, Bk.id x = some b → w.heap[b]? = some o → μ b = some o) : Bk.sh x μ := by
  cases x with
  | inl x =>
    obtain ⟨arr, hh, h2⟩ := h
    exact ⟨arr, hm _ _ rfl hh, h2⟩
  | inr r =>
    refine ⟨h.1, h.2.imp (fun h => h) ?_⟩
    rintro ⟨g, cap, cur, hv, h0, hh, h3⟩
    exact ⟨g, cap, cur, hv, hm g _ (by simp [Bk.id, hv, Value.ownBlock]) hh, h3⟩
  | mp m => exact hm _ _ rfl h
  | it b m s x c => exact hm _ _ rfl h
structure Sees (μc μ : Mem) (L : List Bk) : Prop where
  le : MLe μ μc
  own : ∀ x ∈ L, Bk.sh x μc
def callable (P : Program) (f : FuncId) : Bool := match P.funcs[f]? with | some fn => fn.body.isSome && !(fn.name == "runtime.NumGoroutine") | none => false
theorem run_call {f : FuncId} {xs : Array Operand} {ts : Array TypeId} {ρ : Operand → Value} (hf : callable P f = true) (hρ : ρ (.func f) = .func (.func f) #[] #[]) (w : World) :
    (execOp ρ ⟨ds, .call { callee := .value (.func f), args := xs, argTypes := ts }, ty, pos, af, gd⟩).run P w = .ok (.enter f (xs.map ρ)) w := by
  unfold callable at hf
  cases h : P.funcs[f]? with
  | none => simp [h] at hf
  | some fn =>
    simp only [h, Bool.and_eq_true, Bool.not_eq_true'] at hf
    have hb : ¬ fn.body = none := by intro hb; simp [hb] at hf
    have hn : ¬ fn.name = "runtime.NumGoroutine" := by have := hf.2; simpa using this
    simp [execOp, resolve, hρ, Deferred.ofValue, invoke, callFunc, h, hn, hb]
theorem St.drop_world (h : St X μ l L a w) {w' : World} (hb : Below w.heap.size w w') : St X μ l L a w' := by
  have hlt : ∀ b o, w.heap[b]? = some o → w'.heap[b]? = some o := fun b o e => by rw [hb.block b (Array.getElem?_eq_some_iff.1 e).1]; exact e
  refine ⟨h.size, h.defers, h.slots, ⟨hb.os.trans h.keep.os, hb.tape.trans h.keep.tape, hb.output.trans h.keep.output, Nat.le_trans h.keep.size hb.size, fun b hb' hM => ?_⟩, fun b o hbo => hlt _ _ (h.mem b o hbo), h.from0, h.fresh, fun x hx => Bk.keep (h.own x hx) (fun b hb' => hb.block b (Bk.lt (h.own x hx) hb')), h.priv, h.new, h.diff⟩
  · rw [hb.block b (Nat.lt_of_lt_of_le hb' h.keep.size)]; exact h.keep.block b hb' hM
theorem St.grow (h : St X μ l L a w) {w' : World} {μ' : Mem} (hg : Grow w w' μ μ') : St X μ' l L a w' := by
  have h1 := h.drop_world hg.below
  exact ⟨h1.size, h1.defers.mono hg.le, h1.slots, h1.keep, hg.ok, h.from0.trans hg.le, fun b hb hm h0 => hg.fresh b (Nat.lt_of_lt_of_le hb h.keep.size) (h.fresh b hb hm h0), h1.own, fun x hx b hb => hg.fresh b (Bk.lt (h.own x hx) hb) (h.priv x hx b hb), h1.new, h1.diff⟩
theorem St.sees (h : St X μ l L a w) : Sees (fun b => w.heap[b]?) μ L := ⟨h.mem, fun x hx => Bk.sh_of (h.own x hx) (fun _ _ _ e => e)⟩
theorem g_enter_s {f : FuncId} {vs : Array Value} {v : Value} (hd : o.dst = some d) (hn : Nat.blt d X.n = true) (hw : wants ops l o = some true)
    (hr : Ent P μ l L o f vs)
    (hc : ∀ w μc, MOk μc w → Sees μc μ L → Calls P f vs w fun e w' => e = .returned v ∧ Below w.heap.size w w')
    (h : G P X ops Q rest μ ((d, v) :: l) L) : G P X ops Q (o :: rest) μ l L :=
  g_wp hw fun a w hs => by
    unfold Oper.wp
    rw [hr a w hs.rd, Oper.upon_enter]
    refine (hc w _ (fun _ _ h => h) hs.sees).mono fun e w' he => ?_
    obtain ⟨rfl, hb⟩ := he
    show wpList P ops Q rest (a.put o.dst v) w'
    rw [hd]
    exact h _ _ ((hs.drop_world hb).put hn _)
theorem g_enter_m {f : FuncId} {vs : Array Value} {Post : Mem → Value → Prop} (hd : o.dst = some d) (hn : Nat.blt d X.n = true) (hw : wants ops l o = some true)
    (hr : Ent P μ l L o f vs)
    (hc : ∀ w, MOk μ w → Calls P f vs w fun e w' => ∃ v μ', e = .returned v ∧ Grow w w' μ μ' ∧ Post μ' v)
    (h : ∀ v μ', MLe μ μ' → Post μ' v → G P X ops Q rest μ' ((d, v) :: l) L) : G P X ops Q (o :: rest) μ l L :=
  g_wp hw fun a w hs => by
    unfold Oper.wp
    rw [hr a w hs.rd, Oper.upon_enter]
    refine (hc w hs.mem).mono fun e w' he => ?_
    obtain ⟨v, μ', rfl, hg, hp⟩ := he
    show wpList P ops Q rest (a.put o.dst v) w'
    rw [hd]
    exact h v μ' hg.le hp _ _ ((hs.grow hg).put hn _)
theorem St.share {y : Bk} (hs : St X μ l (y :: L) a w) (_ : X.M = X.M) : ∃ μ', MLe μ μ' ∧ Bk.sh y μ' ∧ St X μ' l L a w := by
  have hd := List.pairwise_cons.1 hs.diff
  have hy := hs.own y (by simp)
  cases hid : Bk.id y with
  | none =>
    refine ⟨μ, MLe.refl _, Bk.sh_of hy (fun b o e _ => by rw [hid] at e; cases e), hs.size, hs.defers, hs.slots, hs.keep, hs.mem, hs.from0, hs.fresh, fun x hx => hs.own x (by simp [hx]), fun x hx => hs.priv x (by simp [hx]), fun x hx => hs.new x (by simp [hx]), hd.2⟩
  | some g =>
    refine ⟨fun b => if b = g then w.heap[g]? else μ b, fun b o e => ?_, Bk.sh_of hy (fun b o e ho => ?_), hs.size, hs.defers.mono (fun b o e => ?_), hs.slots, hs.keep, fun b o e => ?_, fun b o e => ?_, fun b hb hm h0 => ?_, fun x hx => hs.own x (by simp [hx]), fun x hx b hb => ?_, fun x hx => hs.new x (by simp [hx]), hd.2⟩
    · have : b ≠ g := fun e' => by rw [e', hs.priv y (by simp) g hid] at e; cases e
      simp [this, e]
    · rw [hid] at e; cases e; simp [ho]
    · have : b ≠ g := fun e' => by rw [e', hs.priv y (by simp) g hid] at e; cases e
      simp [this, e]
    · by_cases e' : b = g
      · subst e'; simpa using e
      · simp [e'] at e; exact hs.mem b o e
    · have e2 := hs.from0 b o e
      have : b ≠ g := fun e' => by rw [e', hs.priv y (by simp) g hid] at e2; cases e2
      simp [this, e2]
    · have : b ≠ g := fun e' => by
        rcases hs.new y (by simp) g hid with hh | hh
        · exact hm (e' ▸ hh)
        · omega
      simp [this, hs.fresh b hb hm h0]
    · have : b ≠ g := fun e' => hd.1 x hx g hid (e' ▸ hb)
      simp [this, hs.priv x (by simp [hx]) b hb]
theorem g_share {y : Bk} (hM : X.M = X.M) (h : ∀ μ', MLe μ μ' → Bk.sh y μ' → G P X ops Q rest μ' l L) : G P X ops Q rest μ l (y :: L) := fun a w hs => by
  obtain ⟨μ', h1, h2, h3⟩ := hs.share hM
  exact h μ' h1 h2 a w h3
theorem call_intro {f : FuncId} {fn : Func} {c : Code} {args : List Value} {n : Nat} {R : Ending → World → Prop} (hf : P.funcs[f]? = some fn) (hb : fn.body = some c) (hn : fn.ntmps = n) (hsz : args.length ≤ n)
    (hμ : MOk μ w) (h : GC P ⟨w, μ, [], n⟩ c (bodyPost P fn R) μ (idx 0 args) []) : Calls P f args.toArray w R := by
  refine calls_of_wp hf hb (h _ _ ⟨?_, Marks.nil, fun t v hv => ?_, Keep.refl _ _, hμ, MLe.refl _, fun _ _ _ h => h, by simp, by simp, by simp, List.Pairwise.nil⟩)
  · simp [hn]; omega
  · obtain ⟨_, h2⟩ := lk_idx _ _ _ _ hv
    have hlt : t < args.length := by have := (List.getElem?_eq_some_iff.1 h2).1; simpa using this
    simp only [Nat.sub_zero] at h2
    rw [Array.getElem?_append_left (by simpa using hlt)]
    simpa using h2
theorem ret_s {fn : Func} {t n : Nat} {v v' : Value} {μ0 : Mem} (hr : fn.results = #[.tmp t]) (hv : lk l t = some v') (e : v' = v) :
    GQ ⟨w, μ0, [], n⟩ (bodyPost P fn (fun e w' => e = .returned v ∧ Below w.heap.size w w')) .ret μ l L := fun a w' hs => by
  have h1 := hs.slots _ _ hv
  refine ⟨hs.defers.none (by simp), v', by simp [results, hr, h1], by rw [e], hs.keep.below⟩
theorem St.publish {n : Nat} {μ0 : Mem} {w' : World} (hs : St ⟨w, μ0, [], n⟩ μ l L a w') : ∃ μ', Grow w w' μ0 μ' ∧ MLe μ μ' ∧ ∀ x ∈ L, Bk.sh x μ' := by
  refine ⟨fun b => if b < w.heap.size then μ0 b else w'.heap[b]?, ⟨hs.keep.below, fun b o e => ?_, fun b o e => ?_, fun b hb h0 => by simp [hb, h0]⟩, fun b o e => ?_, fun x hx => ?_⟩
  · by_cases hb : b < w.heap.size
    · simp [hb, e]
    · simp [hb]; exact hs.mem b o (hs.from0 b o e)
  · by_cases hb : b < w.heap.size
    · simp [hb] at e; exact hs.mem b o (hs.from0 b o e)
    · simp [hb] at e; exact e
  · by_cases hb : b < w.heap.size
    · simp only [hb, if_true]
      cases h0 : μ0 b with
      | none => rw [hs.fresh b hb (by simp) h0] at e; cases e
      | some o' => have := hs.from0 b o' h0; rw [this] at e; exact e
    · simp [hb]; exact hs.mem b o e
  · refine Bk.sh_of (hs.own x hx) (fun b o hb ho => ?_)
    have : ¬ b < w.heap.size := by
      rcases hs.new x hx b hb with h3 | h3
      · simp at h3
      · simpa using h3
    simp [this, ho]
theorem e_call0 {f : FuncId} {ts : Array TypeId} (hf : callable P f = true)  : Ent P μ l L ⟨ds, .call { callee := .value (.func f), args := #[], argTypes := ts }, ty, pos, af, gd⟩ f #[] :=
  fun a w hs => by rw [run_call hf rfl]; simp
theorem e_call1 {f : FuncId} {ts : Array TypeId} {x0 : Operand} {v0 : Value} (hf : callable P f = true) (hx0 : ev l x0 = some v0) : Ent P μ l L ⟨ds, .call { callee := .value (.func f), args := #[x0], argTypes := ts }, ty, pos, af, gd⟩ f #[v0] :=
  fun a w hs => by rw [run_call hf rfl]; have e0 := hs.eval hx0; simp [e0]
theorem e_call2 {f : FuncId} {ts : Array TypeId} {x0 x1 : Operand} {v0 v1 : Value} (hf : callable P f = true) (hx0 : ev l x0 = some v0) (hx1 : ev l x1 = some v1) : Ent P μ l L ⟨ds, .call { callee := .value (.func f), args := #[x0, x1], argTypes := ts }, ty, pos, af, gd⟩ f #[v0, v1] :=
  fun a w hs => by rw [run_call hf rfl]; have e0 := hs.eval hx0; have e1 := hs.eval hx1; simp [e0, e1]
theorem e_call3 {f : FuncId} {ts : Array TypeId} {x0 x1 x2 : Operand} {v0 v1 v2 : Value} (hf : callable P f = true) (hx0 : ev l x0 = some v0) (hx1 : ev l x1 = some v1) (hx2 : ev l x2 = some v2) : Ent P μ l L ⟨ds, .call { callee := .value (.func f), args := #[x0, x1, x2], argTypes := ts }, ty, pos, af, gd⟩ f #[v0, v1, v2] :=
  fun a w hs => by rw [run_call hf rfl]; have e0 := hs.eval hx0; have e1 := hs.eval hx1; have e2 := hs.eval hx2; simp [e0, e1, e2]
theorem e_call4 {f : FuncId} {ts : Array TypeId} {x0 x1 x2 x3 : Operand} {v0 v1 v2 v3 : Value} (hf : callable P f = true) (hx0 : ev l x0 = some v0) (hx1 : ev l x1 = some v1) (hx2 : ev l x2 = some v2) (hx3 : ev l x3 = some v3) : Ent P μ l L ⟨ds, .call { callee := .value (.func f), args := #[x0, x1, x2, x3], argTypes := ts }, ty, pos, af, gd⟩ f #[v0, v1, v2, v3] :=
  fun a w hs => by rw [run_call hf rfl]; have e0 := hs.eval hx0; have e1 := hs.eval hx1; have e2 := hs.eval hx2; have e3 := hs.eval hx3; simp [e0, e1, e2, e3]
theorem e_call5 {f : FuncId} {ts : Array TypeId} {x0 x1 x2 x3 x4 : Operand} {v0 v1 v2 v3 v4 : Value} (hf : callable P f = true) (hx0 : ev l x0 = some v0) (hx1 : ev l x1 = some v1) (hx2 : ev l x2 = some v2) (hx3 : ev l x3 = some v3) (hx4 : ev l x4 = some v4) : Ent P μ l L ⟨ds, .call { callee := .value (.func f), args := #[x0, x1, x2, x3, x4], argTypes := ts }, ty, pos, af, gd⟩ f #[v0, v1, v2, v3, v4] :=
  fun a w hs => by rw [run_call hf rfl]; have e0 := hs.eval hx0; have e1 := hs.eval hx1; have e2 := hs.eval hx2; have e3 := hs.eval hx3; have e4 := hs.eval hx4; simp [e0, e1, e2, e3, e4]
theorem e_call6 {f : FuncId} {ts : Array TypeId} {x0 x1 x2 x3 x4 x5 : Operand} {v0 v1 v2 v3 v4 v5 : Value} (hf : callable P f = true) (hx0 : ev l x0 = some v0) (hx1 : ev l x1 = some v1) (hx2 : ev l x2 = some v2) (hx3 : ev l x3 = some v3) (hx4 : ev l x4 = some v4) (hx5 : ev l x5 = some v5) : Ent P μ l L ⟨ds, .call { callee := .value (.func f), args := #[x0, x1, x2, x3, x4, x5], argTypes := ts }, ty, pos, af, gd⟩ f #[v0, v1, v2, v3, v4, v5] :=
  fun a w hs => by rw [run_call hf rfl]; have e0 := hs.eval hx0; have e1 := hs.eval hx1; have e2 := hs.eval hx2; have e3 := hs.eval hx3; have e4 := hs.eval hx4; have e5 := hs.eval hx5; simp [e0, e1, e2, e3, e4, e5]
def evParts (l : Slots) : List (Nat × Operand) → Option (List (Nat × Value))
  | [] => some []
  | (i, x) :: r => match ev l x with
    | some v => match evParts l r with
      | some vs => some ((i, v) :: vs)
      | none => none
    | none => none
theorem evParts_spec (h : Rd μ l L a w) : ∀ (ps : List (Nat × Operand)) (vs : List (Nat × Value)), evParts l ps = some vs → (ps.map fun (i, x) => (i, a.eval x)) = vs
  | [], vs, e => by simp [evParts] at e; simp [e]
  | (i, x) :: r, vs, e => by
    unfold evParts at e
    cases hx : ev l x with
    | none => simp [hx] at e
    | some v =>
      cases hr : evParts l r with
      | none => simp [hx, hr] at e
      | some us =>
        simp [hx, hr] at e
        have := evParts_spec h r us hr
        simp only [List.map_cons, h.eval hx, this, e]
def placesL (P : Program) : List Field → Option (List (Nat × Nat))
  | [] => some []
  | f :: r => match sizeT P f.type with
    | some s => match placesL P r with
      | some ps => some ((f.offset, s) :: ps)
      | none => none
    | none => none
theorem run_places : ∀ (fs : List Field) (ps : List (Nat × Nat)), placesL P fs = some ps → ∀ w : World, (fs.mapM (m := Sem) fun f => Prod.mk f.offset <$> sizeOf f.type).run P w = .ok ps w
  | [], ps, e, w => by simp [placesL] at e; simp [← e]
  | f :: r, ps, e, w => by
    unfold placesL at e
    cases hs : sizeT P f.type with
    | none => simp [hs] at e
    | some s =>
      cases hr : placesL P r with
      | none => simp [hs, hr] at e
      | some qs =>
        simp [hs, hr] at e
        simp [List.mapM_cons, run_sizeOf hs, run_places r qs hr, e]
def placesT (P : Program) (t : TypeId) : Option (List (Nat × Nat)) :=
  match P.underlying t with
  | some (.struct fields) => placesL P fields.toList
  | some (.array n e) => match sizeT P e with
    | some s => some ((List.range n).map fun i => (i * s, s))
    | none => none
  | _ => none
def cellsL : Value → List Value
  | .agg cs => cs.toList
  | v => [v]
theorem cellsL_eq (v : Value) : cellsL v = v.cells.toList := by cases v <;> rfl
def bcells (pl : List (Nat × Nat)) : List (Nat × Value) → Slots → Slots
  | [], acc => acc
  | (i, v) :: r, acc => match pl[i]? with
    | some (off, _) => bcells pl r (idx off (cellsL v) ++ acc)
    | none => bcells pl r acc
def okParts (pl : List (Nat × Nat)) (n : Nat) : List (Nat × Value) → Bool
  | [] => true
  | (i, v) :: r => (match pl[i]? with | some (off, s) => Nat.beq (cellsL v).length s && Nat.ble (off + s) n | none => false) && okParts pl n r
theorem fill_bcells (pl : List (Nat × Nat)) (place : Nat → Option (Nat × Nat)) (hpl : ∀ i x, pl[i]? = some x → place i = some x) : ∀ (us : List (Nat × Value)) (z : Array Value) (acc : Slots), okParts pl z.size us = true → (∀ j v, lk acc j = some v → z[j]? = some v) →
    ∃ r, Instr.fill place z us = some r ∧ r.size = z.size ∧ ∀ j v, lk (bcells pl us acc) j = some v → r[j]? = some v
  | [], z, acc, _, ha => ⟨z, rfl, rfl, ha⟩
  | (i, u) :: us, z, acc, hok, ha => by
    unfold okParts at hok
    cases hp : pl[i]? with
    | none => simp [hp] at hok
    | some x =>
      obtain ⟨off, s⟩ := x
      simp only [hp, Bool.and_eq_true] at hok
      obtain ⟨⟨h1, h2⟩, h3⟩ := hok
      have h1' : u.cells.size = s := by
        have := Nat.eq_of_beq_eq_true h1
        rw [cellsL_eq] at this; simpa using this
      have h2' : off + s ≤ z.size := by simpa using h2
      let z' := u.cells.zipIdx.foldl (fun cs (c, j) => cs.setIfInBounds (off + j) c) z
      have hz' : ∀ k, z'[k]? = if off ≤ k ∧ k < off + s then u.cells[k - off]? else z[k]? := by
        intro k
        have := fold_set u.cells.toList off 0 z k
        have e : z' = (u.cells.toList.zipIdx 0).foldl (fun (cs : Array Value) (p : Value × Nat) => cs.setIfInBounds (off + p.2) p.1) z := by
          show u.cells.zipIdx.foldl _ z = _
          rw [← Array.foldl_toList]; simp
        rw [e, this]
        simp only [Nat.add_zero, Array.length_toList, h1']
        by_cases hc : off ≤ k ∧ k < off + s
        · rw [if_pos (by omega), if_pos hc]; simp
        · rw [if_neg (by omega), if_neg hc]
      have hzs : z'.size = z.size := by
        have hfs : ∀ (l : List (Value × Nat)) (z : Array Value), (l.foldl (fun (cs : Array Value) (p : Value × Nat) => cs.setIfInBounds (off + p.2) p.1) z).size = z.size := by
          intro l; induction l with
          | nil => intro z; rfl
          | cons p l ih => intro z; simp only [List.foldl_cons]; rw [ih]; simp
        show (u.cells.zipIdx.foldl _ z).size = _
        rw [← Array.foldl_toList]; exact hfs _ _
      obtain ⟨r, r1, r2, r3⟩ := fill_bcells pl place hpl us z' (idx off (cellsL u) ++ acc) (by rw [hzs]; exact h3) (fun j v hj => by
        rw [lk_append] at hj
        rw [hz' j]
        cases hk : lk (idx off (cellsL u)) j with
        | some v' =>
          rw [hk] at hj; cases hj
          obtain ⟨g1, g2⟩ := lk_idx _ _ _ _ hk
          rw [cellsL_eq] at g2
          have g3 : j - off < u.cells.size := by have := (List.getElem?_eq_some_iff.1 g2).1; simpa using this
          rw [if_pos (by omega)]; simpa using g2
        | none =>
          rw [hk] at hj
          have := lk_idx_none _ _ _ hk
          rw [cellsL_eq] at this
          simp only [Array.length_toList, h1'] at this
          rw [if_neg (by omega)]; exact ha j v hj)
      refine ⟨r, ?_, by rw [r2, hzs], ?_⟩
      · simp only [Instr.fill, hpl i _ hp]
        rw [if_neg (by simp [h1']; omega)]
        exact r1
      · intro j v hj
        simp only [bcells, hp] at hj
        exact r3 j v hj
theorem run_build {t : TypeId} {z : Value} {us : List (Nat × Value)} {pl : List (Nat × Nat)} {n : Nat} (hz : zeroT P t = some z) (hpl : placesT P t = some pl) (hn : z.cells.toList.length = n) (hok : okParts pl n us = true) (cs : List Value) (hlen : cs.length = n)
    (hcs : ∀ j v, cs[j]? = some v → lk (bcells pl us (idx 0 z.cells.toList)) j = some v) (w : World) : (Instr.build t us.toArray).run P w = .ok (.agg cs.toArray) w := by
  have hzsz : z.cells.size = n := by simpa using hn
  have key : ∀ place : Nat → Option (Nat × Nat), (∀ i x, pl[i]? = some x → place i = some x) → Instr.fill place z.cells us = some cs.toArray := by
    intro place hp
    obtain ⟨r, h1, h2, h3⟩ := fill_bcells pl place hp us z.cells (idx 0 z.cells.toList) (by rw [hzsz]; exact hok) (fun j v hj => by
      obtain ⟨_, g⟩ := lk_idx _ _ _ _ hj
      simpa using g)
    rw [h1]
    congr 1
    apply Array.ext_getElem?
    intro j
    by_cases hj : j < n
    · have hc : cs[j]? = some cs[j] := List.getElem?_eq_getElem (by omega)
      rw [h3 j _ (hcs j _ hc)]; simp [hc]
    · rw [Array.getElem?_eq_none (by omega)]; simp; omega
  unfold placesT at hpl
  cases hu : P.underlying t with
  | none => simp [hu] at hpl
  | some de =>
    cases de <;> simp [hu] at hpl
    · rename_i m e
      cases hs : sizeT P e with
      | none => simp [hs] at hpl
      | some s =>
        simp only [hs, Option.some.injEq] at hpl
        have hk := key (fun i => some (i * s, s)) (fun i x hx => by
          rw [← hpl] at hx
          rw [List.getElem?_map] at hx
          cases hr : (List.range m)[i]? with
          | none => simp [hr] at hx
          | some k =>
            obtain ⟨hk1, hk2⟩ := List.getElem?_eq_some_iff.1 hr
            rw [List.getElem_range] at hk2
            subst hk2
            simp [hr] at hx
            simp [hx])
        simp [Instr.build, run_zeroValue hz, run_underlying hu, run_sizeOf hs, hk]
    · rename_i fields
      have hm : (fields.mapM (m := Sem) fun f => do pure (f.offset, ← sizeOf f.type)).run P w = .ok pl.toArray w := by
        rw [Array.mapM_eq_mapM_toList]
        simp [run_places _ _ hpl]
      have hk := key (fun i => pl.toArray[i]?) (fun i x hx => by simpa using hx)
      simp only [Instr.build, Sem.run_bind, run_zeroValue hz, Result.andThen_ok, run_underlying hu, hm, hk]
      rfl
theorem v_build {t s : TypeId} {ps : List (Nat × Operand)} {us : List (Nat × Value)} {z : Value} {vs : List Value} {pl : List (Nat × Nat)} (hsz : sizeT P t = some s) (hz : zeroT P t = some z) (hn : (cellsL z).length = s) (hpl : placesT P t = some pl) (hp : evParts l ps = some us) (hok : okParts pl s us = true)
    (hc : LC (bcells pl us (idx 0 (cellsL z))) 0 s vs) : Val P μ l L ⟨ds, .build t ps.toArray, ty, pos, af, gd⟩ (.agg vs.toArray) :=
  fun a w hs => by
    have e := evParts_spec hs ps us hp
    have r := run_build (P := P) hz hpl (by rw [← cellsL_eq]; exact hn) hok vs hc.len (fun j v hv => by
      rw [← cellsL_eq]
      simpa using hc.get j v hv) w
    have _ := hsz
    generalize a.eval = ρ at e
    have e2 : (ps.toArray.map fun (i, x) => (i, ρ x)) = us.toArray := by rw [← e]; simp
    simp only [execOp, e2]
    simp only [Sem.run_bind, r, Result.andThen_ok]; rfl
theorem v_slice_arr {p : Operand} {t e n s : TypeId} {A : Addr} (ht : P.underlying t = some (.array n e)) (hs : sizeT P e = some s) (hx0 : ev l p = some (.pointer (some A))) : Val P μ l L ⟨ds, .slice t p none none none, ty, pos, af, gd⟩ (.slice (some A) n n) :=
  fun a w hs' => by
    have e0 := hs'.eval hx0
    generalize a.eval = ρ at e0
    have ha : (if n = 0 then A else A.add (0 * s)) = A := by simp [Addr.add]
    simp [execOp, e0, Instr.sliceAt, run_underlying ht, Instr.sureAddr, Instr.sliceBounds, run_sizeOf hs]
    simp [Addr.add]
end
end Go.Vcg
