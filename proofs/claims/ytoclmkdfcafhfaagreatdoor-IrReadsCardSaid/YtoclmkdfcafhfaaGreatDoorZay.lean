/- strings.Builder in the symbolic state: its writers as rules. -/
import Derived.Test.YtoclmkdfcafhfaaGreatDoorZax
import Derived.Lib.ItoaLen
set_option maxRecDepth 20000
set_option maxHeartbeats 2000000
namespace Go.Vcg
section
open Go.RowKit
section
variable {P : Program} {X : Ctx} {ops : Array Oper} {Q : Exit → Act → World → Prop} {rest : List Oper} {μ : Mem} {l : aF} {L : List Bk} {a : Act} {w : World} {o : Oper}
def pJ (u : TypeId) : List Bk → Bool
  | [] => true
  | .inl x :: r => !(Nat.beq x.t u) && pJ u r
  | _ :: _ => false
theorem pJ.at {u : TypeId} : ∀ {L : List Bk}, pJ u L = true → ∀ x ∈ L, ∃ y : Blk, x = .inl y ∧ y.t ≠ u
  | .inl y :: r, h, x, hx => by
    simp only [pJ, Bool.and_eq_true, Bool.not_eq_true'] at h
    rcases List.mem_cons.1 hx with rfl | hx
    · exact ⟨y, rfl, Nat.ne_of_beq_eq_false h.1⟩
    · exact pJ.at h.2 x hx
  | .inr _ :: _, h, _, _ => by simp [pJ] at h
  | .mp _ :: _, h, _, _ => by simp [pJ] at h
  | .it _ _ _ _ _ :: _, h, _, _ => by simp [pJ] at h
theorem St.build {T u : TypeId} {k : Nat} {p v : Value} {bs : List Value} {Lr : List Bk} (h : St X μ l (.inl ⟨k, T, 2, [(0, p), (1, v)]⟩ :: .inr ⟨v, u, 1, bs.length, bs⟩ :: Lr) a w) (hM : X.M = []) (hTu : T ≠ u) : Lib.BuilderAt T u X.w0.heap.size k p bs w := by
  obtain ⟨arr, hh, hsz, hcs⟩ := h.own _ (List.Mem.head _)
  have h0 : arr[0]? = some p := hcs 0 p rfl
  have h1 : arr[1]? = some v := hcs 1 v rfl
  have harr : arr = #[p, v] := by
    apply Array.ext_getElem?
    intro i
    match i with
    | 0 => simpa using h0
    | 1 => simpa using h1
    | i + 2 => rw [Array.getElem?_eq_none (by simp only at hsz; omega), Array.getElem?_eq_none (by simp)]
  subst harr
  have hk : X.w0.heap.size ≤ k := by
    rcases h.new _ (List.Mem.head _) k rfl with h' | h'
    · rw [hM] at h'; simp at h'
    · exact h'
  have hown : w.ownsRow 0 u 1 v bs.length bs := h.own _ (List.Mem.tail _ (List.Mem.head _))
  have hown' : w.ownsRow X.w0.heap.size u 1 v bs.length bs := by
    refine ⟨hown.1, hown.2.imp (fun h => h) ?_⟩
    rintro ⟨g, cap, cur, hv', _, h3⟩
    refine ⟨g, cap, cur, hv', ?_, h3⟩
    rcases h.new _ (List.Mem.tail _ (List.Mem.head _)) g (by simp [Bk.id, hv', Value.ownBlock]) with h' | h'
    · rw [hM] at h'; simp at h'
    · exact h'
  exact ⟨hk, v, hh, hown', Lib.ownBlock_ne hown' hh hTu⟩
theorem WQ {c : Code} {y : Bk} (e s : TypeId) (h : GC P X c Q μ l (y :: .inr ⟨.slice none 0 0, e, s, 0, []⟩ :: L)) : GC P X c Q μ l (y :: L) := fun a w hs =>
  h a w ((hs.rE e s).perm (List.Perm.swap _ _ _))
theorem WT {T u : TypeId} {k : Nat} {p v : Value} {bs : List Value} {Lr : List Bk} {f : FuncId} {vs : Array Value} {rv : Value} {d : Nat} (hd : o.dst = some d) (hn : Nat.blt d X.n = true) (hw : dH ops l o = some true) (hM : X.M = []) (hμ : ∀ b, X.w0.heap.size ≤ b → μ b = none) (hTu : T ≠ u)
    (hr : Ent P μ l (.inl ⟨k, T, 2, [(0, p), (1, v)]⟩ :: .inr ⟨v, u, 1, bs.length, bs⟩ :: Lr) o f vs)
    (hc : ∀ w, Lib.BuilderAt T u X.w0.heap.size k p bs w → X.w0.heap.size ≤ w.heap.size → Calls P f vs w fun e w' => e = .returned rv ∧ Below X.w0.heap.size w w')
    (h : G P X ops Q rest μ ((d, rv) :: l) []) :
    G P X ops Q (o :: rest) μ l (.inl ⟨k, T, 2, [(0, p), (1, v)]⟩ :: .inr ⟨v, u, 1, bs.length, bs⟩ :: Lr) :=
  qG hw fun a w hs => by
    unfold Oper.wp
    rw [hr a w hs.rd, Oper.upon_enter]
    refine (hc w (hs.build hM hTu) hs.aT.size).mono fun en w' he => ?_
    obtain ⟨rfl, hbel⟩ := he
    show wpList P ops Q rest (a.put o.dst rv) w'
    rw [hd]
    refine h _ _ (St.put ⟨hs.size, hs.defers, hs.slots, ?_, ?_, hs.from0, hs.fresh, fun x hx => (by cases hx), fun x hx => (by cases hx), fun x hx => (by cases hx), List.Pairwise.nil⟩ hn _)
    · exact ⟨hbel.os.trans hs.aT.os, hbel.tape.trans hs.aT.tape, hbel.output.trans hs.aT.output, Nat.le_trans hs.aT.size hbel.size, fun b hb' hn => (hbel.block b hb').trans (hs.aT.block b hb' hn)⟩
    · intro b ob hbo
      rcases Nat.lt_or_ge b X.w0.heap.size with hlt | hge
      · exact (hbel.block b hlt).trans (hs.mem b ob hbo)
      · rw [hμ b hge] at hbo; cases hbo
theorem ZO {μ : Mem} {w : World} (h : MOk μ w) : ∀ b, w.heap.size ≤ b → μ b = none := fun b hb => by
  cases hm : μ b with
  | none => rfl
  | some o => have := (Array.getElem?_eq_some_iff.1 (h b o hm)).1; omega
end
end
section
open Go.RowKit
section
variable {P : Program} {μ : Mem} {l : aF} {L : List Bk} {ds : Option Nat} {ty : TypeId} {pos : String} {af : Array Edge} {gd : Option (Nat × Bool)}
theorem XG {p : Operand} {t t2 : TypeId} {x : Int} (hx0 : ev l p = some (.int .u8 x)) : Val P μ l L ⟨ds, .binOp .shr t p (.const (.int .u64 4)) t2, ty, pos, af, gd⟩ (.int .u8 (x / 16)) :=
  fun a w hs => by
    have e0 := hs.eval hx0
    have e1 := hs.eval (x := .const (.int .u64 4)) rfl
    generalize a.eval = ρ at e0 e1
    simp [execOp, e0, e1, eqGuard, binOp, Op.shift, IntKind.bits]
    rw [Int.fdiv_eq_ediv_of_nonneg _ (by decide)]
theorem aG1 (x : Int) (h : 0 ≤ x ∧ x ≤ 255) : IntKind.wrap .u8 ((BitVec.ofInt 8 x &&& BitVec.ofInt 8 15).toNat : Int) = x % 16 := by
  obtain ⟨n, rfl⟩ : ∃ n : Nat, x = n := ⟨x.toNat, by omega⟩
  have hn : n < 256 := by omega
  have : (BitVec.ofInt 8 (n : Int) &&& BitVec.ofInt 8 15).toNat = n % 16 := by
    have h15 : BitVec.ofInt 8 15 = 15#8 := rfl
    rw [h15, BitVec.toNat_and, BitVec.ofInt_natCast, BitVec.toNat_ofNat, BitVec.toNat_ofNat]
    rw [Nat.mod_eq_of_lt (by omega : n < 2 ^ 8), show 15 % 2 ^ 8 = 2 ^ 4 - 1 from rfl, Nat.and_two_pow_sub_one_eq_mod]
  rw [this, wrap_u8 (by omega)]
  omega
theorem aBm {p q : Operand} {t t2 : TypeId} {k : IntKind} {x y : Int} (hx0 : ev l p = some (.int k x)) (hx1 : ev l q = some (.int k y)) : Val P μ l L ⟨ds, .binOp .and t p q t2, ty, pos, af, gd⟩ (.int k (k.wrap (BitVec.ofInt k.bits x &&& BitVec.ofInt k.bits y).toNat)) :=
  fun a w hs => by have e0 := hs.eval hx0; have e1 := hs.eval hx1; generalize a.eval = ρ at e0 e1; simp [execOp, e0, e1, eqGuard, binOp, Op.intBits]
theorem XP {p : Operand} {t t2 : TypeId} {x : Int} (hx0 : ev l p = some (.int .u8 x)) (h : 0 ≤ x ∧ x ≤ 255) : Val P μ l L ⟨ds, .binOp .and t p (.const (.int .u8 15)) t2, ty, pos, af, gd⟩ (.int .u8 (x % 16)) := by
  rw [← aG1 x h]
  exact aBm hx0 rfl
end
end
end Go.Vcg
namespace Go.Proofs.YtoclmkdfcafhfaaGreatDoor
open Go.Shelf Go.RowKit Go.Vcg
open Go.Lib (byteCells)
theorem XB : Builder.Extra Tryz.prog Tryz.lays169_ren := {
  sizeBuilder := by kernel_rfl
  liesBuilder := by kernel_rfl
  t5 := by kernel_rfl
  a5 := Go.Vcg.cI (by kernel_rfl)
  z5 := Go.Vcg.run_sizeOf (by kernel_rfl)
  v5 := Go.Vcg.aK (by kernel_rfl)
  infoByte := by kernel_rfl
  cellsByte := by kernel_rfl
  sizeByte := by kernel_rfl
  neB5 := by decide }
theorem gX (a b : List UInt8) : byteCells (a ++ b) = byteCells a ++ byteCells b := by simp [byteCells]
section
variable {X : Ctx} {ops : Array Oper} {Q : Exit → Act → World → Prop} {rest : List Oper} {μ : Mem} {l : aF} {L : List Bk} {o : Oper} {d : Nat}
abbrev Bld (k : Nat) (p v : Value) (out : List UInt8) (Lr : List Bk) : List Bk := .inl ⟨k, 75, 2, [(0, p), (1, v)]⟩ :: .inr ⟨v, 5, 1, out.length, byteCells out⟩ :: Lr
def IsP (k : Nat) (p : Value) : Prop := p = .pointer none ∨ p = .pointer (some ⟨k, 0, none⟩)
theorem IsP.is {k B : Nat} {p : Value} {T u : TypeId} {bs : List Value} {w : World} (h : IsP k p) (hb : Lib.BuilderAt T u B k p bs w) : Lib.IsBuilder T u B k bs w := by
  rcases h with rfl | rfl
  · exact .inl hb
  · exact .inr hb
theorem WG (out : List UInt8) : out.length = (byteCells out).length := by simp [byteCells]
theorem aFb {k : Nat} {p v : Value} {out : List UInt8} {Lr : List Bk} (hd : o.dst = some d) (hn : Nat.blt d X.n = true) (hw : dH ops l o = some true)
    (hr : Ent Tryz.prog μ l (Bld k p v out Lr) o 43 #[.pointer (some ⟨k, 0, none⟩)])
    (hM : X.M = []) (hμ : ∀ b, X.w0.heap.size ≤ b → μ b = none) (hp : IsP k p)
    (h : G Tryz.prog X ops Q rest μ ((d, .string ⟨out.toArray⟩) :: l) []) : G Tryz.prog X ops Q (o :: rest) μ l (Bld k p v out Lr) := by
  unfold Bld at hr ⊢
  rw [WG] at hr ⊢
  refine WT hd hn hw hM hμ (by decide) hr (fun w hb hs => ?_) h
  exact Any.Builder_String_any Tryz.lays169 XB X.w0.heap.size k out w (hp.is hb) hs
end
end Go.Proofs.YtoclmkdfcafhfaaGreatDoor
namespace Go.Vcg
section
open Go.RowKit
section
variable {P : Program} {X : Ctx} {ops : Array Oper} {Q : Exit → Act → World → Prop} {rest : List Oper} {μ : Mem} {l : aF} {L : List Bk} {a : Act} {w : World} {d : Nat}
variable {ty : TypeId} {pos : String} {af : Array Edge} {gd : Option (Nat × Bool)}
theorem GF {t : TypeId} {i : TypeInfo} (h : P.info? t = some i) {s b : Nat} {z : Value} (hs : bA P t = some s) (hb : dF P t = some b) (hz : cH P t = some z) : i.size = s ∧ i.bytes = b ∧ i.zero = some z := by
  unfold bA at hs
  unfold dF at hb
  unfold cH at hz
  rw [h] at hs hb hz
  simp only [eR, jS, Option.some.injEq, Option.bind_some] at hs hb hz
  exact ⟨hs, hb, hz⟩
theorem XC {t t2 e : TypeId} {n : Nat} {v v' : Value} {xs : List Value} {s : ByteArray} {w' : World} {I : TypeInfo} (ht : P.underlying t = some (.slice e)) (hu : P.underlying t2 = some .string) (hI : P.info? e = some I) (hz : I.zero = some (.int .u8 0)) (i1 : I.size = 1) (i2 : I.bytes = 1)
    (hown : w.ownsRow 0 e 1 v n xs) (hlen : n + s.size ≤ 140737488355328) (hr : (Builtin.append_ #[t, t2] ty #[v, .string s]).run P w = .ok v' w') (h0 : v' = .slice none 0 0 ↔ v = .slice none 0 0 ∧ s.size = 0) : v'.ownBlock = v.ownBlock ∨ v'.ownBlock = some w.heap.size := by
  have hxl : xs.length = n := by simpa using hown.1
  rcases hown.2 with ⟨rfl, rfl⟩ | ⟨g, cap, cur, rfl, hbg, hg, hnc, hcm, hcs, htake⟩
  · by_cases hm : s.size = 0
    · rw [h0.2 ⟨rfl, hm⟩]; exact .inl rfl
    · have h2 := run_append_nil_string (P := P) w t t2 ty e I (.int .u8 0) ht hu hI hz s (by omega) (by omega) (by rw [i2]; omega)
      rw [hr] at h2
      cases h2
      exact .inr rfl
  · have hcz : cur.size = cap := by simpa using hcs
    by_cases hroom : n + s.size ≤ cap
    · have h2 := Lib.run_append_room_string (P := P) w t t2 ty e I ht hu hI i1 g n cap cur hg s hroom (by omega)
      rw [hr] at h2
      cases h2
      exact .inl rfl
    · have holds : ∀ j u, xs[j]? = some u → w.cell? ((⟨g, 0, none⟩ : Addr).add j) = some u := hown.cells (g := g) rfl
      have h2 := Lib.run_append_grow_string (P := P) w t t2 ty e I (.int .u8 0) ht hu hI hz ⟨g, 0, none⟩ n cap xs (by rw [i1]; simpa using hxl) holds s (by omega) (by omega) (by rw [i2]; exact growslice_fits (by omega) (by omega))
      rw [hr] at h2
      cases h2
      exact .inr rfl
theorem aGv {p q : Operand} {t t2 e : TypeId} {n : Nat} {v : Value} {xs : List Value} {s : ByteArray} {F : Rw → List Bk} (hn : Nat.blt d X.n = true) (hw : dH ops l ⟨some d, .call { callee := .builtin .append, args := #[p, q], argTypes := #[t, t2] }, ty, pos, af, gd⟩ = some true)
    (hp : ev l p = some v) (hq : ev l q = some (.string s)) (hr : zS L ⟨v, e, 1, n, xs⟩ F) (ht : P.underlying t = some (.slice e)) (hu : P.underlying t2 = some .string) (hs : bA P e = some 1) (hz : cH P e = some (.int .u8 0)) (hby : dF P e = some 1)
    (hlen : n + s.size ≤ 140737488355328) (h : ∀ v, G P X ops Q rest μ ((d, v) :: l) (F ⟨v, e, 1, n + s.size, xs ++ Lib.strCells s⟩)) :
    G P X ops Q (⟨some d, .call { callee := .builtin .append, args := #[p, q], argTypes := #[t, t2] }, ty, pos, af, gd⟩ :: rest) μ l L :=
  qG hw fun a w hs' => by
    obtain ⟨i, hi, hF⟩ := hr
    have hown : w.ownsRow 0 e 1 v n xs := hs'.own _ (bP hi)
    cases hI : P.info? e with
    | none => unfold bA at hs; rw [hI] at hs; cases hs
    | some I =>
      obtain ⟨i1, i2, i3⟩ := GF hI hs hby hz
      obtain ⟨v', w', r1, r2, r3, r4⟩ := Lib.run_append_own_string (P := P) w 0 t t2 ty e I ht hu hI i3 i1 i2 v n xs hown s (by simp only [maxLen]; omega) hlen (Nat.zero_le _)
      have e1 := hs'.eval hp
      have e2 := hs'.eval hq
      have ex : (execOp a.eval ⟨some d, .call { callee := .builtin .append, args := #[p, q], argTypes := #[t, t2] }, ty, pos, af, gd⟩).run P w = .ok (.value v') w' := by
        generalize a.eval = ρ at e1 e2
        simp only [execOp, resolve, invoke, builtin, Sem.run_bind, Sem.run_pure, Result.andThen_ok, List.map_toArray, List.map_cons, List.map_nil, e1, e2, r1]
      unfold Oper.wp
      rw [ex, Oper.upon_value]
      have hnew : ∀ b, v'.ownBlock = some b → v.ownBlock = some b ∨ w.heap.size ≤ b := fun b hb => by
        rcases XC ht hu hI i3 i1 i2 hown hlen r1 r4 with h5 | h5
        · exact .inl (h5.symm.trans hb)
        · rw [h5] at hb; cases hb; exact .inr (Nat.le_refl _)
      have hs2 := hs'.upd hi r3.os r3.tape r3.output r3.size (fun b hb hne => r3.block b hb (fun e => hne e.symm)) (y := .inr ⟨v', e, 1, n + s.size, xs ++ Lib.strCells s⟩) r2 hnew
      rw [← hF] at hs2
      exact h v' _ _ (hs2.put hn _)
end
end
section
open Go.RowKit
section
variable {P : Program} {w : World} {μ : Mem} {l : aF} {L : List Bk}
theorem YT {fn : Func} {n : Nat} {rs : List ResultVar} {vs : List Value} {μ0 : Mem} {M : List Nat} {ι : Type} {Ls : ι → List Bk} {Post : Mem → Value → ι → Prop} {L' Lr : List Bk} (k : Nat) (i : ι) (hM : ∀ D, M.count D ≤ 1) (hr : fn.results = rs.toArray) (h : RVs P μ l L rs vs) (hl : Nat.beq vs.length 1 = false) (hL : splitB k L = some (L', Lr)) (hLs : Ls i = L')
    (hp : ∀ μ', MLe μ μ' → Post μ' (.tuple vs.toArray) i) :
    GQ ⟨w, μ0, M, n⟩ (bodyPost P fn (fun e w' => ∃ v μ' i, e = .returned v ∧ fH M w w' μ0 (Ls i) μ' ∧ Post μ' v i)) .ret μ l L := fun a w' hs => by
  have he := mK hL
  subst he
  obtain ⟨μ', hb, hle⟩ := hs.yW
  subst hLs
  exact ⟨hs.defers.none hM, _, xG hr h hl hs.rd, _, μ', i, rfl, hb, hp μ' hle⟩
theorem yZ {X : Ctx} {ops : Array Oper} {Q : Exit → Act → World → Prop} {rest : List Oper} {μ1 : Mem} (hM : ∀ D, X.M.count D ≤ 1) (hle : MLe μ1 μ) (h1 : X.μ0 = μ1) (h : G P X ops Q rest μ1 l L) : G P X ops Q rest μ l L := by
  subst h1
  exact fun a w hs => h a w ⟨hs.size, by rw [hs.defers.none hM]; exact Marks.nil, hs.slots, hs.aT, fun b o e => hs.mem b o (hle b o e), MLe.refl _, fun _ _ _ h => h, hs.own, fun x hx b hb => (by
    cases e : X.μ0 b with
    | none => rfl
    | some o => exact absurd ((hle b o e).symm.trans (hs.priv x hx b hb)) (by simp)), hs.new, hs.diff⟩
end
end
end Go.Vcg
namespace Go.Proofs.YtoclmkdfcafhfaaGreatDoor
section
open Go.Shelf Go.RowKit Go.Vcg
open Go.Lib (byteCells)
section
variable {X : Ctx} {ops : Array Oper} {Q : Exit → Act → World → Prop} {rest : List Oper} {μ : Mem} {l : aF} {L : List Bk} {o : Oper} {d : Nat}
theorem LD {k : Nat} {p v : Value} (i : Nat) (hd : o.dst = some d) (hn : Nat.blt d X.n = true) (hw : dH ops l o = some true)
    (hr : Ent Tryz.prog μ l L o 103 #[.pointer (some ⟨k, 0, none⟩)])
    (hi : cO L i = some (.inl ⟨k, 75, 2, [(0, p), (1, v)]⟩)) (hp : IsP k p)
    (h : G Tryz.prog X ops Q rest μ ((d, .tuple #[]) :: l) (dY L i (.inl ⟨k, 75, 2, [(0, .pointer (some ⟨k, 0, none⟩)), (1, v)]⟩))) : G Tryz.prog X ops Q (o :: rest) μ l L :=
  qG hw fun a w hs => by
    unfold Oper.wp
    rw [hr a w hs.rd, Oper.upon_enter]
    obtain ⟨arr, hh, hsz, hcs⟩ := hs.own _ (bP hi)
    have h0 : arr[0]? = some p := hcs 0 p rfl
    have h1 : arr[1]? = some v := hcs 1 v rfl
    have harr : arr = #[p, v] := by
      apply Array.ext_getElem?
      intro i
      match i with
      | 0 => simpa using h0
      | 1 => simpa using h1
      | i + 2 => rw [Array.getElem?_eq_none (by simp only at hsz; omega), Array.getElem?_eq_none (by simp)]
    subst harr
    have hlt := (Array.getElem?_eq_some_iff.1 hh).1
    have done : ∀ w' : World, w'.os = w.os → w'.tape = w.tape → w'.output = w.output → w.heap.size ≤ w'.heap.size → (∀ b, b ≠ k → w'.heap[b]? = w.heap[b]?) → w'.heap[k]? = some (.cells #[.pointer (some ⟨k, 0, none⟩), v] 75 (0, 0)) → wpList Tryz.prog ops Q rest (a.put o.dst (.tuple #[])) w' := by
      intro w' e1 e2 e3 e4 e5 e6
      have hs2 := hs.upd hi (y := .inl ⟨k, 75, 2, [(0, .pointer (some ⟨k, 0, none⟩)), (1, v)]⟩) e1 e2 e3 e4 (fun b _ hne => e5 b (fun e => hne (by rw [e]; rfl)))
        ⟨_, e6, rfl, fun i u hu => by
          match i, hu with
          | 0, hu => cases hu; rfl
          | 1, hu => cases hu; rfl
          | i + 2, hu => cases (show (none : Option Value) = some u from hu)⟩ (fun b hb => .inl hb)
      rw [hd]
      exact h _ _ (hs2.put hn _)
    rcases hp with rfl | rfl
    · refine (Any.Builder_copyCheck_fresh { MI with } MG.toX72 k w (by simp [World.cell?, hh]) (by simp [World.shape?, hh]; rfl) (by simp [World.frozen?, hh])).mono ?_
      rintro e w' ⟨rfl, rfl⟩
      refine done _ rfl rfl rfl (by simp [World.setCell]) (fun b hb => ?_) ?_
      · show (Array.modify _ _ _)[b]? = _
        rw [Array.getElem?_modify, if_neg (fun e => hb e.symm)]
      · show (Array.modify _ _ _)[k]? = _
        rw [Array.getElem?_modify, if_pos rfl, hh]
        rfl
    · refine (Any.Builder_copyCheck_used { MI with } MG.toX72 k w (by simp [World.cell?, hh])).mono ?_
      rintro e w' ⟨rfl, rfl⟩
      exact done _ rfl rfl rfl (Nat.le_refl _) (fun _ _ => rfl) hh
end
attribute [local irreducible] G GC GQ GA bO Calls IntKind.wrap Int.decLt Int.decLe
theorem eH (k : Nat) (p v : Value) (out : List UInt8) (c : Int) (y : UInt8) (hp : IsP k p) (hcb : c = y.toNat) (hlen : out.length + 1 ≤ 140737488355328) (w : World) (μ : Mem) (hμ : MOk μ w) (hO : Go.Vcg.Own μ (Bld k p v out []) w) :
    Calls Tryz.prog 72 #[.pointer (some ⟨k, 0, none⟩), .int .u8 c] w fun e w' => ∃ r μ' i, e = .returned r ∧ fH (bS (Bld k p v out [])) w w' μ (Bld k (.pointer (some ⟨k, 0, none⟩)) i (out ++ [y]) []) μ' ∧ r = .nilIface := by
  have hcnt := bE hO.diff
  refine aQ (args := [.pointer (some ⟨k, 0, none⟩), .int .u8 c]) Tryz.func72 rfl Tryz.ntmps72 (by simp) hμ hO ?_
  repeat' (first | refine KO ?_ | (refine CF 103 ?_; (with_reducible apply LD 0); (iterate 3 exact rfl); ((with_reducible apply dV); kernel_rfl; exact rfl); exact rfl; (exact hp); (dsimp only [dY])) | (((with_reducible apply lI); (iterate 3 exact rfl); (repeat first | with_reducible exact cF | with_reducible apply cQ); (iterate 6 exact rfl); (((with_reducible apply eZ); exact rfl; (repeat with_reducible exact bG); exact rfl)); (exact rfl); ((exact dP (by (repeat first | with_reducible exact bH | ((with_reducible apply aU); (exact rfl)))))); omega; omega; intro v; ((with_reducible apply jM 2); exact rfl); (rintro A cap rfl))) | refine KI ?_ | refine NB fun b => ?_ | fail)
  refine dQ (n' := (out ++ [y]).length) (xs' := byteCells (out ++ [y])) 2 rfl (by simp) (by rw [gX, hcb]; rfl) ?_
  refine aM (l' := [(4, .nilIface)]) (L' := Bld k (.pointer (some ⟨k, 0, none⟩)) (.slice A (out.length + 1) cap) (out ++ [y]) []) PU PS ?_
  exact aS (Ls := fun i => Bld k (.pointer (some ⟨k, 0, none⟩)) i (out ++ [y]) []) 2 _ hcnt rfl (aB rfl) rfl rfl (fun _ _ => rfl)
theorem gK (k : Nat) (p v : Value) (out : List UInt8) (s : ByteArray) (hp : IsP k p) (hlen : out.length + s.size ≤ 140737488355328) (w : World) (μ : Mem) (hμ : MOk μ w) (hO : Go.Vcg.Own μ (Bld k p v out []) w) :
    Calls Tryz.prog 70 #[.pointer (some ⟨k, 0, none⟩), .string s] w fun e w' => ∃ r μ' i, e = .returned r ∧ fH (bS (Bld k p v out [])) w w' μ (Bld k (.pointer (some ⟨k, 0, none⟩)) i (out ++ bl s) []) μ' ∧ r = .tuple #[.int .i64 s.size, .nilIface] := by
  have hcnt := bE hO.diff
  refine aQ (args := [.pointer (some ⟨k, 0, none⟩), .string s]) Tryz.func70 rfl Tryz.ntmps70 (by simp) hμ hO ?_
  repeat' (first | refine KO ?_ | (refine CF 103 ?_; (with_reducible apply LD 0); (iterate 3 exact rfl); ((with_reducible apply dV); kernel_rfl; exact rfl); exact rfl; (exact hp); (dsimp only [dY])) | ((with_reducible apply aGv); (iterate 4 exact rfl); (repeat first | with_reducible exact cF | with_reducible apply cQ); (iterate 5 exact rfl); (exact hlen); intro v; ((with_reducible apply jM 1); exact rfl); (rintro A cap rfl)) | refine KI ?_ | fail)
  refine dQ (n' := (out ++ bl s).length) (xs' := byteCells (out ++ bl s)) 1 rfl (by simp [bl]) (by rw [gX]; rfl) ?_
  refine aM (l' := [(4, .int .i64 s.size), (5, .nilIface)]) (L' := Bld k (.pointer (some ⟨k, 0, none⟩)) (.slice A (out.length + s.size) cap) (out ++ bl s) []) PU PS ?_
  exact YT (Ls := fun i => Bld k (.pointer (some ⟨k, 0, none⟩)) i (out ++ bl s) []) 2 _ hcnt rfl (by repeat first | exact aJ | refine aE (by exact aB rfl) ?_) rfl rfl rfl (fun _ _ => rfl)
end
section
open Go.RowKit Go.Vcg Go.MapKept Ou
attribute [local irreducible] G GC GQ GA bO Calls IntKind.wrap Int.decLt Int.decLe
instance (n : Int) : Decidable (inB n) := by unfold inB; infer_instance
end
end Go.Proofs.YtoclmkdfcafhfaaGreatDoor
namespace Go.Vcg
open Go.RowKit
section
variable {P : Program} {μ : Mem} {l : aF} {L : List Bk} {ds : Option Nat} {ty : TypeId} {pos : String} {af : Array Edge} {gd : Option (Nat × Bool)}
theorem HZ {t : TypeId} {s : ByteArray} {k : Nat} (ht : P.underlying t = some .string) (hk : k < s.size) (w : World) : (Instr.index t (.string s) (.int .u8 (k : Int))).run P w = .ok (.int .u8 (bAt s k)) w := by
  have h1 : s[k]? = some s[k] := by simp [hk]
  have h2 : bAt s k = s[k].toNat := by
    unfold bAt
    have : s.data.toList[k]? = some s[k] := by
      rw [Array.getElem?_toList]
      exact Array.getElem?_eq_getElem hk
    rw [this]; rfl
  simp [Instr.index, asIntOf, run_underlying ht, h1, h2]
theorem pL {p q : Operand} {t : TypeId} {s : ByteArray} {i : Int} (k : Nat) (ht : P.underlying t = some .string) (hx0 : ev l p = some (.string s)) (hx1 : ev l q = some (.int .u8 i)) (hi : i = (k : Int)) (hk : k < s.size) :
    Val P μ l L ⟨ds, .index t p q, ty, pos, af, gd⟩ (.int .u8 (bAt s k)) := fun a w hs => by
  have e0 := hs.eval hx0; have e1 := hs.eval hx1; generalize a.eval = ρ at e0 e1; subst hi; simp [execOp, e0, e1, HZ ht hk]
end
end Go.Vcg
namespace Go.Proofs.YtoclmkdfcafhfaaGreatDoor
open Go.RowKit Go.Vcg Ou
open Go.Lib (byteCells)
def aAc : ByteArray := ⟨#[48, 49, 50, 51, 52, 53, 54, 55, 56, 57, 97, 98, 99, 100, 101, 102]⟩
theorem h2x : (bl ⟨#[92, 120]⟩).length = 2 := rfl
theorem vP {d : Nat} (h : d < 16) : bAt aAc d = ((iO.getD d 0).toNat : Int) := by
  have key : ∀ d, d < 16 → bAt aAc d = ((iO.getD d 0).toNat : Int) := by decide +kernel
  exact key d h
theorem fV (l : List UInt8) : bl (ofB l) = l := by simp [bl, ofB]
theorem aEp (c : UInt8) : (q1 c).length ≤ 4 := by
  unfold q1
  repeat' split
  all_goals simp
theorem xN : ∀ l : List UInt8, (l.flatMap q1).length ≤ 4 * l.length
  | [] => by simp
  | c :: r => by
    have := xN r
    have := aEp c
    rw [List.flatMap_cons, List.length_append, List.length_cons]
    omega
attribute [local irreducible] G GC GQ GA bO Calls IntKind.wrap Int.decLt Int.decLe q1 iO
theorem IQ (k : Nat) (p v : Value) (out : List UInt8) (c : UInt8) (hp : IsP k p) (hlen : out.length + 4 ≤ 140737488355328) (w : World) (μ : Mem) (hμ : MOk μ w) (hO : Go.Vcg.Own μ (Bld k p v out []) w) :
    Calls Tryz.prog 74 #[.pointer (some ⟨k, 0, none⟩), .int .u8 c.toNat] w fun e w' => ∃ r μ' i, e = .returned r ∧ fH (bS (Bld k p v out [])) w w' μ (Bld k (.pointer (some ⟨k, 0, none⟩)) i (out ++ q1 c) []) μ' ∧ True := by
  have hcnt := bE hO.diff
  have hc := c.toNat_lt
  refine aQ (args := [.pointer (some ⟨k, 0, none⟩), .int .u8 c.toNat]) Tryz.func74 rfl Tryz.ntmps74 (by simp) hμ hO ?_
  have hq : q1 c = if c.toNat = 10 then [92, 110] else if c.toNat = 9 then [92, 116] else if c.toNat = 13 then [92, 114] else if c.toNat = 0 then [92, 48]
      else if c.toNat = 34 ∨ c.toNat = 92 then [92, c] else if c.toNat < 32 ∨ 126 < c.toNat then [92, 120, iO.getD (c.toNat / 16) 0, iO.getD (c.toNat % 16) 0] else [c] := by
    have hn : ∀ n : UInt8, (c = n) = (c.toNat = n.toNat) := fun n => propext UInt8.toNat_inj.symm
    unfold q1
    simp only [hn]
    rfl
  by_cases h10 : c.toNat = 10
  · rw [show out ++ q1 c = out ++ bl ⟨#[92, 110]⟩ by rw [hq, if_pos h10]]
    repeat' (first | refine KO ?_ | (refine CF 70 ?_; (with_reducible apply aA 2); (iterate 3 exact rfl); ((with_reducible apply aL); kernel_rfl; exact rfl; exact rfl); exact rfl; (exact fun w hw hO => gK k _ _ _ _ hp (show out.length + 2 ≤ _ by omega) w _ hw hO); (rintro v2 μ2 i2 hle2 rfl); (dsimp only [List.cons_append, List.nil_append])) | fail)
    all_goals exact fE (Post := fun _ _ _ => True) (Ls := fun i => Bld k (.pointer (some ⟨k, 0, none⟩)) i (out ++ bl ⟨#[92, 110]⟩) []) 2 _ (.inr rfl) hcnt rfl rfl rfl (fun _ _ _ => trivial)
  by_cases h9 : c.toNat = 9
  · rw [show out ++ q1 c = out ++ bl ⟨#[92, 116]⟩ by rw [hq, if_neg h10, if_pos h9]]
    repeat' (first | refine KO ?_ | (refine CF 70 ?_; (with_reducible apply aA 2); (iterate 3 exact rfl); ((with_reducible apply aL); kernel_rfl; exact rfl; exact rfl); exact rfl; (exact fun w hw hO => gK k _ _ _ _ hp (show out.length + 2 ≤ _ by omega) w _ hw hO); (rintro v2 μ2 i2 hle2 rfl); (dsimp only [List.cons_append, List.nil_append])) | fail)
    all_goals exact fE (Post := fun _ _ _ => True) (Ls := fun i => Bld k (.pointer (some ⟨k, 0, none⟩)) i (out ++ bl ⟨#[92, 116]⟩) []) 2 _ (.inr rfl) hcnt rfl rfl rfl (fun _ _ _ => trivial)
  by_cases h13 : c.toNat = 13
  · rw [show out ++ q1 c = out ++ bl ⟨#[92, 114]⟩ by rw [hq, if_neg h10, if_neg h9, if_pos h13]]
    repeat' (first | refine KO ?_ | (refine CF 70 ?_; (with_reducible apply aA 2); (iterate 3 exact rfl); ((with_reducible apply aL); kernel_rfl; exact rfl; exact rfl); exact rfl; (exact fun w hw hO => gK k _ _ _ _ hp (show out.length + 2 ≤ _ by omega) w _ hw hO); (rintro v2 μ2 i2 hle2 rfl); (dsimp only [List.cons_append, List.nil_append])) | fail)
    all_goals exact fE (Post := fun _ _ _ => True) (Ls := fun i => Bld k (.pointer (some ⟨k, 0, none⟩)) i (out ++ bl ⟨#[92, 114]⟩) []) 2 _ (.inr rfl) hcnt rfl rfl rfl (fun _ _ _ => trivial)
  by_cases h0 : c.toNat = 0
  · rw [show out ++ q1 c = out ++ bl ⟨#[92, 48]⟩ by rw [hq, if_neg h10, if_neg h9, if_neg h13, if_pos h0]]
    repeat' (first | refine KO ?_ | (refine CF 70 ?_; (with_reducible apply aA 2); (iterate 3 exact rfl); ((with_reducible apply aL); kernel_rfl; exact rfl; exact rfl); exact rfl; (exact fun w hw hO => gK k _ _ _ _ hp (show out.length + 2 ≤ _ by omega) w _ hw hO); (rintro v2 μ2 i2 hle2 rfl); (dsimp only [List.cons_append, List.nil_append])) | fail)
    all_goals exact fE (Post := fun _ _ _ => True) (Ls := fun i => Bld k (.pointer (some ⟨k, 0, none⟩)) i (out ++ bl ⟨#[92, 48]⟩) []) 2 _ (.inr rfl) hcnt rfl rfl rfl (fun _ _ _ => trivial)
  by_cases h34 : c.toNat = 34 ∨ c.toNat = 92
  · rw [show out ++ q1 c = out ++ [92] ++ [c] by rw [hq, if_neg h10, if_neg h9, if_neg h13, if_neg h0, if_pos h34, List.append_assoc]; rfl]
    rcases h34 with h34 | h34
    · repeat' (first | refine KO ?_ | (refine CF 72 ?_; (with_reducible apply aA 2); (iterate 3 exact rfl); ((with_reducible apply aL); kernel_rfl; exact rfl; exact rfl); exact rfl; (first | exact fun w hw hO => eH k _ _ _ (92 : Int) 92 hp rfl (by have h2 := h2x; (try simp only [List.length_append, List.length_cons, List.length_nil]); omega) w _ hw hO | exact fun w hw hO => eH k _ _ _ _ c (.inr rfl) rfl (by have h2 := h2x; (try simp only [List.length_append, List.length_cons, List.length_nil]); omega) w _ hw hO); (rintro v2 μ2 i2 hle2 rfl); (dsimp only [List.cons_append, List.nil_append])) | refine KG ?_ | fail)
      all_goals exact fE (Post := fun _ _ _ => True) (Ls := fun i => Bld k (.pointer (some ⟨k, 0, none⟩)) i (out ++ [92] ++ [c]) []) 2 _ (.inr rfl) hcnt rfl rfl rfl (fun _ _ _ => trivial)
    · repeat' (first | refine KO ?_ | (refine CF 72 ?_; (with_reducible apply aA 2); (iterate 3 exact rfl); ((with_reducible apply aL); kernel_rfl; exact rfl; exact rfl); exact rfl; (first | exact fun w hw hO => eH k _ _ _ (92 : Int) 92 hp rfl (by have h2 := h2x; (try simp only [List.length_append, List.length_cons, List.length_nil]); omega) w _ hw hO | exact fun w hw hO => eH k _ _ _ _ c (.inr rfl) rfl (by have h2 := h2x; (try simp only [List.length_append, List.length_cons, List.length_nil]); omega) w _ hw hO); (rintro v2 μ2 i2 hle2 rfl); (dsimp only [List.cons_append, List.nil_append])) | refine KG ?_ | fail)
      all_goals exact fE (Post := fun _ _ _ => True) (Ls := fun i => Bld k (.pointer (some ⟨k, 0, none⟩)) i (out ++ [92] ++ [c]) []) 2 _ (.inr rfl) hcnt rfl rfl rfl (fun _ _ _ => trivial)
  by_cases hx : c.toNat < 32 ∨ 126 < c.toNat
  · rw [show out ++ q1 c = out ++ bl ⟨#[92, 120]⟩ ++ [iO.getD (c.toNat / 16) 0] ++ [iO.getD (c.toNat % 16) 0] by rw [hq, if_neg h10, if_neg h9, if_neg h13, if_neg h0, if_neg h34, if_pos hx, List.append_assoc, List.append_assoc]; rfl]
    rcases hx with hx | hx
    · repeat' (first | refine KO ?_ | (refine CF 72 ?_; (with_reducible apply aA 2); (iterate 3 exact rfl); ((with_reducible apply aL); kernel_rfl; exact rfl; exact rfl); exact rfl; (first | exact fun w hw hO => eH k _ _ _ _ (iO.getD (c.toNat / 16) 0) (.inr rfl) (vP (by omega)) (by have h2 := h2x; (try simp only [List.length_append, List.length_cons, List.length_nil]); omega) w _ hw hO | exact fun w hw hO => eH k _ _ _ _ (iO.getD (c.toNat % 16) 0) (.inr rfl) (vP (by omega)) (by have h2 := h2x; (try simp only [List.length_append, List.length_cons, List.length_nil]); omega) w _ hw hO); (rintro v2 μ2 i2 hle2 rfl); (dsimp only [List.cons_append, List.nil_append])) | (refine CF 70 ?_; (with_reducible apply aA 2); (iterate 3 exact rfl); ((with_reducible apply aL); kernel_rfl; exact rfl; exact rfl); exact rfl; (exact fun w hw hO => gK k _ _ _ _ hp (show out.length + 2 ≤ _ by omega) w _ hw hO); (rintro v2 μ2 i2 hle2 rfl); (dsimp only [List.cons_append, List.nil_append])) | (refine KV (b := by first | ((with_reducible apply XG); exact rfl) | ((with_reducible apply XP); exact rfl; omega) | ((with_reducible apply pL (c.toNat / 16)); (iterate 3 exact rfl); omega; (show _ < 16; omega)) | ((with_reducible apply pL (c.toNat % 16)); (iterate 3 exact rfl); omega; (show _ < 16; omega))) (c := ?_)) | refine KG ?_ | fail)
      all_goals exact fE (Post := fun _ _ _ => True) (Ls := fun i => Bld k (.pointer (some ⟨k, 0, none⟩)) i (out ++ bl ⟨#[92, 120]⟩ ++ [iO.getD (c.toNat / 16) 0] ++ [iO.getD (c.toNat % 16) 0]) []) 2 _ (.inr rfl) hcnt rfl rfl rfl (fun _ _ _ => trivial)
    · repeat' (first | refine KO ?_ | (refine CF 72 ?_; (with_reducible apply aA 2); (iterate 3 exact rfl); ((with_reducible apply aL); kernel_rfl; exact rfl; exact rfl); exact rfl; (first | exact fun w hw hO => eH k _ _ _ _ (iO.getD (c.toNat / 16) 0) (.inr rfl) (vP (by omega)) (by have h2 := h2x; (try simp only [List.length_append, List.length_cons, List.length_nil]); omega) w _ hw hO | exact fun w hw hO => eH k _ _ _ _ (iO.getD (c.toNat % 16) 0) (.inr rfl) (vP (by omega)) (by have h2 := h2x; (try simp only [List.length_append, List.length_cons, List.length_nil]); omega) w _ hw hO); (rintro v2 μ2 i2 hle2 rfl); (dsimp only [List.cons_append, List.nil_append])) | (refine CF 70 ?_; (with_reducible apply aA 2); (iterate 3 exact rfl); ((with_reducible apply aL); kernel_rfl; exact rfl; exact rfl); exact rfl; (exact fun w hw hO => gK k _ _ _ _ hp (show out.length + 2 ≤ _ by omega) w _ hw hO); (rintro v2 μ2 i2 hle2 rfl); (dsimp only [List.cons_append, List.nil_append])) | (refine KV (b := by first | ((with_reducible apply XG); exact rfl) | ((with_reducible apply XP); exact rfl; omega) | ((with_reducible apply pL (c.toNat / 16)); (iterate 3 exact rfl); omega; (show _ < 16; omega)) | ((with_reducible apply pL (c.toNat % 16)); (iterate 3 exact rfl); omega; (show _ < 16; omega))) (c := ?_)) | refine KG ?_ | fail)
      all_goals exact fE (Post := fun _ _ _ => True) (Ls := fun i => Bld k (.pointer (some ⟨k, 0, none⟩)) i (out ++ bl ⟨#[92, 120]⟩ ++ [iO.getD (c.toNat / 16) 0] ++ [iO.getD (c.toNat % 16) 0]) []) 2 _ (.inr rfl) hcnt rfl rfl rfl (fun _ _ _ => trivial)
  · rw [show out ++ q1 c = out ++ [c] by rw [hq, if_neg h10, if_neg h9, if_neg h13, if_neg h0, if_neg h34, if_neg hx]]
    repeat' (first | refine KO ?_ | (refine CF 72 ?_; (with_reducible apply aA 2); (iterate 3 exact rfl); ((with_reducible apply aL); kernel_rfl; exact rfl; exact rfl); exact rfl; (exact fun w hw hO => eH k _ _ _ _ c hp rfl (by have h2 := h2x; (try simp only [List.length_append, List.length_cons, List.length_nil]); omega) w _ hw hO); (rintro v2 μ2 i2 hle2 rfl); (dsimp only [List.cons_append, List.nil_append])) | refine KG ?_ | fail)
    all_goals exact fE (Post := fun _ _ _ => True) (Ls := fun i => Bld k (.pointer (some ⟨k, 0, none⟩)) i (out ++ [c]) []) 2 _ (.inr rfl) hcnt rfl rfl rfl (fun _ _ _ => trivial)
theorem KD (s : ByteArray) (hs : s.size ≤ 10000000000000) (w : World) (μ : Mem) (hμ : MOk μ w) :
    Calls Tryz.prog 41 #[.string s] w fun e w' => e = .returned (.string (ofB (dO (byS s)))) ∧ Below w.heap.size w w' := by
  refine aC Tryz.func41 rfl Tryz.ntmps41 (by simp) hμ ?_
  repeat' (first | ((with_reducible show GC _ _ (Code.seq (Code.region 2 _ _) _) _ _ _ _); (apply aY)) | refine KK ?_ | refine NB fun b => ?_ | fail)
  refine gcs (WQ 5 1 ?_)
  change GC _ _ _ _ _ _ (Bld b (.pointer none) (.slice none 0 0) [] [])
  repeat' (first | refine KO ?_ | (refine CF 72 ?_; (with_reducible apply aA 2); (iterate 3 exact rfl); ((with_reducible apply aL); kernel_rfl; exact rfl; exact rfl); exact rfl; (exact fun w hw hO => eH _ _ _ _ (34 : Int) 34 (.inl rfl) rfl (by have h2 := h2x; (try simp only [List.length_append, List.length_cons, List.length_nil]); omega) w _ hw hO); (rintro v2 μ2 i2 hle2 rfl); (dsimp only [List.cons_append, List.nil_append]); refine yZ (by simp) hle2 rfl ?_) | fail)
  refine aX (ι := Nat × Value) (fun i => i.1 ≤ s.size) (fun i => s.size - i.1) (fun _ => μ) (fun i => [(8, .int .i64 i.1), (7, .int .i64 s.size), (3, .pointer (some ⟨b, 0, none⟩)), (0, .string s)])
    (fun i => Bld b (.pointer (some ⟨b, 0, none⟩)) i.2 (34 :: ((byS s).take i.1).flatMap q1) []) (0, _) (Nat.zero_le _) (fun a w hs => J6 hs) ?_
  rintro ⟨i, v⟩ hi
  dsimp only at hi ⊢
  by_cases hlt : i < s.size
  · obtain ⟨c, hb1, hb2⟩ := gY hlt
    have hb1' : (byS s)[i]? = some c := hb1
    have hl := xN ((byS s).take i)
    have hl2 : ((byS s).take i).length ≤ i := by rw [List.length_take]; omega
    have htk : ((byS s).take (i + 1)).flatMap q1 = ((byS s).take i).flatMap q1 ++ q1 c := by rw [List.take_add_one, hb1', List.flatMap_append]; simp
    generalize hout : ((byS s).take i).flatMap q1 = out at hl htk
    have hlen : (34 :: out).length + 4 ≤ 140737488355328 := by rw [List.length_cons]; omega
    repeat' (first | refine KO ?_ | (refine CF 74 ?_; (with_reducible apply aA 2); (iterate 3 exact rfl); ((with_reducible apply aL); kernel_rfl; exact rfl; exact rfl); exact rfl; (exact fun w hw hO => by have := IQ b _ _ _ c (.inr rfl) hlen w _ hw hO; rw [← hb2] at this; exact this); (rintro v2 μ2 i2 hle2 -); (dsimp only [List.cons_append, List.nil_append]); refine yZ (by simp) hle2 rfl ?_) | (refine KV (b := by exact U2 i) (c := ?_)) | refine KI ?_ | fail)
    refine lS (i + 1, i2) (by dsimp only; omega) (by dsimp only; omega) rfl PU ?_
    dsimp only
    rw [htk]
    exact List.Sublist.refl _
  · have hall : (byS s).take i = byS s := List.take_of_length_le (by rw [show (byS s).length = s.size from aZ s]; omega)
    have hl := xN (byS s)
    have hl2 : (byS s).length = s.size := aZ s
    rw [hall]
    generalize hout : (byS s).flatMap q1 = out at hl
    have hqb : ofB (dO (byS s)) = ofB (34 :: out ++ [34]) := by unfold dO; rw [hout]; rfl
    rw [hqb]
    repeat' (first | refine KO ?_ | (refine CF 72 ?_; (with_reducible apply aA 2); (iterate 3 exact rfl); ((with_reducible apply aL); kernel_rfl; exact rfl; exact rfl); exact rfl; (exact fun w hw hO => eH _ _ _ _ (34 : Int) 34 (.inr rfl) rfl (by have h2 := h2x; (try simp only [List.length_append, List.length_cons, List.length_nil]); omega) w _ hw hO); (rintro v2 μ2 i2 hle2 rfl); (dsimp only [List.cons_append, List.nil_append]); refine yZ (by simp) hle2 rfl ?_) | ((with_reducible apply aFb); (iterate 3 exact rfl); ((with_reducible apply dV); kernel_rfl; exact rfl); exact rfl; exact ZO hμ; exact .inr rfl) | fail)
    exact aD rfl rfl rfl
end Go.Proofs.YtoclmkdfcafhfaaGreatDoor
namespace Go.Vcg
section
open Go.RowKit
section
variable {P : Program} {X : Ctx} {Q : Exit → Act → World → Prop} {μ : Mem} {l : aF} {L : List Bk} {ty : TypeId} {pos : String} {af : Array Edge} {gd : Option (Nat × Bool)} {ds : Option Nat}
theorem UJ {p : Operand} {t u : TypeId} {k : IntKind} {x : Int} {de : TypeDesc} (hx0 : ev l p = some (.int k x)) (ht : P.underlying t = some de) (hu : P.underlying u = some (.int .u8)) (hb : 0 ≤ x ∧ x ≤ 255) : Val P μ l L ⟨ds, .convert t u p, ty, pos, af, gd⟩ (.int .u8 x) := by
  have := XM (P := P) (μ := μ) (L := L) (ds := ds) (ty := ty) (pos := pos) (af := af) (gd := gd) hx0 ht hu
  rw [wrap_u8 hb] at this
  exact this
theorem XI {p q : Operand} {t t2 : TypeId} {x y : Int} (hx0 : ev l p = some (.int .u8 x)) (hx1 : ev l q = some (.int .u8 y)) (hx : 0 ≤ x ∧ x ≤ 255) (hy : 1 ≤ y) : Val P μ l L ⟨ds, .binOp .quo t p q t2, ty, pos, af, gd⟩ (.int .u8 (x / y)) := by
  have h := XJ (P := P) (μ := μ) (L := L) (ds := ds) (ty := ty) (pos := pos) (af := af) (gd := gd) (t := t) (t2 := t2) hx0 hx1 (by omega)
  have h1 : 0 ≤ x / y := Int.ediv_nonneg hx.1 (by omega)
  have h2 : x / y ≤ x := Int.ediv_le_self y hx.1
  rw [Int.tdiv_eq_ediv_of_nonneg hx.1, wrap_u8 (by omega)] at h
  exact h
theorem XH {p q : Operand} {t t2 : TypeId} {x y : Int} (hx0 : ev l p = some (.int .u8 x)) (hx1 : ev l q = some (.int .u8 y)) (hx : 0 ≤ x ∧ x ≤ 255) (hy : 1 ≤ y) : Val P μ l L ⟨ds, .binOp .rem t p q t2, ty, pos, af, gd⟩ (.int .u8 (x % y)) := by
  have h := RD (P := P) (μ := μ) (L := L) (ds := ds) (ty := ty) (pos := pos) (af := af) (gd := gd) (t := t) (t2 := t2) hx0 hx1 (by omega)
  rw [Int.tmod_eq_emod_of_nonneg hx.1] at h
  exact h
theorem uG {k : Nat} {y : Nat} {c : BoundsCode} (h : k ≤ y) (w : World) : (Instr.sliceBound (.int .u8 (k : Int)) y c).run P w = .ok k w := by
  have : (0 : Int) ≤ k ∧ (k : Int) ≤ y := by omega
  simp [Instr.sliceBound, asIntOf, this]
theorem HE {p q r : Operand} {t : TypeId} {b : ByteArray} {j i : Int} {ds : Option Nat} (k m : Nat) (ht : P.underlying t = some .string) (hx : ev l p = some (.string b)) (hq : ev l q = some (.int .u8 j)) (hj : j = (k : Int)) (hr' : ev l r = some (.int .u8 i)) (hi : i = (m : Int)) (hk : k ≤ m) (hm : m ≤ b.size) :
    Val P μ l L ⟨ds, .slice t p (some q) (some r) none, ty, pos, af, gd⟩ (.string (b.extract k m)) := fun a w hr => by
  have e0 := hr.eval hx
  have e1 := hr.eval hq
  have e2 := hr.eval hr'
  generalize a.eval = ρ at e0 e1 e2
  subst hj hi
  simp [execOp, e0, e1, e2, Instr.sliceAt, Instr.slice, run_underlying ht, Instr.sliceBounds, uG hk, uG hm]
end
end
section
open Go.RowKit Go.Proofs.YtoclmkdfcafhfaaGreatDoor Go.Proofs.YtoclmkdfcafhfaaGreatDoor.Ou
section
variable {P : Program} {μ : Mem} {l : aF} {L : List Bk} {ds : Option Nat} {ty : TypeId} {pos : String} {af : Array Edge} {gd : Option (Nat × Bool)}
theorem lY {p q : Operand} {t t2 : TypeId} {a b : List UInt8} (h0 : ev l p = some (.string (ofB a))) (h1 : ev l q = some (.string (ofB b))) (hb : a.length + b.length ≤ 9000000000000000000) :
    Val P μ l L ⟨ds, .binOp .add t p q t2, ty, pos, af, gd⟩ (.string (ofB (a ++ b))) := by
  have h := DX (P := P) (μ := μ) (L := L) (ds := ds) (ty := ty) (pos := pos) (af := af) (gd := gd) (t := t) (t2 := t2) h0 h1 (by
    have e : ∀ l : List UInt8, (ofB l).size = l.length := fun l => by simp [ofB, ByteArray.size]
    rw [e, e]; omega)
  have e : ofB a ++ ofB b = ofB (a ++ b) := by
    apply GU
    rw [dG]
    show ((ofB a) ++ (ofB b)).data.toList = _
    rw [ByteArray.data_append]
    simp [ofB]
  rw [← e]
  exact h
end
end
section
open Go.RowKit
section
variable {P : Program} {X : Ctx} {Q : Exit → Act → World → Prop} {μ : Mem} {l : aF} {L : List Bk} {ty : TypeId} {pos : String} {af : Array Edge} {gd : Option (Nat × Bool)} {ds : Option Nat}
theorem TY {s : ByteArray} {k : Nat} {c : UInt8} (h : (bl s)[k]? = some c) : s.extract k (k + 1) = ⟨#[c]⟩ := lF (by
  obtain ⟨h1, h2⟩ := List.getElem?_eq_some_iff.1 h
  rw [bX, List.drop_eq_getElem_cons h1, h2, show k + 1 - k = 1 by omega]
  rfl)
theorem HF {p q r : Operand} {t : TypeId} {s : ByteArray} {j i : Int} {c : UInt8} (k : Nat) (h : (bl s)[k]? = some c) (ht : P.underlying t = some .string) (hx : ev l p = some (.string s)) (hq : ev l q = some (.int .i64 j)) (hj : j = (k : Int)) (hr' : ev l r = some (.int .i64 i)) (hi : i = (k : Int) + 1) :
    Val P μ l L ⟨ds, .slice t p (some q) (some r) none, ty, pos, af, gd⟩ (.string ⟨#[c]⟩) := by
  have hk : k < s.size := by have := (List.getElem?_eq_some_iff.1 h).1; rwa [aZ] at this
  rw [← TY h]
  exact jH k (k + 1) ht hx hq hj hr' (by omega) (by omega) (by omega)
theorem AR {p q r : Operand} {t : TypeId} {s : ByteArray} {j i : Int} {c : UInt8} (k : Nat) (h : (bl s)[k]? = some c) (ht : P.underlying t = some .string) (hx : ev l p = some (.string s)) (hq : ev l q = some (.int .u8 j)) (hj : j = (k : Int)) (hr' : ev l r = some (.int .u8 i)) (hi : i = (k : Int) + 1) :
    Val P μ l L ⟨ds, .slice t p (some q) (some r) none, ty, pos, af, gd⟩ (.string ⟨#[c]⟩) := by
  have hk : k < s.size := by have := (List.getElem?_eq_some_iff.1 h).1; rwa [aZ] at this
  rw [← TY h]
  exact HE k (k + 1) ht hx hq hj hr' (by omega) (by omega) (by omega)
end
end
end Go.Vcg
namespace Go.Proofs.YtoclmkdfcafhfaaGreatDoor
section
open Go.RowKit Go.Vcg Go.Shelf Ou
theorem KU {d : Nat} (h : d < 16) : (bl aAc)[d]? = some (iO.getD d 0) := by
  have key : ∀ d, d < 16 → (bl aAc)[d]? = some (iO.getD d 0) := by decide +kernel
  exact key d h
attribute [local irreducible] G GC GQ GA bO Calls IntKind.wrap Int.decLt Int.decLe
theorem IB (s : ByteArray) (hs : s.size ≤ 1000000) (w : World) (μ : Mem) (hμ : MOk μ w) :
    Calls Tryz.prog 45 #[.string s] w fun e w' => e = .returned (.string (ofB (dO (byS s)))) ∧ Below w.heap.size w w' := by
  refine aC (args := [.string s]) Tryz.func45 rfl Tryz.ntmps45 (by simp) hμ ?_
  repeat' (first | refine KK ?_ | fail)
  refine aX (ι := Nat) (fun i => i ≤ s.size) (fun i => s.size - i) (fun _ => μ) (fun i => [(5, .int .i64 i), (4, .string (ofB (34 :: ((byS s).take i).flatMap q1))), (3, .string aAc), (0, .string s)])
    (fun i => []) 0 (Nat.zero_le _) (fun a w hs => J5 hs) ?_
  intro i hi
  by_cases hlt : i < s.size
  · obtain ⟨c, hb1, hb2⟩ := gY hlt
    have hc := c.toNat_lt
    have hb1' : (byS s)[i]? = some c := hb1
    have hl := xN ((byS s).take i)
    have hl2 : ((byS s).take i).length ≤ i := by rw [List.length_take]; omega
    have htk : ((byS s).take (i + 1)).flatMap q1 = ((byS s).take i).flatMap q1 ++ q1 c := by rw [List.take_add_one, hb1', List.flatMap_append]; simp
    generalize hout : ((byS s).take i).flatMap q1 = out at hl htk
    have hn : ∀ n : UInt8, (c = n) = (c.toNat = n.toNat) := fun n => propext UInt8.toNat_inj.symm
    have hq : q1 c = if c.toNat = 10 then [92, 110] else if c.toNat = 9 then [92, 116] else if c.toNat = 13 then [92, 114] else if c.toNat = 0 then [92, 48] else if c.toNat = 34 ∨ c.toNat = 92 then [92, c] else if c.toNat < 32 ∨ 126 < c.toNat then [92, 120, iO.getD (c.toNat / 16) 0, iO.getD (c.toNat % 16) 0] else [c] := by
      unfold q1
      simp only [hn]
      rfl
    by_cases h10 : c.toNat = 10
    · rw [if_pos h10] at hq
      repeat' (first | refine KO ?_ | (refine KV (b := by first | exact U2 i | ((with_reducible apply lY); exact rfl; exact rfl; (simp only [List.length_append, List.length_cons, List.length_nil]; omega))) (c := ?_)) | refine KI ?_ | fail)
      all_goals (refine eS (i + 1) (by omega) (by omega) rfl ?_ PS; rw [htk, hq]; have hE : ofB (34 :: (out ++ [92, 110])) = ofB ((34 :: out) ++ [92, 110]) := rfl; rw [hE]; exact PU)
    rw [if_neg h10] at hq
    by_cases h9 : c.toNat = 9
    · rw [if_pos h9] at hq
      repeat' (first | refine KO ?_ | (refine KV (b := by first | exact U2 i | ((with_reducible apply lY); exact rfl; exact rfl; (simp only [List.length_append, List.length_cons, List.length_nil]; omega))) (c := ?_)) | refine KI ?_ | fail)
      all_goals (refine eS (i + 1) (by omega) (by omega) rfl ?_ PS; rw [htk, hq]; have hE : ofB (34 :: (out ++ [92, 116])) = ofB ((34 :: out) ++ [92, 116]) := rfl; rw [hE]; exact PU)
    rw [if_neg h9] at hq
    by_cases h13 : c.toNat = 13
    · rw [if_pos h13] at hq
      repeat' (first | refine KO ?_ | (refine KV (b := by first | exact U2 i | ((with_reducible apply lY); exact rfl; exact rfl; (simp only [List.length_append, List.length_cons, List.length_nil]; omega))) (c := ?_)) | refine KI ?_ | fail)
      all_goals (refine eS (i + 1) (by omega) (by omega) rfl ?_ PS; rw [htk, hq]; have hE : ofB (34 :: (out ++ [92, 114])) = ofB ((34 :: out) ++ [92, 114]) := rfl; rw [hE]; exact PU)
    rw [if_neg h13] at hq
    by_cases h0 : c.toNat = 0
    · rw [if_pos h0] at hq
      repeat' (first | refine KO ?_ | (refine KV (b := by first | exact U2 i | ((with_reducible apply lY); exact rfl; exact rfl; (simp only [List.length_append, List.length_cons, List.length_nil]; omega))) (c := ?_)) | refine KI ?_ | fail)
      all_goals (refine eS (i + 1) (by omega) (by omega) rfl ?_ PS; rw [htk, hq]; have hE : ofB (34 :: (out ++ [92, 48])) = ofB ((34 :: out) ++ [92, 48]) := rfl; rw [hE]; exact PU)
    rw [if_neg h0] at hq
    by_cases h34 : c.toNat = 34 ∨ c.toNat = 92
    · rw [if_pos h34] at hq
      rcases h34 with h34 | h34
      all_goals
        repeat' (first | refine KO ?_ | (refine KV (b := by first | exact U2 i | ((refine HF i hb1 rfl rfl rfl (by omega) rfl (by omega))) | ((with_reducible apply lY); exact rfl; exact rfl; (simp only [List.length_append, List.length_cons, List.length_nil]; omega))) (c := ?_)) | refine KI ?_ | refine KG ?_ | fail)
        all_goals (refine eS (i + 1) (by omega) (by omega) rfl ?_ PS; rw [htk, hq]; have hE : ofB (34 :: (out ++ [92, c])) = ofB (((34 :: out) ++ [92]) ++ [c]) := (by simp); rw [hE]; exact PU)
    rw [if_neg h34] at hq
    by_cases hx : c.toNat < 32 ∨ 126 < c.toNat
    · rw [if_pos hx] at hq
      have hi1 : c.toNat / 16 < 16 := by omega
      have hi2 : c.toNat % 16 < 16 := by omega
      rcases hx with hx | hx
      all_goals
        repeat' (first | refine KO ?_ | (refine KV (b := by exact U2 i) (c := ?_)) | refine KG ?_ | fail)
        all_goals first | skip
        refine aN 19 ([]) (by kernel_rfl) rfl (by exact List.Sublist.refl _) ?_
        all_goals refine DD 0 ?_
        all_goals (first | (refine DV (k := 1) (b := by ((with_reducible apply lY); exact rfl; exact rfl; (simp only [List.length_append, List.length_cons, List.length_nil]; omega))) (c := ?_)) | fail)
        all_goals refine DD 2 ?_
        all_goals refine DD 3 ?_
        all_goals (first | (refine DV (k := 4) (b := by ((with_reducible apply XI); exact rfl; exact rfl; omega; omega)) (c := ?_)) | fail)
        all_goals refine DD 5 ?_
        all_goals (first | (refine DV (k := 6) (b := by ((with_reducible apply XI); exact rfl; exact rfl; omega; omega)) (c := ?_)) | fail)
        all_goals (first | (refine DV (k := 7) (b := by ((with_reducible apply uB); exact rfl; omega)) (c := ?_)) | fail)
        all_goals (first | (refine DV (k := 8) (b := by ((with_reducible apply AR (c.toNat / 16) (KU hi1)); (iterate 3 exact rfl); (omega); exact rfl; (omega))) (c := ?_)) | fail)
        all_goals (first | (refine DV (k := 9) (b := by ((with_reducible apply lY); exact rfl; exact rfl; (simp only [List.length_append, List.length_cons, List.length_nil]; omega))) (c := ?_)) | fail)
        all_goals refine DD 10 ?_
        all_goals refine DD 11 ?_
        all_goals (first | (refine DV (k := 12) (b := by ((with_reducible apply XH); exact rfl; exact rfl; omega; omega)) (c := ?_)) | fail)
        all_goals refine DD 13 ?_
        all_goals (first | (refine DV (k := 14) (b := by ((with_reducible apply XH); exact rfl; exact rfl; omega; omega)) (c := ?_)) | fail)
        all_goals (first | (refine DV (k := 15) (b := by ((with_reducible apply uB); exact rfl; omega)) (c := ?_)) | fail)
        all_goals (first | (refine DV (k := 16) (b := by ((with_reducible apply AR (c.toNat % 16) (KU hi2)); (iterate 3 exact rfl); (omega); exact rfl; (omega))) (c := ?_)) | fail)
        all_goals (first | (refine DV (k := 17) (b := by ((with_reducible apply lY); exact rfl; exact rfl; (simp only [List.length_append, List.length_cons, List.length_nil]; omega))) (c := ?_)) | fail)
        all_goals refine DD 18 ?_
        all_goals refine D8 ?_
        all_goals repeat' (first | refine KO ?_ | refine KI ?_ | fail)
        all_goals (refine eS (i + 1) (by omega) (by omega) rfl ?_ PS; rw [htk, hq]; have hE : ofB (34 :: (out ++ [92, 120, iO.getD (c.toNat / 16) 0, iO.getD (c.toNat % 16) 0])) = ofB (34 :: out ++ [92, 120] ++ [iO.getD (c.toNat / 16) 0] ++ [iO.getD (c.toNat % 16) 0]) := (by simp); rw [hE]; exact PU)
    rw [if_neg hx] at hq
    repeat' (first | refine KO ?_ | (refine KV (b := by first | exact U2 i | ((refine HF i hb1 rfl rfl rfl (by omega) rfl (by omega))) | ((with_reducible apply lY); exact rfl; exact rfl; (simp only [List.length_append, List.length_cons, List.length_nil]; omega))) (c := ?_)) | refine KI ?_ | refine KG ?_ | fail)
    all_goals (refine eS (i + 1) (by omega) (by omega) rfl ?_ PS; rw [htk, hq]; have hE : ofB (34 :: (out ++ [c])) = ofB ((34 :: out) ++ [c]) := rfl; rw [hE]; exact PU)
  · have hall : (byS s).take i = byS s := List.take_of_length_le (by rw [show (byS s).length = s.size from aZ s]; omega)
    have hl := xN (byS s)
    have hl2 : (byS s).length = s.size := aZ s
    rw [hall]
    generalize hout : (byS s).flatMap q1 = out at hl
    have hqb : ofB (dO (byS s)) = ofB ((34 :: out) ++ [34]) := by unfold dO; rw [hout]; rfl
    rw [hqb]
    repeat' (first | refine KO ?_ | (refine KV (b := by ((with_reducible apply lY); exact rfl; exact rfl; (simp only [List.length_append, List.length_cons, List.length_nil]; omega))) (c := ?_)) | fail)
    all_goals exact aD rfl rfl rfl
end
section
open Go.RowKit Go.Vcg Go.Shelf Ou
attribute [local irreducible] aH G GC GQ GA bO Calls IntKind.wrap Int.decLt Int.decLe
theorem pX {μ : Mem} (h : fY μ) : rP μ := fun w hw => by
  obtain ⟨m, hm⟩ := h
  obtain ⟨c, t, f, h1, h2, h3⟩ := hm
  refine ⟨m, ?_⟩
  have h4 := hw _ _ h1
  show w.cell? ⟨0, 0, none⟩ = _
  dsimp only at h3 h4
  simp [World.cell?, h4, h3]
theorem ZI (t : T) : Iq.kM aH t = Iq.CR aH t.op t.n t.m t.kids.length (byS t.s) ++ 10 :: Iq.lR aH t.kids := by
  cases t with
  | mk op a n m s kids => rw [Iq.kM]; rfl
attribute [local irreducible] Iq.kM Iq.lR
end
section
open Go.RowKit Go.Vcg Go.Shelf Ou
attribute [local irreducible] aH Iq.kM Iq.lR G GC GQ GA bO Calls IntKind.wrap Int.decLt Int.decLe
theorem YP (w : World) (μ : Mem) (hμ : MOk μ w) (hm : rP μ) (op : Int) :
    Calls Tryz.prog 9 #[.int .i64 op] w fun e w' => e = .returned (.string (ofB (aH op).1)) ∧ Below w.heap.size w w' := NX w μ hμ hm op
attribute [local irreducible] Iq.bV
end
section
open Go.ChangeShapes Go.WideShapes Go.ChangeAt Go.RowKit Go.Deep Go.Vcg
section
variable {H : Type} {enc : TypeId × Value → H} {P : Program} {W : World}
end
end
section
open Go.RowKit Go.Vcg
attribute [local irreducible] G GC GQ GA bO Calls IntKind.wrap Int.decLt Int.decLe
end
end Go.Proofs.YtoclmkdfcafhfaaGreatDoor
