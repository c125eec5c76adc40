/- Package ir: how long the text of a unit is; the law IrRight, walked. -/
import Derived.Test.YtoclmkdfcafhfaaGreatDoorZay
import Derived.Recover
import Derived.Shelf.Strings.Cut
import Derived.Laws.BytesArg
set_option maxRecDepth 20000
set_option maxHeartbeats 2000000
namespace Go.Proofs.YtoclmkdfcafhfaaGreatDoor
section
open Go.RowKit Go.Vcg Go.Shelf Ou
attribute [local irreducible] aH Iq.bV Iq.aF6 Iq.kM Iq.lR G GC GQ GA bO Calls IntKind.wrap Int.decLt Int.decLe
end
section
open Go.ChangeShapes Go.WideShapes Go.ChangeAt Go.RowKit Go.Deep Go.Vcg
theorem XV {W : World} {l : List (String × DataW Unit)} (h : laidMet Tryz.prog l W) (hm : (vB, Rows.laid_internal_strconv_uint64pow10) ∈ l) : kN (yH W) := by
  obtain ⟨g, t, cs, fuel, p, h1, h2, h3, h4⟩ := Lib.laidMet.reads h hm
  have hg : Tryz.prog.globalNamed vB = some 3 := by kernel_rfl
  obtain rfl := Option.some.inj (hg.symm.trans h1)
  have ht : (Tryz.prog.globals[3]?).map (·.type) = some 184 := by kernel_rfl
  obtain rfl := Option.some.inj (ht.symm.trans h2)
  have hd : (Rows.laid_internal_strconv_uint64pow10 : DataW Unit) = Lib.tabData .u64 Lib.pow10Tab := by rfl
  rw [hd] at h4
  have hc := Lib.cells_of_tab Tryz.underlying184 Tryz.underlying173 (by kernel_rfl) (by kernel_rfl) h4
  intro w hw
  unfold Lib.TabIs World.var?
  unfold World.var? at h3
  rw [hg] at h3 ⊢
  simp only [Option.bind_some] at h3 ⊢
  cases hb : W.heap[3]? with
  | none => rw [hb] at h3; cases h3
  | some o =>
    rw [hw _ o hb]
    rw [hb] at h3
    cases o <;> simp at h3
    rename_i cs' _ _
    subst h3
    simp only [Option.some.injEq]
    rw [← hc]
theorem aCi {W : World} (h : W.ShapedOpen Tryz.prog) : fY (yH W) := by
  obtain ⟨m, hm⟩ := cell_of_shapedOpen_int (g := 0) (t := 3) (zero := #[.int .i64 0]) (k := .i64) h (of_decide_eq_true (by kernel_rfl)) (by kernel_rfl) rfl (by kernel_rfl) (by kernel_rfl) (by kernel_rfl)
  exact ⟨m, oD.aCb hm⟩
end
section
open Go.RowKit Go.Vcg Go.MapKept Ou
def nmF (k : Nat) : List (List UInt8 × Int) := match (aH ((100 : Int) + k)).1 with
  | [] => []
  | c :: r => [(c :: r, (100 : Int) + k)]
def nmL : Nat → List (List UInt8 × Int)
  | 0 => []
  | k + 1 => nmL k ++ nmF k
def opL : List (List UInt8 × Int) → List UInt8 → Option Int
  | [], _ => none
  | (n, op) :: r, w => if w = n then some op else opL r w
def mkN : List (List UInt8 × Int) → Nat → List MapEntry
  | [], _ => []
  | (n, op) :: r, j => MapEntry.mk (.string (ofB n)) (.int .i64 op) j :: mkN r (j + 1)
def aP (w : List UInt8) : Option Int := opL (nmL 73) w
theorem TA : ∀ (l : List (List UInt8 × Int)) (x : List UInt8 × Int) (j : Nat), mkN (l ++ [x]) j = mkN l j ++ [MapEntry.mk (.string (ofB x.1)) (.int .i64 x.2) (j + l.length)]
  | [], x, j => by simp [mkN]
  | (n, op) :: r, x, j => by
    have := TA r x (j + 1)
    simp only [List.cons_append, mkN, this, List.length_cons]
    rw [show j + 1 + r.length = j + (r.length + 1) by omega]
theorem PH {a b : List UInt8} : (ofB a = ofB b) ↔ a = b := ⟨fun h => by have := congrArg byS h; rwa [dG, dG] at this, fun h => by rw [h]⟩
theorem TC {P : Program} {et : TypeId} (hz : cH P et = some (.int .i64 0)) (x : List UInt8) : ∀ (l : List (List UInt8 × Int)) (j i : Nat), kA P et (Instr.findNow .string (.string (ofB x)) (mkN l j) i) = some (.int .i64 ((opL l x).getD 0), (opL l x).isSome)
  | [], j, i => by simp [mkN, Instr.findNow, kA, hz, opL]
  | (n, op) :: r, j, i => by
    have ih := TC hz x r (j + 1) (i + 1)
    unfold mkN Instr.findNow opL
    by_cases h : x = n
    · subst h
      have hk : (ofB x == ofB x) = true := (bytes_beq _ _).2 rfl
      simp [Instr.sameNow, kA, hk]
    · have hk : (ofB x == ofB n) = false := Bool.eq_false_iff.2 fun e => h (PH.1 ((bytes_beq _ _).1 e))
      simp [Instr.sameNow, hk, h]
      exact ih
theorem SV (x : List UInt8) : ∀ (l : List (List UInt8 × Int)) (j i : Nat), opL l x = none → Instr.findNow .string (.string (ofB x)) (mkN l j) i = some none
  | [], j, i, _ => by simp [mkN, Instr.findNow]
  | (n, op) :: r, j, i, h => by
    unfold opL at h
    by_cases hx : x = n
    · rw [if_pos hx] at h; cases h
    · rw [if_neg hx] at h
      have ih := SV x r (j + 1) (i + 1) h
      have hk : (ofB x == ofB n) = false := Bool.eq_false_iff.2 fun e => hx (PH.1 ((bytes_beq _ _).1 e))
      unfold mkN Instr.findNow
      simp [Instr.sameNow, hk]
      exact ih
theorem aEx : (List.range 73).all (fun k => (opL (nmL k) (aH ((100 : Int) + k)).1).isNone) = true := by kernel_rfl
theorem aEz : (List.range 73).all (fun k => (aH ((100 : Int) + k)).1.isEmpty || decide (aP (aH ((100 : Int) + k)).1 = some ((100 : Int) + k))) = true := by kernel_rfl
theorem aEw : (nmL 73).all (fun x => decide ((aH x.2).1 = x.1)) = true := by kernel_rfl
theorem aGj : uV.all (fun x => x.2.1.all fun c => decide (c ≠ 32) && decide (c ≠ 10)) = true := by kernel_rfl
theorem FO : ∀ {l : List (List UInt8 × Int)} {x : List UInt8} {op : Int}, opL l x = some op → (x, op) ∈ l
  | [], x, op, h => by simp [opL] at h
  | (n, o) :: r, x, op, h => by
    unfold opL at h
    by_cases hx : x = n
    · rw [if_pos hx] at h
      cases h
      subst hx
      exact List.mem_cons_self ..
    · rw [if_neg hx] at h
      exact List.mem_cons_of_mem _ (FO h)
theorem tX : ∀ {l : List Row} {k : Nat} {x : List UInt8 × List UInt8}, lU k l = some x → (k, x) ∈ l
  | [], k, x, h => by simp [lU] at h
  | (n, a) :: r, k, x, h => by
    unfold lU at h
    split at h
    · rename_i hk
      cases h
      have : n = k := Nat.eq_of_beq_eq_true hk
      subst this
      exact List.mem_cons_self ..
    · exact List.mem_cons_of_mem _ (tX h)
theorem aDm : Iq.UF aH aP := by
  refine ⟨fun w op h => ?_, fun op h => ?_, fun op => ?_⟩
  · have := List.all_eq_true.1 aEw _ (FO h)
    simpa using this
  · rcases kinds op with ⟨k, x, rfl, h1, h2⟩ | ⟨h1, h2⟩
    · have hb : 100 ≤ k ∧ k ≤ 172 := by
        have := List.all_eq_true.1 aE6 _ (tX h1)
        simp only [Bool.and_eq_true] at this
        exact ⟨Nat.le_of_ble_eq_true this.1, Nat.le_of_ble_eq_true this.2⟩
      have := List.all_eq_true.1 aEz (k - 100) (List.mem_range.2 (by omega))
      have e : ((100 : Int) + ((k - 100 : Nat) : Int)) = Int.ofNat k := by show _ = (k : Int); omega
      rw [e] at this
      simp only [Bool.or_eq_true, List.isEmpty_iff, decide_eq_true_eq] at this
      rcases this with h3 | h3
      · exact absurd h3 h
      · exact h3
    · rw [h2] at h
      exact absurd rfl h
  · rcases kinds op with ⟨k, x, rfl, h1, h2⟩ | ⟨h1, h2⟩
    · have h3 := List.all_eq_true.1 aGj _ (tX h1)
      rw [h2]
      constructor
      · intro hc
        have := List.all_eq_true.1 h3 _ hc
        simp at this
      · intro hc
        have := List.all_eq_true.1 h3 _ hc
        simp at this
    · rw [h2]
      exact ⟨by simp [Fr], by simp [Fr]⟩
theorem SZ {k : Nat} (h : (aH ((100 : Int) + k)).1 = []) : nmF k = [] := by unfold nmF; rw [h]
theorem FV {k : Nat} (h : (aH ((100 : Int) + k)).1 ≠ []) : nmF k = [((aH ((100 : Int) + k)).1, (100 : Int) + k)] := by
  unfold nmF
  cases h2 : (aH ((100 : Int) + k)).1 with
  | nil => exact absurd h2 h
  | cons c r => rfl
theorem aCe {k : Nat} (h : k < 73) : opL (nmL k) (aH ((100 : Int) + k)).1 = none := by
  have := List.all_eq_true.1 aEx k (List.mem_range.2 h)
  simpa using this
abbrev nmM : List MapEntry := mkN (nmL 73) 0
theorem nm0 (b : Nat) : [Bk.mp ⟨b, mkN (nmL 0) 0, (nmL 0).length⟩] = [Bk.mp ⟨b, [], 0⟩] := rfl
theorem aCg {k : Nat} (b : Nat) (h : (aH ((100 : Int) + k)).1 = []) : [Bk.mp ⟨b, mkN (nmL (k + 1)) 0, (nmL (k + 1)).length⟩] = [Bk.mp ⟨b, mkN (nmL k) 0, (nmL k).length⟩] := by
  rw [show nmL (k + 1) = nmL k ++ nmF k from rfl, SZ h, List.append_nil]
theorem aCf {k : Nat} (b : Nat) (h : (aH ((100 : Int) + k)).1 ≠ []) : [Bk.mp ⟨b, mkN (nmL (k + 1)) 0, (nmL (k + 1)).length⟩] = [Bk.mp ⟨b, mkN (nmL k) 0 ++ [MapEntry.mk (.string (ofB (aH ((100 : Int) + k)).1)) (.int .i64 ((100 : Int) + k)) (nmL k).length], (nmL k).length + 1⟩] := by
  rw [show nmL (k + 1) = nmL k ++ nmF k from rfl, FV h, TA, List.length_append, List.length_singleton, Nat.zero_add]
theorem sF {l : List UInt8} : ofB l = ⟨#[]⟩ ↔ l = [] := PH (b := [])
theorem ZL (w : World) (μ : Mem) (hμ : MOk μ w) (hm : rP μ) (op : Int) (ho : -9223372036854775808 ≤ op ∧ op ≤ 9223372036854775807) :
    Calls Tryz.prog 8 #[.int .i64 op] w fun e w' => e = .returned (.string (ofB (aH op).1)) ∧ Below w.heap.size w w' := WB w μ hμ hm op ho
end
end Go.Proofs.YtoclmkdfcafhfaaGreatDoor
namespace Go.Vcg
open Go.RowKit Go.MapKept
section
variable {P : Program} {X : Ctx} {μ : Mem} {l : aF} {L : List Bk} {ty : TypeId} {pos : String} {af : Array Edge} {gd : Option (Nat × Bool)} {ds : Option Nat}
theorem DY {t kt et : TypeId} {dk : TypeDesc} {m k : Operand} {b ck : Nat} {es : List MapEntry} {kv v : Value} {ok : Bool} (hm : ev l m = some (.map (some b))) (hk : ev l k = some kv) (ht : P.underlying t = some (.map kt et)) (hkt : P.underlying kt = some dk) (hkey : IsKey dk kv)
    (hu : μ b = some (.map es.toArray ck)) (hf : kA P et (Instr.findNow dk kv es 0) = some (v, ok)) : Val P μ l L ⟨ds, .lookup t m k true, ty, pos, af, gd⟩ (.tuple #[v, .bool ok]) := fun a w hs => by
  have hb : w.heap[b]? = some (.map es.toArray ck) := hs.mem _ _ hu
  have e1 := hs.eval hm; have e2 := hs.eval hk
  generalize a.eval = ρ at e1 e2
  simp [execOp, e1, e2, gB (c := true) ht hkt hkey hb hf]
end
end Go.Vcg
namespace Go.Proofs.YtoclmkdfcafhfaaGreatDoor
open Go.RowKit Go.Vcg Go.MapKept Ou
attribute [local irreducible] aH nmL G GC GQ GA bO Calls IntKind.wrap Int.decLt Int.decLe
def RB (μ : Mem) (m : Nat) : Prop := μ m = some (.map nmM.toArray (nmL 73).length)
theorem RB.mono {μ μ' : Mem} {m : Nat} (h : RB μ m) (hle : MLe μ μ') : RB μ' m := hle _ _ h
theorem PL (w : World) (μ : Mem) (hμ : MOk μ w) (hm : rP μ) : Calls Tryz.prog 27 #[] w fun e w' => ∃ v μ', e = .returned v ∧ Grow w w' μ μ' ∧ ∃ i : Nat, v = .map (some i) ∧ RB μ' i := by
  refine aC (args := []) Tryz.func27 rfl Tryz.ntmps27 (by simp) hμ ?_
  repeat' (first | refine KK ?_ | ((with_reducible apply aC2); exact rfl; exact rfl; intro b) | fail)
  refine aX (ι := Nat) (fun k => k ≤ 73) (fun k => 73 - k) (fun _ => μ) (fun k => [(2, .int .i64 ((100 : Int) + k)), (1, .map (some b)), (0, .map none)]) (fun k => [.mp ⟨b, mkN (nmL k) 0, (nmL k).length⟩]) 0 (by omega) (fun a w hs => (by rw [nm0]; exact hs.sub PU (by repeat exact List.Sublist.refl _))) ?_
  intro k hk
  by_cases hlt : k < 73
  · have hc := fun w μc hw hm => ZL w μc hw hm ((100 : Int) + k) (by omega)
    have hno := SV (aH ((100 : Int) + k)).1 (nmL k) 0 0 (aCe hlt)
    by_cases hn : (aH ((100 : Int) + k)).1 = []
    · have hn1 : ofB (aH ((100 : Int) + k)).1 = ⟨#[]⟩ := sF.2 hn
      repeat' (first | refine KO ?_ | ((with_reducible apply C1); exact rfl; exact EN; exact fun w μc hw hse => hc w μc hw (hm.mono hse.le)) | refine KI ?_ | (refine KB ?_ ?_ <;> intro hp) | fail)
      all_goals first | (exfalso; contradiction) | skip
      exact lS (k + 1) (by omega) (by omega) rfl PU (by rw [aCg b hn]; exact (by repeat exact List.Sublist.refl _))
    · have hn1 : ¬ ofB (aH ((100 : Int) + k)).1 = ⟨#[]⟩ := fun e => hn (sF.1 e)
      repeat' (first | (((with_reducible apply aAm); (exact .inr rfl); (iterate 6 exact rfl); (exact trivial); (repeat with_reducible exact aD9); exact hno)) | refine KO ?_ | ((with_reducible apply C1); exact rfl; exact EN; exact fun w μc hw hse => hc w μc hw (hm.mono hse.le)) | refine KI ?_ | fail)
      all_goals first | skip
      exact lS (k + 1) (by omega) (by omega) rfl PU (by rw [aCf b hn]; exact (by repeat exact List.Sublist.refl _))
  · repeat' (first | refine KK ?_ | fail)
    all_goals first | skip
    obtain rfl : k = 73 := by omega
    exact aEk rfl (by exact aB rfl) (fun μ' hle' hL => ⟨b, rfl, hL _ (List.mem_cons_self ..)⟩)
end Go.Proofs.YtoclmkdfcafhfaaGreatDoor
namespace Go.Vcg
section
open Go.RowKit
section
variable {P : Program} {X : Ctx} {ops : Array Oper} {Q : Exit → Act → World → Prop} {rest : List Oper} {μ : Mem} {l : aF} {L : List Bk} {a : Act} {w : World} {o : Oper} {d : Nat}
end
end
section
open Go.RowKit
section
variable {P : Program} {X : Ctx} {ops : Array Oper} {Q : Exit → Act → World → Prop} {rest : List Oper} {μ : Mem} {l : aF} {L : List Bk} {a : Act} {w : World} {o : Oper} {d : Nat}
end
end
end Go.Vcg
namespace Go.Proofs.YtoclmkdfcafhfaaGreatDoor.Ou
open Go
end Go.Proofs.YtoclmkdfcafhfaaGreatDoor.Ou
namespace Go.Vcg
open Go.RowKit
end Go.Vcg
namespace Go.Proofs.YtoclmkdfcafhfaaGreatDoor
open Go.RowKit Go.Vcg Go.Shelf Ou
attribute [local irreducible] G GC GQ GA bO Calls IntKind.wrap Int.decLt Int.decLe
end Go.Proofs.YtoclmkdfcafhfaaGreatDoor
namespace Go.Vcg
open Go.RowKit
open Go.Lib (byteCells)
section
variable {P : Program} {X : Ctx} {Q : Exit → Act → World → Prop} {μ : Mem} {l : aF} {L : List Bk}
theorem fQ {c : Code} (n : Nat) (h : GC P X c (Exit.then (Code.rounds P c Q n) Q) μ l L) : GC P X (.loop c) Q μ l L := fun a w hs => wp_loop_rounds (n + 1) (h a w hs)
theorem nA {c : Code} {n : Nat} (h : GC P X c (Exit.then (Code.rounds P c Q n) Q) μ l L) : GQ X (Exit.then (Code.rounds P c Q (n + 1)) Q) .normal μ l L := fun a w hs => h a w hs
variable {ty : TypeId} {pos : String} {af : Array Edge} {gd : Option (Nat × Bool)} {ds : Option Nat}
theorem MQ {p : Operand} {t t2 : TypeId} {x : Int} (hx0 : ev l p = some (.int .u8 x)) (h : 0 ≤ x ∧ x ≤ 15) : Val P μ l L ⟨ds, .binOp .shl t p (.const (.int .u64 4)) t2, ty, pos, af, gd⟩ (.int .u8 (x * 16)) :=
  fun a w hs => by
    have e0 := hs.eval hx0
    have e1 := hs.eval (x := .const (.int .u64 4)) rfl
    generalize a.eval = ρ at e0 e1
    simp [execOp, e0, e1, eqGuard, binOp, Op.shift, IntKind.bits]
    exact wrap_u8 (by omega)
theorem aFw {p q : Operand} {t t2 : TypeId} {k : IntKind} {x y : Int} (hx0 : ev l p = some (.int k x)) (hx1 : ev l q = some (.int k y)) : Val P μ l L ⟨ds, .binOp .or t p q t2, ty, pos, af, gd⟩ (.int k (k.wrap (BitVec.ofInt k.bits x ||| BitVec.ofInt k.bits y).toNat)) :=
  fun a w hs => by have e0 := hs.eval hx0; have e1 := hs.eval hx1; generalize a.eval = ρ at e0 e1; simp [execOp, e0, e1, eqGuard, binOp, Op.intBits]
theorem aHa : ∀ x, x < 16 → ∀ y, y < 16 → IntKind.wrap .u8 ((BitVec.ofInt 8 ((x : Nat) * 16 : Int) ||| BitVec.ofInt 8 ((y : Nat) : Int)).toNat : Int) = (x : Int) * 16 + (y : Int) := by decide +kernel
theorem RF {p q : Operand} {t t2 : TypeId} {z y : Int} (x : Nat) (hx0 : ev l p = some (.int .u8 z)) (hx1 : ev l q = some (.int .u8 y)) (hz : z = (x : Int) * 16) (h : x < 16) (h2 : 0 ≤ y ∧ y ≤ 15) : Val P μ l L ⟨ds, .binOp .or t p q t2, ty, pos, af, gd⟩ (.int .u8 ((x : Int) * 16 + y)) := by
  obtain ⟨m, rfl⟩ : ∃ m : Nat, y = m := ⟨y.toNat, by omega⟩
  subst hz
  rw [← aHa x h m (by omega)]
  exact aFw hx0 hx1
theorem HN (bs : List UInt8) : strOfNums (bs.map fun b => (b.toNat : Int)) = ⟨bs.toArray⟩ := by
  unfold strOfNums
  rw [List.map_map]
  congr 2
  conv => rhs; rw [← List.map_id bs]
  refine List.map_congr_left fun b _ => ?_
  show UInt8.ofNat ((b.toNat : Int).toNat) = b
  simp
theorem HH {p : Operand} {src dst e e2 : TypeId} {n : Nat} {v : Value} {bs : List UInt8} (i : Nat) (hs : P.underlying src = some (.slice e)) (he : P.underlying e = some (.int .u8)) (hd : P.underlying dst = some .string) (hi : cO L i = some (.inr ⟨v, e2, 1, n, byteCells bs⟩)) (hp : ev l p = some v) :
    Val P μ l L ⟨ds, .convert src dst p, ty, pos, af, gd⟩ (.string ⟨bs.toArray⟩) := fun a w hr => by
  have hown : w.ownsRow 0 e2 1 v n (byteCells bs) := hr.own _ (bP hi)
  have e1 := hr.eval hp
  have hlen : bs.length = n := by have := hown.1; simpa [byteCells] using this
  have hrun : (convert src dst v).run P w = .ok (.string ⟨bs.toArray⟩) w := by
    rcases hown.2 with ⟨rfl, rfl⟩ | ⟨g, cap, cur, rfl, _⟩
    · have hb : bs = [] := List.eq_nil_of_length_eq_zero hlen
      subst hb
      exact run_convert_bytes_nil w src e hs he 0 0 dst hd
    · have := run_convert_bytes_arg (P := P) w src e hs he g 0 n cap (bs.map fun b => (b.toNat : Int)) (by simpa using hlen) (fun j hj => by
        have hjb : j < bs.length := by omega
        have h2 : (byteCells bs)[j]? = some (.int .u8 (bs[j].toNat : Int)) := by simp [byteCells, hjb]
        rw [Nat.zero_add, hr.SC (bP hi) h2]
        simp [hjb]) dst hd
      rw [HN] at this
      exact this
  generalize a.eval = ρ at e1
  simp [execOp, e1, hrun]
end
end Go.Vcg
namespace Go.Proofs.YtoclmkdfcafhfaaGreatDoor
section
open Go.RowKit Go.Vcg Ou
open Go.Lib (byteCells)
theorem bF (l : List UInt8) : (ofB l).size = l.length := by simp [ofB, ByteArray.size]
theorem mH {s : ByteArray} {i : Nat} {c : UInt8} (h : (bl s)[i]? = some c) : (bl s).drop i = c :: (bl s).drop (i + 1) := by
  obtain ⟨h1, h2⟩ := List.getElem?_eq_some_iff.1 h
  rw [List.drop_eq_getElem_cons h1, h2]
theorem rK (s : ByteArray) (i : Nat) : ((bl s).drop i).length = s.size - i := by rw [List.length_drop, aZ]
def WX (c : UInt8) : Int × Bool := match pC c with
  | some d => (d, true)
  | none => (0, false)
theorem vO {c : UInt8} {d : Nat} (h : pC c = some d) : d < 16 := by
  unfold pC at h
  repeat' split at h
  all_goals first | cases h | skip
  all_goals omega
def rC (n : Nat) (r : Except Int (UInt8 × List UInt8)) : List Value := match r with
  | .ok (b, u) => [.int .u8 b.toNat, .int .i64 ((n - u.length : Nat) : Int), .int .i64 0]
  | .error e => [.int .u8 0, .int .i64 0, .int .i64 e]
attribute [local irreducible] G GC GQ GA bO Calls IntKind.wrap Int.decLt Int.decLe
theorem uM (x : Int) (c : UInt8) (hx : x = c.toNat) (w : World) (μ : Mem) (hμ : MOk μ w) : Calls Tryz.prog 177 #[.int .u8 x] w fun e w' => e = .returned (.tuple #[.int .u8 (WX c).1, .bool (WX c).2]) ∧ Below w.heap.size w w' := by
  subst hx
  have hc := c.toNat_lt
  refine aC (args := [.int .u8 c.toNat]) Tryz.func177 rfl Tryz.ntmps177 (by simp) hμ ?_
  have h0 : WX c = if 48 ≤ c.toNat ∧ c.toNat ≤ 57 then ((c.toNat : Int) - 48, true) else if 97 ≤ c.toNat ∧ c.toNat ≤ 102 then ((c.toNat : Int) - 97 + 10, true) else if 65 ≤ c.toNat ∧ c.toNat ≤ 70 then ((c.toNat : Int) - 65 + 10, true) else (0, false) := by
    unfold WX pC
    by_cases h1 : 48 ≤ c.toNat ∧ c.toNat ≤ 57
    · rw [if_pos h1, if_pos h1]; dsimp only; congr 1; omega
    rw [if_neg h1, if_neg h1]
    by_cases h2 : 97 ≤ c.toNat ∧ c.toNat ≤ 102
    · rw [if_pos h2, if_pos h2]; dsimp only; congr 1; omega
    rw [if_neg h2, if_neg h2]
    by_cases h3 : 65 ≤ c.toNat ∧ c.toNat ≤ 70
    · rw [if_pos h3, if_pos h3]; dsimp only; congr 1; omega
    rw [if_neg h3, if_neg h3]
  rw [h0]
  by_cases h1 : 48 ≤ c.toNat ∧ c.toNat ≤ 57
  · rw [if_pos h1]
    repeat' (first | refine KK ?_ | refine KG ?_ | fail)
    all_goals exact bD rfl (by repeat first | exact aJ | refine aE (by exact aB rfl) ?_) rfl rfl
  rw [if_neg h1]
  by_cases h2 : 97 ≤ c.toNat ∧ c.toNat ≤ 102
  · rw [if_pos h2]
    repeat' (first | refine KK ?_ | refine KG ?_ | fail)
    all_goals exact bD rfl (by repeat first | exact aJ | refine aE (by exact aB rfl) ?_) rfl rfl
  rw [if_neg h2]
  by_cases h3 : 65 ≤ c.toNat ∧ c.toNat ≤ 70
  · rw [if_pos h3]
    repeat' (first | refine KK ?_ | refine KG ?_ | fail)
    all_goals exact bD rfl (by repeat first | exact aJ | refine aE (by exact aB rfl) ?_) rfl rfl
  rw [if_neg h3]
  repeat' (first | refine KK ?_ | (refine KB ?_ ?_ <;> intro hp) | refine KG ?_ | fail)
  all_goals exact bD rfl (by repeat first | exact aJ | refine aE (by exact aB rfl) ?_) rfl rfl
theorem sW {x : Int} {c : UInt8} {d : Nat} (hx : x = c.toNat) (h : pC c = some d) (w : World) (μ : Mem) (hμ : MOk μ w) : Calls Tryz.prog 177 #[.int .u8 x] w fun e w' => e = .returned (.tuple #[.int .u8 d, .bool true]) ∧ Below w.heap.size w w' := by
  have := uM x c hx w μ hμ
  unfold WX at this
  rw [h] at this
  exact this
theorem LW {x : Int} {c : UInt8} (hx : x = c.toNat) (h : pC c = none) (w : World) (μ : Mem) (hμ : MOk μ w) : Calls Tryz.prog 177 #[.int .u8 x] w fun e w' => e = .returned (.tuple #[.int .u8 0, .bool false]) ∧ Below w.heap.size w w' := by
  have := uM x c hx w μ hμ
  unfold WX at this
  rw [h] at this
  exact this
theorem MF (s : ByteArray) (hs : s.size ≤ 1000000) (k : Nat) (hk : k ≤ s.size) (w : World) (μ : Mem) (hμ : MOk μ w) :
    Calls Tryz.prog 168 #[.string s, .int .i64 k] w fun e w' => e = .returned (.tuple (rC s.size (rH ((bl s).drop k))).toArray) ∧ Below w.heap.size w w' := by
  refine aC (args := [.string s, .int .i64 k]) Tryz.func168 rfl Tryz.ntmps168 (by simp) hμ ?_
  by_cases h0 : k < s.size
  · obtain ⟨c, hb1, hb2⟩ := gY h0
    rw [mH hb1]
    unfold rH
    dsimp only
    cases hc : pC c with
    | none =>
      repeat' (first | refine KO ?_ | fail)
      refine fQ 2 ?_
      repeat' (first | refine KO ?_ | ((with_reducible apply F1 177); exact rfl; exact EN; (exact fun w μc hw hse => LW hb2 hc w μc hw)) | (refine KV (b := by exact U2 k) (c := ?_)) | refine KI ?_ | fail)
      exact bD rfl (by repeat first | exact aJ | refine aE (by exact aB rfl) ?_) rfl rfl
    | some x =>
      have hx := vO hc
      dsimp only
      by_cases h1 : k + 1 < s.size
      · obtain ⟨g, hg1, hg2⟩ := gY h1
        rw [mH hg1]
        dsimp only
        cases hg : pC g with
        | none =>
          repeat' (first | refine KO ?_ | fail)
          refine fQ 2 ?_
          repeat' (first | (with_reducible apply nA) | refine KO ?_ | ((with_reducible apply F1 177); exact rfl; exact EN; first | (exact fun w μc hw hse => sW hb2 hc w μc hw) | (exact fun w μc hw hse => LW hg2 hg w μc hw)) | (refine KV (b := by first | exact U2 k | exact U2 (k + 1) | ((with_reducible apply MQ); exact rfl; omega) | ((with_reducible apply RF 0); exact rfl; exact rfl; (rfl); omega; omega)) (c := ?_)) | refine KI ?_ | fail)
          exact bD rfl (by repeat first | exact aJ | refine aE (by exact aB rfl) ?_) rfl rfl
        | some y =>
          have hy := vO hg
          have hE : rC s.size (.ok (UInt8.ofNat (16 * x + y), (bl s).drop (k + 1 + 1))) = [.int .u8 ((x : Int) * 16 + y), .int .i64 ((k : Int) + 2), .int .i64 0] := by
            unfold rC
            dsimp only
            rw [rK, UInt8.toNat_ofNat', show (((16 * x + y) % 2 ^ 8 : Nat) : Int) = (x : Int) * 16 + y by omega, show ((s.size - (s.size - (k + 1 + 1)) : Nat) : Int) = (k : Int) + 2 by omega]
          rw [hE]
          repeat' (first | refine KO ?_ | fail)
          refine fQ 2 ?_
          repeat' (first | (with_reducible apply nA) | refine KO ?_ | ((with_reducible apply F1 177); exact rfl; exact EN; first | (exact fun w μc hw hse => sW hb2 hc w μc hw) | (exact fun w μc hw hse => sW hg2 hg w μc hw)) | (refine KV (b := by first | exact U2 k | exact U2 (k + 1) | ((with_reducible apply MQ); exact rfl; omega) | ((with_reducible apply RF 0); exact rfl; exact rfl; (rfl); omega; omega) | ((with_reducible apply RF x); exact rfl; exact rfl; (omega); omega; omega)) (c := ?_)) | refine KI ?_ | fail)
          exact bD rfl (by repeat first | exact aJ | refine aE (by exact aB rfl) ?_) rfl rfl
      · have hd : (bl s).drop (k + 1) = [] := List.drop_eq_nil_of_le (by rw [aZ]; omega)
        rw [hd]
        repeat' (first | refine KO ?_ | fail)
        refine fQ 2 ?_
        repeat' (first | (with_reducible apply nA) | refine KO ?_ | ((with_reducible apply F1 177); exact rfl; exact EN; (exact fun w μc hw hse => sW hb2 hc w μc hw)) | (refine KV (b := by first | exact U2 k | ((with_reducible apply MQ); exact rfl; omega) | ((with_reducible apply RF 0); exact rfl; exact rfl; (rfl); omega; omega)) (c := ?_)) | refine KI ?_ | fail)
        exact bD rfl (by repeat first | exact aJ | refine aE (by exact aB rfl) ?_) rfl rfl
  · have hd : (bl s).drop k = [] := List.drop_eq_nil_of_le (by rw [aZ]; omega)
    rw [hd]
    repeat' (first | refine KK ?_ | fail)
    refine fQ 2 ?_
    repeat' (first | refine KK ?_ | fail)
    exact bD rfl (by repeat first | exact aJ | refine aE (by exact aB rfl) ?_) rfl rfl
theorem LP (s : ByteArray) (hs : s.size ≤ 1000000) (k : Nat) (hk : k < s.size) (w : World) (μ : Mem) (hμ : MOk μ w) :
    Calls Tryz.prog 152 #[.string s, .int .i64 k] w fun e w' => e = .returned (.tuple (rC s.size (sS ((bl s).drop (k + 1)))).toArray) ∧ Below w.heap.size w w' := by
  refine aC (args := [.string s, .int .i64 k]) Tryz.func152 rfl Tryz.ntmps152 (by simp) hμ ?_
  by_cases h0 : k + 1 < s.size
  · obtain ⟨c, hb1, hb2⟩ := gY h0
    rw [mH hb1]
    have hn : ∀ n : UInt8, (c = n) = (c.toNat = n.toNat) := fun n => propext UInt8.toNat_inj.symm
    have hq : sS (c :: (bl s).drop (k + 1 + 1)) = if c.toNat = 110 then .ok (10, (bl s).drop (k + 1 + 1)) else if c.toNat = 116 then .ok (9, (bl s).drop (k + 1 + 1)) else if c.toNat = 114 then .ok (13, (bl s).drop (k + 1 + 1)) else if c.toNat = 48 then .ok (0, (bl s).drop (k + 1 + 1))
        else if c.toNat = 92 ∨ c.toNat = 39 ∨ c.toNat = 34 ∨ c.toNat = 96 ∨ c.toNat = 36 then .ok (c, (bl s).drop (k + 1 + 1)) else if c.toNat = 120 then rH ((bl s).drop (k + 1 + 1)) else .error 21 := by
      unfold sS
      simp only [hn]
      rfl
    have hE : ∀ b : UInt8, rC s.size (.ok (b, (bl s).drop (k + 1 + 1))) = [.int .u8 b.toNat, .int .i64 ((k : Int) + 2), .int .i64 0] := fun b => by
      unfold rC
      dsimp only
      rw [rK, show ((s.size - (s.size - (k + 1 + 1)) : Nat) : Int) = (k : Int) + 2 by omega]
    rw [hq]
    by_cases h110 : c.toNat = 110
    · rw [if_pos h110, hE]
      repeat' (first | refine KO ?_ | (refine KV (b := by exact U2 (k + 1)) (c := ?_)) | refine KI ?_ | fail)
      all_goals exact bD rfl (by repeat first | exact aJ | refine aE (by exact aB rfl) ?_) rfl rfl
    rw [if_neg h110]
    by_cases h116 : c.toNat = 116
    · rw [if_pos h116, hE]
      repeat' (first | refine KO ?_ | (refine KV (b := by exact U2 (k + 1)) (c := ?_)) | refine KI ?_ | fail)
      all_goals exact bD rfl (by repeat first | exact aJ | refine aE (by exact aB rfl) ?_) rfl rfl
    rw [if_neg h116]
    by_cases h114 : c.toNat = 114
    · rw [if_pos h114, hE]
      repeat' (first | refine KO ?_ | (refine KV (b := by exact U2 (k + 1)) (c := ?_)) | refine KI ?_ | fail)
      all_goals exact bD rfl (by repeat first | exact aJ | refine aE (by exact aB rfl) ?_) rfl rfl
    rw [if_neg h114]
    by_cases h48 : c.toNat = 48
    · rw [if_pos h48, hE]
      repeat' (first | refine KO ?_ | (refine KV (b := by exact U2 (k + 1)) (c := ?_)) | refine KI ?_ | fail)
      all_goals exact bD rfl (by repeat first | exact aJ | refine aE (by exact aB rfl) ?_) rfl rfl
    rw [if_neg h48]
    by_cases hc : c.toNat = 92 ∨ c.toNat = 39 ∨ c.toNat = 34 ∨ c.toNat = 96 ∨ c.toNat = 36
    · rw [if_pos hc, hE, ← hb2]
      rcases hc with hc | hc | hc | hc | hc
      · repeat' (first | refine KO ?_ | (refine KV (b := by exact U2 (k + 1)) (c := ?_)) | refine KI ?_ | fail)
        all_goals exact bD rfl (by repeat first | exact aJ | refine aE (by exact aB rfl) ?_) rfl rfl
      · repeat' (first | refine KO ?_ | (refine KV (b := by exact U2 (k + 1)) (c := ?_)) | refine KI ?_ | fail)
        all_goals exact bD rfl (by repeat first | exact aJ | refine aE (by exact aB rfl) ?_) rfl rfl
      · repeat' (first | refine KO ?_ | (refine KV (b := by exact U2 (k + 1)) (c := ?_)) | refine KI ?_ | fail)
        all_goals exact bD rfl (by repeat first | exact aJ | refine aE (by exact aB rfl) ?_) rfl rfl
      · repeat' (first | refine KO ?_ | (refine KV (b := by exact U2 (k + 1)) (c := ?_)) | refine KI ?_ | fail)
        all_goals exact bD rfl (by repeat first | exact aJ | refine aE (by exact aB rfl) ?_) rfl rfl
      · repeat' (first | refine KO ?_ | (refine KV (b := by exact U2 (k + 1)) (c := ?_)) | refine KI ?_ | fail)
        all_goals exact bD rfl (by repeat first | exact aJ | refine aE (by exact aB rfl) ?_) rfl rfl
    rw [if_neg hc]
    by_cases h120 : c.toNat = 120
    · rw [if_pos h120]
      have hbb := fun (w : World) (μ : Mem) (hμ : MOk μ w) => MF s hs (k + 1 + 1) (by omega) w μ hμ
      have hk2 : ((k : Int) + 2) = ((k + 1 + 1 : Nat) : Int) := by omega
      cases hx : rH ((bl s).drop (k + 1 + 1)) with
      | error e =>
        rw [hx] at hbb
        unfold rC at hbb ⊢
        dsimp only at hbb ⊢
        repeat' (first | refine KO ?_ | ((with_reducible apply F1 168); exact rfl; exact EN; (exact fun w μc hw hse => by rw [hk2]; exact hbb w μc hw)) | (refine KV (b := by exact U2 (k + 1)) (c := ?_)) | refine KI ?_ | fail)
        all_goals exact bD rfl (by repeat first | exact aJ | refine aE (by exact aB rfl) ?_) rfl rfl
      | ok p =>
        obtain ⟨b0, u0⟩ := p
        rw [hx] at hbb
        unfold rC at hbb ⊢
        dsimp only at hbb ⊢
        repeat' (first | refine KO ?_ | ((with_reducible apply F1 168); exact rfl; exact EN; (exact fun w μc hw hse => by rw [hk2]; exact hbb w μc hw)) | (refine KV (b := by exact U2 (k + 1)) (c := ?_)) | refine KI ?_ | fail)
        all_goals exact bD rfl (by repeat first | exact aJ | refine aE (by exact aB rfl) ?_) rfl rfl
    rw [if_neg h120]
    repeat' (first | refine KO ?_ | (refine KV (b := by exact U2 (k + 1)) (c := ?_)) | refine KI ?_ | fail)
    all_goals exact bD rfl (by repeat first | exact aJ | refine aE (by exact aB rfl) ?_) rfl rfl
  · have hd : (bl s).drop (k + 1) = [] := List.drop_eq_nil_of_le (by rw [aZ]; omega)
    rw [hd]
    repeat' (first | refine KK ?_ | fail)
    all_goals exact bD rfl (by repeat first | exact aJ | refine aE (by exact aB rfl) ?_) rfl rfl
theorem WD (s : ByteArray) (hs : s.size ≤ 1000000) (k : Nat) (c : UInt8) (hk : k < s.size) (hb1 : (bl s)[k]? = some c) (hb2 : bAt s k = c.toNat) (w : World) (μ : Mem) (hμ : MOk μ w) :
    Calls Tryz.prog 128 #[.string s, .int .i64 k] w fun e w' => e = .returned (.tuple (rC s.size (oE c ((bl s).drop (k + 1)))).toArray) ∧ Below w.heap.size w w' := by
  refine aC (args := [.string s, .int .i64 k]) Tryz.func128 rfl Tryz.ntmps128 (by simp) hμ ?_
  by_cases h92 : c.toNat = 92
  · have hc : c = 92 := UInt8.toNat_inj.1 h92
    have hes := fun (w : World) (μ : Mem) (hμ : MOk μ w) => LP s hs k hk w μ hμ
    unfold oE
    rw [if_pos hc]
    cases hx : sS ((bl s).drop (k + 1)) with
    | error e =>
      rw [hx] at hes
      unfold rC at hes ⊢
      dsimp only at hes ⊢
      repeat' (first | refine KO ?_ | ((with_reducible apply F1 152); exact rfl; exact EN; (exact fun w μc hw hse => hes w μc hw)) | (refine KV (b := by exact U2 k) (c := ?_)) | fail)
      all_goals exact bD rfl (by repeat first | exact aJ | refine aE (by exact aB rfl) ?_) rfl rfl
    | ok p =>
      obtain ⟨b0, u0⟩ := p
      rw [hx] at hes
      unfold rC at hes ⊢
      dsimp only at hes ⊢
      repeat' (first | refine KO ?_ | ((with_reducible apply F1 152); exact rfl; exact EN; (exact fun w μc hw hse => hes w μc hw)) | (refine KV (b := by exact U2 k) (c := ?_)) | fail)
      all_goals exact bD rfl (by repeat first | exact aJ | refine aE (by exact aB rfl) ?_) rfl rfl
  · have hc : ¬ c = 92 := fun h => h92 (by rw [h]; rfl)
    have hE : rC s.size (oE c ((bl s).drop (k + 1))) = [.int .u8 c.toNat, .int .i64 ((k : Int) + 1), .int .i64 0] := by
      unfold oE
      rw [if_neg hc]
      unfold rC
      dsimp only
      rw [rK, show ((s.size - (s.size - (k + 1)) : Nat) : Int) = (k : Int) + 1 by omega]
    rw [hE, ← hb2]
    repeat' (first | refine KO ?_ | (refine KV (b := by exact U2 k) (c := ?_)) | refine KI ?_ | fail)
    all_goals exact bD rfl (by repeat first | exact aJ | refine aE (by exact aB rfl) ?_) rfl rfl
end
section
open Go.RowKit Go.Vcg Ou
open Go.Lib (byteCells)
theorem aAf {l : List UInt8} {b : UInt8} {u : List UInt8} (h : rH l = .ok (b, u)) : u.length ≤ l.length := by
  unfold rH at h
  repeat' split at h
  all_goals first | cases h | skip
  all_goals (simp; omega)
theorem aAu {l : List UInt8} {b : UInt8} {u : List UInt8} (h : sS l = .ok (b, u)) : u.length ≤ l.length := by
  unfold sS at h
  split at h
  · cases h
  repeat' split at h
  all_goals first | (cases h; done) | (cases h; simp; done) | (have := aAf h; simp; omega)
theorem xW {c : UInt8} {l : List UInt8} {b : UInt8} {u : List UInt8} (h : oE c l = .ok (b, u)) : u.length ≤ l.length := by
  unfold oE at h
  split at h
  · exact aAu h
  · cases h; exact Nat.le_refl _
theorem aAe {l : List UInt8} {b : UInt8} {u : List UInt8} (h : rH l = .ok (b, u)) : ∃ n, u = l.drop n := by
  unfold rH at h
  repeat' split at h
  all_goals first | (cases h; done) | skip
  all_goals (cases h; exact ⟨2, rfl⟩)
theorem xV {c : UInt8} {l : List UInt8} {b : UInt8} {u : List UInt8} (h : oE c l = .ok (b, u)) : ∃ n, u = l.drop n := by
  unfold oE at h
  split at h
  · unfold sS at h
    split at h
    · cases h
    repeat' split at h
    all_goals first | (cases h; done) | (cases h; exact ⟨1, rfl⟩) | (obtain ⟨n, hn⟩ := aAe h; exact ⟨n + 1, hn⟩)
  · cases h; exact ⟨0, rfl⟩
theorem aAg {l : List UInt8} {e : Int} (h : rH l = .error e) : ¬ e = 0 := by
  unfold rH at h
  repeat' split at h
  all_goals (cases h; try decide)
theorem xX {c : UInt8} {l : List UInt8} {e : Int} (h : oE c l = .error e) : ¬ e = 0 := by
  unfold oE at h
  split at h
  · unfold sS at h
    split at h
    · cases h; decide
    repeat' split at h
    all_goals first | exact aAg h | (cases h; try decide)
  · cases h
theorem pZ (q : UInt8) : ∀ (f f' : Nat) (l out : List UInt8), l.length < f → l.length < f' → oF q f l out = oF q f' l out
  | 0, _, _, _, h, _ => by omega
  | _, 0, _, _, _, h => by omega
  | f + 1, f' + 1, [], out, _, _ => rfl
  | f + 1, f' + 1, c :: r, out, h, h' => by
    rw [List.length_cons] at h h'
    unfold oF
    split
    · rfl
    split
    · rfl
    split
    · rfl
    · rename_i b u hu
      have := xW hu
      split
      · rfl
      · exact pZ q f f' u _ (by omega) (by omega)
def iV (n : Nat) (r : Except Int (List UInt8 × List UInt8)) : List Value := match r with
  | .ok (t, u) => [.string (ofB t), .int .i64 ((n - u.length : Nat) : Int), .int .i64 0]
  | .error e => [.string ⟨#[]⟩, .int .i64 0, .int .i64 e]
attribute [local irreducible] G GC GQ GA bO Calls IntKind.wrap Int.decLt Int.decLe
theorem yJ (s : ByteArray) (hs : s.size ≤ 1000000) (w : World) (μ : Mem) (hμ : MOk μ w) :
    Calls Tryz.prog 94 #[.string s, .int .i64 0] w fun e w' => e = .returned (.tuple (iV s.size (eQ (bl s))).toArray) ∧ Below w.heap.size w w' := by
  refine aC (args := [.string s, .int .i64 0]) Tryz.func94 rfl Tryz.ntmps94 (by simp) hμ ?_
  by_cases h0 : 0 < s.size
  · obtain ⟨q, hq1, hq2⟩ := gY h0
    have hl : bl s = q :: (bl s).drop 1 := by have := mH hq1; rwa [List.drop_zero] at this
    by_cases hq : q.toNat = 34 ∨ q.toNat = 39
    · have hq' : q = 34 ∨ q = 39 := hq.imp (fun h => UInt8.toNat_inj.1 h) (fun h => UInt8.toNat_inj.1 h)
      obtain ⟨res, hres⟩ : ∃ res, eQ (bl s) = res := ⟨_, rfl⟩
      rw [hres]
      rw [hl] at hres
      unfold eQ at hres
      dsimp only at hres
      rw [if_pos hq'] at hres
      rw [pZ q _ (((bl s).drop 1).length + 1) _ _ (Nat.lt_succ_self _) (Nat.lt_succ_self _)] at hres
      rcases hq with hq | hq
      all_goals
        repeat' (first | refine KO ?_ | (refine KV (b := by exact U2 0) (c := ?_)) | refine KI ?_ | refine KG ?_ | fail)
        refine TO 5 1 ?_
        refine aX (ι := Nat × List UInt8 × Value) (fun i => 1 ≤ i.1 ∧ i.1 ≤ s.size ∧ i.2.1.length ≤ 65536 ∧ oF q (((bl s).drop i.1).length + 1) ((bl s).drop i.1) i.2.1 = res) (fun i => s.size - i.1) (fun _ => μ)
          (fun i => [(0, .string s), (1, .int .i64 0), (7, i.2.2), (8, .int .i64 i.1)]) (fun i => [.inr ⟨i.2.2, 5, 1, i.2.1.length, byteCells i.2.1⟩]) (1, [], .slice none 0 0) ⟨Nat.le_refl _, h0, by simp, hres⟩ (fun a w hs => J5 hs) ?_
        rintro ⟨i, out, v⟩ ⟨h1, h2, h3, hrun⟩
        dsimp only at h1 h2 h3 hrun ⊢
        by_cases hlt : i < s.size
        · obtain ⟨c, hb1, hb2⟩ := gY hlt
          have hone := fun (w : World) (μ : Mem) (hμ : MOk μ w) => WD s hs i c hlt hb1 hb2 w μ hμ
          have hdl := rK s (i + 1)
          rw [mH hb1, oF] at hrun
          refine nB 0 rfl ?_
          rintro A cap rfl hok
          repeat' (first | refine KK ?_ | fail)
          refine aN 7 _ (by kernel_rfl) rfl (List.Sublist.cons_cons _ (List.nil_sublist _)) ?_
          all_goals refine DD 0 ?_
          all_goals refine DD 1 ?_
          all_goals (first | (refine DV (k := 2) (b := by exact U2 i) (c := ?_)) | fail)
          all_goals refine DD 3 ?_
          all_goals refine DD 4 ?_
          all_goals (first | (refine DV (k := 5) (b := by exact U2 0) (c := ?_)) | fail)
          all_goals (first | refine D1 6 ?_ | fail)
          all_goals refine D8 ?_
          by_cases hcq : c.toNat = q.toNat
          · have hcq' : c = q := UInt8.toNat_inj.1 hcq
            rw [if_pos hcq'] at hrun
            subst hrun
            have hE : iV s.size (.ok (out, (bl s).drop (i + 1))) = [.string ⟨out.toArray⟩, .int .i64 ((i : Int) + 1), .int .i64 0] := by
              unfold iV
              dsimp only
              rw [hdl, show ((s.size - (s.size - (i + 1)) : Nat) : Int) = (i : Int) + 1 by omega]
              rfl
            rw [hE]
            repeat' (first | refine KO ?_ | (refine KV (b := by ((with_reducible apply HH 0); (iterate 5 exact rfl))) (c := ?_)) | refine KI ?_ | fail)
            all_goals exact bD rfl (by repeat first | exact aJ | refine aE (by exact aB rfl) ?_) rfl rfl
          · have hcq' : ¬ c = q := fun h => hcq (by rw [h])
            rw [if_neg hcq'] at hrun
            by_cases h10 : c.toNat = 10 ∨ c.toNat = 13
            · rw [if_pos (h10.imp (fun h => UInt8.toNat_inj.1 h) (fun h => UInt8.toNat_inj.1 h))] at hrun
              subst hrun
              unfold iV
              dsimp only
              rcases h10 with h10 | h10
              all_goals repeat' (first | refine KO ?_ | (refine KV (b := by exact U2 i) (c := ?_)) | refine KG ?_ | fail)
              all_goals exact bD rfl (by repeat first | exact aJ | refine aE (by exact aB rfl) ?_) rfl rfl
            · rw [if_neg (fun h => h10 (h.imp (fun h => by rw [h]; rfl) (fun h => by rw [h]; rfl)))] at hrun
              cases ho : oE c ((bl s).drop (i + 1)) with
              | error e =>
                have he := xX ho
                rw [ho] at hrun hone
                dsimp only at hrun
                subst hrun
                unfold rC at hone
                dsimp only at hone
                unfold iV
                dsimp only
                repeat' (first | refine KO ?_ | ((with_reducible apply F1 128); exact rfl; exact EN; (exact fun w μc hw hse => hone w μc hw)) | (refine KV (b := by exact U2 i) (c := ?_)) | refine KG ?_ | fail)
                all_goals exact bD rfl (by repeat first | exact aJ | refine aE (by exact aB rfl) ?_) rfl rfl
              | ok p =>
                obtain ⟨b0, u0⟩ := p
                have hul := xW ho
                rw [ho] at hrun hone
                dsimp only at hrun
                unfold rC at hone
                dsimp only at hone
                by_cases hlong : 65536 < out.length + 1
                · rw [if_pos hlong] at hrun
                  subst hrun
                  unfold iV
                  dsimp only
                  repeat' (first | refine KO ?_ | ((with_reducible apply F1 128); exact rfl; exact EN; (exact fun w μc hw hse => hone w μc hw)) | (((with_reducible apply lI); (iterate 3 exact rfl); (repeat first | with_reducible exact cF | with_reducible apply cQ); (iterate 6 exact rfl); (((with_reducible apply eZ); exact rfl; (repeat with_reducible exact bG); exact rfl)); (exact rfl); ((exact dP (by (repeat first | with_reducible exact bH | ((with_reducible apply aU); (exact rfl)))))); omega; omega; intro v; ((with_reducible apply jM 1); exact rfl); (rintro A2 cap2 rfl))) | (refine KV (b := by exact U2 i) (c := ?_)) | refine NB fun b => ?_ | refine KG ?_ | fail)
                  all_goals exact bD rfl (by repeat first | exact aJ | refine aE (by exact aB rfl) ?_) rfl rfl
                · rw [if_neg hlong] at hrun
                  have hud : u0 = (bl s).drop (s.size - u0.length) := by
                    obtain ⟨n, hn⟩ := xV ho
                    rw [List.drop_drop] at hn
                    rw [hn, List.length_drop, aZ]
                    by_cases hm : i + 1 + n ≤ s.size
                    · rw [show s.size - (s.size - (i + 1 + n)) = i + 1 + n by omega]
                    · rw [List.drop_eq_nil_of_le (by rw [aZ]; omega), List.drop_eq_nil_of_le (by rw [aZ]; omega)]
                  repeat' (first | refine KO ?_ | ((with_reducible apply F1 128); exact rfl; exact EN; (exact fun w μc hw hse => hone w μc hw)) | (((with_reducible apply lI); (iterate 3 exact rfl); (repeat first | with_reducible exact cF | with_reducible apply cQ); (iterate 6 exact rfl); (((with_reducible apply eZ); exact rfl; (repeat with_reducible exact bG); exact rfl)); (exact rfl); ((exact dP (by (repeat first | with_reducible exact bH | ((with_reducible apply aU); (exact rfl)))))); omega; omega; intro v; ((with_reducible apply jM 1); exact rfl); (rintro A2 cap2 rfl))) | (refine KV (b := by exact U2 i) (c := ?_)) | refine NB fun b => ?_ | refine KG ?_ | fail)
                  all_goals try (exfalso; omega)
                  all_goals refine dQ (n' := (out ++ [b0]).length) (xs' := byteCells (out ++ [b0])) 1 rfl (by simp) (by rw [gX]; rfl) ?_
                  all_goals refine J2 (s.size - u0.length, out ++ [b0], .slice A2 (out.length + 1) cap2) ⟨by dsimp only; omega, by dsimp only; omega, by dsimp only; simp; omega, ?_⟩ (by dsimp only; omega)
                  all_goals
                    dsimp only
                    rw [← hud]
                    rw [pZ q _ _ _ _ (Nat.lt_succ_self _) (show u0.length < ((bl s).drop (i + 1)).length + 1 by omega)]
                    exact hrun
        · have hi : (bl s).drop i = [] := List.drop_eq_nil_of_le (by rw [aZ]; omega)
          rw [hi] at hrun
          have : res = .error 8 := hrun.symm
          subst this
          unfold iV
          dsimp only
          repeat' (first | refine KK ?_ | fail)
          all_goals exact bD rfl (by repeat first | exact aJ | refine aE (by exact aB rfl) ?_) rfl rfl
    · have hE : eQ (bl s) = .error 1 := by
        rw [hl]
        unfold eQ
        dsimp only
        rw [if_neg (fun h => hq (h.imp (fun h => by rw [h]; rfl) (fun h => by rw [h]; rfl)))]
      rw [hE]
      unfold iV
      dsimp only
      repeat' (first | refine KO ?_ | (refine KV (b := by exact U2 0) (c := ?_)) | refine KG ?_ | fail)
      all_goals exact bD rfl (by repeat first | exact aJ | refine aE (by exact aB rfl) ?_) rfl rfl
  · have hE : eQ (bl s) = .error 1 := by
      have : bl s = [] := List.eq_nil_of_length_eq_zero (by rw [aZ]; omega)
      rw [this]; rfl
    rw [hE]
    unfold iV
    dsimp only
    repeat' (first | refine KK ?_ | refine KG ?_ | fail)
    all_goals exact bD rfl (by repeat first | exact aJ | refine aE (by exact aB rfl) ?_) rfl rfl
end
section
open Go.RowKit Go.Vcg Ou
theorem sG {a b : List UInt8} (h : ofB a = ofB b) : a = b := by rw [← dG a, h, dG]
theorem LL (l : List UInt8) (k : Nat) : (ofB l).extract 0 k = ofB (l.take k) := lF (by rw [bX, fV, fV, List.drop_zero, Nat.sub_zero])
theorem sQ (l : List UInt8) (k : Nat) : (ofB l).extract k (ofB l).size = ofB (l.drop k) := lF (by rw [bX, fV, fV, bF, List.take_of_length_le (by rw [List.length_drop]; omega)])
theorem KJ (q : UInt8) : ∀ (f : Nat) (l out t u : List UInt8), oF q f l out = .ok (t, u) → ∃ n, n ≤ l.length ∧ u = l.drop n
  | 0, _, _, _, _, h => by cases h
  | _ + 1, [], _, _, _, h => by cases h
  | f + 1, c :: r, out, t, u, h => by
    unfold oF at h
    split at h
    · cases h; exact ⟨1, by simp, rfl⟩
    split at h
    · cases h
    split at h
    · cases h
    · rename_i b u0 ho
      split at h
      · cases h
      · obtain ⟨n, hn, rfl⟩ := KJ q f u0 _ t u h
        obtain ⟨m, rfl⟩ := xV ho
        rw [List.length_drop] at hn
        by_cases hm : m ≤ r.length
        · exact ⟨m + n + 1, by rw [List.length_cons]; omega, by rw [List.drop_drop]; rfl⟩
        · have h0 : n = 0 := by omega
          subst h0
          refine ⟨r.length + 1, by simp, ?_⟩
          rw [List.drop_zero, List.drop_eq_nil_of_le (by omega), List.drop_eq_nil_of_le (by simp)]
theorem CG {l t u : List UInt8} (h : eQ l = .ok (t, u)) : u = l.drop (l.length - u.length) ∧ u.length ≤ l.length := by
  unfold eQ at h
  split at h
  · cases h
  · rename_i q r
    split at h
    · obtain ⟨n, hn, rfl⟩ := KJ _ _ _ _ _ _ h
      rw [List.length_drop, List.length_cons]
      refine ⟨?_, by omega⟩
      rw [show r.length + 1 - (r.length - n) = n + 1 by omega]
      rfl
    · cases h
theorem KL (q : UInt8) : ∀ (f : Nat) (l out : List UInt8) (e : Int), oF q f l out = .error e → ¬ e = 0
  | 0, _, _, _, h => by cases h; decide
  | _ + 1, [], _, _, h => by cases h; decide
  | f + 1, c :: r, out, e, h => by
    unfold oF at h
    split at h
    · cases h
    split at h
    · cases h; decide
    split at h
    · rename_i e' ho
      cases h
      exact xX ho
    · split at h
      · cases h; decide
      · exact KL q f _ _ e h
theorem CI {l : List UInt8} {e : Int} (h : eQ l = .error e) : ¬ e = 0 := by
  unfold eQ at h
  split at h
  · cases h; decide
  · split at h
    · exact KL _ _ _ _ _ h
    · cases h; decide
theorem rA {l t u : List UInt8} (h : nP l = some (t, u)) : eQ l = .ok (t, u) ∧ dO t ++ u = l ∧ t.length ≤ 65536 := by
  obtain ⟨h1, h2⟩ := sC h
  refine ⟨?_, h1, h2⟩
  rw [← h1]
  exact IM t u h2
theorem CH {l t u : List UInt8} (h : eQ l = .ok (t, u)) : t.length ≤ 65536 := by
  unfold eQ at h
  split at h
  · cases h
  · split at h
    · exact yM _ _ _ _ _ (by simp) h
    · cases h
attribute [local irreducible] G GC GQ GA bO Calls IntKind.wrap Int.decLt Int.decLe
theorem KC {l t u : List UInt8} (h : eQ l = .ok (t, u)) (hl : l.length ≤ 1000000) (w : World) (μ : Mem) (hμ : MOk μ w) :
    Calls Tryz.prog 94 #[.string (ofB l), .int .i64 0] w fun e w' => e = .returned (.tuple #[.string (ofB t), .int .i64 ((l.length - u.length : Nat) : Int), .int .i64 0]) ∧ Below w.heap.size w w' := by
  have := yJ (ofB l) (by rw [bF]; exact hl) w μ hμ
  rw [fV, h, bF] at this
  exact this
theorem ZS {l : List UInt8} {e : Int} (h : eQ l = .error e) (hl : l.length ≤ 1000000) (w : World) (μ : Mem) (hμ : MOk μ w) :
    Calls Tryz.prog 94 #[.string (ofB l), .int .i64 0] w fun en w' => en = .returned (.tuple #[.string ⟨#[]⟩, .int .i64 0, .int .i64 e]) ∧ Below w.heap.size w w' := by
  have := yJ (ofB l) (by rw [bF]; exact hl) w μ hμ
  rw [fV, h, bF] at this
  exact this
theorem IS (t : List UInt8) (ht : t.length ≤ 65536) (w : World) (μ : Mem) (hμ : MOk μ w) :
    Calls Tryz.prog 41 #[.string (ofB t)] w fun e w' => e = .returned (.string (ofB (dO t))) ∧ Below w.heap.size w w' := by
  have := KD (ofB t) (by rw [bF]; omega) w μ hμ
  rw [dG] at this
  exact this
theorem yQ {l t : List UInt8} (h : cE l = some t) : nP l = some (t, []) := by
  unfold cE at h
  split at h
  · rename_i t' hq; cases h; exact hq
  · cases h
end
end Go.Proofs.YtoclmkdfcafhfaaGreatDoor
