/- strings.Join of lines. (and what leans on it). No statement of the seat is proved here. -/
import Derived.Test.YtmihpkdhfomcgaaGreatDoorMj
import Derived.Lib.Join
import Derived.Test.YtmihpkdhfomcgaaGreatDoorMf
import Derived.Test.YtmihpkdhfomcgaaGreatDoorSt
set_option maxRecDepth 20000
set_option maxHeartbeats 2000000
namespace Go.Proofs.YtmihpkdhfomcgaaGreatDoor
open Go.RowKit Go.Vcg Go.Shelf Ou
abbrev encL (l : List UInt8) : List Value := [.string (ofB l)]
theorem bExtraJ : Builder.Extra Tryz.prog Tryz.lays156_ren := {
  sizeBuilder := by kernel_rfl
  liesBuilder := by kernel_rfl
  t5 := by kernel_rfl
  a5 := Go.Vcg.run_isAgg (by kernel_rfl)
  z5 := Go.Vcg.run_sizeOf (by kernel_rfl)
  v5 := Go.Vcg.run_zeroValue (by kernel_rfl)
  infoByte := by kernel_rfl
  cellsByte := by kernel_rfl
  sizeByte := by kernel_rfl
  neB5 := by decide }
theorem joinL {μ : Mem} {A : Option Addr} {n c : Nat} {ws : List (List UInt8)} (hS : Sl encL 1 μ A n ws) (hc : n ≤ c) (hn : 0 < n) (hnb : n ≤ 200000) (hl : (Lib.join ws [10]).length ≤ 140737488355328) (w : World) (hμ : MOk μ w) :
    Calls Tryz.prog 20 #[.slice A n c, .string ⟨#[10]⟩] w fun e w' => e = .returned (.string ⟨(Lib.join ws [10]).toArray⟩) ∧ Below w.heap.size w w' := by
  obtain ⟨a, rfl, ha⟩ := hS.2 hn
  have hlen := hS.1
  subst hlen
  obtain ⟨x0, hx0⟩ : ∃ x0, ws[0]? = some x0 := ⟨ws[0], List.getElem?_eq_getElem hn⟩
  obtain ⟨c0, t0, f0, h0, hsp, hc0⟩ := ha 0 x0 hx0 0 (.string ⟨x0.toArray⟩) rfl
  obtain ⟨bk, o, spt⟩ := a
  have hspt : spt = none := by
    cases spt with
    | none => rfl
    | some y => simp [Addr.add] at hsp
  subst hspt
  have hm : ∀ (j : Nat) (x : List UInt8), ws[j]? = some x → MCell μ ⟨bk, o + j, none⟩ (.string ⟨x.toArray⟩) := fun j x hx => by
    have := ha j x hx 0 (.string ⟨x.toArray⟩) rfl
    rw [add_add', add_lit, Nat.mul_one, Nat.add_zero] at this
    exact this
  obtain ⟨c0, t0, f0, h0, -, -⟩ := hm 0 x0 hx0
  have hcell : ∀ (j : Nat) x, (ws.map fun l => (⟨l.toArray⟩ : ByteArray))[j]? = some x → w.cell? ⟨bk, o + j, none⟩ = some (.string x) := fun j x hx => by
    rw [List.getElem?_map] at hx
    cases hw : ws[j]? with
    | none => rw [hw] at hx; cases hx
    | some l =>
      rw [hw] at hx
      cases hx
      obtain ⟨cs, t, f, h1, h2, h3⟩ := hm j l hw
      have h1' : w.heap[bk]? = some (.cells cs t f) := hμ _ _ h1
      have h3' : cs[o + j]? = some (.string ⟨l.toArray⟩) := h3
      simp [World.cell?, h1', h3']
  have hbk : bk < w.heap.size := (Array.getElem?_eq_some_iff.1 (hμ _ _ h0)).1
  have hmm : (ws.map fun l => (⟨l.toArray⟩ : ByteArray)).map (·.data.toList) = ws := by
    rw [List.map_map]
    exact List.map_id' ws
  have h := Any.strings_Join Tryz.lays156 bExtraJ bk o c (ws.map fun l => (⟨l.toArray⟩ : ByteArray)) ⟨#[10]⟩ w hcell hbk (by simp; omega) (by simpa using hc) (by rw [hmm]; exact hl)
  rw [hmm, List.length_map] at h
  exact h
end Go.Proofs.YtmihpkdhfomcgaaGreatDoor
namespace Go.Vcg
open Go.RowKit
section
variable {P : Program} {μ : Mem} {l : Slots} {L : List Bk} {ds : Option Nat} {ty : TypeId} {pos : String} {af : Array Edge} {gd : Option (Nat × Bool)}
open Go.Proofs.YtmihpkdhfomcgaaGreatDoor.Ou
theorem v_addL {p q : Operand} {t t2 : TypeId} {a b : List UInt8} (h0 : ev l p = some (.string (ofB a))) (h1 : ev l q = some (.string (ofB b))) (hb : a.length + b.length ≤ 9000000000000000000) :
    Val P μ l L ⟨ds, .binOp .add t p q t2, ty, pos, af, gd⟩ (.string (ofB (a ++ b))) := by
  have h := v_sadd (P := P) (μ := μ) (L := L) (ds := ds) (ty := ty) (pos := pos) (af := af) (gd := gd) (t := t) (t2 := t2) h0 h1 (by
    have e : ∀ l : List UInt8, (ofB l).size = l.length := fun l => by simp [ofB, ByteArray.size]
    rw [e, e]; omega)
  have e : ofB a ++ ofB b = ofB (a ++ b) := by
    apply byS_inj
    rw [byS_ofB]
    show ((ofB a) ++ (ofB b)).data.toList = _
    rw [ByteArray.data_append]
    simp [ofB]
  rw [← e]
  exact h
end
end Go.Vcg
namespace Go.Proofs.YtmihpkdhfomcgaaGreatDoor
open Go.RowKit Go.Vcg Ou
theorem q1_ge (c : UInt8) : 1 ≤ (q1 c).length := by
  unfold q1
  repeat' split
  all_goals simp
theorem flat_q1 : ∀ l : List UInt8, l.length ≤ (l.flatMap q1).length
  | [] => by simp
  | c :: r => by
    have := flat_q1 r
    have := q1_ge c
    rw [List.flatMap_cons, List.length_append, List.length_cons]
    omega
theorem quote_ge (l : List UInt8) : l.length + 2 ≤ (quoteB l).length := by
  have := flat_q1 l
  unfold quoteB
  simp only [List.length_cons, List.length_append, List.length_nil]
  omega
theorem byS_len (s : ByteArray) : (byS s).length = s.size := rfl
theorem quote_b {s : ByteArray} (hb : (quoteB (byS s)).length ≤ 1000000000) (w : World) (μ : Mem) (hμ : MOk μ w) :
    Calls Tryz.prog 17 #[.string s] w fun e w' => e = .returned (.string (ofB (quoteB (byS s)))) ∧ Below w.heap.size w w' := by
  have h := quote_ge (byS s)
  rw [byS_len] at h
  exact lquote_spec s (by omega) w μ hμ
theorem digits_b {n : Int} (h : inB n) (w : World) (μ : Mem) (hμ : MOk μ w) (hT : TabOk μ) :
    Calls Tryz.prog 15 #[.int .i64 n] w fun e w' => e = .returned (.string (ofB (Lib.itoa n))) ∧ Below w.heap.size w w' := by
  rw [← textF_of h]
  exact digits_spec' n w μ hμ hT
attribute [local irreducible] G GC GQ GA GAop Calls IntKind.wrap Int.decLt Int.decLe quoteB
theorem keyText_spec (k : KeyP) (hk : inB k.n) (hb : (keyB k).length ≤ 1000000000) (w : World) (μ : Mem) (hμ : MOk μ w) (hT : TabOk μ) :
    Calls Tryz.prog 19 #[.agg (encK k).toArray] w fun e w' => e = .returned (.string (ofB (keyB k))) ∧ Below w.heap.size w w' := by
  refine call_intro (args := [.agg (encK k).toArray]) Tryz.func19 rfl Tryz.ntmps19 (by simp) hμ ?_
  by_cases h0 : k.kind = 0
  · have e : keyB k = [105, 110, 100, 101, 120, 32] ++ Lib.itoa k.n := by unfold keyB; rw [if_pos h0]
    rw [e, List.length_append] at hb
    rw [e]
    repeat' (first | refine KO ?_ | ((with_reducible apply F1 15); exact rfl; exact EN; (exact fun w μc hw hse => digits_b hk w μc hw (hT.mono hse.le))) | (refine KV (b := by first | ((with_reducible apply v_addL); exact rfl; exact rfl; (simp only [List.length_append, List.length_cons, List.length_nil]; omega))) (c := ?_)) | refine KI ?_ | refine NB fun b => ?_ | ((refine KB ?_ ?_ <;> intro hp)) | refine KG ?_ | fail)
    all_goals first | (exfalso; first | omega | contradiction) | exact ret_s rfl rfl rfl
  by_cases h1 : k.kind = 1
  · have e : keyB k = [116, 101, 120, 116, 32] ++ quoteB (byS k.s) := by unfold keyB; rw [if_neg h0, if_pos h1]
    rw [e, List.length_append] at hb
    rw [e]
    repeat' (first | refine KO ?_ | ((with_reducible apply F1 17); exact rfl; exact EN; (exact fun w μc hw hse => quote_b (by omega) w μc hw)) | (refine KV (b := by first | ((with_reducible apply v_addL); exact rfl; exact rfl; (simp only [List.length_append, List.length_cons, List.length_nil]; omega))) (c := ?_)) | refine KI ?_ | refine NB fun b => ?_ | ((refine KB ?_ ?_ <;> intro hp)) | refine KG ?_ | fail)
    all_goals first | (exfalso; first | omega | contradiction) | exact ret_s rfl rfl rfl
  · have e : keyB k = [115, 121, 109, 98, 111, 108, 32] ++ Lib.itoa k.n := by unfold keyB; rw [if_neg h0, if_neg h1]
    rw [e, List.length_append] at hb
    rw [e]
    repeat' (first | refine KO ?_ | ((with_reducible apply F1 15); exact rfl; exact EN; (exact fun w μc hw hse => digits_b hk w μc hw (hT.mono hse.le))) | (refine KV (b := by first | ((with_reducible apply v_addL); exact rfl; exact rfl; (simp only [List.length_append, List.length_cons, List.length_nil]; omega))) (c := ?_)) | refine KI ?_ | refine NB fun b => ?_ | ((refine KB ?_ ?_ <;> intro hp)) | refine KG ?_ | fail)
    all_goals first | (exfalso; first | omega | contradiction) | exact ret_s rfl rfl rfl
end Go.Proofs.YtmihpkdhfomcgaaGreatDoor
