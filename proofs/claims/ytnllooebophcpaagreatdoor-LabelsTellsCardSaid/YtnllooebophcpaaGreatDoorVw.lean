/- Rules for rows of the call's own that 'make' makes, and for bytes as a string. No statement of the seat is proved here. -/
import Derived.Test.YtnllooebophcpaaGreatDoorVm
import Derived.Deep.OwnRows
import Derived.Laws.IdiomStrings
set_option maxRecDepth 20000
namespace Go.Vcg
open Go.RowKit
section
variable {P : Program} {X : Ctx} {ops : Array Oper} {Q : Exit → Act → World → Prop} {rest : List Oper} {μ : Mem} {l : Slots} {L : List Bk} {a : Act} {w : World} {o : Oper} {d : Nat}
variable {ty : TypeId} {pos : String} {af : Array Edge} {gd : Option (Nat × Bool)} {ds : Option Nat}
theorem g_mkrow {t e : TypeId} {z : Value} {bytes : Nat} {p q : Operand} {x y : Int} (N : Nat) (xs : List Value) (hn : Nat.blt d X.n = true) (hw : wants ops l ⟨some d, .makeSlice t p q, ty, pos, af, gd⟩ = some true)
    (hp : ev l p = some (.int .i64 x)) (hq : ev l q = some (.int .i64 y)) (hx : x = (N : Int)) (hy : y = (N : Int)) (ht : P.underlying t = some (.slice e)) (hinfo : (P.info? e).map (fun i => (i.zero, i.size, i.bytes)) = some (some z, 1, bytes)) (hz1 : z.cells = #[z])
    (hbytes : bytes * N ≤ 281474976710656) (h63 : N ≤ 9223372036854775807) (hxs : xs = List.replicate N z)
    (h : ∀ b, G P X ops Q rest μ ((d, .slice (some ⟨b, 0, none⟩) N N) :: l) (.inr ⟨.slice (some ⟨b, 0, none⟩) N N, e, 1, N, xs⟩ :: L)) : G P X ops Q (⟨some d, .makeSlice t p q, ty, pos, af, gd⟩ :: rest) μ l L :=
  g_wp hw fun a w hs => by
    have e1 := hs.eval hp; have e2 := hs.eval hq
    have e0 : (execOp a.eval ⟨some d, .makeSlice t p q, ty, pos, af, gd⟩).run P w = .ok (.value (.slice (some ⟨w.heap.size, 0, none⟩) N N)) (w.alloc (.cells (madeCells #[z] N) e)) := by
      generalize a.eval = ρ at e1 e2
      subst hx hy
      simp [execOp, e1, e2, run_make_row' t e z bytes ht hinfo hz1 .i64 .i64 N hbytes h63 w]
    unfold Oper.wp
    rw [e0, Oper.upon_value]
    have hl : xs.length = N := by rw [hxs, List.length_replicate]
    refine h _ _ _ ((hs.newB _ (.inr ⟨.slice (some ⟨w.heap.size, 0, none⟩) N N, e, 1, N, xs⟩) rfl ?_).put hn _)
    refine ⟨by show xs.length = N * 1; omega, .inr ⟨w.heap.size, N, madeCells #[z] N, rfl, Nat.zero_le _, heap_alloc_new w _, Nat.le_refl _, h63, ?_, ?_⟩⟩
    · rw [size_madeCells]; exact (Nat.mul_one N).symm
    · rw [toList_madeCells_one, hxs, Nat.mul_one]
      exact List.take_of_length_le (by simp)
end
end Go.Vcg
