/- Rules for rows of the call's own that 'make' makes, and for bytes as a string. No statement of the seat is proved here. -/
import Derived.Test.YtnodfbjbcmkkhaaDoorVm
import Derived.Deep.OwnRows
import Derived.Laws.IdiomStrings
set_option maxRecDepth 20000
namespace Go.Vcg
open Go.RowKit
section
variable {P : Program} {X : Ctx} {ops : Array Oper} {Q : Exit → Act → World → Prop} {rest : List Oper} {μ : Mem} {l : Slots} {L : List Bk} {a : Act} {w : World} {o : Oper} {d : Nat}
variable {ty : TypeId} {pos : String} {af : Array Edge} {gd : Option (Nat × Bool)} {ds : Option Nat}
theorem g_mkrow {t e : TypeId} {z : Value} {bytes : Nat} {p q : Operand} {x y : Int} (N : Nat) (xs : List Value) (hn : Nat.blt d X.n = true) (hw : wants ops l ⟨some d, .makeSlice t p q, ty, pos, af, gd⟩ = some true)
    (hp : ev l p = some (.int .i64 x)) (hq : ev l q = some (.int .i64 y)) (hx : x = (N : Int)) (hy : y = (N : Int)) (ht : P.underlying t = some (.slice e)) (hinfo : (P.info? e).map (fun i => (i.zero, i.size, i.bytes)) = some (some z, 1, bytes)) (hz1 : z.cells = #[z])
    (hbytes : bytes * N ≤ 281474976710656) (h63 : N ≤ 9223372036854775807) (hxs : xs = List.replicate N z)
    (h : ∀ b, G P X ops Q rest μ ((d, .slice (some ⟨b, 0, none⟩) N N) :: l) (.inr ⟨.slice (some ⟨b, 0, none⟩) N N, e, 1, N, xs⟩ :: L)) : G P X ops Q (⟨some d, .makeSlice t p q, ty, pos, af, gd⟩ :: rest) μ l L :=
  g_wp hw fun a w hs => by
    have e1 := hs.eval hp; have e2 := hs.eval hq
    have e0 : (execOp a.eval ⟨some d, .makeSlice t p q, ty, pos, af, gd⟩).run P w = .ok (.value (.slice (some ⟨w.heap.size, 0, none⟩) N N)) (w.alloc (.cells (madeCells #[z] N) e)) := by
      generalize a.eval = ρ at e1 e2
      subst hx hy
      simp [execOp, e1, e2, run_make_row' t e z bytes ht hinfo hz1 .i64 .i64 N hbytes h63 w]
    unfold Oper.wp
    rw [e0, Oper.upon_value]
    have hl : xs.length = N := by rw [hxs, List.length_replicate]
    refine h _ _ _ ((hs.newB _ (.inr ⟨.slice (some ⟨w.heap.size, 0, none⟩) N N, e, 1, N, xs⟩) rfl ?_).put hn _)
    refine ⟨by show xs.length = N * 1; omega, .inr ⟨w.heap.size, N, madeCells #[z] N, rfl, Nat.zero_le _, heap_alloc_new w _, Nat.le_refl _, h63, ?_, ?_⟩⟩
    · rw [size_madeCells]; exact (Nat.mul_one N).symm
    · rw [toList_madeCells_one, hxs, Nat.mul_one]
      exact List.take_of_length_le (by simp)
/-- a head of a row of bytes, as a string -/
theorem v_bytes_row {p : Operand} {t u e : TypeId} {g m c n cap : Nat} {e' : TypeId} {xs : List Value} {bs : List UInt8} (i : Nat) (hx : ev l p = some (.slice (some ⟨g, 0, none⟩) m c)) (hi : nthB L i = some (.inr ⟨.slice (some ⟨g, 0, none⟩) n cap, e', 1, n, xs⟩))
    (ht : P.underlying t = some (.slice e)) (he : P.underlying e = some (.int .u8)) (hu : P.underlying u = some .string) (hm : bs.length = m) (hb : ∀ j (hj : j < bs.length), xs[j]? = some (.int .u8 (bs[j].toNat : Int))) :
    Val P μ l L ⟨ds, .convert t u p, ty, pos, af, gd⟩ (.string ⟨bs.toArray⟩) := fun a w hs => by
  have e0 := hs.eval hx
  subst hm
  have hc : ∀ j (hj : j < bs.length), w.cell? ((⟨g, 0, none⟩ : Addr).add j) = some (.int .u8 (bs[j].toNat : Int)) := fun j hj => by
    rw [add_lit, Nat.zero_add]
    exact hs.rowCell (nthB_mem hi) (hb j hj)
  generalize a.eval = ρ at e0
  simp [execOp, e0, run_convert_bytes_back w t u e ⟨g, 0, none⟩ c bs ht he hu hc]
theorem v_conv_u64 {p : Operand} {t u : TypeId} {k : IntKind} {x : Int} {de : TypeDesc} (hx0 : ev l p = some (.int k x)) (ht : P.underlying t = some de) (hu : P.underlying u = some (.int .u64)) : Val P μ l L ⟨ds, .convert t u p, ty, pos, af, gd⟩ (.int .u64 (IntKind.u64.wrap x)) := v_conv hx0 ht hu
theorem v_rem_at {p q : Operand} {t t2 : TypeId} {k : IntKind} {x y r : Int} (hx0 : ev l p = some (.int k x)) (hx1 : ev l q = some (.int k y)) (hy : y ≠ 0) (hr : x.tmod y = r) : Val P μ l L ⟨ds, .binOp .rem t p q t2, ty, pos, af, gd⟩ (.int k r) := by
  subst hr
  exact v_rem hx0 hx1 hy
end
end Go.Vcg
