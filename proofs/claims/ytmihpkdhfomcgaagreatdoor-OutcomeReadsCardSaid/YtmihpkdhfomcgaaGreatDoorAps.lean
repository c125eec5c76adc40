/- A string appended to a row of bytes of the call's own. No statement of the seat is proved here. -/
import Derived.Test.YtmihpkdhfomcgaaGreatDoorVq
import Derived.Test.YtmihpkdhfomcgaaGreatDoorBor
import Derived.Lib.AppendStr
set_option maxRecDepth 20000
namespace Go.Vcg
open Go.RowKit
section
variable {P : Program} {X : Ctx} {ops : Array Oper} {Q : Exit → Act → World → Prop} {rest : List Oper} {μ : Mem} {l : Slots} {L : List Bk} {a : Act} {w : World} {d : Nat}
variable {ty : TypeId} {pos : String} {af : Array Edge} {gd : Option (Nat × Bool)}
theorem info_of {t : TypeId} {i : TypeInfo} (h : P.info? t = some i) {s b : Nat} {z : Value} (hs : sizeT P t = some s) (hb : bytesT P t = some b) (hz : zeroT P t = some z) : i.size = s ∧ i.bytes = b ∧ i.zero = some z := by
  unfold sizeT at hs
  unfold bytesT at hb
  unfold zeroT at hz
  rw [h] at hs hb hz
  simp only [nat16_eq, natB_eq, Option.some.injEq, Option.bind_some] at hs hb hz
  exact ⟨hs, hb, hz⟩
theorem aps_block {t t2 e : TypeId} {n : Nat} {v v' : Value} {xs : List Value} {s : ByteArray} {w' : World} {I : TypeInfo} (ht : P.underlying t = some (.slice e)) (hu : P.underlying t2 = some .string) (hI : P.info? e = some I) (hz : I.zero = some (.int .u8 0)) (i1 : I.size = 1) (i2 : I.bytes = 1)
    (hown : w.ownsRow 0 e 1 v n xs) (hlen : n + s.size ≤ 140737488355328) (hr : (Builtin.append_ #[t, t2] ty #[v, .string s]).run P w = .ok v' w') (h0 : v' = .slice none 0 0 ↔ v = .slice none 0 0 ∧ s.size = 0) : v'.ownBlock = v.ownBlock ∨ v'.ownBlock = some w.heap.size := by
  have hxl : xs.length = n := by simpa using hown.1
  rcases hown.2 with ⟨rfl, rfl⟩ | ⟨g, cap, cur, rfl, hbg, hg, hnc, hcm, hcs, htake⟩
  · by_cases hm : s.size = 0
    · rw [h0.2 ⟨rfl, hm⟩]; exact .inl rfl
    · have h2 := run_append_nil_string (P := P) w t t2 ty e I (.int .u8 0) ht hu hI hz s (by omega) (by omega) (by rw [i2]; omega)
      rw [hr] at h2
      cases h2
      exact .inr rfl
  · have hcz : cur.size = cap := by simpa using hcs
    by_cases hroom : n + s.size ≤ cap
    · have h2 := Lib.run_append_room_string (P := P) w t t2 ty e I ht hu hI i1 g n cap cur hg s hroom (by omega)
      rw [hr] at h2
      cases h2
      exact .inl rfl
    · have holds : ∀ j u, xs[j]? = some u → w.cell? ((⟨g, 0, none⟩ : Addr).add j) = some u := hown.cells (g := g) rfl
      have h2 := Lib.run_append_grow_string (P := P) w t t2 ty e I (.int .u8 0) ht hu hI hz ⟨g, 0, none⟩ n cap xs (by rw [i1]; simpa using hxl) holds s (by omega) (by omega) (by rw [i2]; exact growslice_fits (by omega) (by omega))
      rw [hr] at h2
      cases h2
      exact .inr rfl
theorem g_aps {p q : Operand} {t t2 e : TypeId} {n : Nat} {v : Value} {xs : List Value} {s : ByteArray} {F : Rw → List Bk} (hn : Nat.blt d X.n = true) (hw : wants ops l ⟨some d, .call { callee := .builtin .append, args := #[p, q], argTypes := #[t, t2] }, ty, pos, af, gd⟩ = some true)
    (hp : ev l p = some v) (hq : ev l q = some (.string s)) (hr : RowUp L ⟨v, e, 1, n, xs⟩ F) (ht : P.underlying t = some (.slice e)) (hu : P.underlying t2 = some .string) (hs : sizeT P e = some 1) (hz : zeroT P e = some (.int .u8 0)) (hby : bytesT P e = some 1)
    (hlen : n + s.size ≤ 140737488355328) (h : ∀ v, G P X ops Q rest μ ((d, v) :: l) (F ⟨v, e, 1, n + s.size, xs ++ Lib.strCells s⟩)) :
    G P X ops Q (⟨some d, .call { callee := .builtin .append, args := #[p, q], argTypes := #[t, t2] }, ty, pos, af, gd⟩ :: rest) μ l L :=
  g_wp hw fun a w hs' => by
    obtain ⟨i, hi, hF⟩ := hr
    have hown : w.ownsRow 0 e 1 v n xs := hs'.own _ (nthB_mem hi)
    cases hI : P.info? e with
    | none => unfold sizeT at hs; rw [hI] at hs; cases hs
    | some I =>
      obtain ⟨i1, i2, i3⟩ := info_of hI hs hby hz
      obtain ⟨v', w', r1, r2, r3, r4⟩ := Lib.run_append_own_string (P := P) w 0 t t2 ty e I ht hu hI i3 i1 i2 v n xs hown s (by simp only [maxLen]; omega) hlen (Nat.zero_le _)
      have e1 := hs'.eval hp
      have e2 := hs'.eval hq
      have ex : (execOp a.eval ⟨some d, .call { callee := .builtin .append, args := #[p, q], argTypes := #[t, t2] }, ty, pos, af, gd⟩).run P w = .ok (.value v') w' := by
        generalize a.eval = ρ at e1 e2
        simp only [execOp, resolve, invoke, builtin, Sem.run_bind, Sem.run_pure, Result.andThen_ok, List.map_toArray, List.map_cons, List.map_nil, e1, e2, r1]
      unfold Oper.wp
      rw [ex, Oper.upon_value]
      have hnew : ∀ b, v'.ownBlock = some b → v.ownBlock = some b ∨ w.heap.size ≤ b := fun b hb => by
        rcases aps_block ht hu hI i3 i1 i2 hown hlen r1 r4 with h5 | h5
        · exact .inl (h5.symm.trans hb)
        · rw [h5] at hb; cases hb; exact .inr (Nat.le_refl _)
      have hs2 := hs'.upd hi r3.os r3.tape r3.output r3.size (fun b hb hne => r3.block b hb (fun e => hne e.symm)) (y := .inr ⟨v', e, 1, n + s.size, xs ++ Lib.strCells s⟩) r2 hnew
      rw [← hF] at hs2
      exact h v' _ _ (hs2.put hn _)
end
end Go.Vcg
