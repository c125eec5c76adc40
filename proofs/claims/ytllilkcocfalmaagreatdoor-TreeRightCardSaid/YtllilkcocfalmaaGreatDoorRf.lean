/- A machine for closed runs: structs that are built, appends, maps. No statement of the seat is proved here. -/
import Derived.Test.YtllilkcocfalmaaGreatDoorRe
import Derived.Test.YtllilkcocfalmaaGreatDoorVm
set_option maxRecDepth 20000
namespace Go.Rex
open Go.RowKit Go.MapKept
open Go.Vcg (Keep beq_ne aggOf sizeT zeroT bytesT add_lit callable run_zeroValue run_append_row run_append_call placesT placesL fold_set nat16_eq natB_eq)

section
variable {P : Program} {N : Nat} {w0 : World} {ρ : Env} {h : Heap} {l : Sls} {a : Act} {w : World} {nx : Nat}
variable {ds : Option Nat} {ty : TypeId} {pos : String} {af : Array Edge} {gd : Option (Nat × Bool)}

/-! structs -/
theorem fold_lay {off : Nat} {u : Value} {z : List Value} (hf : off + u.cells.size ≤ z.length) : (u.cells.zipIdx.foldl (fun cs (c, j) => cs.setIfInBounds (off + j) c) (⟨z⟩ : Array Value)) = ⟨z.take off ++ u.cells.toList ++ z.drop (off + u.cells.toList.length)⟩ := by
  apply Array.ext_getElem?
  intro k
  have := fold_set u.cells.toList off 0 ⟨z⟩ k
  have e : u.cells.zipIdx.foldl (fun cs (c, j) => cs.setIfInBounds (off + j) c) (⟨z⟩ : Array Value) = (u.cells.toList.zipIdx 0).foldl (fun (cs : Array Value) (p : Value × Nat) => cs.setIfInBounds (off + p.2) p.1) ⟨z⟩ := by
    rw [← Array.foldl_toList]; simp
  rw [e, this]
  have q := splice_get (xs := z) (vs := u.cells.toList) (off := off) (i := k) (by simpa using hf)
  simp only [List.getElem?_toArray, Nat.add_zero]
  rw [q]
  have hl : u.cells.toList.length = u.cells.size := by simp
  have hz : (⟨z⟩ : Array Value).size = z.length := rfl
  rw [hl, hz]
  by_cases h1 : off ≤ k ∧ k < off + u.cells.size ∧ k < z.length
  · rw [if_pos h1, if_neg (by omega), if_pos (by omega)]
  · rw [if_neg h1]
    by_cases h2 : k < off
    · rw [if_pos h2]
    · rw [if_neg h2, if_neg (by omega)]
def fillM (N : Nat) (l : Sls) (pl : List (Nat × Nat)) : List (Nat × Operand) → List Value → Option (List Value)
  | [], cs => some cs
  | (i, x) :: ps, cs => match nth pl i with
    | some (off, s) => match aev N l x with
      | some v => match (cellsOf v).all (·.oneCell') with
        | true => match Nat.beq (cellsOf v).length s with
          | true => match layD off (cellsOf v) cs with
            | some cs' => fillM N l pl ps cs'
            | none => none
          | false => none
        | false => none
      | none => none
    | none => none
theorem fillM_sound (hs : Sl N ρ l a) {pl : List (Nat × Nat)} : ∀ {ps : List (Nat × Operand)} {cs cs' CS : List Value}, rvs ρ cs = some CS → fillM N l pl ps cs = some cs' →
    ∃ CS', rvs ρ cs' = some CS' ∧ ∀ place : Nat → Option (Nat × Nat), (∀ i x, pl[i]? = some x → place i = some x) → Instr.fill place ⟨CS⟩ (ps.map fun (i, x) => (i, a.eval x)) = some ⟨CS'⟩
  | [], cs, cs', CS, hc, e => by unfold fillM at e; cases e; exact ⟨CS, hc, fun _ _ => rfl⟩
  | (i, x) :: ps, cs, cs', CS, hc, e => by
    unfold fillM at e
    split at e
    · rename_i off s hp
      split at e
      · rename_i v hv
        split at e
        · rename_i h1
          split at e
          · rename_i hl
            split at e
            · rename_i cs1 hlay
              have hx := rv_cells (aev_sound hs hv) h1
              obtain ⟨k1, k2⟩ := rvs_layD hc hx hlay
              obtain ⟨CS', g1, g2⟩ := fillM_sound hs k2 e
              refine ⟨CS', g1, fun place hpl => ?_⟩
              rw [nth_eq] at hp
              have hlen := rvs_length hx
              have hl' := Nat.eq_of_beq_eq_true hl
              have hsz : (a.eval x).cells.size = s := by rw [← hl', ← hlen]; simp
              simp only [List.map_cons, Instr.fill, hpl i _ hp]
              have h3 : (⟨CS⟩ : Array Value).size = CS.length := rfl
              rw [if_neg (by simp only [hsz, h3]; simp at k1; simp; omega), fold_lay (by simpa using k1)]
              exact g2 place hpl
            · cases e
          · cases e
        · cases e
      · cases e
    · cases e
def qbuild (P : Program) (N : Nat) (l : Sls) (t : TypeId) (ps : List (Nat × Operand)) : Option Value := match zeroT P t with
  | some z => match flat2 z with
    | true => match (cellsOf z).all (·.oneCell') with
      | true => match placesT P t with
        | some pl => match fillM N l pl ps (cellsOf z) with
          | some cs => some (.agg ⟨cs⟩)
          | none => none
        | none => none
      | false => none
    | false => none
  | none => none
theorem qbuild_sound (hs : Sl N ρ l a) {t : TypeId} {ps : List (Nat × Operand)} {v : Value} (e : qbuild P N l t ps = some v) : Yes P ρ a w ⟨ds, .build t ps.toArray, ty, pos, af, gd⟩ v := by
  unfold qbuild at e
  split at e
  · rename_i z hz
    split at e
    · rename_i hf
      split at e
      · rename_i h1
        split at e
        · rename_i pl hpl
          split at e
          · rename_i cs hc
            cases e
            obtain ⟨CS', g1, key⟩ := fillM_sound hs (rv_cells (rv_flat2 (ρ := ρ) hf) h1) hc
            refine ⟨.agg ⟨CS'⟩, by simp [rv, g1], ?_⟩
            generalize a.eval = ev at key
            have e2 : (ps.toArray.map fun (i, x) => (i, ev x)) = (ps.map fun (i, x) => (i, ev x)).toArray := by simp
            have hzc : (⟨z.cells.toList⟩ : Array Value) = z.cells := by simp
            rw [hzc] at key
            have hr : (Instr.build t (ps.map fun (i, x) => (i, ev x)).toArray).run P w = .ok (.agg ⟨CS'⟩) w := by
              unfold placesT at hpl
              cases hu : P.underlying t with
              | none => simp [hu] at hpl
              | some de =>
                cases de <;> simp [hu] at hpl
                · rename_i m e
                  cases hsz : sizeT P e with
                  | none => simp [hsz] at hpl
                  | some s =>
                    simp only [hsz, Option.some.injEq] at hpl
                    have hk := key (fun i => some (i * s, s)) (fun i x hx => by
                      rw [← hpl] at hx
                      rw [List.getElem?_map] at hx
                      cases hr : (List.range m)[i]? with
                      | none => simp [hr] at hx
                      | some k =>
                        obtain ⟨hk1, hk2⟩ := List.getElem?_eq_some_iff.1 hr
                        rw [List.getElem_range] at hk2
                        subst hk2
                        simp [hr] at hx
                        simp [hx])
                    simp [Instr.build, run_zeroValue hz, run_underlying hu, Go.Vcg.run_sizeOf hsz, hk]
                · rename_i fields
                  have hm : (fields.mapM (m := Sem) fun f => do pure (f.offset, ← sizeOf f.type)).run P w = .ok pl.toArray w := by
                    rw [Array.mapM_eq_mapM_toList]
                    simp [Go.Vcg.run_places _ _ hpl]
                  have hk := key (fun i => pl.toArray[i]?) (fun i x hx => by simpa using hx)
                  simp only [Instr.build, Sem.run_bind, run_zeroValue hz, Result.andThen_ok, run_underlying hu, hm, hk]
                  rfl
            simp only [execOp, e2]
            simp only [Sem.run_bind, hr, Result.andThen_ok]; rfl
          · cases e
        · cases e
      · cases e
    · cases e
  · cases e
end
end Go.Rex
