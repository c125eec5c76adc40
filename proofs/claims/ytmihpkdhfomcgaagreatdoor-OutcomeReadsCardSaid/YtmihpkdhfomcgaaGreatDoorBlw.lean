/- strings.Builder's writers, for a builder that the call borrows. No statement of the seat is proved here. -/
import Derived.Test.YtmihpkdhfomcgaaGreatDoorBld2
import Derived.Test.YtmihpkdhfomcgaaGreatDoorAps
import Derived.Test.YtmihpkdhfomcgaaGreatDoorSel
import Derived.Test.YtmihpkdhfomcgaaGreatDoorSt
set_option maxRecDepth 20000
set_option maxHeartbeats 2000000
namespace Go.Vcg
open Go.RowKit
theorem ids_count : ∀ {L : List Bk}, L.Pairwise (fun x y => ∀ b, Bk.id x = some b → Bk.id y ≠ some b) → ∀ D, (idsOf L).count D ≤ 1
  | [], _, D => by simp [idsOf]
  | x :: r, h, D => by
    obtain ⟨h1, h2⟩ := List.pairwise_cons.1 h
    have ih := ids_count h2 D
    unfold idsOf
    cases hx : Bk.id x with
    | none => exact ih
    | some c =>
      dsimp only
      rw [List.count_cons]
      by_cases hc : c = D
      · subst hc
        have : (idsOf r).count c = 0 := List.count_eq_zero.2 fun hm => by
          obtain ⟨y, hy, hyb⟩ := mem_idsOf.1 hm
          exact h1 y hy c hx hyb
        simp [this]
      · simp [hc]; exact ih
section
variable {P : Program} {w : World} {μ : Mem} {l : Slots} {L : List Bk}
/-- Return of several values, with the first k blocks given back. -/
theorem ret_borN {fn : Func} {n : Nat} {rs : List ResultVar} {vs : List Value} {μ0 : Mem} {M : List Nat} {ι : Type} {Ls : ι → List Bk} {Post : Mem → Value → ι → Prop} {L' Lr : List Bk} (k : Nat) (i : ι) (hM : ∀ D, M.count D ≤ 1) (hr : fn.results = rs.toArray) (h : RVs P μ l L rs vs) (hl : Nat.beq vs.length 1 = false) (hL : splitB k L = some (L', Lr)) (hLs : Ls i = L')
    (hp : ∀ μ', MLe μ μ' → Post μ' (.tuple vs.toArray) i) :
    GQ ⟨w, μ0, M, n⟩ (bodyPost P fn (fun e w' => ∃ v μ' i, e = .returned v ∧ BackM M w w' μ0 (Ls i) μ' ∧ Post μ' v i)) .ret μ l L := fun a w' hs => by
  have he := splitB_eq hL
  subst he
  obtain ⟨μ', hb, hle⟩ := hs.giveBack
  subst hLs
  exact ⟨hs.defers.none hM, _, resultsN hr h hl hs.rd, _, μ', i, rfl, hb, hp μ' hle⟩
/-- what has been shared in between is let go -/
theorem g_forget {X : Ctx} {ops : Array Oper} {Q : Exit → Act → World → Prop} {rest : List Oper} {μ1 : Mem} (hM : ∀ D, X.M.count D ≤ 1) (hle : MLe μ1 μ) (h1 : X.μ0 = μ1) (h : G P X ops Q rest μ1 l L) : G P X ops Q rest μ l L := by
  subst h1
  exact fun a w hs => h a w ⟨hs.size, by rw [hs.defers.none hM]; exact Marks.nil, hs.slots, hs.keep, fun b o e => hs.mem b o (hle b o e), MLe.refl _, fun _ _ _ h => h, hs.own, fun x hx b hb => (by
    cases e : X.μ0 b with
    | none => rfl
    | some o => exact absurd ((hle b o e).symm.trans (hs.priv x hx b hb)) (by simp)), hs.new, hs.diff⟩
end
end Go.Vcg
namespace Go.Proofs.YtmihpkdhfomcgaaGreatDoor
open Go.Shelf Go.RowKit Go.Vcg
open Go.Lib (byteCells)
section
variable {X : Ctx} {ops : Array Oper} {Q : Exit → Act → World → Prop} {rest : List Oper} {μ : Mem} {l : Slots} {L : List Bk} {o : Oper} {d : Nat}
theorem g_ccheck {k : Nat} {p v : Value} (i : Nat) (hd : o.dst = some d) (hn : Nat.blt d X.n = true) (hw : wants ops l o = some true)
    (hr : Ent Tryz.prog μ l L o 63 #[.pointer (some ⟨k, 0, none⟩)])
    (hi : nthB L i = some (.inl ⟨k, 85, 2, [(0, p), (1, v)]⟩)) (hp : IsP k p)
    (h : G Tryz.prog X ops Q rest μ ((d, .tuple #[]) :: l) (updB L i (.inl ⟨k, 85, 2, [(0, .pointer (some ⟨k, 0, none⟩)), (1, v)]⟩))) : G Tryz.prog X ops Q (o :: rest) μ l L :=
  g_wp hw fun a w hs => by
    unfold Oper.wp
    rw [hr a w hs.rd, Oper.upon_enter]
    obtain ⟨arr, hh, hsz, hcs⟩ := hs.own _ (nthB_mem hi)
    have h0 : arr[0]? = some p := hcs 0 p rfl
    have h1 : arr[1]? = some v := hcs 1 v rfl
    have harr : arr = #[p, v] := by
      apply Array.ext_getElem?
      intro i
      match i with
      | 0 => simpa using h0
      | 1 => simpa using h1
      | i + 2 => rw [Array.getElem?_eq_none (by simp only at hsz; omega), Array.getElem?_eq_none (by simp)]
    subst harr
    have hlt := (Array.getElem?_eq_some_iff.1 hh).1
    have done : ∀ w' : World, w'.os = w.os → w'.tape = w.tape → w'.output = w.output → w.heap.size ≤ w'.heap.size → (∀ b, b ≠ k → w'.heap[b]? = w.heap[b]?) → w'.heap[k]? = some (.cells #[.pointer (some ⟨k, 0, none⟩), v] 85 (0, 0)) → wpList Tryz.prog ops Q rest (a.put o.dst (.tuple #[])) w' := by
      intro w' e1 e2 e3 e4 e5 e6
      have hs2 := hs.upd hi (y := .inl ⟨k, 85, 2, [(0, .pointer (some ⟨k, 0, none⟩)), (1, v)]⟩) e1 e2 e3 e4 (fun b _ hne => e5 b (fun e => hne (by rw [e]; rfl)))
        ⟨_, e6, rfl, fun i u hu => by
          match i, hu with
          | 0, hu => cases hu; rfl
          | 1, hu => cases hu; rfl
          | i + 2, hu => cases (show (none : Option Value) = some u from hu)⟩ (fun b hb => .inl hb)
      rw [hd]
      exact h _ _ (hs2.put hn _)
    rcases hp with rfl | rfl
    · refine (Any.Builder_copyCheck_fresh { bLays166 with } bExtra.toX72 k w (by simp [World.cell?, hh]) (by simp [World.shape?, hh]; rfl) (by simp [World.frozen?, hh])).mono ?_
      rintro e w' ⟨rfl, rfl⟩
      refine done _ rfl rfl rfl (by simp [World.setCell]) (fun b hb => ?_) ?_
      · show (Array.modify _ _ _)[b]? = _
        rw [Array.getElem?_modify, if_neg (fun e => hb e.symm)]
      · show (Array.modify _ _ _)[k]? = _
        rw [Array.getElem?_modify, if_pos rfl, hh]
        rfl
    · refine (Any.Builder_copyCheck_used { bLays166 with } bExtra.toX72 k w (by simp [World.cell?, hh])).mono ?_
      rintro e w' ⟨rfl, rfl⟩
      exact done _ rfl rfl rfl (Nat.le_refl _) (fun _ _ => rfl) hh
end
attribute [local irreducible] G GC GQ GA GAop Calls IntKind.wrap Int.decLt Int.decLe
theorem wbyte_spec (k : Nat) (p v : Value) (out : List UInt8) (c : Int) (y : UInt8) (hp : IsP k p) (hcb : c = y.toNat) (hlen : out.length + 1 ≤ 140737488355328) (w : World) (μ : Mem) (hμ : MOk μ w) (hO : Go.Vcg.Own μ (Bld k p v out []) w) :
    Calls Tryz.prog 42 #[.pointer (some ⟨k, 0, none⟩), .int .u8 c] w fun e w' => ∃ r μ' i, e = .returned r ∧ BackM (idsOf (Bld k p v out [])) w w' μ (Bld k (.pointer (some ⟨k, 0, none⟩)) i (out ++ [y]) []) μ' ∧ r = .nilIface := by
  have hcnt := ids_count hO.diff
  refine call_introM (args := [.pointer (some ⟨k, 0, none⟩), .int .u8 c]) Tryz.func42 rfl Tryz.ntmps42 (by simp) hμ hO ?_
  repeat' (first | refine KO ?_ | (refine CF 63 ?_; (with_reducible apply g_ccheck 0); exact rfl; exact rfl; exact rfl; ((with_reducible apply e_call1); kernel_rfl; exact rfl); exact rfl; (exact hp); (dsimp only [updB])) | (first | ((with_reducible apply g_ap); exact rfl; exact rfl; exact rfl; (repeat first | with_reducible exact rowup_hd | with_reducible apply rowup_tl); (iterate 6 exact rfl); (first | ((with_reducible apply src_in); exact rfl; (repeat first | with_reducible exact inb_hd | with_reducible apply inb_tl); exact rfl)); (first | exact rfl | omega | simp); (first | assumption | (exact ones_mem (by (repeat first | with_reducible exact ones_nil | ((with_reducible apply ones_cons); (first | exact rfl | assumption))))) | simp [Value.oneCell']); omega; omega; intro v; ((with_reducible apply g_rowSlice 2); exact rfl); (rintro A cap rfl)) | ((with_reducible apply g_append0); (iterate 9 exact rfl); (first | ((with_reducible apply src_in); exact rfl; (repeat first | with_reducible exact inb_hd | with_reducible apply inb_tl); exact rfl)); (first | exact rfl | omega | simp); (first | assumption | (exact ones_mem (by (repeat first | with_reducible exact ones_nil | ((with_reducible apply ones_cons); (first | exact rfl | assumption))))) | simp [Value.oneCell']); omega; omega; intro v; ((with_reducible apply g_rowSlice 2); exact rfl); (rintro A cap rfl))) | refine KI ?_ | refine NB fun b => ?_ | ((refine KB ?_ ?_ <;> intro hp)) | refine KG ?_ | fail)
  refine gq_rowEq (n' := (out ++ [y]).length) (xs' := byteCells (out ++ [y])) 2 rfl (by simp) (by rw [byteCells_app, hcb]; rfl) ?_
  refine gq_sel (l' := [(4, .nilIface)]) (L' := Bld k (.pointer (some ⟨k, 0, none⟩)) (.slice A (out.length + 1) cap) (out ++ [y]) []) PU PS ?_
  exact ret_bor (Ls := fun i => Bld k (.pointer (some ⟨k, 0, none⟩)) i (out ++ [y]) []) 2 _ hcnt rfl (rv_tmp rfl) rfl rfl (fun _ _ => rfl)
theorem wstring_spec (k : Nat) (p v : Value) (out : List UInt8) (s : ByteArray) (hp : IsP k p) (hlen : out.length + s.size ≤ 140737488355328) (w : World) (μ : Mem) (hμ : MOk μ w) (hO : Go.Vcg.Own μ (Bld k p v out []) w) :
    Calls Tryz.prog 46 #[.pointer (some ⟨k, 0, none⟩), .string s] w fun e w' => ∃ r μ' i, e = .returned r ∧ BackM (idsOf (Bld k p v out [])) w w' μ (Bld k (.pointer (some ⟨k, 0, none⟩)) i (out ++ bl s) []) μ' ∧ r = .tuple #[.int .i64 s.size, .nilIface] := by
  have hcnt := ids_count hO.diff
  refine call_introM (args := [.pointer (some ⟨k, 0, none⟩), .string s]) Tryz.func46 rfl Tryz.ntmps46 (by simp) hμ hO ?_
  repeat' (first | refine KO ?_ | (refine CF 63 ?_; (with_reducible apply g_ccheck 0); exact rfl; exact rfl; exact rfl; ((with_reducible apply e_call1); kernel_rfl; exact rfl); exact rfl; (exact hp); (dsimp only [updB])) | ((with_reducible apply g_aps); exact rfl; exact rfl; exact rfl; exact rfl; (repeat first | with_reducible exact rowup_hd | with_reducible apply rowup_tl); (iterate 5 exact rfl); (exact hlen); intro v; ((with_reducible apply g_rowSlice 1); exact rfl); (rintro A cap rfl)) | refine KI ?_ | ((refine KB ?_ ?_ <;> intro hp)) | refine KG ?_ | fail)
  refine gq_rowEq (n' := (out ++ bl s).length) (xs' := byteCells (out ++ bl s)) 1 rfl (by simp [bl]) (by rw [byteCells_app]; rfl) ?_
  refine gq_sel (l' := [(4, .int .i64 s.size), (5, .nilIface)]) (L' := Bld k (.pointer (some ⟨k, 0, none⟩)) (.slice A (out.length + s.size) cap) (out ++ bl s) []) PU PS ?_
  exact ret_borN (Ls := fun i => Bld k (.pointer (some ⟨k, 0, none⟩)) i (out ++ bl s) []) 2 _ hcnt rfl (by repeat first | exact rvs_nil | refine rvs_cons (by first | exact rv_tmp rfl | exact (rv_agg 0 rfl rfl rfl rfl rfl (by repeat first | exact lc_nil | refine lc_cons rfl ?_)) | exact (rv_agg 1 rfl rfl rfl rfl rfl (by repeat first | exact lc_nil | refine lc_cons rfl ?_)) | exact (rv_agg 2 rfl rfl rfl rfl rfl (by repeat first | exact lc_nil | refine lc_cons rfl ?_)) | exact (rv_agg 3 rfl rfl rfl rfl rfl (by repeat first | exact lc_nil | refine lc_cons rfl ?_))) ?_) rfl rfl rfl (fun _ _ => rfl)
end Go.Proofs.YtmihpkdhfomcgaaGreatDoor
