/- Package outcome: the deferred call of Read. No statement of the seat is proved here. -/
import Derived.Test.YtmihpkdhfomcgaaDoorOu18
import Derived.Test.YtmihpkdhfomcgaaDoorDef
import Derived.Test.YtmihpkdhfomcgaaDoorSt
set_option maxRecDepth 20000
set_option maxHeartbeats 2000000
namespace Go.Proofs.YtmihpkdhfomcgaaDoor
open Go.RowKit Go.Vcg Ou
set_option maxRecDepth 20000
abbrev boxR (bp rb bo bl be : Nat) (S : RS3) : List Bk := [.inl ⟨bp, 34, 1, [(0, .pointer (some ⟨rb, 0, none⟩))]⟩, .inl ⟨bo, 27, 8, []⟩, .inl ⟨bl, 3, 1, []⟩, .inl ⟨be, 23, 1, []⟩] ++ rdB rb S
abbrev boxP (bp rb bo bl be : Nat) (S : RS3) (e : Int) : List Bk := [.inl ⟨bp, 34, 1, [(0, .pointer (some ⟨rb, 0, none⟩))]⟩, .inl ⟨bo, 27, 8, [(0, .int .i64 0), (1, .int .i64 0), (2, .int .i64 0), (3, .string ⟨#[]⟩), (4, .slice none 0 0), (5, .slice none 0 0), (6, .int .i64 0), (7, .int .i64 0)]⟩, .inl ⟨bl, 3, 1, [(0, .int .i64 S.2.1)]⟩, .inl ⟨be, 23, 1, [(0, .int .i64 e)]⟩] ++ rdB rb S
theorem quiet_read1 : QuietF Tryd.prog 10 := fun args w => by
  refine callsD_of_wpS Tryd.func10 rfl fun c₀ cs hc => ?_
  have h19 : (19 : Nat) ≤ (args ++ Array.replicate (Tryd.f10.ntmps - args.size) undef).size := by
    have : Tryd.f10.ntmps = 19 := Tryd.ntmps10
    simp [this]; omega
  generalize hT : args ++ Array.replicate (Tryd.f10.ntmps - args.size) undef = T at h19
  have hst : St ⟨w, fun _ => none, [], T.size⟩ (fun _ => none) [] [] { tmps := T, defers := [] } w :=
    ⟨rfl, Marks.nil, (fun t v hv => by simp [lk] at hv), Keep.refl _ _, (fun _ _ h => by cases h), MLe.refl _, fun _ _ _ h => h, by simp, by simp, by simp, List.Pairwise.nil⟩
  have hn : ∀ d, d < 19 → Nat.blt d T.size = true := fun d hd => by rw [Nat.blt, Nat.ble_eq]; omega
  have hrec : recoverD (c₀ :: cs) = none := by simp [recoverD, hc]
  refine wpS_seq (wpS_region ?_)
  refine (show GS Tryd.prog ⟨w, fun _ => none, [], T.size⟩ _ _ (c₀ :: cs) [0, 1, 2, 3, 4, 5, 6, 7] (fun _ => none) [] [] from ?_) _ _ hst
  refine gs_recover rfl (hn _ (by decide)) hrec ?_
  refine gs_val rfl rfl (hn _ (by decide)) rfl (v_assert_nil rfl rfl rfl) ?_
  refine gs_val rfl rfl (hn _ (by decide)) rfl (v_move rfl) ?_
  refine gs_val rfl rfl (hn _ (by decide)) rfl (v_extract (vs := [_, _]) rfl rfl) ?_
  refine gs_val rfl rfl (hn _ (by decide)) rfl (v_extract (vs := [_, _]) rfl rfl) ?_
  refine gs_new rfl rfl (hn _ (by decide)) rfl (n_alloc (cs := [_]) rfl) fun b => ?_
  refine gs_store (vs := [_]) rfl rfl rfl rfl rfl rfl rfl ?_
  refine gs_val rfl rfl (hn _ (by decide)) rfl (v_assign rfl) ?_
  refine gs_nil fun a1 w1 hs1 => ?_
  refine wpS_of_wp ?_
  have hs2 : St ⟨w, fun _ => none, [], T.size⟩ (fun _ => none) [(5, .bool false)] [] a1 w1 := hs1.sub (subS_cons rfl subS_nil) (List.nil_sublist _)
  refine (show GC Tryd.prog ⟨w, fun _ => none, [], T.size⟩ _ _ (fun _ => none) [(5, .bool false)] [] from ?_) a1 w1 hs2
  refine gc_seq (gc_region (g_val rfl (hn _ (by decide)) rfl (v_move rfl) (g_nil (gq_then (gc_cond_false rfl (gc_skip ?_))))))
  intro a2 w2 hs3
  refine ⟨hs3.defers.none (by simp), .returning, ?_, .tuple #[], ?_, ⟨_, rfl⟩, rfl, hs3.keep.below⟩
  · cases c₀; simp at hc; subst hc; rfl
  · simp [results, Tryd.f10]
attribute [local irreducible] G GC GQ GA GAop Calls IntKind.wrap Int.decLt Int.decLe
theorem read1_panic (e : Int) (bp rb bo bl be : Nat) (S : RS3) (w : World) (μ : Mem) (hμ : MOk μ w) (hO : Go.Vcg.Own μ (boxR bp rb bo bl be S) w) :
    CallsD Tryd.prog 10 #[.pointer (some ⟨bp, 0, none⟩), .pointer (some ⟨bo, 0, none⟩), .pointer (some ⟨bl, 0, none⟩), .pointer (some ⟨be, 0, none⟩)] (.panicking (pan (failO e))) w fun en u' w' => (∃ v, en = .returned v) ∧ u' = .panicking [{ v := failO e, recovered := true }] ∧ BackM (idsOf (boxR bp rb bo bl be S)) w w' μ (boxP bp rb bo bl be S e) μ := by
  refine callsD_of_wpS Tryd.func10 rfl fun c₀ cs hc => ?_
  have hn : Tryd.f10.ntmps = 19 := Tryd.ntmps10
  have hst : St ⟨w, μ, idsOf (boxR bp rb bo bl be S), 19⟩ μ (idx 0 [.pointer (some ⟨bp, 0, none⟩), .pointer (some ⟨bo, 0, none⟩), .pointer (some ⟨bl, 0, none⟩), .pointer (some ⟨be, 0, none⟩)]) (boxR bp rb bo bl be S) { tmps := #[.pointer (some ⟨bp, 0, none⟩), .pointer (some ⟨bo, 0, none⟩), .pointer (some ⟨bl, 0, none⟩), .pointer (some ⟨be, 0, none⟩)] ++ Array.replicate (Tryd.f10.ntmps - 4) undef, defers := [] } w := by
    refine ⟨?_, Marks.nil, fun t v hv => ?_, Keep.refl _ _, hμ, MLe.refl _, fun _ _ _ h => h, hO.own, hO.priv, fun x hx b hxb => .inl (mem_idsOf.2 ⟨x, hx, hxb⟩), hO.diff⟩
    · simp [hn]
    · obtain ⟨_, h2⟩ := lk_idx _ _ _ _ hv
      have hlt : t < 4 := by have := (List.getElem?_eq_some_iff.1 h2).1; simpa using this
      simp only [Nat.sub_zero] at h2
      rw [Array.getElem?_append_left (by simpa using hlt)]
      simpa using h2
  have hrec : recoverD (c₀ :: cs) = some (failO e, { c₀ with mode := .panicking [{ v := failO e, recovered := true }] } :: cs) := by
    cases c₀
    simp at hc
    subst hc
    rfl
  refine wpS_seq (wpS_region ?_)
  refine gs_recover_p rfl rfl hrec (fun a w h => by
    obtain ⟨u', ⟨v, h⟩, _⟩ := h
    cases h) ?_ hst
  repeat' (first | refine KO ?_ | (refine KV (b := by first | ((with_reducible apply v_assert_ok); exact rfl; exact rfl)) (c := ?_)) | refine KI ?_ | refine NB fun b => ?_ | ((refine KB ?_ ?_ <;> intro hp)) | refine KG ?_ | fail)
  refine gq_of fun a2 w2 hs2 => ?_
  refine wpS_of_wp ?_
  refine gc_at (show GC Tryd.prog ⟨w, μ, idsOf (boxR bp rb bo bl be S), 19⟩ _ _ μ [(0, .pointer (some ⟨bp, 0, none⟩)), (1, .pointer (some ⟨bo, 0, none⟩)), (2, .pointer (some ⟨bl, 0, none⟩)), (3, .pointer (some ⟨be, 0, none⟩)), (4, .pointer (some ⟨b, 0, none⟩)), (5, .bool true)] [.inl ⟨bp, 34, 1, [(0, .pointer (some ⟨rb, 0, none⟩))]⟩, .inl ⟨bo, 27, 8, []⟩, .inl ⟨bl, 3, 1, []⟩, .inl ⟨be, 23, 1, []⟩, .inl ⟨rb, 36, 3, [(0, .string (ofB S.1)), (1, .int .i64 S.2.1), (2, .string (ofB S.2.2))]⟩, .inl ⟨b, 38, 1, idx 0 [.int .i64 e]⟩] from ?_) (hs2.sel PU PS)
  repeat' (first | refine KK ?_ | refine NB fun b => ?_ | ((refine KB ?_ ?_ <;> intro hp)) | refine KG ?_ | fail)
  refine gc_draw 10 _ (by kernel_rfl) rfl (List.Sublist.cons_cons _ (List.Sublist.cons _ (List.Sublist.cons _ (List.Sublist.cons _ (List.Sublist.cons_cons _ (List.Sublist.cons_cons _ (List.nil_sublist _))))))) ?_
  all_goals refine DD 0 ?_
  all_goals refine DD 1 ?_
  all_goals refine DD 2 ?_
  all_goals refine DD 3 ?_
  all_goals refine DD 4 ?_
  all_goals refine DD 5 ?_
  all_goals refine DD 6 ?_
  all_goals (first | (refine D3 7 ?_; refine D5 ?_; refine Y0 ?_; refine D9 ?_))
  all_goals (first | (refine D3 8 ?_; refine D5 ?_; refine Y0 ?_; refine D9 ?_))
  all_goals (first | (refine D3 9 ?_; refine D5 ?_; refine Y0 ?_; refine D9 ?_))
  all_goals refine D8 ?_
  all_goals
    refine gq_of fun a3 w3 hs3 => ?_
    have hs4 := hs3.sel (l' := []) (L' := boxP bp rb bo bl be S e) PU PS
    have hcnt := ids_count hO.diff
    refine ⟨hs4.defers.none hcnt, _, rfl, .tuple #[], by simp [results, Tryd.f10], ⟨_, rfl⟩, rfl, ⟨hs4.keep.os, hs4.keep.tape, hs4.keep.output, hs4.keep.size, hs4.keep.block, MLe.refl _, hs4.mem, fun _ _ _ h => h⟩, ⟨hs4.own, hs4.priv, hs4.diff⟩, hs4.new⟩
end Go.Proofs.YtmihpkdhfomcgaaDoor
