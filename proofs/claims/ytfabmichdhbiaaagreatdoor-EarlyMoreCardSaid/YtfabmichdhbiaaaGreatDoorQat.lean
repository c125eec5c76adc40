/- The laws of package early: vars, program and lives, walked. (and what leans on it). No statement of the seat is proved here. -/
import Derived.Test.YtfabmichdhbiaaaGreatDoorQas
import Derived.Test.YtfabmichdhbiaaaGreatDoorQae
import Derived.Test.YtfabmichdhbiaaaGreatDoorQaf
import Derived.Lay
import Derived.LaidOnce
import Derived.SevenTiedAt
import Derived.Test.YtfabmichdhbiaaaGreatDoorTie
import Derived.Test.YtfabmichdhbiaaaGreatDoorCards
import Derived.Lib.LaidU8
import Derived.Lib.LaidTab
import Derived.Shelf.Vars
set_option maxRecDepth 20000
set_option maxHeartbeats 2000000
namespace Go.Vcg
open Go.RowKit
theorem g_blkRow {P : Program} {X : Ctx} {ops : Array Oper} {Q : Exit → Act → World → Prop} {rest : List Oper} {μ : Mem} {l : Slots} {L : List Bk} {b t sz : Nat} {cs : Slots} {xs : List Value} (n s : Nat) (hz : sz = n * s) (hc : LC cs 0 sz xs) (hn : n ≤ 1000000) (h : G P X ops Q rest μ l (.inr ⟨.slice (some ⟨b, 0, none⟩) n n, t, s, n, xs⟩ :: L)) : G P X ops Q rest μ l (.inl ⟨b, t, sz, cs⟩ :: L) := fun a w hs => by
  subst hz
  exact h a w (St.blkRow (n := n) (s := s) hs hc (Nat.le_trans hn (by decide)))
end Go.Vcg
namespace Go.Proofs.YtfabmichdhbiaaaGreatDoor
open Go.RowKit Go.Vcg Ou
theorem addr0 (b k j : Nat) : Addr.add ⟨b, k, none⟩ j = ⟨b, k + j, none⟩ := by cases j <;> simp [Addr.add]
theorem blk_sl {μ : Mem} {b t sz : Nat} {cs : Slots} {ps : List (T × Value)} (h : Bk.sh (.inl ⟨b, t, sz, cs⟩) μ) (hc : ∀ i v, (ps.flatMap encTV)[i]? = some v → lk cs i = some v) : Sl encTV 6 μ (some ⟨b, 0, none⟩) ps.length ps := by
  obtain ⟨arr, h1, h2, h3⟩ := h
  refine ⟨rfl, fun _ => ⟨_, rfl, fun i y hy j v hv => ?_⟩⟩
  have h4 := flat_get encTV_len hy j v hv
  have h5 := h3 _ _ (hc _ _ h4)
  have e : (Addr.add ⟨b, 0, none⟩ (i * 6)).add j = ⟨b, i * 6 + j, none⟩ := by rw [addr0, addr0, Nat.zero_add]
  rw [e]
  exact ⟨arr, t, (0, 0), h1, rfl, h5⟩
theorem sh_vars' {kind at' : Int} {x : ByteArray} (hk : In64 kind) (hx : x.size ≤ 4000) : Sh (varsT kind x at') := by
  have h0 : (⟨#[]⟩ : ByteArray).size ≤ 4000 := by decide
  refine .mk h0 (by unfold In64; simp [varsT, T.op]) hk (by unfold In64; simp [varsT, T.m]) fun k hm => ?_
  rw [List.mem_singleton.1 hm]
  refine .mk h0 (by unfold In64; simp [T.op]) (by unfold In64; simp [T.n]) (by unfold In64; simp [T.m]) fun k hm => ?_
  rw [List.mem_singleton.1 hm]
  exact .mk hx (by unfold In64; simp [T.op]) (by unfold In64; simp [T.n]) (by unfold In64; simp [T.m]) fun k hm => by simp [T.kids] at hm
theorem sh_prog' {l : List T} (h : ∀ v ∈ l, Sh v) : Sh (progT l) :=
  .mk (show (⟨#[]⟩ : ByteArray).size ≤ 4000 by decide) (by unfold In64; simp [progT, T.op]) (by unfold In64; simp [progT, T.n]) (by unfold In64; simp [progT, T.m]) h
theorem x_le : (xS : ByteArray).size ≤ 4000 := by decide
theorem sh_A : Sh exA := sh_prog' fun v hv => by
  rcases List.mem_cons.1 hv with rfl | hv
  · exact sh_vars' (by unfold In64; omega) x_le
  · rw [List.mem_singleton.1 hv]; exact sh_vars' (by unfold In64; omega) x_le
theorem sh_B : Sh exB' := sh_prog' fun v hv => by
  rcases List.mem_cons.1 hv with rfl | hv
  · exact sh_vars' (by unfold In64; omega) x_le
  · rw [List.mem_singleton.1 hv]; exact sh_vars' (by unfold In64; omega) x_le
theorem sh_C : Sh exC := sh_prog' fun v hv => by
  rw [List.mem_singleton.1 hv]; exact sh_vars' (by unfold In64; omega) x_le
attribute [local irreducible] G GC GQ GA GAop Calls IntKind.wrap Int.decLt Int.decLe
theorem lvars_spec (kind at' : Int) (x : ByteArray) (w : World) (μ : Mem) (hμ : MOk μ w) :
    Calls Tryz.prog 8 #[.int .i64 kind, .string x, .int .i64 at', .slice none 0 0] w fun e w' => ∃ v μ', e = .returned v ∧ Grow w w' μ μ' ∧ ∃ u, v = .agg (encT (varsT kind x at') u).toArray ∧ KR μ' (varsT kind x at').kids u := by
  refine call_intro (args := [.int .i64 kind, .string x, .int .i64 at', .slice none 0 0]) Tryz.func8 rfl Tryz.ntmps8 (by simp) hμ ?_
  have hnil : Sl encTV 6 μ none 0 [] := Sl.nil _ _ _ _
  repeat' (first | refine KO ?_ | ((with_reducible show G _ _ _ _ (Oper.mk _ (Op.call (Call.mk (Callee.builtin Builtin.append) _ _)) _ _ _ _ :: _) _ _ _); refine g_blkRow (xs := encTV (T.mk 34 at' 0 0 x [], .slice none 0 0)) 1 6 rfl (by repeat first | exact lc_nil | refine lc_cons rfl ?_) (by decide) ?_; refine AX (S := by (with_reducible apply src_sh); exact rfl; exact hnil; simp) (A := by simp) (O := by simp) (k := fun v => ?_); (with_reducible apply g_rowForm 0); exact rfl; omega; (rintro g cap rfl hcap)) | refine KI ?_ | refine NB fun b => ?_ | ((refine KB ?_ ?_ <;> intro hp)) | refine KG ?_ | fail)
  refine ret_m1 rfl (rv_agg (vs := encT (varsT kind x at') (.slice (some ⟨b, 0, none⟩) 1 1)) 2 rfl rfl rfl rfl rfl (by repeat first | exact lc_nil | refine lc_cons rfl ?_)) (fun μ' hle' hL => ?_)
  have h1 := hL _ (List.mem_cons_self ..)
  have h2 := hL _ (List.mem_cons_of_mem _ (List.mem_cons_self ..))
  obtain ⟨A2, c2, e2, hS2⟩ := row_sl (enc := encTV) (xs := [(T.mk 34 at' 0 0 x [], Value.slice none 0 0)]) h2 rfl (by simp) rfl
  cases e2
  have k2 := KR.of_pairs (ps := [(T.mk 34 at' 0 0 x [], Value.slice none 0 0)]) hS2 hcap (fun p hp => by rw [List.mem_singleton.1 hp]; exact KR.nil _ _ _)
  have k1 := KR.of_pairs (c := 1) (ps := [(T.mk 3 at' 0 0 ⟨#[]⟩ [T.mk 34 at' 0 0 x []], Value.slice (some ⟨g, 0, none⟩) 1 cap)]) (blk_sl h1 (fun i v hv => lk_idx' hv)) (Nat.le_refl _) (fun p hp => by rw [List.mem_singleton.1 hp]; exact k2)
  exact ⟨_, rfl, k1⟩
theorem lprogram_spec (l : List T) (v : Value) (w : World) (μ : Mem) (hμ : MOk μ w) (hk : KR μ l v) :
    Calls Tryz.prog 11 #[v] w fun e w' => e = .returned (.agg (encT (progT l) v).toArray) ∧ Below w.heap.size w w' := by
  obtain ⟨A, c, rfl, -, -⟩ := hk.form
  refine call_intro (args := [.slice A l.length c]) Tryz.func11 rfl Tryz.ntmps11 (by simp) hμ ?_
  repeat' (first | refine KK ?_ | refine NB fun b => ?_ | ((refine KB ?_ ?_ <;> intro hp)) | refine KG ?_ | fail)
  exact ret_v1 rfl (rv_agg (vs := encT (progT l) (.slice A l.length c)) 0 rfl rfl rfl rfl rfl (by repeat first | exact lc_nil | refine lc_cons rfl ?_)) rfl
theorem llives_spec (w : World) (μ : Mem) (hμ : MOk μ w) (hm : MaxQ μ) (hT : TabA μ) : Calls Tryz.prog 6 #[] w fun e w' => e = .returned (.bool true) ∧ Below w.heap.size w w' := by
  refine call_intro (args := []) Tryz.func6 rfl Tryz.ntmps6 (by simp) hμ ?_
  repeat' (first | ((with_reducible show GC _ _ (Code.seq (Code.region 2 _ _) _) _ _ _ _); (apply gc_stop)) | refine KO ?_ | ((with_reducible apply F2 8); exact rfl; exact EN; (exact fun w hw => lvars_spec 1 4 ⟨#[120]⟩ w _ hw); (rintro vA μA hleA ⟨uA, rfl, hkA⟩); (have hoA := hkA.one); (have hm := hm.mono hleA); (have hT := hT.mono hleA)) | ((with_reducible apply F2 8); exact rfl; exact EN; (exact fun w hw => lvars_spec 0 11 ⟨#[120]⟩ w _ hw); (rintro vB μB hleB ⟨uB, rfl, hkB⟩); (have hoB := hkB.one); (have hkA := hkA.mono hleB); (have hm := hm.mono hleB); (have hT := hT.mono hleB)) | ((with_reducible apply F1 11); exact rfl; exact EN; (exact fun w μc hw hse => lprogram_spec [varsT 1 xS 4, varsT 0 xS 11] _ w μc hw (KR.of_pairs (c := 2) (ps := [(varsT 1 xS 4, uA), (varsT 0 xS 11, uB)]) (blk_sl hse.hd (fun i v hv => lk_idx' hv)) (Nat.le_refl _) (fun p hp => by rcases List.mem_cons.1 hp with rfl | hp; exact hkA.mono hse.le; rw [List.mem_singleton.1 hp]; exact hkB.mono hse.le)))) | ((with_reducible apply F1 9); exact rfl; exact EN; (exact fun w μc hw hse => by have h9 := echeck_spec 9 exA _ w μc hw (KR.of_pairs (c := 2) (ps := [(varsT 1 xS 4, uA), (varsT 0 xS 11, uB)]) (blk_sl hse.hd (fun i v hv => lk_idx' hv)) (Nat.le_refl _) (fun p hp => by rcases List.mem_cons.1 hp with rfl | hp; exact hkA.mono hse.le; rw [List.mem_singleton.1 hp]; exact hkB.mono hse.le)) (by simp [exA, exB', exC, progT, varsT, T.size_eq, T.kids]) (by simp [exA, exB', exC, progT, varsT, T.size_eq, T.kids]) sh_A (hT.mono hse.le) (hm.mono hse.le); rw [ckR_A] at h9; exact h9)) | refine KI ?_ | refine NB fun b => ?_ | ((refine KB ?_ ?_ <;> intro hp)) | refine KG ?_ | fail)
  refine gcs ?_
  repeat' (first | ((with_reducible show GC _ _ (Code.seq (Code.region 3 _ _) _) _ _ _ _); (apply gc_stop)) | refine KO ?_ | ((with_reducible apply F2 8); exact rfl; exact EN; (exact fun w hw => lvars_spec 0 4 ⟨#[120]⟩ w _ hw); (rintro vC μC hleC ⟨uC, rfl, hkC⟩); (have hoC := hkC.one); (have hm := hm.mono hleC); (have hT := hT.mono hleC)) | ((with_reducible apply F2 8); exact rfl; exact EN; (exact fun w hw => lvars_spec 0 11 ⟨#[120]⟩ w _ hw); (rintro vD μD hleD ⟨uD, rfl, hkD⟩); (have hoD := hkD.one); (have hkC := hkC.mono hleD); (have hm := hm.mono hleD); (have hT := hT.mono hleD)) | ((with_reducible apply F1 11); exact rfl; exact EN; (exact fun w μc hw hse => lprogram_spec [varsT 0 xS 4, varsT 0 xS 11] _ w μc hw (KR.of_pairs (c := 2) (ps := [(varsT 0 xS 4, uC), (varsT 0 xS 11, uD)]) (blk_sl hse.hd (fun i v hv => lk_idx' hv)) (Nat.le_refl _) (fun p hp => by rcases List.mem_cons.1 hp with rfl | hp; exact hkC.mono hse.le; rw [List.mem_singleton.1 hp]; exact hkD.mono hse.le)))) | ((with_reducible apply F1 9); exact rfl; exact EN; (exact fun w μc hw hse => by have h9 := echeck_spec 9 exB' _ w μc hw (KR.of_pairs (c := 2) (ps := [(varsT 0 xS 4, uC), (varsT 0 xS 11, uD)]) (blk_sl hse.hd (fun i v hv => lk_idx' hv)) (Nat.le_refl _) (fun p hp => by rcases List.mem_cons.1 hp with rfl | hp; exact hkC.mono hse.le; rw [List.mem_singleton.1 hp]; exact hkD.mono hse.le)) (by simp [exA, exB', exC, progT, varsT, T.size_eq, T.kids]) (by simp [exA, exB', exC, progT, varsT, T.size_eq, T.kids]) sh_B (hT.mono hse.le) (hm.mono hse.le); rw [ckR_B] at h9; exact h9)) | refine KI ?_ | refine NB fun b => ?_ | ((refine KB ?_ ?_ <;> intro hp)) | refine KG ?_ | fail)
  refine gcs ?_
  repeat' (first | refine KO ?_ | ((with_reducible apply F2 8); exact rfl; exact EN; (exact fun w hw => lvars_spec 2 6 ⟨#[120]⟩ w _ hw); (rintro vE μE hleE ⟨uE, rfl, hkE⟩); (have hoE := hkE.one); (have hm := hm.mono hleE); (have hT := hT.mono hleE)) | ((with_reducible apply F1 11); exact rfl; exact EN; (exact fun w μc hw hse => lprogram_spec [varsT 2 xS 6] _ w μc hw (KR.of_pairs (c := 1) (ps := [(varsT 2 xS 6, uE)]) (blk_sl hse.hd (fun i v hv => lk_idx' hv)) (Nat.le_refl _) (fun p hp => by rw [List.mem_singleton.1 hp]; exact hkE.mono hse.le)))) | ((with_reducible apply F1 9); exact rfl; exact EN; (exact fun w μc hw hse => by have h9 := echeck_spec 9 exC _ w μc hw (KR.of_pairs (c := 1) (ps := [(varsT 2 xS 6, uE)]) (blk_sl hse.hd (fun i v hv => lk_idx' hv)) (Nat.le_refl _) (fun p hp => by rw [List.mem_singleton.1 hp]; exact hkE.mono hse.le)) (by simp [exA, exB', exC, progT, varsT, T.size_eq, T.kids]) (by simp [exA, exB', exC, progT, varsT, T.size_eq, T.kids]) sh_C (hT.mono hse.le) (hm.mono hse.le); rw [ckR_C] at h9; exact h9)) | refine KI ?_ | refine NB fun b => ?_ | ((refine KB ?_ ?_ <;> intro hp)) | refine KG ?_ | fail)
  all_goals try (exfalso; first | omega | contradiction)
  all_goals exact ret_s rfl rfl rfl
end Go.Proofs.YtfabmichdhbiaaaGreatDoor
namespace Go.Proofs.YtfabmichdhbiaaaGreatDoor
open Go.RowKit Go.Vcg Ou
def ItQe (y : Ite) : Prop := y.s.size ≤ 140737488355328 ∧ In64 y.op ∧ In64 y.n ∧ In64 y.m
theorem sumI_mem {ts : List Ite} {y : Ite} (h : y ∈ ts) : y.s.size ≤ sumI ts := T.sum_mem (List.mem_map.2 ⟨y, h, rfl⟩)
def zeroI : Ite := ⟨0, 0, 0, 0, ⟨#[]⟩, 0⟩
theorem tree_sh {ts : List Ite} {t : T} (hq : ∀ y ∈ ts, ItQe y) (hs : sumI ts ≤ 4000) (h : AllI (fun y => y ∈ ts ∨ y = zeroI) t) : Sh t :=
  sh_of (h.to fun op at' n m s kids k hy => by
    rcases hy with hy | hy
    · have h1 := hq _ hy
      have h2 := sumI_mem hy
      exact ⟨Nat.le_trans h2 hs, h1.2.1, h1.2.2.1, h1.2.2.2⟩
    · cases hy
      exact ⟨show (⟨#[]⟩ : ByteArray).size ≤ 4000 by decide, by unfold In64; simp [T.op], by unfold In64; simp [T.n], by unfold In64; simp [T.m]⟩)
theorem tree_fr {ts : List Ite} {t : T} (hf : ∀ y ∈ ts, y.s ≠ fresh9) (h : AllI (fun y => y ∈ ts ∨ y = zeroI) t) : AllN (fun t => t.s ≠ fresh9) t :=
  h.to fun op at' n m s kids k hy => by
    rcases hy with hy | hy
    · exact hf _ hy
    · cases hy
      exact fun e => fresh_nil e.symm
theorem size_more (t : T) : (moreT t).size = t.size + 3 := by
  rw [size_szs (moreT t), size_szs t]
  show 1 + szs (t.kids ++ [moreV]) = _
  have hv : moreV.size = 3 := by simp [moreV, moreD, moreN, T.size_eq, T.kids]
  rw [szs_app, szs_cons, hv]
  show 1 + (szs t.kids + (3 + 0)) = _
  omega
theorem sh_more {t : T} (h : Sh t) : Sh (moreT t) := by
  cases h with
  | mk h1 h2 h3 h4 h5 =>
    refine .mk h1 h2 h3 h4 fun k hk => ?_
    rcases List.mem_append.1 hk with hk | hk
    · exact h5 k hk
    · rw [List.mem_singleton.1 hk]
      exact sh_vars' (by unfold In64; omega) (by decide +kernel)
theorem str_fresh : fresh9 = ⟨#[102, 114, 101, 115, 104, 57]⟩ := by decide +kernel
attribute [local irreducible] checkR rtB checkE sumI G GC GQ GA GAop Calls IntKind.wrap Int.decLt Int.decLe
theorem more_walk (w : World) (μ : Mem) (hμ : MOk μ w) (A : Option Addr) (n c : Nat) (ts : List Ite) (hc : Sl encIte 6 μ A n ts) (hmax : n ≤ 9223372036854775807) (hq : ∀ y ∈ ts, ItQe y) (hm : MaxQ μ) (hT : TabA μ) :
    Calls Tryz.prog 3 #[.slice A n c] w fun e w' => e = .returned (.bool true) ∧ Below w.heap.size w w' := by
  refine call_intro (args := [.slice A n c]) Tryz.func3 rfl Tryz.ntmps3 (by simp) hμ ?_
  cases hf : fewE n ts
  · repeat' (first | refine KO ?_ | ((with_reducible apply F1 5); exact rfl; exact EN; (exact fun w μc hw hse => by have h9 := efew_spec w μc hw A n c ts (hc.mono hse.le) hmax (fun y hy => (hq y hy).1); rw [hf] at h9; exact h9)) | ((with_reducible apply F1 6); exact rfl; exact EN; (exact fun w μc hw hse => llives_spec w μc hw (hm.mono hse.le) (hT.mono hse.le))) | refine KI ?_ | refine NB fun b => ?_ | ((refine KB ?_ ?_ <;> intro hp)) | refine KG ?_ | fail)
    all_goals exact ret_s rfl rfl rfl
  have hfe := Bool.and_eq_true_iff.1 (show (decide (n ≤ 400) && decide (sumI ts ≤ 4000)) = true from hf)
  have hn4 : n ≤ 400 := of_decide_eq_true hfe.1
  have hs4 : sumI ts ≤ 4000 := of_decide_eq_true hfe.2
  repeat' (first | ((with_reducible show GC _ _ (Code.seq (Code.seq (Code.region 4 _ _) _) _) _ _ _ _); (apply gc_stop)) | refine KO ?_ | ((with_reducible apply F1 5); exact rfl; exact EN; (exact fun w μc hw hse => by have h9 := efew_spec w μc hw A n c ts (hc.mono hse.le) hmax (fun y hy => (hq y hy).1); rw [hf] at h9; exact h9)) | ((with_reducible apply F2 7); exact rfl; exact EN; (exact fun w hw => ebuild_spec (fun y => y ∈ ts ∨ y = zeroI) (.inr rfl) w _ hw A n c ts hc hn4 (fun y hy => .inl hy)); (rintro v2 μ2 hle2 ⟨t, ⟨u, rfl, hk⟩, hsz, hall⟩); (have ou := hk.one)) | refine KI ?_ | refine NB fun b => ?_ | ((refine KB ?_ ?_ <;> intro hp)) | refine KG ?_ | fail)
  have hsh := tree_sh hq hs4 hall
  have hc := hc.mono hle2
  have hm := hm.mono hle2
  have hT := hT.mono hle2
  refine gcs ?_
  by_cases h1 : t.op = 1
  rotate_left
  · repeat' (first | refine KO ?_ | ((with_reducible apply F1 6); exact rfl; exact EN; (exact fun w μc hw hse => llives_spec w μc hw (hm.mono hse.le) (hT.mono hse.le))) | refine KI ?_ | refine NB fun b => ?_ | ((refine KB ?_ ?_ <;> intro hp)) | refine KG ?_ | fail)
    all_goals first | exact ret_s rfl rfl rfl | (exfalso; omega)
  repeat' (first | refine KK ?_ | refine NB fun b => ?_ | ((refine KB ?_ ?_ <;> intro hp)) | refine KG ?_ | fail)
  all_goals try (exfalso; first | omega | contradiction)
  obtain ⟨bn, hbn⟩ : ∃ y, y = b := ⟨_, rfl⟩
  rw [← hbn]
  clear hbn
  refine gc_loop (ι := Nat) (fun i => i ≤ n ∧ ∀ (j : Nat) (y : Ite), j < i → ts[j]? = some y → y.s ≠ fresh9) (fun i => n - i) (fun _ => μ2) (fun i => [(4, .int .i64 (i : Int)), (3, .pointer (some ⟨bn, 0, none⟩)), (0, .slice A n c)]) (fun _ => [.inl ⟨bn, 27, 6, idx 0 (encT t u)⟩]) 0 ⟨Nat.zero_le _, fun j y h => absurd h (by omega)⟩ (fun a w hs => hs.sel PU (sel_0 (.cells PU) (.nil _))) ?_
  rintro i ⟨hi, hno⟩
  by_cases hlt : i < n
  · obtain ⟨ad, y, rfl, hy, hmy⟩ := hc.get hlt
    by_cases hyf : y.s = fresh9
    · have hyf' : y.s = ⟨#[102, 114, 101, 115, 104, 57]⟩ := by rw [← str_fresh]; exact hyf
      repeat' (first | refine KO ?_ | ((with_reducible apply F1 6); exact rfl; exact EN; (exact fun w μc hw hse => llives_spec w μc hw (hm.mono hse.le) (hT.mono hse.le))) | (refine KV (b := by first | exact U1 i | exact U4 hmy) (c := ?_)) | refine KI ?_ | refine NB fun b => ?_ | ((refine KB ?_ ?_ <;> intro hp)) | refine KG ?_ | fail)
      all_goals first | exact ret_s rfl rfl rfl | (exfalso; first | omega | contradiction)
    · have hyf' : ¬y.s = ⟨#[102, 114, 101, 115, 104, 57]⟩ := by rw [← str_fresh]; exact hyf
      repeat' (first | refine KO ?_ | (refine KV (b := by first | exact U1 i | exact U4 hmy) (c := ?_)) | refine KI ?_ | refine NB fun b => ?_ | ((refine KB ?_ ?_ <;> intro hp)) | refine KG ?_ | fail)
      all_goals try (exfalso; first | omega | contradiction)
      all_goals exact gq_backS (i + 1) ⟨by omega, fun j z hj hz => by
        rcases Nat.lt_or_ge j i with h9 | h9
        · exact hno j z h9 hz
        · obtain rfl : j = i := by omega
          rw [hy] at hz
          cases hz
          exact hyf⟩ (by omega) rfl PU PS
  have hin : i = n := by omega
  subst hin
  have hfr := tree_fr (fun y hy => by
    obtain ⟨j, hj⟩ := List.mem_iff_getElem?.1 hy
    exact hno j y (by have := (List.getElem?_eq_some_iff.1 hj).1; have := hc.1; omega) hj) hall
  obtain ⟨A1, c1, ps, rfl, hcap, hps, hS, hkp⟩ := hk.sl
  have hpl : ps.length = t.kids.length := by rw [← hps, List.length_map]
  have hsz2 := size_szs t
  have hln := len_szs t.kids
  have e1 := flat_length encTV_len ps
  have e2 := (show Kids μ2 ps from hkp).one
  repeat' (first | ((with_reducible apply g_row0 6)) | ((with_reducible show GC _ _ (Code.seq (Code.region 13 _ _) _) _ _ _ _); (apply gc_stop)) | refine KO ?_ | (first | ((with_reducible apply g_ap); exact rfl; exact rfl; exact rfl; (repeat first | with_reducible exact rowup_hd | with_reducible apply rowup_tl); (iterate 6 exact rfl); (first | ((with_reducible apply src_sh); exact rfl; exact hS; simp) | ((with_reducible apply src_in); exact rfl; (repeat first | with_reducible exact inb_hd | with_reducible apply inb_tl); exact rfl)); (first | exact rfl | omega | simp); (first | assumption | (exact ones_mem (by (repeat first | with_reducible exact ones_nil | ((with_reducible apply ones_cons); (first | exact rfl | assumption))))) | simp [Value.oneCell']); omega; omega; intro v) | ((with_reducible apply g_append0); (iterate 9 exact rfl); (first | ((with_reducible apply src_sh); exact rfl; exact hS; simp) | ((with_reducible apply src_in); exact rfl; (repeat first | with_reducible exact inb_hd | with_reducible apply inb_tl); exact rfl)); (first | exact rfl | omega | simp); (first | assumption | (exact ones_mem (by (repeat first | with_reducible exact ones_nil | ((with_reducible apply ones_cons); (first | exact rfl | assumption))))) | simp [Value.oneCell']); omega; omega; intro v)) | ((with_reducible apply F2 8); exact rfl; exact EN; (exact fun w hw => lvars_spec 1 0 ⟨#[102, 114, 101, 115, 104, 57]⟩ w _ hw); (rintro v3 μ3 hle3 ⟨uv, rfl, hkv⟩); (have ouv := hkv.one)) | ((with_reducible apply g_rowOk 1); exact rfl; (rintro A4 c4 rfl hok4); (with_reducible apply g_st); exact rfl; exact rfl; (repeat first | with_reducible exact ones_nil | ((with_reducible apply ones_cons); (first | exact rfl | assumption))); (repeat first | with_reducible apply upb_hd | with_reducible apply upb_tl); exact rfl; (repeat first | with_reducible exact pc_nil | with_reducible apply pc_cons)) | refine KI ?_ | refine NB fun b => ?_ | ((refine KB ?_ ?_ <;> intro hp)) | refine KG ?_ | fail)
  refine gcs (gc_share_1 rfl ?_)
  intro μ4 hle4 hsh4
  have hcap4 := Bk.cap hsh4
  obtain ⟨A5, c5, e5, hS5⟩ := row_sl (enc := encTV) (xs := ps ++ [(moreV, uv)]) hsh4 (by simp [hpl]) (by simp) (by rw [List.flatMap_append]; rfl)
  injection e5 with ea en ec
  subst ea ec
  have hle24 := hle3.trans hle4
  have hkm0 := KR.of_pairs (ps := ps ++ [(moreV, uv)]) hS5 (c := c4) (by simp [hpl]; omega) (fun p hp => by
    rcases List.mem_append.1 hp with hp | hp
    · exact (hkp p hp).mono hle24
    · rw [List.mem_singleton.1 hp]
      exact hkv.mono hle4)
  have hkm : KR μ4 (moreT t).kids (.slice A4 (0 + t.kids.length + 1) c4) := by
    rw [List.map_append, hps, ← en] at hkm0
    exact hkm0
  have hk := hk.mono hle24
  have hm := hm.mono hle24
  have hT := hT.mono hle24
  have hcm := checkR_more h1 hsh hfr 998
  have hsm := size_more t
  have hck := fun (w : World) (μc : Mem) (hw : MOk μc w) (hle : MLe μ4 μc) => echeck_spec 1000 t _ w μc hw (hk.mono hle) (by omega) (by omega) hsh (hT.mono hle) (hm.mono hle)
  have hcm' := fun (w : World) (μc : Mem) (hw : MOk μc w) (hle : MLe μ4 μc) => echeck_spec 1000 (moreT t) _ w μc hw (hkm.mono hle) (by omega) (by omega) (sh_more hsh) (hT.mono hle) (hm.mono hle)
  rw [show (1000 : Nat) = 998 + 2 from rfl] at hck hcm'
  rw [hcm] at hcm'
  generalize checkR (998 + 2) t = rr at hck hcm'
  repeat' (first | refine KO ?_ | ((with_reducible apply F1 9); exact rfl; exact EN; (first | exact fun w μc hw hse => hck w μc hw hse.le | exact fun w μc hw hse => hcm' w μc hw hse.le)) | ((with_reducible apply F1 6); exact rfl; exact EN; (exact fun w μc hw hse => llives_spec w μc hw (hm.mono hse.le) (hT.mono hse.le))) | refine KI ?_ | refine NB fun b => ?_ | ((refine KB ?_ ?_ <;> intro hp)) | refine KG ?_ | fail)
  all_goals first | exact ret_s rfl rfl rfl | exact absurd rfl ‹¬_›
end Go.Proofs.YtfabmichdhbiaaaGreatDoor
namespace Go.Vcg
open Go.ChangeShapes Go.WideShapes Go.ChangeAt Go.RowKit Go.Deep
section
variable {H : Type} {enc : TypeId × Value → H} {P : Program} {W : World}
theorem mem_weightsAll {e : TypeId} {x : Nat} {d : DataW H} : ∀ {l : List (DataW H)}, d ∈ l → x ∈ d.weights P e → x ∈ DataW.weightsAll P e l
  | c :: r, hd, hx => by
    rw [DataW.weightsAll]
    rcases List.mem_cons.1 hd with rfl | hd
    · exact List.mem_append_left _ hx
    · exact List.mem_append_right _ (mem_weightsAll hd hx)
theorem read_sliceQ {α : Type} {t e s B : Nat} {encv : α → List Value} {q : α → Prop} {v : Value} {d : DataW H} {p : List MemPlace} (ht : P.underlying t = some (.slice e)) (hs : P.cellsOf e = s)
    (hel : ∀ (fuel : Nat) (cs : List Value) (x : DataW H × List MemPlace), DataW.trod enc P W 0 (fun _ => true) true fuel e cs = some x → (x.1.weights P e).all (· ≤ B) = true → ∃ y, cs = encv y ∧ q y)
    {r : Reach} {b0 : Nat} (hv : Value.okWide P W r b0 t v) (h : DataW.Trod enc P W 0 (fun _ => true) true t v d p) (hw : (d.weights P t).all (· ≤ B) = true) : ∃ A n c l, v = .slice A n c ∧ Sl encv s (memOf W) A n l ∧ n ≤ maxLen ∧ ∀ x ∈ l, q x := by
  obtain ⟨A, n, c, rfl⟩ := okWide_slice ht hv
  obtain ⟨fuel, hf⟩ := h
  rcases open_slice ht hf with ⟨hcs, _⟩ | ⟨a, len, cap, m, k, D, Pl, hcs, _, hl, hm, hmm, hx, hi⟩
  · simp [Value.cells] at hcs
    obtain ⟨rfl, rfl, rfl⟩ := hcs
    exact ⟨none, 0, 0, [], rfl, Sl.nil _ _ _ _, by simp, by simp⟩
  · simp [Value.cells] at hcs
    obtain ⟨rfl, rfl, rfl⟩ := hcs
    simp at hmm
    obtain rfl := congrArg Prod.fst hx
    simp only at hw
    rw [DataW.weights, ht] at hw
    simp only at hw
    have hwi : ∀ i, i < n → ((D i).weights P e).all (· ≤ B) = true := fun i hin => by
      refine List.all_eq_true.2 fun z hz => List.all_eq_true.1 hw z ?_
      refine List.mem_cons_of_mem _ (List.mem_append_left _ (mem_weightsAll (d := D i) ?_ hz))
      exact List.mem_map.2 ⟨i, List.mem_range.2 hin, rfl⟩
    have hex : ∀ i, i < n → ∃ y, MCells (memOf W) (a.add (i * s)) (encv y) ∧ q y := fun i hin => by
      obtain ⟨cs', hc, ht'⟩ := hi i (by omega)
      obtain ⟨y, rfl, hq⟩ := hel _ _ _ ht' (hwi i hin)
      refine ⟨y, fun j u hu => ?_, hq⟩
      obtain ⟨_, hcl, hat⟩ := World.cells?_some hc
      rw [hs] at hat hcl
      have hj : j < s := by
        have := (List.getElem?_eq_some_iff.1 hu).1
        omega
      have := hat j hj
      rw [hu] at this
      exact MCell.of_cell this
    obtain ⟨l, hl1, hl2⟩ := exists_list n hex
    refine ⟨some a, n, c, l, rfl, ⟨hl1, fun _ => ⟨a, rfl, fun i x hx => (hl2 i x hx).1⟩⟩, by omega, fun x hx => ?_⟩
    obtain ⟨i, hi1, rfl⟩ := List.mem_iff_getElem.1 hx
    exact (hl2 i _ (List.getElem?_eq_getElem hi1)).2
end
end Go.Vcg
namespace Go.Proofs.YtfabmichdhbiaaaGreatDoor
open Go.ChangeShapes Go.WideShapes Go.ChangeAt Go.RowKit Go.Deep Go.Vcg
theorem i64_b {n : Int} (h : (Lit.int .i64 n).wf = true) : In64 n := by
  simp only [Lit.wf, Bool.and_eq_true, decide_eq_true_eq] at h
  simpa [In64, IntKind.min, IntKind.max, IntKind.signed, IntKind.bits] using h
section
variable {H : Type} {enc : TypeId × Value → H} {W : World}
theorem it_readQe {base : Nat} {spare : Nat → Bool} {held : Bool} {fuel : Nat} {cs : List Value} {x : DataW H × List MemPlace} (h : DataW.trod enc Tryz.prog W base spare held fuel 30 cs = some x) (hw : (x.1.weights Tryz.prog 30).all (· ≤ reachBytes) = true) : ∃ y : Ite, cs = encIte y ∧ ItQe y := by
  obtain ⟨xs, n, _, hx, hlen, hxl, hf⟩ := DataW.trod_struct Tryz.underlying30 h
  have hl : cs.length = 6 := hlen.trans (by kernel_rfl)
  have fa := field_at' (t := 30) (by kernel_rfl) (by rw [hl]; rfl) hxl hf
  obtain ⟨c0, y0, e0, t0, g0⟩ := fa 0 _ rfl
  obtain ⟨c1, y1, e1, t1, g1⟩ := fa 1 _ rfl
  obtain ⟨c2, y2, e2, t2, g2⟩ := fa 2 _ rfl
  obtain ⟨c3, y3, e3, t3, g3⟩ := fa 3 _ rfl
  obtain ⟨c4, y4, e4, t4, g4⟩ := fa 4 _ rfl
  obtain ⟨c5, y5, e5, t5, g5⟩ := fa 5 _ rfl
  obtain ⟨a0, z0, u0, w0⟩ := DataW.trod_int Tryz.underlying3 t0
  obtain ⟨a1, z1, u1, w1⟩ := DataW.trod_int Tryz.underlying3 t1
  obtain ⟨a2, z2, u2, w2⟩ := DataW.trod_int Tryz.underlying3 t2
  obtain ⟨a3, z3, u3, w3⟩ := DataW.trod_int Tryz.underlying3 t3
  obtain ⟨a4, z4, u4, w4⟩ := DataW.trod_string Tryz.underlying9 t4
  obtain ⟨a5, z5, u5, w5⟩ := DataW.trod_int Tryz.underlying3 t5
  simp only [List.cons.injEq, and_true] at z0 z1 z2 z3 z4 z5
  subst z0 z1 z2 z3 z4 z5 u0 u1 u2 u3 u4 u5
  refine ⟨⟨a0, a1, a2, a3, a4, a5⟩, ?_, ?_, i64_b w0, i64_b w2, i64_b w3⟩
  · match cs, hl with
    | [_, _, _, _, _, _], _ =>
      simp at e0 e1 e2 e3 e4 e5
      simp [e0, e1, e2, e3, e4, e5]
  · have hxs : xs = [(.lit (.int .i64 a0), []), (.lit (.int .i64 a1), []), (.lit (.int .i64 a2), []), (.lit (.int .i64 a3), []), (.lit (.string a4.data.toList), []), (.lit (.int .i64 a5), [])] := by
      have h7 : xs.length = 6 := hxl
      match xs, h7 with
      | [_, _, _, _, _, _], _ =>
        simp at g0 g1 g2 g3 g4 g5
        rw [g0, g1, g2, g3, g4, g5]
    subst hxs
    have hd : x.1 = .agg [.lit (.int .i64 a0), .lit (.int .i64 a1), .lit (.int .i64 a2), .lit (.int .i64 a3), .lit (.string a4.data.toList), .lit (.int .i64 a5)] := congrArg Prod.fst hx
    have hm : a4.data.toList.length ∈ x.1.weights Tryz.prog 30 := by
      rw [hd, DataW.weights, Tryz.underlying30]
      show _ ∈ DataW.weightsEach Tryz.prog [3, 3, 3, 3, 9, 3] _
      simp [DataW.weightsEach, DataW.weights]
    have h9 := of_decide_eq_true (List.all_eq_true.1 hw _ hm)
    unfold reachBytes at h9
    have h10 : a4.size = a4.data.toList.length := rfl
    show a4.size ≤ 140737488355328
    omega
theorem open_itsQe {r : Reach} {b0 : Nat} {v : Value} {d : DataW H} {p : List MemPlace} (hv : Value.okWide Tryz.prog W r b0 22 v) (h : DataW.Trod enc Tryz.prog W 0 (fun _ => true) true 22 v d p) (hw : (d.weights Tryz.prog 22).all (· ≤ reachBytes) = true) :
    ∃ A n c ts, v = .slice A n c ∧ Sl encIte 6 (memOf W) A n ts ∧ n ≤ 9223372036854775807 ∧ ∀ y ∈ ts, ItQe y := by
  obtain ⟨A, n, c, ts, e, h1, h2, h3⟩ := read_sliceQ (encv := encIte) (s := 6) (q := ItQe) Tryz.underlying22 (by kernel_rfl) (fun fuel cs x h hw => it_readQe h hw) hv h hw
  exact ⟨A, n, c, ts, e, h1, Nat.le_trans h2 (by decide), h3⟩
end
end Go.Proofs.YtfabmichdhbiaaaGreatDoor
namespace Go.Proofs.YtfabmichdhbiaaaGreatDoor
open Go.ChangeShapes Go.WideShapes Go.ChangeAt Go.RowKit Go.Deep Go.Vcg
theorem tabA_of {W : World} {l : List (String × DataW Unit)} (h : laidMet Tryz.prog l W) (hm : ("strings.asciiSpace", Rows.laid_strings_asciiSpace) ∈ l) : TabA (memOf W) := by
  obtain ⟨g, t, cs, fuel, p, h1, h2, h3, h4⟩ := Lib.laidMet.reads h hm
  have hg : Tryz.prog.globalNamed "strings.asciiSpace" = some 0 := by kernel_rfl
  obtain rfl := Option.some.inj (hg.symm.trans h1)
  have ht : (Tryz.prog.globals[0]?).map (·.type) = some 103 := by kernel_rfl
  obtain rfl := Option.some.inj (ht.symm.trans h2)
  have hd : (Rows.laid_strings_asciiSpace : DataW Unit) = Lib.tabData .u8 Lib.asciiSpaceTab := by rfl
  rw [hd] at h4
  have hc := Lib.cells_of_tab Tryz.underlying103 Tryz.underlying5 (by kernel_rfl) (by kernel_rfl) h4
  intro w hw
  unfold Lib.TabIs World.var?
  unfold World.var? at h3
  rw [hg] at h3 ⊢
  simp only [Option.bind_some] at h3 ⊢
  cases hb : W.heap[0]? with
  | none => rw [hb] at h3; cases h3
  | some o =>
    rw [hw _ o hb]
    rw [hb] at h3
    cases o <;> simp at h3
    rename_i cs' _ _
    subst h3
    simp only [Option.some.injEq]
    rw [← hc]
theorem maxQ_of {W : World} (h : W.ShapedOpen Tryz.prog) : MaxQ (memOf W) := by
  obtain ⟨m, hm⟩ := cell_of_shapedOpen_int (g := 2) (t := 3) (zero := #[.int .i64 0]) (k := .i64) h (of_decide_eq_true (by kernel_rfl)) (by kernel_rfl) rfl (by kernel_rfl) (by kernel_rfl) (by kernel_rfl)
  exact ⟨m, MCell.of_cell hm⟩
end Go.Proofs.YtfabmichdhbiaaaGreatDoor
