/- Package outcome: an outcome with an error is read. (and what leans on it). No statement of the seat is proved here. -/
import Derived.Test.YtmihpkdhfomcgaaGreatDoorMu
import Derived.Test.YtmihpkdhfomcgaaGreatDoorMit
import Derived.Test.YtmihpkdhfomcgaaGreatDoorSt
set_option maxRecDepth 20000
set_option maxHeartbeats 2000000
namespace Go.Vcg
open Go.RowKit Go.MapKept
theorem run_entryM {P : Program} (w : World) (r b since ck : Nat) (seen : Array Nat) (es : List MapEntry) (e : MapEntry) (hr : w.heap[r]? = some (.mapIter (some b) since (seen.push e.born) ck)) (hb : w.heap[b]? = some (.map es.toArray ck))
    (he : e ∈ es) (hn : (es.map (·.born)).Nodup) : (Instr.entry (.pointer (some ⟨r, 0, none⟩))).run P w = .ok (.tuple #[e.key, e.val]) w := by
  have hf : es.toArray.find? (·.born == e.born) = some e := by rw [← Array.find?_toList]; exact find_born e es hn he
  simp only [Instr.entry, getObj, Sem.run_bind, Sem.run, hr, hb, Result.andThen, Array.back?_push, bne_self_eq_false, Bool.false_eq_true, if_false, hf]
  rfl
section
variable {P : Program} {μ : Mem} {l : Slots} {L : List Bk} {ds : Option Nat} {ty : TypeId} {pos : String} {af : Array Edge} {gd : Option (Nat × Bool)}
theorem v_entry {x : Operand} {r b since ck : Nat} {seen : Array Nat} {es : List MapEntry} (e : MapEntry) (i : Nat) (hx : ev l x = some (.pointer (some ⟨r, 0, none⟩))) (hi : nthB L i = some (.it r (some b) since (seen.push e.born) ck)) (hu : InM L b ⟨b, es, ck⟩)
    (he : e ∈ es) (hn : (es.map (·.born)).Nodup) : Val P μ l L ⟨ds, .entry x, ty, pos, af, gd⟩ (.tuple #[e.key, e.val]) := fun a w hs => by
  obtain ⟨k, hk, _⟩ := hu
  have hb : w.heap[b]? = some (.map es.toArray ck) := hs.own _ (nthB_mem hk)
  have hr : w.heap[r]? = some (.mapIter (some b) since (seen.push e.born) ck) := hs.own _ (nthB_mem hi)
  have e1 := hs.eval hx
  generalize a.eval = ρ at e1
  simp [execOp, e1, run_entryM w r b since ck seen es e hr hb he hn]
end
end Go.Vcg
namespace Go.Proofs.YtmihpkdhfomcgaaGreatDoor
open Go.RowKit Go.Vcg Ou
abbrev encO0 (o : OutP) : List Value := [.int .i64 o.e, .int .i64 o.at_, .int .i64 o.fin, .string o.text, .slice none 0 0, .slice none 0 0, .int .i64 o.steps, .int .i64 o.made]
theorem mkE_mem {e : MapEntry} : ∀ {l : List (Int × List UInt8)} {j : Nat}, e ∈ mkE l j → ∃ p ∈ l, e.key = .int .i64 p.1 ∧ e.val = .string (ofB p.2)
  | [], _, h => by cases h
  | (k, v) :: r, j, h => by
    rcases List.mem_cons.1 h with rfl | h
    · exact ⟨_, List.mem_cons_self .., rfl, rfl⟩
    · obtain ⟨p, hp, h1⟩ := mkE_mem h
      exact ⟨p, List.mem_cons_of_mem _ hp, h1⟩
theorem mkE_of {p : Int × List UInt8} : ∀ {l : List (Int × List UInt8)} (j : Nat), p ∈ l → ∃ e ∈ mkE l j, e.key = .int .i64 p.1 ∧ e.val = .string (ofB p.2)
  | [], _, h => by cases h
  | (k, v) :: r, j, h => by
    rcases List.mem_cons.1 h with rfl | h
    · exact ⟨_, List.mem_cons_self .., rfl, rfl⟩
    · obtain ⟨e, he, h1⟩ := mkE_of (j + 1) h
      exact ⟨e, List.mem_cons_of_mem _ he, h1⟩
theorem errM_born : errM.map (·.born) = List.range 30 := rfl
theorem errM_lt : ∀ e ∈ errM, e.born < 30 := fun e he => by
  have := List.mem_map_of_mem (f := (·.born)) he
  rw [errM_born] at this
  exact List.mem_range.1 this
theorem errM_nodup : (errM.map (·.born)).Nodup := by rw [errM_born]; exact List.nodup_range
theorem err_find : ∀ p ∈ errT', findB errT' p.2 = some p.1 := by decide +kernel
theorem err_tail : ∀ p ∈ errT, p.1 ≠ 0 → p ∈ errT' := by decide +kernel
theorem err_head : ∀ p ∈ errT', p ∈ errT ∧ p.1 ≠ 0 := by decide +kernel
def Fnd (x : List UInt8) (E : Int) (seen : Array Nat) : Prop := (E = 0 ∨ findB errT' x = some E) ∧ ∀ e ∈ errM, seen.contains e.born = true → ∀ k, e.key = .int .i64 k → e.val = .string (ofB x) → k ≠ 0 → E = k
theorem fnd_start (x : List UInt8) : Fnd x 0 #[] := ⟨.inl rfl, fun e _ h => by simp at h⟩
theorem fnd_end {x : List UInt8} {E : Int} {seen : Array Nat} (h : Fnd x E seen) (hl : (leftOf errM.toArray seen).size = 0) : E = (findB errT' x).getD 0 := by
  have hall := all_seen errM.toArray seen hl
  cases hf : findB errT' x with
  | none =>
    rcases h.1 with h1 | h1
    · exact h1
    · rw [hf] at h1; cases h1
  | some k =>
    obtain ⟨g1, g2⟩ := err_head _ (findB_some hf)
    obtain ⟨e, he, h1, h2⟩ := mkE_of 0 g1
    exact h.2 e he (hall e (by rw [List.toList_toArray]; exact he)) k h1 h2 g2
theorem fnd_hit {x : List UInt8} {E : Int} {seen : Array Nat} {e : MapEntry} {k : Int} (h : Fnd x E seen) (he : e ∈ errM) (h1 : e.key = .int .i64 k) (h2 : e.val = .string (ofB x)) (h3 : k ≠ 0) : Fnd x k (seen.push e.born) := by
  obtain ⟨p, hp, g1, g2⟩ := mkE_mem he
  have hk : p.1 = k := by rw [h1] at g1; cases g1; rfl
  have hx : p.2 = x := by rw [h2] at g2; injection g2 with hh; exact (ofB_inj hh).symm
  have hf : findB errT' x = some k := by rw [← hx, ← hk]; exact err_find p (err_tail p hp (by rw [hk]; exact h3))
  refine ⟨.inr hf, fun e' he' hc k' g3 g4 g5 => ?_⟩
  obtain ⟨p', hp', q1, q2⟩ := mkE_mem he'
  have hk' : p'.1 = k' := by rw [g3] at q1; cases q1; rfl
  have hx' : p'.2 = x := by rw [g4] at q2; injection q2 with hh; exact (ofB_inj hh).symm
  have := err_find p' (err_tail p' hp' (by rw [hk']; exact g5))
  rw [hx', hf, hk'] at this
  exact Option.some.inj this
theorem fnd_miss {x : List UInt8} {E : Int} {seen : Array Nat} {e : MapEntry} {k : Int} (h : Fnd x E seen) (he : e ∈ errM) (h1 : e.key = .int .i64 k) (h2 : ¬ (e.val = .string (ofB x) ∧ k ≠ 0)) : Fnd x E (seen.push e.born) := by
  refine ⟨h.1, fun e' he' hc k' g3 g4 g5 => ?_⟩
  rw [contains_push] at hc
  by_cases hb : e'.born = e.born
  · have := born_inj errM_nodup he' he hb
    subst this
    rw [h1] at g3
    cases g3
    exact absurd ⟨g4, g5⟩ h2
  · have hb' : (e'.born == e.born) = false := by simpa using hb
    rw [hb', Bool.or_false] at hc
    exact h.2 e' he' hc k' g3 g4 g5
theorem errM_mem {e : MapEntry} (h : e ∈ errM) : ∃ p ∈ errT, e.key = .int .i64 p.1 ∧ e.val = .string (ofB p.2) := mkE_mem h
attribute [local irreducible] G GC GQ GA GAop Calls IntKind.wrap Int.decLt Int.decLe idxF errM leftOf Fnd
theorem wrong_cases {l s : List UInt8} {o : OutP} (h : wrongRd l s = .ok o) : ∃ x u n k, Ou.cutB 32 l = some (x, u) ∧ numB u = some n ∧ findB errT' x = some k ∧ s = [] ∧ o = { zeroO with e := k, at_ := n } := by
  unfold wrongRd at h
  split at h
  · cases h
  rename_i x u hc
  split at h
  · cases h
  rename_i n hn
  split at h
  · cases h
  rename_i k hk
  split at h
  · cases h
    exact ⟨x, u, n, k, hc, hn, hk, rfl, rfl⟩
  · split at h <;> cases h
theorem wrong_ok {x u : List UInt8} {n k : Int} (rb : Nat) (rest : List UInt8) (hc : Ou.cutB 32 rest = some (x, u)) (hn : numB u = some n) (hk : findB errT' x = some k) (hr : rest.length ≤ 100000) (w : World) (μ : Mem) (hμ : MOk μ w) (hm : MaxOk μ) (hT : TabOk μ) (hO : Go.Vcg.Own μ (rdB rb ([], 1, rest)) w) :
    Calls Tryz.prog 23 #[.pointer (some ⟨rb, 0, none⟩)] w (RdK (idsOf (rdB rb ([], 1, rest))) w μ rb ([], 1, u) fun v => v = .agg (encO0 { zeroO with e := k, at_ := n }).toArray) := by
  obtain ⟨s, hs0⟩ : ∃ s : List UInt8, s = [] := ⟨_, rfl⟩
  rw [← hs0] at hO ⊢
  have hs : s.length ≤ 100000 := by rw [hs0]; decide
  have hl1 := len_cut1 hc
  have hcnt := ids_count hO.diff
  refine call_introM (args := [.pointer (some ⟨rb, 0, none⟩)]) Tryz.func23 rfl Tryz.ntmps23 (by simp) hμ hO ?_
  show GC _ _ _ _ _ _ [.inl ⟨rb, 35, 3, [(0, .string (ofB s)), (1, .int .i64 1), (2, .string (ofB rest))]⟩]
  repeat' (first | ((with_reducible show GC _ _ (Code.seq (Code.region 1 _ _) _) _ _ _ _); (apply gc_stop)) | refine KK ?_ | refine NB fun b => ?_ | ((refine KB ?_ ?_ <;> intro hp)) | refine KG ?_ | fail)
  obtain ⟨bq, hbq⟩ : ∃ x, x = b := ⟨_, rfl⟩
  rw [← hbq]
  clear hbq
  refine gcs ?_
  repeat' (first | ((with_reducible show GC _ _ (Code.seq (Code.region 3 _ _) _) _ _ _ _); (apply gc_stop)) | refine KO ?_ | (refine CF 22 ?_; (first | ((with_reducible apply g_enter_bor 1); exact rfl; exact rfl; exact rfl; ((with_reducible apply e_call1); kernel_rfl; exact rfl); exact rfl; (first | exact fun w hw hO => word_ok rb s rest 1 hc hs hr (by omega) w _ hw hm hO); (rintro v2 μ2 ⟨⟩ hle2 rfl); (dsimp only [List.cons_append, List.nil_append]); refine g_forget hcnt hle2 rfl ?_) | ((with_reducible apply g_pull_1); (with_reducible apply g_enter_bor 1); exact rfl; exact rfl; exact rfl; ((with_reducible apply e_call1); kernel_rfl; exact rfl); exact rfl; (first | exact fun w hw hO => word_ok rb s rest 1 hc hs hr (by omega) w _ hw hm hO); (rintro v2 μ2 ⟨⟩ hle2 rfl); (dsimp only [List.cons_append, List.nil_append]); refine g_forget hcnt hle2 rfl ?_) | ((with_reducible apply g_pull_2); (with_reducible apply g_enter_bor 1); exact rfl; exact rfl; exact rfl; ((with_reducible apply e_call1); kernel_rfl; exact rfl); exact rfl; (first | exact fun w hw hO => word_ok rb s rest 1 hc hs hr (by omega) w _ hw hm hO); (rintro v2 μ2 ⟨⟩ hle2 rfl); (dsimp only [List.cons_append, List.nil_append]); refine g_forget hcnt hle2 rfl ?_) | ((with_reducible apply g_pull_3); (with_reducible apply g_enter_bor 1); exact rfl; exact rfl; exact rfl; ((with_reducible apply e_call1); kernel_rfl; exact rfl); exact rfl; (first | exact fun w hw hO => word_ok rb s rest 1 hc hs hr (by omega) w _ hw hm hO); (rintro v2 μ2 ⟨⟩ hle2 rfl); (dsimp only [List.cons_append, List.nil_append]); refine g_forget hcnt hle2 rfl ?_))) | ((with_reducible apply F1 27); exact rfl; exact EN; (exact fun w μc hw hse => number_at hn (by omega) w μc hw (hT.mono hse.le))) | refine KI ?_ | refine NB fun b => ?_ | ((refine KB ?_ ?_ <;> intro hp)) | refine KG ?_ | fail)
  obtain ⟨bo, hbo⟩ : ∃ x, x = b := ⟨_, rfl⟩
  rw [← hbo]
  clear hbo
  refine gcs ?_
  repeat' (first | refine KO ?_ | (refine CF 39 ?_; (with_reducible apply g_enter_bor (Ls := fun i => [.mp ⟨i, errM, 30⟩]) 0); exact rfl; exact rfl; exact rfl; ((with_reducible apply e_call0); kernel_rfl); exact rfl; (exact fun w hw _ => errnos_spec w _ hw); (rintro v2 μ2 bm hle2 rfl); (dsimp only [List.cons_append, List.nil_append]); refine g_forget hcnt hle2 rfl ?_) | ((with_reducible apply g_range); exact rfl; exact rfl; exact rfl; exact rfl; (repeat first | with_reducible exact inm_hd | with_reducible apply inm_tl); (intro bi)) | refine KI ?_ | refine NB fun b => ?_ | ((refine KB ?_ ?_ <;> intro hp)) | refine KG ?_ | fail)
  refine gc_loop (ι := Array Nat × Int) (fun i => Fnd x i.2 i.1) (fun i => (leftOf errM.toArray i.1).size) (fun _ => μ) (fun _ => [(16, .pointer (some ⟨bi, 0, none⟩)), (4, .pointer (some ⟨bo, 0, none⟩)), (3, .string (ofB x)), (2, .pointer (some ⟨bq, 0, none⟩)), (0, .pointer (some ⟨rb, 0, none⟩))])
    (fun i => [.it bi (some bm) 30 i.1 30, .mp ⟨bm, errM, 30⟩] ++ (rdB rb (s, 1, u) ++ [.inl ⟨bo, 27, 8, [(0, .int .i64 i.2), (1, .int .i64 n), (2, .int .i64 0), (3, .string ⟨#[]⟩), (4, .slice none 0 0), (5, .slice none 0 0), (6, .int .i64 0), (7, .int .i64 0)]⟩, .inl ⟨bq, 27, 8, idx 0 [.int .i64 0, .int .i64 0, .int .i64 0, .string ⟨#[]⟩, .slice none 0 0, .slice none 0 0, .int .i64 0, .int .i64 0]⟩])) (#[], 0) (fnd_start x) (fun a w hs => J5 hs) ?_
  rintro ⟨seen, E⟩ hF
  dsimp only [List.cons_append, List.nil_append] at hF ⊢
  refine gc_seq (gc_region ?_)
  refine g_next 0 rfl rfl rfl rfl (by repeat first | with_reducible exact inm_hd | with_reducible apply inm_tl) errM_lt (Nat.le_refl _) (fun hz => ?_) (fun e hel => ?_)
  rotate_left
  · obtain ⟨he, _⟩ := mem_left hel
    have he : e ∈ errM := by simpa using he
    obtain ⟨p, hp, hk1, hv1⟩ := errM_mem he
    have hsh := left_shrinks errM.toArray seen e hel
    rw [hk1, hv1]
    dsimp only [updB]
    have hent := fun (l : Slots) (L : List Bk) (x : Operand) (i : Nat) (ds : Option Nat) (ty : TypeId) (pos : String) (af : Array Edge) (gd : Option (Nat × Bool)) (hx : ev l x = some (.pointer (some ⟨bi, 0, none⟩))) (hi : nthB L i = some (.it bi (some bm) 30 (seen.push e.born) 30)) (hu : InM L bm ⟨bm, errM, 30⟩) => (by
      have := v_entry (P := Tryz.prog) (μ := μ) (l := l) (L := L) (x := x) (ds := ds) (ty := ty) (pos := pos) (af := af) (gd := gd) e i hx hi hu he errM_nodup
      rw [hk1, hv1] at this
      exact this : Val Tryz.prog μ l L ⟨ds, .entry x, ty, pos, af, gd⟩ (.tuple #[.int .i64 p.1, .string (ofB p.2)]))
    by_cases hx : p.2 = x
    · by_cases h0 : p.1 = 0
      · have hF' := fnd_miss hF he hk1 (fun h => h.2 h0)
        have hx' : ofB p.2 = ofB x := by rw [hx]
        repeat' (first | refine KO ?_ | (refine KV (b := by first | (refine hent _ _ _ 0 _ _ _ _ _ rfl rfl ?_; (repeat first | with_reducible exact inm_hd | with_reducible apply inm_tl))) (c := ?_)) | refine KI ?_ | refine NB fun b => ?_ | ((refine KB ?_ ?_ <;> intro hp)) | refine KG ?_ | fail)
        all_goals first | (exfalso; omega) | exact absurd hx' ‹_› | exact J2 (seen.push e.born, E) hF' hsh
      · have hF' := fnd_hit hF he hk1 (by rw [hv1, hx]) h0
        have hx' : ofB p.2 = ofB x := by rw [hx]
        repeat' (first | refine KO ?_ | (refine KV (b := by first | (refine hent _ _ _ 0 _ _ _ _ _ rfl rfl ?_; (repeat first | with_reducible exact inm_hd | with_reducible apply inm_tl))) (c := ?_)) | refine KI ?_ | refine NB fun b => ?_ | ((refine KB ?_ ?_ <;> intro hp)) | refine KG ?_ | fail)
        all_goals first | (exfalso; omega) | exact absurd hx' ‹_› | exact J2 (seen.push e.born, p.1) hF' hsh
    · have hF' := fnd_miss hF he hk1 (fun h => hx (by rw [hv1] at h; injection h.1 with hh; exact ofB_inj hh))
      have hx' : ¬ ofB p.2 = ofB x := fun h => hx (ofB_inj h)
      repeat' (first | refine KO ?_ | (refine KV (b := by first | (refine hent _ _ _ 0 _ _ _ _ _ rfl rfl ?_; (repeat first | with_reducible exact inm_hd | with_reducible apply inm_tl))) (c := ?_)) | refine KI ?_ | refine NB fun b => ?_ | ((refine KB ?_ ?_ <;> intro hp)) | refine KG ?_ | fail)
      all_goals first | (exfalso; omega) | exact absurd ‹_› hx' | exact J2 (seen.push e.born, E) hF' hsh
  have hE := fnd_end hF hz
  rw [hk] at hE
  have hE : E = k := hE
  subst hE
  subst hs0
  have hk0 : E ≠ 0 := (err_of hk).2.1
  repeat' (first | refine KO ?_ | ((with_reducible apply F1 24); exact rfl; exact EN; (first | (exact fun w μc hw hse => must_okb (decide_eq_true hk0) _ w μc hw))) | refine KI ?_ | refine NB fun b => ?_ | ((refine KB ?_ ?_ <;> intro hp)) | refine KG ?_ | fail)
  all_goals first | (exfalso; omega) | (exfalso; exact absurd rfl ‹¬ _›) | skip
  refine gq_sel (l' := [(2, .pointer (some ⟨bq, 0, none⟩))]) (L' := rdB rb ([], 1, u) ++ [.inl ⟨bq, 27, 8, idx 0 (encO0 { zeroO with e := E, at_ := n })⟩]) PU PS ?_
  exact ret_bor (Post := fun _ r _ => r = .agg (encO0 { zeroO with e := E, at_ := n }).toArray) (Ls := fun _ : Unit => rdB rb ([], 1, u)) 1 () hcnt rfl (rv_agg 1 rfl rfl rfl rfl rfl (by repeat first | exact lc_nil | refine lc_cons rfl ?_)) rfl rfl (fun _ _ => rfl)
end Go.Proofs.YtmihpkdhfomcgaaGreatDoor
namespace Go.Proofs.YtmihpkdhfomcgaaGreatDoor
open Go.RowKit Go.Vcg Ou
attribute [local irreducible] G GC GQ GA GAop Calls IntKind.wrap Int.decLt Int.decLe idxF errM leftOf Fnd
theorem wrong_err {ln e : Int} (rb : Nat) (s rest : List UInt8) (h : wrongRd rest s = .error (ln, e)) (hs : s.length ≤ 100000) (hr : rest.length ≤ 100000) (w : World) (μ : Mem) (hμ : MOk μ w) (hm : MaxOk μ) (hT : TabOk μ) (hO : Go.Vcg.Own μ (rdB rb (s, 1, rest)) w) :
    Calls Tryz.prog 23 #[.pointer (some ⟨rb, 0, none⟩)] w (RdE (idsOf (rdB rb (s, 1, rest))) w μ rb ln e) := by
  have hcnt := ids_count hO.diff
  refine call_introM (args := [.pointer (some ⟨rb, 0, none⟩)]) Tryz.func23 rfl Tryz.ntmps23 (by simp) hμ hO ?_
  show GC _ _ _ _ _ _ [.inl ⟨rb, 35, 3, [(0, .string (ofB s)), (1, .int .i64 1), (2, .string (ofB rest))]⟩]
  repeat' (first | ((with_reducible show GC _ _ (Code.seq (Code.region 1 _ _) _) _ _ _ _); (apply gc_stop)) | refine KK ?_ | refine NB fun b => ?_ | ((refine KB ?_ ?_ <;> intro hp)) | refine KG ?_ | fail)
  obtain ⟨bq, hbq⟩ : ∃ x, x = b := ⟨_, rfl⟩
  rw [← hbq]
  clear hbq
  refine gcs ?_
  unfold wrongRd at h
  cases hc : Ou.cutB 32 rest with
  | none =>
    rw [hc] at h
    cases h
    repeat' (first | ((with_reducible (first | apply gq_then_panic | apply gq_block_panic))) | refine KO ?_ | (refine CF 22 ?_; (first | ((with_reducible apply g_enter_panB 1); exact rfl; ((with_reducible apply e_call1); kernel_rfl; exact rfl); exact rfl; (first | exact fun w hw hO => word_err rb s rest 1 hc hs hr (by omega) w _ hw hm hO); (rintro μ2 i2 hle2); (dsimp only [List.cons_append, List.nil_append])) | ((with_reducible apply g_pull_1); (with_reducible apply g_enter_panB 1); exact rfl; ((with_reducible apply e_call1); kernel_rfl; exact rfl); exact rfl; (first | exact fun w hw hO => word_err rb s rest 1 hc hs hr (by omega) w _ hw hm hO); (rintro μ2 i2 hle2); (dsimp only [List.cons_append, List.nil_append])) | ((with_reducible apply g_pull_2); (with_reducible apply g_enter_panB 1); exact rfl; ((with_reducible apply e_call1); kernel_rfl; exact rfl); exact rfl; (first | exact fun w hw hO => word_err rb s rest 1 hc hs hr (by omega) w _ hw hm hO); (rintro μ2 i2 hle2); (dsimp only [List.cons_append, List.nil_append])) | ((with_reducible apply g_pull_3); (with_reducible apply g_enter_panB 1); exact rfl; ((with_reducible apply e_call1); kernel_rfl; exact rfl); exact rfl; (first | exact fun w hw hO => word_err rb s rest 1 hc hs hr (by omega) w _ hw hm hO); (rintro μ2 i2 hle2); (dsimp only [List.cons_append, List.nil_append])))) | refine KI ?_ | refine NB fun b => ?_ | ((refine KB ?_ ?_ <;> intro hp)) | refine KG ?_ | fail)
    refine gq_sel (l' := []) (L' := rdB rb (i2.1, 1, i2.2)) PU PS ?_
    exact gq_panB (Ls := fun i : List UInt8 × List UInt8 => rdB rb (i.1, 1, i.2)) 1 (i2.1, i2.2) hcnt rfl rfl
  | some q =>
  obtain ⟨x, u⟩ := q
  rw [hc] at h
  dsimp only at h
  have hl1 := len_cut1 hc
  cases hn : numB u with
  | none =>
    rw [hn] at h
    cases h
    repeat' (first | ((with_reducible (first | apply gq_then_panic | apply gq_block_panic))) | refine KO ?_ | (refine CF 22 ?_; (first | ((with_reducible apply g_enter_bor 1); exact rfl; exact rfl; exact rfl; ((with_reducible apply e_call1); kernel_rfl; exact rfl); exact rfl; (first | exact fun w hw hO => word_ok rb s rest 1 hc hs hr (by omega) w _ hw hm hO); (rintro v2 μ2 ⟨⟩ hle2 rfl); (dsimp only [List.cons_append, List.nil_append]); refine g_forget hcnt hle2 rfl ?_) | ((with_reducible apply g_pull_1); (with_reducible apply g_enter_bor 1); exact rfl; exact rfl; exact rfl; ((with_reducible apply e_call1); kernel_rfl; exact rfl); exact rfl; (first | exact fun w hw hO => word_ok rb s rest 1 hc hs hr (by omega) w _ hw hm hO); (rintro v2 μ2 ⟨⟩ hle2 rfl); (dsimp only [List.cons_append, List.nil_append]); refine g_forget hcnt hle2 rfl ?_) | ((with_reducible apply g_pull_2); (with_reducible apply g_enter_bor 1); exact rfl; exact rfl; exact rfl; ((with_reducible apply e_call1); kernel_rfl; exact rfl); exact rfl; (first | exact fun w hw hO => word_ok rb s rest 1 hc hs hr (by omega) w _ hw hm hO); (rintro v2 μ2 ⟨⟩ hle2 rfl); (dsimp only [List.cons_append, List.nil_append]); refine g_forget hcnt hle2 rfl ?_) | ((with_reducible apply g_pull_3); (with_reducible apply g_enter_bor 1); exact rfl; exact rfl; exact rfl; ((with_reducible apply e_call1); kernel_rfl; exact rfl); exact rfl; (first | exact fun w hw hO => word_ok rb s rest 1 hc hs hr (by omega) w _ hw hm hO); (rintro v2 μ2 ⟨⟩ hle2 rfl); (dsimp only [List.cons_append, List.nil_append]); refine g_forget hcnt hle2 rfl ?_))) | (refine CF 27 ?_; (with_reducible apply g_enter_pan 0); exact rfl; ((with_reducible apply e_call1); kernel_rfl; exact rfl); exact rfl; (exact fun w hw _ => number_no hn (by omega) w _ hw hT)) | refine KI ?_ | refine NB fun b => ?_ | ((refine KB ?_ ?_ <;> intro hp)) | refine KG ?_ | fail)
    refine gq_sel (l' := []) (L' := rdB rb (s, 1, u)) PU PS ?_
    exact gq_panB (Ls := fun i : List UInt8 × List UInt8 => rdB rb (i.1, 1, i.2)) 1 (s, u) hcnt rfl rfl
  | some n =>
  rw [hn] at h
  dsimp only at h
  repeat' (first | ((with_reducible show GC _ _ (Code.seq (Code.region 3 _ _) _) _ _ _ _); (apply gc_stop)) | refine KO ?_ | (refine CF 22 ?_; (first | ((with_reducible apply g_enter_bor 1); exact rfl; exact rfl; exact rfl; ((with_reducible apply e_call1); kernel_rfl; exact rfl); exact rfl; (first | exact fun w hw hO => word_ok rb s rest 1 hc hs hr (by omega) w _ hw hm hO); (rintro v2 μ2 ⟨⟩ hle2 rfl); (dsimp only [List.cons_append, List.nil_append]); refine g_forget hcnt hle2 rfl ?_) | ((with_reducible apply g_pull_1); (with_reducible apply g_enter_bor 1); exact rfl; exact rfl; exact rfl; ((with_reducible apply e_call1); kernel_rfl; exact rfl); exact rfl; (first | exact fun w hw hO => word_ok rb s rest 1 hc hs hr (by omega) w _ hw hm hO); (rintro v2 μ2 ⟨⟩ hle2 rfl); (dsimp only [List.cons_append, List.nil_append]); refine g_forget hcnt hle2 rfl ?_) | ((with_reducible apply g_pull_2); (with_reducible apply g_enter_bor 1); exact rfl; exact rfl; exact rfl; ((with_reducible apply e_call1); kernel_rfl; exact rfl); exact rfl; (first | exact fun w hw hO => word_ok rb s rest 1 hc hs hr (by omega) w _ hw hm hO); (rintro v2 μ2 ⟨⟩ hle2 rfl); (dsimp only [List.cons_append, List.nil_append]); refine g_forget hcnt hle2 rfl ?_) | ((with_reducible apply g_pull_3); (with_reducible apply g_enter_bor 1); exact rfl; exact rfl; exact rfl; ((with_reducible apply e_call1); kernel_rfl; exact rfl); exact rfl; (first | exact fun w hw hO => word_ok rb s rest 1 hc hs hr (by omega) w _ hw hm hO); (rintro v2 μ2 ⟨⟩ hle2 rfl); (dsimp only [List.cons_append, List.nil_append]); refine g_forget hcnt hle2 rfl ?_))) | ((with_reducible apply F1 27); exact rfl; exact EN; (exact fun w μc hw hse => number_at hn (by omega) w μc hw (hT.mono hse.le))) | refine KI ?_ | refine NB fun b => ?_ | ((refine KB ?_ ?_ <;> intro hp)) | refine KG ?_ | fail)
  obtain ⟨bo, hbo⟩ : ∃ x, x = b := ⟨_, rfl⟩
  rw [← hbo]
  clear hbo
  refine gcs ?_
  repeat' (first | refine KO ?_ | (refine CF 39 ?_; (with_reducible apply g_enter_bor (Ls := fun i => [.mp ⟨i, errM, 30⟩]) 0); exact rfl; exact rfl; exact rfl; ((with_reducible apply e_call0); kernel_rfl); exact rfl; (exact fun w hw _ => errnos_spec w _ hw); (rintro v2 μ2 bm hle2 rfl); (dsimp only [List.cons_append, List.nil_append]); refine g_forget hcnt hle2 rfl ?_) | ((with_reducible apply g_range); exact rfl; exact rfl; exact rfl; exact rfl; (repeat first | with_reducible exact inm_hd | with_reducible apply inm_tl); (intro bi)) | refine KI ?_ | refine NB fun b => ?_ | ((refine KB ?_ ?_ <;> intro hp)) | refine KG ?_ | fail)
  refine gc_loop (ι := Array Nat × Int) (fun i => Fnd x i.2 i.1) (fun i => (leftOf errM.toArray i.1).size) (fun _ => μ) (fun _ => [(16, .pointer (some ⟨bi, 0, none⟩)), (4, .pointer (some ⟨bo, 0, none⟩)), (3, .string (ofB x)), (2, .pointer (some ⟨bq, 0, none⟩)), (0, .pointer (some ⟨rb, 0, none⟩))])
    (fun i => [.it bi (some bm) 30 i.1 30, .mp ⟨bm, errM, 30⟩] ++ (rdB rb (s, 1, u) ++ [.inl ⟨bo, 27, 8, [(0, .int .i64 i.2), (1, .int .i64 n), (2, .int .i64 0), (3, .string ⟨#[]⟩), (4, .slice none 0 0), (5, .slice none 0 0), (6, .int .i64 0), (7, .int .i64 0)]⟩, .inl ⟨bq, 27, 8, idx 0 [.int .i64 0, .int .i64 0, .int .i64 0, .string ⟨#[]⟩, .slice none 0 0, .slice none 0 0, .int .i64 0, .int .i64 0]⟩])) (#[], 0) (fnd_start x) (fun a w hs => J5 hs) ?_
  rintro ⟨seen, E⟩ hF
  dsimp only [List.cons_append, List.nil_append] at hF ⊢
  refine gc_seq (gc_region ?_)
  refine g_next 0 rfl rfl rfl rfl (by repeat first | with_reducible exact inm_hd | with_reducible apply inm_tl) errM_lt (Nat.le_refl _) (fun hz => ?_) (fun e hel => ?_)
  rotate_left
  · obtain ⟨he, _⟩ := mem_left hel
    have he : e ∈ errM := by simpa using he
    obtain ⟨p, hp, hk1, hv1⟩ := errM_mem he
    have hsh := left_shrinks errM.toArray seen e hel
    rw [hk1, hv1]
    dsimp only [updB]
    have hent := fun (l : Slots) (L : List Bk) (x : Operand) (i : Nat) (ds : Option Nat) (ty : TypeId) (pos : String) (af : Array Edge) (gd : Option (Nat × Bool)) (hx : ev l x = some (.pointer (some ⟨bi, 0, none⟩))) (hi : nthB L i = some (.it bi (some bm) 30 (seen.push e.born) 30)) (hu : InM L bm ⟨bm, errM, 30⟩) => (by
      have := v_entry (P := Tryz.prog) (μ := μ) (l := l) (L := L) (x := x) (ds := ds) (ty := ty) (pos := pos) (af := af) (gd := gd) e i hx hi hu he errM_nodup
      rw [hk1, hv1] at this
      exact this : Val Tryz.prog μ l L ⟨ds, .entry x, ty, pos, af, gd⟩ (.tuple #[.int .i64 p.1, .string (ofB p.2)]))
    by_cases hx : p.2 = x
    · by_cases h0 : p.1 = 0
      · have hF' := fnd_miss hF he hk1 (fun h => h.2 h0)
        have hx' : ofB p.2 = ofB x := by rw [hx]
        repeat' (first | refine KO ?_ | (refine KV (b := by first | (refine hent _ _ _ 0 _ _ _ _ _ rfl rfl ?_; (repeat first | with_reducible exact inm_hd | with_reducible apply inm_tl))) (c := ?_)) | refine KI ?_ | refine NB fun b => ?_ | ((refine KB ?_ ?_ <;> intro hp)) | refine KG ?_ | fail)
        all_goals first | (exfalso; omega) | exact absurd hx' ‹_› | exact J2 (seen.push e.born, E) hF' hsh
      · have hF' := fnd_hit hF he hk1 (by rw [hv1, hx]) h0
        have hx' : ofB p.2 = ofB x := by rw [hx]
        repeat' (first | refine KO ?_ | (refine KV (b := by first | (refine hent _ _ _ 0 _ _ _ _ _ rfl rfl ?_; (repeat first | with_reducible exact inm_hd | with_reducible apply inm_tl))) (c := ?_)) | refine KI ?_ | refine NB fun b => ?_ | ((refine KB ?_ ?_ <;> intro hp)) | refine KG ?_ | fail)
        all_goals first | (exfalso; omega) | exact absurd hx' ‹_› | exact J2 (seen.push e.born, p.1) hF' hsh
    · have hF' := fnd_miss hF he hk1 (fun h => hx (by rw [hv1] at h; injection h.1 with hh; exact ofB_inj hh))
      have hx' : ¬ ofB p.2 = ofB x := fun h => hx (ofB_inj h)
      repeat' (first | refine KO ?_ | (refine KV (b := by first | (refine hent _ _ _ 0 _ _ _ _ _ rfl rfl ?_; (repeat first | with_reducible exact inm_hd | with_reducible apply inm_tl))) (c := ?_)) | refine KI ?_ | refine NB fun b => ?_ | ((refine KB ?_ ?_ <;> intro hp)) | refine KG ?_ | fail)
      all_goals first | (exfalso; omega) | exact absurd ‹_› hx' | exact J2 (seen.push e.born, E) hF' hsh
  have hE := fnd_end hF hz
  cases hk : findB errT' x with
  | none =>
    rw [hk] at h hE
    cases h
    have hE : E = 0 := hE
    subst hE
    repeat' (first | ((with_reducible (first | apply gq_then_panic | apply gq_block_panic))) | refine KO ?_ | (refine CF 24 ?_; (with_reducible apply g_enter_pan 0); exact rfl; ((with_reducible apply e_call2); kernel_rfl; exact rfl; exact rfl); exact rfl; (first | (exact fun w hw _ => must_errb (decide_eq_false (by omega)) _ w _ hw))) | refine KI ?_ | refine NB fun b => ?_ | ((refine KB ?_ ?_ <;> intro hp)) | refine KG ?_ | fail)
    refine gq_sel (l' := []) (L' := rdB rb (s, 1, u)) PU PS ?_
    exact gq_panB (Ls := fun i : List UInt8 × List UInt8 => rdB rb (i.1, 1, i.2)) 1 (s, u) hcnt rfl rfl
  | some k =>
    rw [hk] at h hE
    have hE : E = k := hE
    subst hE
    have hk0 : E ≠ 0 := (err_of hk).2.1
    dsimp only at h
    have hs0 : ¬ s = [] := by rintro rfl; cases h
    have hs0' : ¬ ofB s = ⟨#[]⟩ := fun hh => hs0 (ofB_inj hh)
    have hcs : (match Ou.cutB 10 s with | none => (.error (2, 8) : Except (Int × Int) OutP) | some _ => .error (2, 7)) = .error (ln, e) := by
      cases s with
      | nil => exact absurd rfl hs0
      | cons c r => exact h
    cases hc2 : Ou.cutB 10 s with
    | none =>
      rw [hc2] at hcs
      cases hcs
      repeat' (first | ((with_reducible (first | apply gq_then_panic | apply gq_block_panic))) | refine KO ?_ | ((with_reducible apply F1 24); exact rfl; exact EN; (first | (exact fun w μc hw hse => must_okb (decide_eq_true hk0) _ w μc hw))) | (refine CF 21 ?_; (first | ((with_reducible apply g_enter_panB 1); exact rfl; ((with_reducible apply e_call1); kernel_rfl; exact rfl); exact rfl; (first | exact fun w hw hO => next_err rb s u 1 hc2 hs (by omega) (by omega) w _ hw hm hO); (rintro μ2 i2 hle2); (dsimp only [List.cons_append, List.nil_append])) | ((with_reducible apply g_pull_1); (with_reducible apply g_enter_panB 1); exact rfl; ((with_reducible apply e_call1); kernel_rfl; exact rfl); exact rfl; (first | exact fun w hw hO => next_err rb s u 1 hc2 hs (by omega) (by omega) w _ hw hm hO); (rintro μ2 i2 hle2); (dsimp only [List.cons_append, List.nil_append])) | ((with_reducible apply g_pull_2); (with_reducible apply g_enter_panB 1); exact rfl; ((with_reducible apply e_call1); kernel_rfl; exact rfl); exact rfl; (first | exact fun w hw hO => next_err rb s u 1 hc2 hs (by omega) (by omega) w _ hw hm hO); (rintro μ2 i2 hle2); (dsimp only [List.cons_append, List.nil_append])) | ((with_reducible apply g_pull_3); (with_reducible apply g_enter_panB 1); exact rfl; ((with_reducible apply e_call1); kernel_rfl; exact rfl); exact rfl; (first | exact fun w hw hO => next_err rb s u 1 hc2 hs (by omega) (by omega) w _ hw hm hO); (rintro μ2 i2 hle2); (dsimp only [List.cons_append, List.nil_append])))) | refine KI ?_ | refine NB fun b => ?_ | ((refine KB ?_ ?_ <;> intro hp)) | refine KG ?_ | fail)
      all_goals first | (exfalso; omega) | exact absurd ‹_› hs0' | skip
      refine gq_sel (l' := []) (L' := rdB rb (i2.1, 2, i2.2)) PU PS ?_
      exact gq_panB (Ls := fun i : List UInt8 × List UInt8 => rdB rb (i.1, 2, i.2)) 1 (i2.1, i2.2) hcnt rfl rfl
    | some z =>
      obtain ⟨l2, s2⟩ := z
      rw [hc2] at hcs
      cases hcs
      repeat' (first | ((with_reducible (first | apply gq_then_panic | apply gq_block_panic))) | refine KO ?_ | ((with_reducible apply F1 24); exact rfl; exact EN; (first | (exact fun w μc hw hse => must_okb (decide_eq_true hk0) _ w μc hw))) | (refine CF 21 ?_; (first | ((with_reducible apply g_enter_bor 1); exact rfl; exact rfl; exact rfl; ((with_reducible apply e_call1); kernel_rfl; exact rfl); exact rfl; (first | exact fun w hw hO => next_ok rb s u 1 hc2 hs (by omega) (by omega) w _ hw hm hO); (rintro v2 μ2 ⟨⟩ hle2 -); (dsimp only [List.cons_append, List.nil_append]); refine g_forget hcnt hle2 rfl ?_) | ((with_reducible apply g_pull_1); (with_reducible apply g_enter_bor 1); exact rfl; exact rfl; exact rfl; ((with_reducible apply e_call1); kernel_rfl; exact rfl); exact rfl; (first | exact fun w hw hO => next_ok rb s u 1 hc2 hs (by omega) (by omega) w _ hw hm hO); (rintro v2 μ2 ⟨⟩ hle2 -); (dsimp only [List.cons_append, List.nil_append]); refine g_forget hcnt hle2 rfl ?_) | ((with_reducible apply g_pull_2); (with_reducible apply g_enter_bor 1); exact rfl; exact rfl; exact rfl; ((with_reducible apply e_call1); kernel_rfl; exact rfl); exact rfl; (first | exact fun w hw hO => next_ok rb s u 1 hc2 hs (by omega) (by omega) w _ hw hm hO); (rintro v2 μ2 ⟨⟩ hle2 -); (dsimp only [List.cons_append, List.nil_append]); refine g_forget hcnt hle2 rfl ?_) | ((with_reducible apply g_pull_3); (with_reducible apply g_enter_bor 1); exact rfl; exact rfl; exact rfl; ((with_reducible apply e_call1); kernel_rfl; exact rfl); exact rfl; (first | exact fun w hw hO => next_ok rb s u 1 hc2 hs (by omega) (by omega) w _ hw hm hO); (rintro v2 μ2 ⟨⟩ hle2 -); (dsimp only [List.cons_append, List.nil_append]); refine g_forget hcnt hle2 rfl ?_))) | (refine CF 24 ?_; (with_reducible apply g_enter_pan 0); exact rfl; ((with_reducible apply e_call2); kernel_rfl; exact rfl; exact rfl); exact rfl; (first | (exact fun w hw _ => must_errb rfl _ w _ hw))) | refine KI ?_ | refine NB fun b => ?_ | ((refine KB ?_ ?_ <;> intro hp)) | refine KG ?_ | fail)
      all_goals first | (exfalso; omega) | exact absurd ‹_› hs0' | skip
      refine gq_sel (l' := []) (L' := rdB rb (s2, 2, l2)) PU PS ?_
      exact gq_panB (Ls := fun i : List UInt8 × List UInt8 => rdB rb (i.1, 2, i.2)) 1 (s2, l2) hcnt rfl rfl
end Go.Proofs.YtmihpkdhfomcgaaGreatDoor
