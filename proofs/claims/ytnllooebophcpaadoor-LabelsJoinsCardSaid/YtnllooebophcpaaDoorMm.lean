/- The law's Few: a tree of at most 1501 nodes. (and what leans on it). No statement of the seat is proved here. -/
import Derived.Test.YtnllooebophcpaaDoorPtr
import Derived.Test.YtnllooebophcpaaDoorTree
import Derived.Test.YtnllooebophcpaaDoorVi
import Derived.Test.YtnllooebophcpaaDoorSt
import Derived.Test.YtnllooebophcpaaDoorMl
set_option maxRecDepth 20000
set_option maxHeartbeats 2000000
namespace Go.Proofs.YtnllooebophcpaaDoor
open Go.RowKit Go.Vcg
attribute [local irreducible] G GC GQ GA GAop Calls IntKind.wrap Int.decLt Int.decLe
def sizes (ps : List (T × Value)) : Nat := (ps.map fun p => p.1.size).sum
def Kids (μ : Mem) (ps : List (T × Value)) : Prop := ∀ p ∈ ps, KR μ p.1.kids p.2
theorem Kids.mono {μ μ' : Mem} {ps : List (T × Value)} (h : Kids μ ps) (hle : MLe μ μ') : Kids μ' ps := fun p hp => (h p hp).mono hle
theorem Kids.one {μ : Mem} {ps : List (T × Value)} (h : Kids μ ps) : ∀ u ∈ ps.flatMap encTV, u.oneCell' = true := by
  intro u hu
  obtain ⟨p, hp, hu⟩ := List.mem_flatMap.1 hu
  simp at hu
  rcases hu with rfl | rfl | rfl | rfl | rfl | rfl
  all_goals first | rfl | exact (h p hp).one
theorem KR.of_pairs {μ : Mem} {A : Option Addr} {n c : Nat} {ps : List (T × Value)} (h : Sl encTV 6 μ A n ps) (hc : n ≤ c) (hk : Kids μ ps) : KR μ (ps.map (·.1)) (.slice A n c) := by
  have hn := h.1
  subst hn
  have : KR μ (ps.map (·.1)) (.slice A (ps.map (·.1)).length c) := by
    refine .mk _ A c (fun i => match ps[i]? with | some p => p.2 | none => undef) (by simpa using hc) (fun i t hi => ?_) (fun i t hi => ?_) (fun i t hi => ?_)
    all_goals
      rw [List.getElem?_map] at hi
      cases hp : ps[i]? with
      | none => simp [hp] at hi
      | some p =>
        simp [hp] at hi
        subst hi
        first
          | (obtain ⟨a, e, ha⟩ := h.2 (by have := (List.getElem?_eq_some_iff.1 hp).1; omega); exact ⟨a, e, ha i p hp⟩)
          | exact (hk p (List.mem_of_getElem? hp)).one
          | exact hk p (List.mem_of_getElem? hp)
  simpa using this
theorem sizes_append (a b : List (T × Value)) : sizes (a ++ b) = sizes a + sizes b := by simp [sizes]
theorem size_mk (o a n m : Int) (s : ByteArray) (ps : List (T × Value)) : (T.mk o a n m s (ps.map (·.1))).size = 1 + sizes ps := by
  rw [T.size_eq]
  simp only [T.kids, List.map_map]
  rfl
def In64 (x : Int) : Prop := -9223372036854775808 ≤ x ∧ x ≤ 9223372036854775807
inductive Ri : T → Prop
  | mk {t : T} (h1 : In64 t.op) (h3 : In64 t.n) (h4 : In64 t.m) (hk : ∀ k ∈ t.kids, Ri k) : Ri t
inductive Sh : T → Prop
  | mk {t : T} (h : t.s.size ≤ 200) (h1 : In64 t.op) (h3 : In64 t.n) (h4 : In64 t.m) (hk : ∀ k ∈ t.kids, Sh k) : Sh t
theorem Ri.kid {t k : T} (h : Ri t) (hk : k ∈ t.kids) : Ri k := by
  cases h with
  | mk _ _ _ h => exact h k hk
theorem size_cut (s : ByteArray) : (s.extract 0 (min s.size 200)).size ≤ 200 := by
  rw [ByteArray.size_extract]
  omega
theorem sh_mk {t : T} {ps : List (T × Value)} (h : Ri t → ∀ p ∈ ps, Sh p.1) : Ri t → Sh (T.mk t.op t.at' t.n t.m (t.s.extract 0 (min t.s.size 200)) (ps.map (·.1))) := fun hr => by
  have hp := h hr
  cases hr with
  | mk h1 h3 h4 _ =>
    refine .mk (size_cut t.s) h1 h3 h4 fun k hk => ?_
    obtain ⟨p, hpm, rfl⟩ := List.mem_map.1 hk
    exact hp p hpm
def CutPost (t0 : T) (k : Nat) (μ : Mem) (v : Value) (k' : Int) : Prop := ∃ (t : T) (j : Nat), k' = (j : Int) ∧ TV μ t v ∧ t.size + j ≤ k + 1 ∧ (Ri t0 → Sh t)
theorem cut_spec : ∀ (deep : Nat), deep ≤ 260 → ∀ (t : T) (v : Value) (w : World) (μ : Mem) (B k : Nat), MOk μ w → TV μ t v → μ B = none → IntAt B 3 k w → k ≤ 1500 →
    Calls Tryd.prog 12 #[v, .int .i64 deep, .pointer (some ⟨B, 0, none⟩)] w fun e w' => ∃ v μ' k', e = .returned v ∧ GrowB B w w' μ μ' ∧ IntAt B 3 k' w' ∧ CutPost t k μ' v k' := by
  intro deep
  induction deep using Nat.strongRecOn with
  | _ deep ih =>
    intro hd t v w μ B k hμ ht hB hi hk
    obtain ⟨u, rfl, hkr⟩ := ht
    obtain ⟨A, c, rfl, hlc, hkid⟩ := hkr.form
    refine call_introB (args := [.agg (encT t (.slice A t.kids.length c)).toArray, .int .i64 (deep : Int), .pointer (some ⟨B, 0, none⟩)]) Tryd.func12 rfl Tryd.ntmps12 (by simp) hμ hi hB ?_
    repeat' (first | refine KK ?_ | refine NB fun b => ?_ | ((refine KB ?_ ?_ <;> intro hp)) | refine KG ?_ | fail)
    rename_i bn
    refine gc_loop (ι := Nat × Nat × Value × Mem × List (T × Value)) (fun i => i.1 ≤ t.kids.length ∧ i.2.2.2.2.length = i.1 ∧ MLe μ i.2.2.2.1 ∧ Kids i.2.2.2.1 i.2.2.2.2 ∧ sizes i.2.2.2.2 + i.2.1 ≤ k ∧ i.1 + i.2.1 ≤ k ∧ (Ri t → ∀ p ∈ i.2.2.2.2, Sh p.1)) (fun i => t.kids.length - i.1) (fun i => i.2.2.2.1) (fun i => [(8, .int .i64 i.1), (7, i.2.2.1), (6, .pointer (some ⟨b, 0, none⟩)), (3, .pointer (some ⟨bn, 0, none⟩)), (1, .int .i64 deep), (2, .pointer (some ⟨B, 0, none⟩))]) (fun i => [.inr ⟨i.2.2.1, 24, 6, i.1, i.2.2.2.2.flatMap encTV⟩, .inl ⟨b, 24, 6, idx 0 [.int .i64 0, .int .i64 0, .int .i64 0, .int .i64 0, .string ⟨#[]⟩, .slice none 0 0]⟩, .inl ⟨bn, 24, 6, idx 0 (encT t (.slice A t.kids.length c))⟩, .inl ⟨B, 3, 1, [(0, .int .i64 i.2.1)]⟩]) (0, k, .slice none 0 0, μ, []) ⟨by simp, rfl, MLe.refl _, fun p hp => (by cases hp), by simp [sizes], by simp, fun _ p hp => (by cases hp)⟩ (fun a w hs => (hs.nilRow 24 6).sub PU (by repeat first | exact List.Sublist.refl _ | exact List.nil_sublist _ | refine List.Sublist.cons_cons _ ?_ | refine List.Sublist.cons _ ?_)) ?_
    rintro ⟨i, kk, v, μ1, ps⟩ ⟨hil, hpl, hle, hkids, hsz, hik, hsh⟩
    dsimp only at hil hpl hle hkids hsz hik hsh ⊢
    refine gc_rowOk 0 rfl ?_
    rintro A1 c1 rfl hok
    by_cases hlt : i < t.kids.length
    · obtain ⟨ad, x, rfl, hm0, ho, hkx⟩ := hkid i _ (List.getElem?_eq_getElem hlt)
      have hm := hm0.mono hle
      by_cases hpos : 0 < deep
      · have e : ((deep : Int) - 1) = ((deep - 1 : Nat) : Int) := by omega
        repeat' (first | refine KO ?_ | ((with_reducible apply g_enter_b 3); exact rfl; exact rfl; exact rfl; ((with_reducible apply e_call3); kernel_rfl; exact rfl; exact rfl; exact rfl); exact rfl; exact rfl; (intro w2 hw2 hi2 hB2; (have hc2 := ih (deep - 1) (by omega) (by omega) _ _ w2 _ B (kk - 1) hw2 ⟨x, rfl, hkx.mono hle⟩ hB2 (by (have e2 : ((kk - 1 : Nat) : Int) = (kk : Int) - 1 := by omega); rw [e2]; exact hi2) (by omega)); rw [← e] at hc2; exact hc2); (rintro v2 μ2 k2 hle2 ⟨t2, j, rfl, ⟨u2, rfl, hk2⟩, hsz2, hsh2⟩; (have ho2 := hk2.one); dsimp only [updB])) | (first | ((with_reducible apply g_ap); exact rfl; exact rfl; exact rfl; (repeat first | with_reducible exact rowup_hd | with_reducible apply rowup_tl); (iterate 6 exact rfl); (first | ((with_reducible apply src_in); exact rfl; (repeat first | with_reducible exact inb_hd | with_reducible apply inb_tl); exact rfl)); (first | exact rfl | omega | simp); (first | assumption | (exact ones_mem (by (repeat first | with_reducible exact ones_nil | ((with_reducible apply ones_cons); (first | exact rfl | assumption))))) | simp [Value.oneCell']); omega; omega; intro v) | ((with_reducible apply g_append0); (iterate 9 exact rfl); (first | ((with_reducible apply src_in); exact rfl; (repeat first | with_reducible exact inb_hd | with_reducible apply inb_tl); exact rfl)); (first | exact rfl | omega | simp); (first | assumption | (exact ones_mem (by (repeat first | with_reducible exact ones_nil | ((with_reducible apply ones_cons); (first | exact rfl | assumption))))) | simp [Value.oneCell']); omega; omega; intro v)) | (refine KV (b := by first | exact U1 i | exact U4 hm) (c := ?_)) | refine KI ?_ | refine NB fun b => ?_ | ((refine KB ?_ ?_ <;> intro hp)) | refine KG ?_ | fail)
        · have hs1 := T.size_eq t2
          refine gq_back (i + 1, j, v, μ2, ps ++ [(t2, u2)]) ⟨by dsimp only; omega, by simp [hpl], hle.trans hle2, ?_, ?_, by dsimp only; omega, fun hr p hp => (List.mem_append.1 hp).elim (fun h => hsh hr p h) (fun h => by rw [List.mem_singleton.1 h]; exact hsh2 (hr.kid (List.getElem_mem hlt)))⟩ (by dsimp only; omega) rfl PU ?_
          · intro p hp
            rcases List.mem_append.1 hp with hp | hp
            · exact (hkids p hp).mono hle2
            · simp at hp; subst hp; exact hk2
          · dsimp only
            have : sizes [(t2, u2)] = t2.size := by simp [sizes]
            rw [sizes_append]
            omega
          · dsimp only
            rw [List.flatMap_append]
            exact (by repeat first | exact List.Sublist.refl _ | exact List.nil_sublist _ | refine List.Sublist.cons_cons _ ?_ | refine List.Sublist.cons _ ?_)
        · repeat' (first | refine KO ?_ | (refine KV (b := by first | ((with_reducible apply v_str_hi (min t.s.size 200)); exact rfl; exact rfl; exact rfl; (focus (split <;> omega)); omega)) (c := ?_)) | refine KI ?_ | refine NB fun b => ?_ | ((refine KB ?_ ?_ <;> intro hp)) | refine KG ?_ | fail)
          refine ret_b 3 rfl (rv_agg 1 rfl rfl rfl rfl rfl (by repeat first | exact lc_nil | refine lc_cons rfl ?_)) rfl rfl (fun μ' hle' hL => ⟨T.mk t.op t.at' t.n t.m (t.s.extract 0 (min t.s.size 200)) (ps.map (·.1)), kk, rfl, ⟨.slice A1 i c1, rfl, ?_⟩, ?_, sh_mk hsh⟩)
          · exact KR.of_pairs (sl_of_row (enc := encTV) (xs := ps) (hL 0 _ rfl (by decide)) hpl (by simp) rfl) hok.cap (hkids.mono hle')
          · rw [size_mk]
            omega
      · repeat' (first | refine KO ?_ | (refine KV (b := by first | ((with_reducible apply v_str_hi (min t.s.size 200)); exact rfl; exact rfl; exact rfl; (focus (split <;> omega)); omega)) (c := ?_)) | refine KI ?_ | refine NB fun b => ?_ | ((refine KB ?_ ?_ <;> intro hp)) | refine KG ?_ | fail)
        refine ret_b 3 rfl (rv_agg 1 rfl rfl rfl rfl rfl (by repeat first | exact lc_nil | refine lc_cons rfl ?_)) rfl rfl (fun μ' hle' hL => ⟨T.mk t.op t.at' t.n t.m (t.s.extract 0 (min t.s.size 200)) (ps.map (·.1)), kk, rfl, ⟨.slice A1 i c1, rfl, ?_⟩, ?_, sh_mk hsh⟩)
        · exact KR.of_pairs (sl_of_row (enc := encTV) (xs := ps) (hL 0 _ rfl (by decide)) hpl (by simp) rfl) hok.cap (hkids.mono hle')
        · rw [size_mk]
          omega
    · repeat' (first | refine KO ?_ | (refine KV (b := by first | ((with_reducible apply v_str_hi (min t.s.size 200)); exact rfl; exact rfl; exact rfl; (focus (split <;> omega)); omega)) (c := ?_)) | refine KI ?_ | refine NB fun b => ?_ | ((refine KB ?_ ?_ <;> intro hp)) | refine KG ?_ | fail)
      refine ret_b 3 rfl (rv_agg 1 rfl rfl rfl rfl rfl (by repeat first | exact lc_nil | refine lc_cons rfl ?_)) rfl rfl (fun μ' hle' hL => ⟨T.mk t.op t.at' t.n t.m (t.s.extract 0 (min t.s.size 200)) (ps.map (·.1)), kk, rfl, ⟨.slice A1 i c1, rfl, ?_⟩, ?_, sh_mk hsh⟩)
      · exact KR.of_pairs (sl_of_row (enc := encTV) (xs := ps) (hL 0 _ rfl (by decide)) hpl (by simp) rfl) hok.cap (hkids.mono hle')
      · rw [size_mk]
        omega
def FewPostS (t0 : T) (μ : Mem) (v : Value) : Prop := ∃ t : T, TV μ t v ∧ t.size ≤ 1501 ∧ (Ri t0 → Sh t)
theorem few_specS (t : T) (v : Value) (w : World) (μ : Mem) (hμ : MOk μ w) (ht : TV μ t v) :
    Calls Tryd.prog 7 #[v] w fun e w' => ∃ v μ', e = .returned v ∧ Grow w w' μ μ' ∧ FewPostS t μ' v := by
  obtain ⟨u, rfl, hkr⟩ := ht
  obtain ⟨A, c, rfl, hlc, hkid⟩ := hkr.form
  refine call_intro (args := [.agg (encT t (.slice A t.kids.length c)).toArray]) Tryd.func7 rfl Tryd.ntmps7 (by simp) hμ ?_
  repeat' (first | refine KO ?_ | ((with_reducible apply g_enter_b 0); exact rfl; exact rfl; exact rfl; ((with_reducible apply e_call3); kernel_rfl; exact rfl; exact rfl; exact rfl); exact rfl; exact rfl; (intro w2 hw2 hi2 hB2; exact cut_spec 260 (by decide) _ _ w2 _ _ 1500 hw2 ⟨_, rfl, hkr⟩ hB2 hi2 (by decide)); (rintro v2 μ2 k2 hle2 ⟨t2, j, rfl, ⟨u2, rfl, hk2⟩, hsz2, hsh2⟩; (have ho2 := hk2.one); dsimp only [updB])) | refine KI ?_ | refine NB fun b => ?_ | ((refine KB ?_ ?_ <;> intro hp)) | refine KG ?_ | fail)
  exact ret_m1 rfl (rv_agg 1 rfl rfl rfl rfl rfl (by repeat first | exact lc_nil | refine lc_cons rfl ?_)) (fun μ' hle' hL => ⟨t2, ⟨u2, rfl, hk2.mono hle'⟩, by omega, hsh2⟩)
end Go.Proofs.YtnllooebophcpaaDoor
namespace Go.Proofs.YtnllooebophcpaaDoor
open Go.RowKit Go.Vcg
noncomputable def kidsB (t : T) : Bool := if t.op ≤ 23 then stB t else exB t
def onT (t : T) (i : Nat) (k : T) (spine : Bool) : Bool := decide (i = 0) && linkT k && (decide (t.op = 53) || spine && linkT t)
def Nd (t : T) (spine : Bool) : Prop := knownT t.op = true ∧ fieldsT t = true ∧ ¬(linkT t = true ∧ t.n = 1 ∧ spine = false)
inductive Rt : T → Nat → Bool → Prop
  | mk {t : T} {deep : Nat} {spine : Bool} (hd : deep ≤ 200) (hn : Nd t spine) (hk : kidsB t = true) (hr : ∀ (i : Nat) (k : T), t.kids[i]? = some k → Rt k (deep + 1) (onT t i k spine)) : Rt t deep spine
noncomputable def rtB (t : T) (deep : Nat) (spine : Bool) : Bool := dB (Rt t deep spine)
theorem rtB_t {t : T} {d : Nat} {s : Bool} (h : Rt t d s) : rtB t d s = true := by unfold rtB; exact dB_t h
theorem rtB_f {t : T} {d : Nat} {s : Bool} (h : ¬Rt t d s) : rtB t d s = false := by unfold rtB; exact dB_f h
theorem rtB_true {t : T} {d : Nat} {s : Bool} (h : rtB t d s = true) : Rt t d s := by unfold rtB at h; exact dB_true h
theorem rtB_false {t : T} {d : Nat} {s : Bool} (h : rtB t d s = false) : ¬Rt t d s := by unfold rtB at h; exact dB_false h
theorem sh_kid {t k : T} (h : Sh t) (hk : k ∈ t.kids) : Sh k := by
  cases h with
  | mk _ _ _ _ h => exact h k hk
theorem sh_op {t : T} (h : Sh t) : In64 t.op := by cases h; assumption
theorem sh_s {t : T} (h : Sh t) : t.s.size ≤ 200 := by cases h; assumption
theorem sh_sh' : ∀ {t : T}, Sh t → Sh' t := fun {t} => T.ind2 (p := fun t => Sh t → Sh' t) (fun t ih h => .mk (by have := sh_s h; omega) fun k hk => ih k hk (sh_kid h hk)) t
attribute [local irreducible] knownT fieldsT stB exB rtB G GC GQ GA GAop Calls IntKind.wrap Int.decLt Int.decLe
theorem right_spec : ∀ (n : Nat), n ≤ 100000 → ∀ (t : T) (u : Value) (deep : Nat) (spine : Bool) (w : World) (μ : Mem), MOk μ w → KR μ t.kids u → t.size ≤ n → deep ≤ 201 → Sh t → TabA μ →
    Calls Tryd.prog 20 #[.agg (encT t u).toArray, .int .i64 deep, .bool spine] w fun e w' => e = .returned (.bool (rtB t deep spine)) ∧ Below w.heap.size w w' := by
  intro n
  induction n with
  | zero => intro _ t u d s w μ hμ hk hn; exact absurd hn (by rw [T.size_eq]; omega)
  | succ n ih =>
    intro hnb t u deep spine w μ hμ hk hn hdp hsh hT
    have ho := hk.one
    have hop := sh_op hsh
    unfold In64 at hop
    have hss := sh_s hsh
    have hks : ∀ k ∈ t.kids, T.size k ≤ 100000 ∧ k.s.size ≤ 65536 := fun k hk => by
      obtain ⟨i, hi⟩ := List.mem_iff_getElem?.1 hk
      have h1 := T.size_kid hi
      have h2 := sh_s (sh_kid hsh hk)
      exact ⟨by omega, by omega⟩
    have hks' : ∀ k ∈ t.kids, Sh' k := fun k hk => sh_sh' (sh_kid hsh hk)
    have hlen := kidsLe t
    obtain ⟨A, c, rfl, hlc, hkid⟩ := hk.form
    have c1 := fun (w : World) (μc : Mem) (hw : MOk μc w) (hle : MLe μ μc) => known_spec t.op hop w μc hw (hT.mono hle)
    have c2 := fun (w : World) (μc : Mem) (hw : MOk μc w) (hle : MLe μ μc) => fields_spec' t _ w μc hw (hk.mono hle) (by omega) (by omega) (hT.mono hle)
    have c3 := fun (w : World) (μc : Mem) (hw : MOk μc w) (hle : MLe μ μc) => link_spec t _ w μc hw (hk.mono hle) (by omega) (by omega)
    have c4 := fun (w : World) (μc : Mem) (hw : MOk μc w) (hle : MLe μ μc) => statements_spec t _ w μc hw (hk.mono hle) (by omega) hks
    have c5 := fun (w : World) (μc : Mem) (hw : MOk μc w) (hle : MLe μ μc) => expressions_spec t _ w μc hw (hk.mono hle) (by omega) hks hks'
    refine call_intro (args := [.agg (encT t (.slice A t.kids.length c)).toArray, .int .i64 deep, .bool spine]) Tryd.func20 rfl Tryd.ntmps20 (by simp) hμ ?_
    by_cases h1 : deep ≤ 200 ∧ Nd t spine
    · obtain ⟨hd, hnd⟩ := h1
      obtain ⟨hkn, hf, hl⟩ := id hnd
      rw [hkn] at c1
      rw [hf] at c2
      cases hkb : kidsB t
      · have hR : rtB t deep spine = false := rtB_f fun h => by
          cases h with
          | mk _ _ h2 _ => rw [hkb] at h2; cases h2
        rw [hR]
        unfold kidsB at hkb
        repeat' (first | ((with_reducible show GC _ _ (Code.seq (Code.region 3 _ _) _) _ _ _ _); (apply gc_stop)) | refine KO ?_ | ((with_reducible apply F1 29); exact rfl; exact EN; (exact fun w μc hw hse => c1 w μc hw hse.le)) | ((with_reducible apply F1 30); exact rfl; exact EN; (exact fun w μc hw hse => c2 w μc hw hse.le)) | ((with_reducible apply F1 31); exact rfl; exact EN; (exact fun w μc hw hse => c3 w μc hw hse.le)) | refine KI ?_ | refine NB fun b => ?_ | ((refine KB ?_ ?_ <;> intro hp)) | refine KG ?_ | fail)
        all_goals try (exfalso; apply hl; refine ⟨?_, ?_, ?_⟩ <;> assumption)
        all_goals
          refine gcs ?_
          by_cases h23 : t.op ≤ 23
          · rw [if_pos h23] at hkb
            rw [hkb] at c4
            repeat' (first | refine KO ?_ | ((with_reducible apply C1); exact rfl; exact EN; exact fun w μc hw hse => c4 w μc hw hse.le) | refine KI ?_ | refine NB fun b => ?_ | ((refine KB ?_ ?_ <;> intro hp)) | refine KG ?_ | fail)
            all_goals first | exact ret_s rfl rfl rfl | (exfalso; omega)
          · rw [if_neg h23] at hkb
            rw [hkb] at c5
            repeat' (first | refine KO ?_ | ((with_reducible apply C1); exact rfl; exact EN; exact fun w μc hw hse => c5 w μc hw hse.le) | refine KI ?_ | refine NB fun b => ?_ | ((refine KB ?_ ?_ <;> intro hp)) | refine KG ?_ | fail)
            all_goals first | exact ret_s rfl rfl rfl | (exfalso; omega)
      · have hkb' := hkb
        unfold kidsB at hkb'
        repeat' (first | ((with_reducible show GC _ _ (Code.seq (Code.seq (Code.region 1 _ _) _) _) _ _ _ _); (apply gc_stop)) | refine KK ?_ | refine NB fun b => ?_ | ((refine KB ?_ ?_ <;> intro hp)) | refine KG ?_ | fail)
        refine gcs (gc_join (ι := Unit) (fun _ => True) (fun _ => μ) (fun _ => [(1, .int .i64 deep), (2, .bool spine), (3, .pointer (some ⟨b, 0, none⟩))]) (fun _ => [.inl ⟨b, 24, 6, idx 0 (encT t (.slice A t.kids.length c))⟩]) ?_ ?_)
        · repeat' (first | refine KO ?_ | ((with_reducible apply F1 29); exact rfl; exact EN; (exact fun w μc hw hse => c1 w μc hw hse.le)) | ((with_reducible apply F1 30); exact rfl; exact EN; (exact fun w μc hw hse => c2 w μc hw hse.le)) | ((with_reducible apply F1 31); exact rfl; exact EN; (exact fun w μc hw hse => c3 w μc hw hse.le)) | refine KI ?_ | refine NB fun b => ?_ | ((refine KB ?_ ?_ <;> intro hp)) | refine KG ?_ | fail)
          all_goals try (exfalso; apply hl; refine ⟨?_, ?_, ?_⟩ <;> assumption)
          all_goals first | exact J1 () trivial | (exfalso; omega)
        intro _ _
        by_cases h23 : t.op ≤ 23
        · rw [if_pos h23] at hkb'
          rw [hkb'] at c4
          repeat' (first | refine KO ?_ | ((with_reducible apply C1); exact rfl; exact EN; exact fun w μc hw hse => c4 w μc hw hse.le) | refine KI ?_ | refine NB fun b => ?_ | ((refine KB ?_ ?_ <;> intro hp)) | refine KG ?_ | fail)
          all_goals try (exfalso; omega)
          refine gc_loop (ι := Nat) (fun i => i ≤ t.kids.length ∧ ∀ (j : Nat) (k : T), j < i → t.kids[j]? = some k → Rt k (deep + 1) (onT t j k spine)) (fun i => t.kids.length - i) (fun _ => μ) (fun i => [(47, .int .i64 i), (46, .int .i64 t.kids.length), (45, .slice A t.kids.length c), (1, .int .i64 deep), (2, .bool spine), (3, .pointer (some ⟨b, 0, none⟩))]) (fun _ => [.inl ⟨b, 24, 6, idx 0 (encT t (.slice A t.kids.length c))⟩]) 0 ⟨by omega, fun j _ h => absurd h (by omega)⟩ (fun a w hs => J5 hs) ?_
          rintro i ⟨hi, hok⟩
          by_cases hlt : i < t.kids.length
          · have hkk : t.kids[i]? = some t.kids[i] := List.getElem?_eq_getElem hlt
            generalize t.kids[i] = k at hkk
            obtain ⟨ad, x, rfl, hm, hox, hkx⟩ := hkid i k hkk
            have hsz := T.size_kid hkk
            have hshk := sh_kid hsh (List.mem_of_getElem? hkk)
            have hskk := sh_s hshk
            have ck := fun (w : World) (μc : Mem) (hw : MOk μc w) (hle : MLe μ μc) => link_spec k _ w μc hw (hkx.mono hle) (by omega) (by omega)
            have hnext : Rt k (deep + 1) (onT t i k spine) → ∀ (j : Nat) (k : T), j < i + 1 → t.kids[j]? = some k → Rt k (deep + 1) (onT t j k spine) := fun h j k' hj hk' => by
              rcases Nat.lt_or_ge j i with h1 | h1
              · exact hok j k' h1 hk'
              · obtain rfl : j = i := by omega
                rw [hkk] at hk'
                cases hk'
                exact h
            by_cases hi0 : i = 0
            · subst hi0
              cases hlk : linkT k
              · rw [hlk] at ck
                have hon : onT t 0 k spine = false := by simp [onT, hlk]
                cases hq : rtB k (deep + 1) false
                · have hR : rtB t deep spine = false := rtB_f fun h => rtB_false hq (by cases h with | mk _ _ _ h4 => exact hon ▸ h4 0 k hkk)
                  rw [hR]
                  have hcall := fun (w : World) (μc : Mem) (hw : MOk μc w) (hle : MLe μ μc) => hq ▸ ih (by omega) k x (deep + 1) false w μc hw (hkx.mono hle) (by omega) (by omega) hshk (hT.mono hle)
                  repeat' (first | refine KO ?_ | ((with_reducible apply F1 31); exact rfl; exact EN; first | (exact fun w μc hw hse => ck w μc hw hse.le) | (exact fun w μc hw hse => c3 w μc hw hse.le)) | ((with_reducible apply F1 20); exact rfl; exact EN; (exact fun w μc hw hse => hcall w μc hw hse.le)) | (refine KV (b := by first | exact U1 0 | exact U4 hm) (c := ?_)) | refine KI ?_ | refine NB fun b => ?_ | ((refine KB ?_ ?_ <;> intro hp)) | refine KG ?_ | fail)
                  all_goals first | exact ret_s rfl rfl rfl | (exfalso; omega)
                · have hnx := hnext (by rw [hon]; exact rtB_true hq)
                  have hcall := fun (w : World) (μc : Mem) (hw : MOk μc w) (hle : MLe μ μc) => hq ▸ ih (by omega) k x (deep + 1) false w μc hw (hkx.mono hle) (by omega) (by omega) hshk (hT.mono hle)
                  repeat' (first | refine KO ?_ | ((with_reducible apply F1 31); exact rfl; exact EN; first | (exact fun w μc hw hse => ck w μc hw hse.le) | (exact fun w μc hw hse => c3 w μc hw hse.le)) | ((with_reducible apply F1 20); exact rfl; exact EN; (exact fun w μc hw hse => hcall w μc hw hse.le)) | (refine KV (b := by first | exact U1 0 | exact U4 hm) (c := ?_)) | refine KI ?_ | refine NB fun b => ?_ | ((refine KB ?_ ?_ <;> intro hp)) | refine KG ?_ | fail)
                  all_goals first | exact J2 (0 + 1) ⟨by omega, hnx⟩ (by omega) | (exfalso; omega)
              · rw [hlk] at ck
                by_cases h53 : t.op = 53
                · have hon : onT t 0 k spine = true := by simp [onT, hlk, h53]
                  cases hq : rtB k (deep + 1) true
                  · have hR : rtB t deep spine = false := rtB_f fun h => rtB_false hq (by cases h with | mk _ _ _ h4 => exact hon ▸ h4 0 k hkk)
                    rw [hR]
                    have hcall := fun (w : World) (μc : Mem) (hw : MOk μc w) (hle : MLe μ μc) => hq ▸ ih (by omega) k x (deep + 1) true w μc hw (hkx.mono hle) (by omega) (by omega) hshk (hT.mono hle)
                    repeat' (first | refine KO ?_ | ((with_reducible apply F1 31); exact rfl; exact EN; first | (exact fun w μc hw hse => ck w μc hw hse.le) | (exact fun w μc hw hse => c3 w μc hw hse.le)) | ((with_reducible apply F1 20); exact rfl; exact EN; (exact fun w μc hw hse => hcall w μc hw hse.le)) | (refine KV (b := by first | exact U1 0 | exact U4 hm) (c := ?_)) | refine KI ?_ | refine NB fun b => ?_ | ((refine KB ?_ ?_ <;> intro hp)) | refine KG ?_ | fail)
                    all_goals first | exact ret_s rfl rfl rfl | (exfalso; omega)
                  · have hnx := hnext (by rw [hon]; exact rtB_true hq)
                    have hcall := fun (w : World) (μc : Mem) (hw : MOk μc w) (hle : MLe μ μc) => hq ▸ ih (by omega) k x (deep + 1) true w μc hw (hkx.mono hle) (by omega) (by omega) hshk (hT.mono hle)
                    repeat' (first | refine KO ?_ | ((with_reducible apply F1 31); exact rfl; exact EN; first | (exact fun w μc hw hse => ck w μc hw hse.le) | (exact fun w μc hw hse => c3 w μc hw hse.le)) | ((with_reducible apply F1 20); exact rfl; exact EN; (exact fun w μc hw hse => hcall w μc hw hse.le)) | (refine KV (b := by first | exact U1 0 | exact U4 hm) (c := ?_)) | refine KI ?_ | refine NB fun b => ?_ | ((refine KB ?_ ?_ <;> intro hp)) | refine KG ?_ | fail)
                    all_goals first | exact J2 (0 + 1) ⟨by omega, hnx⟩ (by omega) | (exfalso; omega)
                · cases spine
                  · skip
                    have hon : onT t 0 k false = false := by simp [onT, hlk, h53]
                    cases hq : rtB k (deep + 1) false
                    · have hR : rtB t deep false = false := rtB_f fun h => rtB_false hq (by cases h with | mk _ _ _ h4 => exact hon ▸ h4 0 k hkk)
                      rw [hR]
                      have hcall := fun (w : World) (μc : Mem) (hw : MOk μc w) (hle : MLe μ μc) => hq ▸ ih (by omega) k x (deep + 1) false w μc hw (hkx.mono hle) (by omega) (by omega) hshk (hT.mono hle)
                      repeat' (first | refine KO ?_ | ((with_reducible apply F1 31); exact rfl; exact EN; first | (exact fun w μc hw hse => ck w μc hw hse.le) | (exact fun w μc hw hse => c3 w μc hw hse.le)) | ((with_reducible apply F1 20); exact rfl; exact EN; (exact fun w μc hw hse => hcall w μc hw hse.le)) | (refine KV (b := by first | exact U1 0 | exact U4 hm) (c := ?_)) | refine KI ?_ | refine NB fun b => ?_ | ((refine KB ?_ ?_ <;> intro hp)) | refine KG ?_ | fail)
                      all_goals first | exact ret_s rfl rfl rfl | (exfalso; omega)
                    · have hnx := hnext (by rw [hon]; exact rtB_true hq)
                      have hcall := fun (w : World) (μc : Mem) (hw : MOk μc w) (hle : MLe μ μc) => hq ▸ ih (by omega) k x (deep + 1) false w μc hw (hkx.mono hle) (by omega) (by omega) hshk (hT.mono hle)
                      repeat' (first | refine KO ?_ | ((with_reducible apply F1 31); exact rfl; exact EN; first | (exact fun w μc hw hse => ck w μc hw hse.le) | (exact fun w μc hw hse => c3 w μc hw hse.le)) | ((with_reducible apply F1 20); exact rfl; exact EN; (exact fun w μc hw hse => hcall w μc hw hse.le)) | (refine KV (b := by first | exact U1 0 | exact U4 hm) (c := ?_)) | refine KI ?_ | refine NB fun b => ?_ | ((refine KB ?_ ?_ <;> intro hp)) | refine KG ?_ | fail)
                      all_goals first | exact J2 (0 + 1) ⟨by omega, hnx⟩ (by omega) | (exfalso; omega)
                  · cases hlt2 : linkT t
                    · rw [hlt2] at c3
                      have hon : onT t 0 k true = false := by simp [onT, hlk, h53, hlt2]
                      cases hq : rtB k (deep + 1) false
                      · have hR : rtB t deep true = false := rtB_f fun h => rtB_false hq (by cases h with | mk _ _ _ h4 => exact hon ▸ h4 0 k hkk)
                        rw [hR]
                        have hcall := fun (w : World) (μc : Mem) (hw : MOk μc w) (hle : MLe μ μc) => hq ▸ ih (by omega) k x (deep + 1) false w μc hw (hkx.mono hle) (by omega) (by omega) hshk (hT.mono hle)
                        repeat' (first | refine KO ?_ | ((with_reducible apply F1 31); exact rfl; exact EN; first | (exact fun w μc hw hse => ck w μc hw hse.le) | (exact fun w μc hw hse => c3 w μc hw hse.le)) | ((with_reducible apply F1 20); exact rfl; exact EN; (exact fun w μc hw hse => hcall w μc hw hse.le)) | (refine KV (b := by first | exact U1 0 | exact U4 hm) (c := ?_)) | refine KI ?_ | refine NB fun b => ?_ | ((refine KB ?_ ?_ <;> intro hp)) | refine KG ?_ | fail)
                        all_goals first | exact ret_s rfl rfl rfl | (exfalso; omega)
                      · have hnx := hnext (by rw [hon]; exact rtB_true hq)
                        have hcall := fun (w : World) (μc : Mem) (hw : MOk μc w) (hle : MLe μ μc) => hq ▸ ih (by omega) k x (deep + 1) false w μc hw (hkx.mono hle) (by omega) (by omega) hshk (hT.mono hle)
                        repeat' (first | refine KO ?_ | ((with_reducible apply F1 31); exact rfl; exact EN; first | (exact fun w μc hw hse => ck w μc hw hse.le) | (exact fun w μc hw hse => c3 w μc hw hse.le)) | ((with_reducible apply F1 20); exact rfl; exact EN; (exact fun w μc hw hse => hcall w μc hw hse.le)) | (refine KV (b := by first | exact U1 0 | exact U4 hm) (c := ?_)) | refine KI ?_ | refine NB fun b => ?_ | ((refine KB ?_ ?_ <;> intro hp)) | refine KG ?_ | fail)
                        all_goals first | exact J2 (0 + 1) ⟨by omega, hnx⟩ (by omega) | (exfalso; omega)
                    · rw [hlt2] at c3
                      have hon : onT t 0 k true = true := by simp [onT, hlk, h53, hlt2]
                      cases hq : rtB k (deep + 1) true
                      · have hR : rtB t deep true = false := rtB_f fun h => rtB_false hq (by cases h with | mk _ _ _ h4 => exact hon ▸ h4 0 k hkk)
                        rw [hR]
                        have hcall := fun (w : World) (μc : Mem) (hw : MOk μc w) (hle : MLe μ μc) => hq ▸ ih (by omega) k x (deep + 1) true w μc hw (hkx.mono hle) (by omega) (by omega) hshk (hT.mono hle)
                        repeat' (first | refine KO ?_ | ((with_reducible apply F1 31); exact rfl; exact EN; first | (exact fun w μc hw hse => ck w μc hw hse.le) | (exact fun w μc hw hse => c3 w μc hw hse.le)) | ((with_reducible apply F1 20); exact rfl; exact EN; (exact fun w μc hw hse => hcall w μc hw hse.le)) | (refine KV (b := by first | exact U1 0 | exact U4 hm) (c := ?_)) | refine KI ?_ | refine NB fun b => ?_ | ((refine KB ?_ ?_ <;> intro hp)) | refine KG ?_ | fail)
                        all_goals first | exact ret_s rfl rfl rfl | (exfalso; omega)
                      · have hnx := hnext (by rw [hon]; exact rtB_true hq)
                        have hcall := fun (w : World) (μc : Mem) (hw : MOk μc w) (hle : MLe μ μc) => hq ▸ ih (by omega) k x (deep + 1) true w μc hw (hkx.mono hle) (by omega) (by omega) hshk (hT.mono hle)
                        repeat' (first | refine KO ?_ | ((with_reducible apply F1 31); exact rfl; exact EN; first | (exact fun w μc hw hse => ck w μc hw hse.le) | (exact fun w μc hw hse => c3 w μc hw hse.le)) | ((with_reducible apply F1 20); exact rfl; exact EN; (exact fun w μc hw hse => hcall w μc hw hse.le)) | (refine KV (b := by first | exact U1 0 | exact U4 hm) (c := ?_)) | refine KI ?_ | refine NB fun b => ?_ | ((refine KB ?_ ?_ <;> intro hp)) | refine KG ?_ | fail)
                        all_goals first | exact J2 (0 + 1) ⟨by omega, hnx⟩ (by omega) | (exfalso; omega)
            · skip
              have hon : onT t i k spine = false := by simp [onT, hi0]
              cases hq : rtB k (deep + 1) false
              · have hR : rtB t deep spine = false := rtB_f fun h => rtB_false hq (by cases h with | mk _ _ _ h4 => exact hon ▸ h4 i k hkk)
                rw [hR]
                have hcall := fun (w : World) (μc : Mem) (hw : MOk μc w) (hle : MLe μ μc) => hq ▸ ih (by omega) k x (deep + 1) false w μc hw (hkx.mono hle) (by omega) (by omega) hshk (hT.mono hle)
                repeat' (first | refine KO ?_ | ((with_reducible apply F1 31); exact rfl; exact EN; first | (exact fun w μc hw hse => ck w μc hw hse.le) | (exact fun w μc hw hse => c3 w μc hw hse.le)) | ((with_reducible apply F1 20); exact rfl; exact EN; (exact fun w μc hw hse => hcall w μc hw hse.le)) | (refine KV (b := by first | exact U1 i | exact U4 hm) (c := ?_)) | refine KI ?_ | refine NB fun b => ?_ | ((refine KB ?_ ?_ <;> intro hp)) | refine KG ?_ | fail)
                all_goals first | exact ret_s rfl rfl rfl | (exfalso; omega)
              · have hnx := hnext (by rw [hon]; exact rtB_true hq)
                have hcall := fun (w : World) (μc : Mem) (hw : MOk μc w) (hle : MLe μ μc) => hq ▸ ih (by omega) k x (deep + 1) false w μc hw (hkx.mono hle) (by omega) (by omega) hshk (hT.mono hle)
                repeat' (first | refine KO ?_ | ((with_reducible apply F1 31); exact rfl; exact EN; first | (exact fun w μc hw hse => ck w μc hw hse.le) | (exact fun w μc hw hse => c3 w μc hw hse.le)) | ((with_reducible apply F1 20); exact rfl; exact EN; (exact fun w μc hw hse => hcall w μc hw hse.le)) | (refine KV (b := by first | exact U1 i | exact U4 hm) (c := ?_)) | refine KI ?_ | refine NB fun b => ?_ | ((refine KB ?_ ?_ <;> intro hp)) | refine KG ?_ | fail)
                all_goals first | exact J2 (i + 1) ⟨by omega, hnx⟩ (by omega) | (exfalso; omega)
          · have hR : rtB t deep spine = true := rtB_t (.mk hd hnd hkb fun j k hj => hok j k (by have := (List.getElem?_eq_some_iff.1 hj).1; omega) hj)
            rw [hR]
            repeat' (first | refine KK ?_ | refine NB fun b => ?_ | ((refine KB ?_ ?_ <;> intro hp)) | refine KG ?_ | fail)
            all_goals first | exact ret_s rfl rfl rfl | (exfalso; omega)
        · rw [if_neg h23] at hkb'
          rw [hkb'] at c5
          repeat' (first | refine KO ?_ | ((with_reducible apply C1); exact rfl; exact EN; exact fun w μc hw hse => c5 w μc hw hse.le) | refine KI ?_ | refine NB fun b => ?_ | ((refine KB ?_ ?_ <;> intro hp)) | refine KG ?_ | fail)
          all_goals try (exfalso; omega)
          refine gc_loop (ι := Nat) (fun i => i ≤ t.kids.length ∧ ∀ (j : Nat) (k : T), j < i → t.kids[j]? = some k → Rt k (deep + 1) (onT t j k spine)) (fun i => t.kids.length - i) (fun _ => μ) (fun i => [(47, .int .i64 i), (46, .int .i64 t.kids.length), (45, .slice A t.kids.length c), (1, .int .i64 deep), (2, .bool spine), (3, .pointer (some ⟨b, 0, none⟩))]) (fun _ => [.inl ⟨b, 24, 6, idx 0 (encT t (.slice A t.kids.length c))⟩]) 0 ⟨by omega, fun j _ h => absurd h (by omega)⟩ (fun a w hs => J5 hs) ?_
          rintro i ⟨hi, hok⟩
          by_cases hlt : i < t.kids.length
          · have hkk : t.kids[i]? = some t.kids[i] := List.getElem?_eq_getElem hlt
            generalize t.kids[i] = k at hkk
            obtain ⟨ad, x, rfl, hm, hox, hkx⟩ := hkid i k hkk
            have hsz := T.size_kid hkk
            have hshk := sh_kid hsh (List.mem_of_getElem? hkk)
            have hskk := sh_s hshk
            have ck := fun (w : World) (μc : Mem) (hw : MOk μc w) (hle : MLe μ μc) => link_spec k _ w μc hw (hkx.mono hle) (by omega) (by omega)
            have hnext : Rt k (deep + 1) (onT t i k spine) → ∀ (j : Nat) (k : T), j < i + 1 → t.kids[j]? = some k → Rt k (deep + 1) (onT t j k spine) := fun h j k' hj hk' => by
              rcases Nat.lt_or_ge j i with h1 | h1
              · exact hok j k' h1 hk'
              · obtain rfl : j = i := by omega
                rw [hkk] at hk'
                cases hk'
                exact h
            by_cases hi0 : i = 0
            · subst hi0
              cases hlk : linkT k
              · rw [hlk] at ck
                have hon : onT t 0 k spine = false := by simp [onT, hlk]
                cases hq : rtB k (deep + 1) false
                · have hR : rtB t deep spine = false := rtB_f fun h => rtB_false hq (by cases h with | mk _ _ _ h4 => exact hon ▸ h4 0 k hkk)
                  rw [hR]
                  have hcall := fun (w : World) (μc : Mem) (hw : MOk μc w) (hle : MLe μ μc) => hq ▸ ih (by omega) k x (deep + 1) false w μc hw (hkx.mono hle) (by omega) (by omega) hshk (hT.mono hle)
                  repeat' (first | refine KO ?_ | ((with_reducible apply F1 31); exact rfl; exact EN; first | (exact fun w μc hw hse => ck w μc hw hse.le) | (exact fun w μc hw hse => c3 w μc hw hse.le)) | ((with_reducible apply F1 20); exact rfl; exact EN; (exact fun w μc hw hse => hcall w μc hw hse.le)) | (refine KV (b := by first | exact U1 0 | exact U4 hm) (c := ?_)) | refine KI ?_ | refine NB fun b => ?_ | ((refine KB ?_ ?_ <;> intro hp)) | refine KG ?_ | fail)
                  all_goals first | exact ret_s rfl rfl rfl | (exfalso; omega)
                · have hnx := hnext (by rw [hon]; exact rtB_true hq)
                  have hcall := fun (w : World) (μc : Mem) (hw : MOk μc w) (hle : MLe μ μc) => hq ▸ ih (by omega) k x (deep + 1) false w μc hw (hkx.mono hle) (by omega) (by omega) hshk (hT.mono hle)
                  repeat' (first | refine KO ?_ | ((with_reducible apply F1 31); exact rfl; exact EN; first | (exact fun w μc hw hse => ck w μc hw hse.le) | (exact fun w μc hw hse => c3 w μc hw hse.le)) | ((with_reducible apply F1 20); exact rfl; exact EN; (exact fun w μc hw hse => hcall w μc hw hse.le)) | (refine KV (b := by first | exact U1 0 | exact U4 hm) (c := ?_)) | refine KI ?_ | refine NB fun b => ?_ | ((refine KB ?_ ?_ <;> intro hp)) | refine KG ?_ | fail)
                  all_goals first | exact J2 (0 + 1) ⟨by omega, hnx⟩ (by omega) | (exfalso; omega)
              · rw [hlk] at ck
                by_cases h53 : t.op = 53
                · have hon : onT t 0 k spine = true := by simp [onT, hlk, h53]
                  cases hq : rtB k (deep + 1) true
                  · have hR : rtB t deep spine = false := rtB_f fun h => rtB_false hq (by cases h with | mk _ _ _ h4 => exact hon ▸ h4 0 k hkk)
                    rw [hR]
                    have hcall := fun (w : World) (μc : Mem) (hw : MOk μc w) (hle : MLe μ μc) => hq ▸ ih (by omega) k x (deep + 1) true w μc hw (hkx.mono hle) (by omega) (by omega) hshk (hT.mono hle)
                    repeat' (first | refine KO ?_ | ((with_reducible apply F1 31); exact rfl; exact EN; first | (exact fun w μc hw hse => ck w μc hw hse.le) | (exact fun w μc hw hse => c3 w μc hw hse.le)) | ((with_reducible apply F1 20); exact rfl; exact EN; (exact fun w μc hw hse => hcall w μc hw hse.le)) | (refine KV (b := by first | exact U1 0 | exact U4 hm) (c := ?_)) | refine KI ?_ | refine NB fun b => ?_ | ((refine KB ?_ ?_ <;> intro hp)) | refine KG ?_ | fail)
                    all_goals first | exact ret_s rfl rfl rfl | (exfalso; omega)
                  · have hnx := hnext (by rw [hon]; exact rtB_true hq)
                    have hcall := fun (w : World) (μc : Mem) (hw : MOk μc w) (hle : MLe μ μc) => hq ▸ ih (by omega) k x (deep + 1) true w μc hw (hkx.mono hle) (by omega) (by omega) hshk (hT.mono hle)
                    repeat' (first | refine KO ?_ | ((with_reducible apply F1 31); exact rfl; exact EN; first | (exact fun w μc hw hse => ck w μc hw hse.le) | (exact fun w μc hw hse => c3 w μc hw hse.le)) | ((with_reducible apply F1 20); exact rfl; exact EN; (exact fun w μc hw hse => hcall w μc hw hse.le)) | (refine KV (b := by first | exact U1 0 | exact U4 hm) (c := ?_)) | refine KI ?_ | refine NB fun b => ?_ | ((refine KB ?_ ?_ <;> intro hp)) | refine KG ?_ | fail)
                    all_goals first | exact J2 (0 + 1) ⟨by omega, hnx⟩ (by omega) | (exfalso; omega)
                · cases spine
                  · skip
                    have hon : onT t 0 k false = false := by simp [onT, hlk, h53]
                    cases hq : rtB k (deep + 1) false
                    · have hR : rtB t deep false = false := rtB_f fun h => rtB_false hq (by cases h with | mk _ _ _ h4 => exact hon ▸ h4 0 k hkk)
                      rw [hR]
                      have hcall := fun (w : World) (μc : Mem) (hw : MOk μc w) (hle : MLe μ μc) => hq ▸ ih (by omega) k x (deep + 1) false w μc hw (hkx.mono hle) (by omega) (by omega) hshk (hT.mono hle)
                      repeat' (first | refine KO ?_ | ((with_reducible apply F1 31); exact rfl; exact EN; first | (exact fun w μc hw hse => ck w μc hw hse.le) | (exact fun w μc hw hse => c3 w μc hw hse.le)) | ((with_reducible apply F1 20); exact rfl; exact EN; (exact fun w μc hw hse => hcall w μc hw hse.le)) | (refine KV (b := by first | exact U1 0 | exact U4 hm) (c := ?_)) | refine KI ?_ | refine NB fun b => ?_ | ((refine KB ?_ ?_ <;> intro hp)) | refine KG ?_ | fail)
                      all_goals first | exact ret_s rfl rfl rfl | (exfalso; omega)
                    · have hnx := hnext (by rw [hon]; exact rtB_true hq)
                      have hcall := fun (w : World) (μc : Mem) (hw : MOk μc w) (hle : MLe μ μc) => hq ▸ ih (by omega) k x (deep + 1) false w μc hw (hkx.mono hle) (by omega) (by omega) hshk (hT.mono hle)
                      repeat' (first | refine KO ?_ | ((with_reducible apply F1 31); exact rfl; exact EN; first | (exact fun w μc hw hse => ck w μc hw hse.le) | (exact fun w μc hw hse => c3 w μc hw hse.le)) | ((with_reducible apply F1 20); exact rfl; exact EN; (exact fun w μc hw hse => hcall w μc hw hse.le)) | (refine KV (b := by first | exact U1 0 | exact U4 hm) (c := ?_)) | refine KI ?_ | refine NB fun b => ?_ | ((refine KB ?_ ?_ <;> intro hp)) | refine KG ?_ | fail)
                      all_goals first | exact J2 (0 + 1) ⟨by omega, hnx⟩ (by omega) | (exfalso; omega)
                  · cases hlt2 : linkT t
                    · rw [hlt2] at c3
                      have hon : onT t 0 k true = false := by simp [onT, hlk, h53, hlt2]
                      cases hq : rtB k (deep + 1) false
                      · have hR : rtB t deep true = false := rtB_f fun h => rtB_false hq (by cases h with | mk _ _ _ h4 => exact hon ▸ h4 0 k hkk)
                        rw [hR]
                        have hcall := fun (w : World) (μc : Mem) (hw : MOk μc w) (hle : MLe μ μc) => hq ▸ ih (by omega) k x (deep + 1) false w μc hw (hkx.mono hle) (by omega) (by omega) hshk (hT.mono hle)
                        repeat' (first | refine KO ?_ | ((with_reducible apply F1 31); exact rfl; exact EN; first | (exact fun w μc hw hse => ck w μc hw hse.le) | (exact fun w μc hw hse => c3 w μc hw hse.le)) | ((with_reducible apply F1 20); exact rfl; exact EN; (exact fun w μc hw hse => hcall w μc hw hse.le)) | (refine KV (b := by first | exact U1 0 | exact U4 hm) (c := ?_)) | refine KI ?_ | refine NB fun b => ?_ | ((refine KB ?_ ?_ <;> intro hp)) | refine KG ?_ | fail)
                        all_goals first | exact ret_s rfl rfl rfl | (exfalso; omega)
                      · have hnx := hnext (by rw [hon]; exact rtB_true hq)
                        have hcall := fun (w : World) (μc : Mem) (hw : MOk μc w) (hle : MLe μ μc) => hq ▸ ih (by omega) k x (deep + 1) false w μc hw (hkx.mono hle) (by omega) (by omega) hshk (hT.mono hle)
                        repeat' (first | refine KO ?_ | ((with_reducible apply F1 31); exact rfl; exact EN; first | (exact fun w μc hw hse => ck w μc hw hse.le) | (exact fun w μc hw hse => c3 w μc hw hse.le)) | ((with_reducible apply F1 20); exact rfl; exact EN; (exact fun w μc hw hse => hcall w μc hw hse.le)) | (refine KV (b := by first | exact U1 0 | exact U4 hm) (c := ?_)) | refine KI ?_ | refine NB fun b => ?_ | ((refine KB ?_ ?_ <;> intro hp)) | refine KG ?_ | fail)
                        all_goals first | exact J2 (0 + 1) ⟨by omega, hnx⟩ (by omega) | (exfalso; omega)
                    · rw [hlt2] at c3
                      have hon : onT t 0 k true = true := by simp [onT, hlk, h53, hlt2]
                      cases hq : rtB k (deep + 1) true
                      · have hR : rtB t deep true = false := rtB_f fun h => rtB_false hq (by cases h with | mk _ _ _ h4 => exact hon ▸ h4 0 k hkk)
                        rw [hR]
                        have hcall := fun (w : World) (μc : Mem) (hw : MOk μc w) (hle : MLe μ μc) => hq ▸ ih (by omega) k x (deep + 1) true w μc hw (hkx.mono hle) (by omega) (by omega) hshk (hT.mono hle)
                        repeat' (first | refine KO ?_ | ((with_reducible apply F1 31); exact rfl; exact EN; first | (exact fun w μc hw hse => ck w μc hw hse.le) | (exact fun w μc hw hse => c3 w μc hw hse.le)) | ((with_reducible apply F1 20); exact rfl; exact EN; (exact fun w μc hw hse => hcall w μc hw hse.le)) | (refine KV (b := by first | exact U1 0 | exact U4 hm) (c := ?_)) | refine KI ?_ | refine NB fun b => ?_ | ((refine KB ?_ ?_ <;> intro hp)) | refine KG ?_ | fail)
                        all_goals first | exact ret_s rfl rfl rfl | (exfalso; omega)
                      · have hnx := hnext (by rw [hon]; exact rtB_true hq)
                        have hcall := fun (w : World) (μc : Mem) (hw : MOk μc w) (hle : MLe μ μc) => hq ▸ ih (by omega) k x (deep + 1) true w μc hw (hkx.mono hle) (by omega) (by omega) hshk (hT.mono hle)
                        repeat' (first | refine KO ?_ | ((with_reducible apply F1 31); exact rfl; exact EN; first | (exact fun w μc hw hse => ck w μc hw hse.le) | (exact fun w μc hw hse => c3 w μc hw hse.le)) | ((with_reducible apply F1 20); exact rfl; exact EN; (exact fun w μc hw hse => hcall w μc hw hse.le)) | (refine KV (b := by first | exact U1 0 | exact U4 hm) (c := ?_)) | refine KI ?_ | refine NB fun b => ?_ | ((refine KB ?_ ?_ <;> intro hp)) | refine KG ?_ | fail)
                        all_goals first | exact J2 (0 + 1) ⟨by omega, hnx⟩ (by omega) | (exfalso; omega)
            · skip
              have hon : onT t i k spine = false := by simp [onT, hi0]
              cases hq : rtB k (deep + 1) false
              · have hR : rtB t deep spine = false := rtB_f fun h => rtB_false hq (by cases h with | mk _ _ _ h4 => exact hon ▸ h4 i k hkk)
                rw [hR]
                have hcall := fun (w : World) (μc : Mem) (hw : MOk μc w) (hle : MLe μ μc) => hq ▸ ih (by omega) k x (deep + 1) false w μc hw (hkx.mono hle) (by omega) (by omega) hshk (hT.mono hle)
                repeat' (first | refine KO ?_ | ((with_reducible apply F1 31); exact rfl; exact EN; first | (exact fun w μc hw hse => ck w μc hw hse.le) | (exact fun w μc hw hse => c3 w μc hw hse.le)) | ((with_reducible apply F1 20); exact rfl; exact EN; (exact fun w μc hw hse => hcall w μc hw hse.le)) | (refine KV (b := by first | exact U1 i | exact U4 hm) (c := ?_)) | refine KI ?_ | refine NB fun b => ?_ | ((refine KB ?_ ?_ <;> intro hp)) | refine KG ?_ | fail)
                all_goals first | exact ret_s rfl rfl rfl | (exfalso; omega)
              · have hnx := hnext (by rw [hon]; exact rtB_true hq)
                have hcall := fun (w : World) (μc : Mem) (hw : MOk μc w) (hle : MLe μ μc) => hq ▸ ih (by omega) k x (deep + 1) false w μc hw (hkx.mono hle) (by omega) (by omega) hshk (hT.mono hle)
                repeat' (first | refine KO ?_ | ((with_reducible apply F1 31); exact rfl; exact EN; first | (exact fun w μc hw hse => ck w μc hw hse.le) | (exact fun w μc hw hse => c3 w μc hw hse.le)) | ((with_reducible apply F1 20); exact rfl; exact EN; (exact fun w μc hw hse => hcall w μc hw hse.le)) | (refine KV (b := by first | exact U1 i | exact U4 hm) (c := ?_)) | refine KI ?_ | refine NB fun b => ?_ | ((refine KB ?_ ?_ <;> intro hp)) | refine KG ?_ | fail)
                all_goals first | exact J2 (i + 1) ⟨by omega, hnx⟩ (by omega) | (exfalso; omega)
          · have hR : rtB t deep spine = true := rtB_t (.mk hd hnd hkb fun j k hj => hok j k (by have := (List.getElem?_eq_some_iff.1 hj).1; omega) hj)
            rw [hR]
            repeat' (first | refine KK ?_ | refine NB fun b => ?_ | ((refine KB ?_ ?_ <;> intro hp)) | refine KG ?_ | fail)
            all_goals first | exact ret_s rfl rfl rfl | (exfalso; omega)
    · have hR : rtB t deep spine = false := rtB_f fun h => by
        cases h with
        | mk h2 h3 _ _ => exact h1 ⟨h2, h3⟩
      rw [hR]
      unfold Nd at h1
      repeat' (first | ((with_reducible show GC _ _ (Code.seq (Code.region 3 _ _) _) _ _ _ _); (apply gc_stop)) | refine KO ?_ | ((with_reducible apply F1 29); exact rfl; exact EN; (exact fun w μc hw hse => c1 w μc hw hse.le)) | ((with_reducible apply F1 30); exact rfl; exact EN; (exact fun w μc hw hse => c2 w μc hw hse.le)) | ((with_reducible apply F1 31); exact rfl; exact EN; (exact fun w μc hw hse => c3 w μc hw hse.le)) | refine KI ?_ | refine NB fun b => ?_ | ((refine KB ?_ ?_ <;> intro hp)) | refine KG ?_ | fail)
      all_goals first | exact ret_s rfl rfl rfl | (exfalso; clear c1 c2 c3 c4 c5 hk hkid hμ hT hks hks' hsh ih; simp_all; done) | (exfalso; clear c1 c2 c3 c4 c5 hk hkid hμ hT hks hks' hsh ih; simp_all; omega) | (exfalso; omega)
end Go.Proofs.YtnllooebophcpaaDoor
namespace Go.Proofs.YtnllooebophcpaaDoor
open Go.RowKit Go.Vcg
def OkF (t : T) : Prop := t.op = 4 → 0 ≤ t.n ∧ t.n ≤ 255
def chk (f : Int → Bool) : Bool := (List.range 256).all fun k => f (k : Int)
theorem chk_at {f : Int → Bool} (h : chk f = true) {n : Int} (h0 : 0 ≤ n) (h1 : n ≤ 255) : f n = true := by
  obtain ⟨k, rfl⟩ := Int.eq_ofNat_of_zero_le h0
  exact List.all_eq_true.1 h k (List.mem_range.2 (by omega))
def andB (n m : Int) : Bool := decide (andI n m ≠ 0)
def quoB (n m : Int) : Bool := decide ((IntKind.i64.wrap (n.tdiv m)).tmod 2 = 1)
def bitC (n : Int) : Bool := ([1, 2, 4, 8, 16, 32, 128] : List Int).all (fun m => andB n m == quoB n m) && ((andB n 57 == (andB n 1 || andB n 8 || andB n 16 || andB n 32)) && (andB n 50 == (andB n 2 || andB n 16 || andB n 32)))
theorem bitC_ok : chk bitC = true := by decide +kernel
theorem has_and {t : T} {m : Int} (h4 : t.op = 4) : hasT t m = andB t.n m := by unfold hasT andB; rw [decide_eq_true h4, Bool.true_and]
theorem bit_quo {t : T} {m : Int} (h4 : t.op = 4) (h0 : 0 ≤ t.n) : bitT t m = quoB t.n m := by unfold bitT quoB; rw [decide_eq_true h4, decide_eq_true h0, Bool.true_and, Bool.true_and]
theorem bitC_at {n : Int} (h0 : 0 ≤ n) (h1 : n ≤ 255) : (∀ m ∈ ([1, 2, 4, 8, 16, 32, 128] : List Int), andB n m = quoB n m) ∧ andB n 57 = (andB n 1 || andB n 8 || andB n 16 || andB n 32) ∧ andB n 50 = (andB n 2 || andB n 16 || andB n 32) := by
  have h := chk_at bitC_ok h0 h1
  unfold bitC at h
  rw [Bool.and_eq_true, Bool.and_eq_true, List.all_eq_true] at h
  exact ⟨fun m hm => eq_of_beq (h.1 m hm), eq_of_beq h.2.1, eq_of_beq h.2.2⟩
theorem has_bit {t : T} (h : OkF t) {m : Int} (hm : m ∈ ([1, 2, 4, 8, 16, 32, 128] : List Int)) : hasT t m = bitT t m := by
  by_cases h4 : t.op = 4
  · obtain ⟨h0, h1⟩ := h h4
    rw [has_and h4, bit_quo h4 h0]
    exact (bitC_at h0 h1).1 m hm
  · unfold hasT bitT
    rw [decide_eq_false h4, Bool.false_and, Bool.false_and, Bool.false_and]
theorem has57 {t : T} (h : OkF t) : hasT t 57 = (bitT t 1 || bitT t 8 || bitT t 16 || bitT t 32) := by
  rw [← has_bit h (by simp), ← has_bit h (by simp), ← has_bit h (by simp), ← has_bit h (by simp)]
  by_cases h4 : t.op = 4
  · obtain ⟨h0, h1⟩ := h h4
    rw [has_and h4, has_and h4, has_and h4, has_and h4, has_and h4]
    exact (bitC_at h0 h1).2.1
  · unfold hasT
    rw [decide_eq_false h4]
    rfl
theorem has50 {t : T} (h : OkF t) : hasT t 50 = (bitT t 2 || bitT t 16 || bitT t 32) := by
  rw [← has_bit h (by simp), ← has_bit h (by simp), ← has_bit h (by simp)]
  by_cases h4 : t.op = 4
  · obtain ⟨h0, h1⟩ := h h4
    rw [has_and h4, has_and h4, has_and h4, has_and h4]
    exact (bitC_at h0 h1).2.2
  · unfold hasT
    rw [decide_eq_false h4]
    rfl
attribute [local irreducible] hasT bitT
theorem bit_no {t : T} {m : Int} (h4 : ¬t.op = 4) : bitT t m = false := by
  unfold bitT
  rw [decide_eq_false h4, Bool.false_and, Bool.false_and]
theorem stmt_eq {t : T} (h : OkF t) : stmtT t = rStmtT t := by
  unfold stmtT rStmtT
  by_cases h4 : t.op = 4
  · rw [if_pos h4, has_bit h (by simp), h4]
    simp
  · rw [if_neg h4, bit_no h4]
    cases decide (t.op = 2) <;> cases decide (t.op = 21) <;> cases decide (t.op = 23) <;> cases decide (6 ≤ t.op) <;> cases decide (t.op ≤ 19) <;> rfl
theorem expr_eq {t : T} (h : OkF t) : exprT t = rExprT t := by
  unfold exprT rExprT
  by_cases h4 : t.op = 4
  · rw [if_pos h4, if_pos h4, has57 h]
    cases bitT t 1 <;> cases bitT t 8 <;> cases bitT t 16 <;> cases bitT t 32 <;> rfl
  · rw [if_neg h4, if_neg h4]
attribute [local irreducible] stmtT rStmtT exprT rExprT targetT simpleT linkT namedT len0 set0
theorem is83 (t : T) : isT 83 t = (rStmtT t) := by
  unfold isT
  (repeat first | rw [if_pos (by decide)] | rw [if_neg (by decide)])
theorem is69 (t : T) : isT 69 t = (rExprT t) := by
  unfold isT
  (repeat first | rw [if_pos (by decide)] | rw [if_neg (by decide)])
theorem is84 (t : T) : isT 84 t = (targetT t) := by
  unfold isT
  (repeat first | rw [if_pos (by decide)] | rw [if_neg (by decide)])
theorem is116 (t : T) : isT 116 t = (simpleT t) := by
  unfold isT
  (repeat first | rw [if_pos (by decide)] | rw [if_neg (by decide)])
theorem is99 (t : T) : isT 99 t = (linkT t) := by
  unfold isT
  (repeat first | rw [if_pos (by decide)] | rw [if_neg (by decide)])
theorem is73 (t : T) : isT 73 t = (decide (t.op = 2) || decide (t.op = 8) || decide (t.op = 7)) := by
  unfold isT
  (repeat first | rw [if_pos (by decide)] | rw [if_neg (by decide)])
theorem is77 (t : T) : isT 77 t = (rExprT t || decide (t.op = 7)) := by
  unfold isT
  (repeat first | rw [if_pos (by decide)] | rw [if_neg (by decide)])
theorem is76 (t : T) : isT 76 t = (targetT t || loneT t) := by
  unfold isT
  (repeat first | rw [if_pos (by decide)] | rw [if_neg (by decide)])
theorem is89 (t : T) : isT 89 t = (decide (t.op = 6) || decide (t.op = 7)) := by
  unfold isT
  (repeat first | rw [if_pos (by decide)] | rw [if_neg (by decide)])
theorem is67 (t : T) : isT 67 t = (decide (t.op = 20) || decide (t.op = 7)) := by
  unfold isT
  (repeat first | rw [if_pos (by decide)] | rw [if_neg (by decide)])
theorem is71 (t : T) : isT 71 t = (targetT t || decide (t.op = 7)) := by
  unfold isT
  (repeat first | rw [if_pos (by decide)] | rw [if_neg (by decide)])
theorem is65 (t : T) : isT 65 t = (rExprT t || decide (t.op = 40) || decide (t.op = 41)) := by
  unfold isT
  (repeat first | rw [if_pos (by decide)] | rw [if_neg (by decide)])
theorem is97 (t : T) : isT 97 t = (rExprT t || decide (t.op = 41)) := by
  unfold isT
  (repeat first | rw [if_pos (by decide)] | rw [if_neg (by decide)])
theorem is70 (t : T) : isT 70 t = (targetT t || decide (t.op = 63)) := by
  unfold isT
  (repeat first | rw [if_pos (by decide)] | rw [if_neg (by decide)])
  unfold restT
  (repeat first | rw [if_pos (by decide)] | rw [if_neg (by decide)])
theorem is72 (t : T) : isT 72 t = (targetT t || decide (t.op = 63) || decide (t.op = 40)) := by
  unfold isT
  (repeat first | rw [if_pos (by decide)] | rw [if_neg (by decide)])
  unfold restT
  (repeat first | rw [if_pos (by decide)] | rw [if_neg (by decide)])
theorem is107 (t : T) : isT 107 t = (decide (t.op = 31) || decide (t.op = 30)) := by
  unfold isT
  (repeat first | rw [if_pos (by decide)] | rw [if_neg (by decide)])
  unfold restT
  (repeat first | rw [if_pos (by decide)] | rw [if_neg (by decide)])
theorem is119 (t : T) : isT 119 t = (namedT t) := by
  unfold isT
  (repeat first | rw [if_pos (by decide)] | rw [if_neg (by decide)])
  unfold restT
  (repeat first | rw [if_pos (by decide)] | rw [if_neg (by decide)])
theorem is103 (t : T) : isT 103 t = (bitT t 16 && len0 t 0) := by
  unfold isT
  (repeat first | rw [if_pos (by decide)] | rw [if_neg (by decide)])
  unfold restT
  (repeat first | rw [if_pos (by decide)] | rw [if_neg (by decide)])
theorem is115 (t : T) : isT 115 t = (bitT t 32 && set0 t) := by
  unfold isT
  (repeat first | rw [if_pos (by decide)] | rw [if_neg (by decide)])
  unfold restT
  (repeat first | rw [if_pos (by decide)] | rw [if_neg (by decide)])
theorem is109 (t : T) : isT 109 t = (bitT t 8) := by
  unfold isT
  (repeat first | rw [if_pos (by decide)] | rw [if_neg (by decide)])
  unfold restT
  (repeat first | rw [if_pos (by decide)] | rw [if_neg (by decide)])
theorem is68 (t : T) : isT 68 t = decide (t.op = 3) := by
  unfold isT
  (repeat first | rw [if_pos (by decide)] | rw [if_neg (by decide)])
  unfold restT
  (repeat first | rw [if_pos (by decide)] | rw [if_neg (by decide)])
  rfl
theorem is80 (t : T) : isT 80 t = decide (t.op = 5) := by
  unfold isT
  (repeat first | rw [if_pos (by decide)] | rw [if_neg (by decide)])
  unfold restT
  (repeat first | rw [if_pos (by decide)] | rw [if_neg (by decide)])
  rfl
theorem is66 (t : T) : isT 66 t = decide (t.op = 6) := by
  unfold isT
  (repeat first | rw [if_pos (by decide)] | rw [if_neg (by decide)])
  unfold restT
  (repeat first | rw [if_pos (by decide)] | rw [if_neg (by decide)])
  rfl
theorem is75 (t : T) : isT 75 t = decide (t.op = 22) := by
  unfold isT
  (repeat first | rw [if_pos (by decide)] | rw [if_neg (by decide)])
  unfold restT
  (repeat first | rw [if_pos (by decide)] | rw [if_neg (by decide)])
  rfl
theorem is82 (t : T) : isT 82 t = decide (t.op = 39) := by
  unfold isT
  (repeat first | rw [if_pos (by decide)] | rw [if_neg (by decide)])
  unfold restT
  (repeat first | rw [if_pos (by decide)] | rw [if_neg (by decide)])
  rfl
theorem is81 (t : T) : isT 81 t = decide (t.op = 62) := by
  unfold isT
  (repeat first | rw [if_pos (by decide)] | rw [if_neg (by decide)])
  unfold restT
  (repeat first | rw [if_pos (by decide)] | rw [if_neg (by decide)])
  rfl
theorem is90 (t : T) : isT 90 t = decide (t.op = 64) := by
  unfold isT
  (repeat first | rw [if_pos (by decide)] | rw [if_neg (by decide)])
  unfold restT
  (repeat first | rw [if_pos (by decide)] | rw [if_neg (by decide)])
  rfl
theorem ofT1 (a : Int) (t : T) : ofT [a] t = decide (t.op = a) := by unfold ofT; simp
theorem ofT2 (a b : Int) (t : T) : ofT [a, b] t = (decide (t.op = a) || decide (t.op = b)) := by unfold ofT; simp
theorem ofT3 (a b c : Int) (t : T) : ofT [a, b, c] t = (decide (t.op = a) || (decide (t.op = b) || decide (t.op = c))) := by unfold ofT; simp
theorem ei2 (p q : T → Bool) (t : T) : eiT [p, q] t = (p t || q t) := by unfold eiT; simp
def CE (p : T → Bool) (c : Int) : Prop := ∀ t : T, OkF t → p t = isT c t
theorem ceS : CE stmtT 83 := fun t h => by rw [is83, stmt_eq h]
theorem ceE : CE exprT 69 := fun t h => by rw [is69, expr_eq h]
theorem ceT : CE targetT 84 := fun t _ => by rw [is84]
theorem cet : CE simpleT 116 := fun t _ => by rw [is116]
theorem ceI : CE (ofT [2, 8, 7]) 73 := fun t _ => by rw [is73, ofT3, Bool.or_assoc]
theorem ceM : CE (eiT [exprT, ofT [7]]) 77 := fun t h => by rw [is77, ei2, ofT1, expr_eq h]
theorem ceL : CE leftT 76 := fun t _ => by rw [is76]; unfold leftT loneT; rw [Bool.and_assoc]
theorem ceY : CE (ofT [6, 7]) 89 := fun t _ => by rw [is89, ofT2]
theorem ceC : CE (ofT [20, 7]) 67 := fun t _ => by rw [is67, ofT2]
theorem ceG : CE (eiT [targetT, ofT [7]]) 71 := fun t _ => by rw [is71, ei2, ofT1]
theorem ceA : CE (eiT [exprT, ofT [40, 41]]) 65 := fun t h => by rw [is65, ei2, ofT2, expr_eq h, Bool.or_assoc]
theorem cea : CE argsT 97 := fun t h => by unfold argsT; rw [is97, ei2, ofT1, expr_eq h]
theorem ceF : CE itemT 70 := fun t _ => by unfold itemT; rw [is70, ei2, ofT1]
theorem ceH : CE (eiT [itemT, ofT [40]]) 72 := fun t h => by rw [is72, ei2, ofT1, ceF t h, is70]
theorem cek : CE (ofT [31, 30]) 107 := fun t _ => by rw [is107, ofT2]
theorem cew : CE namedT 119 := fun t _ => by rw [is119]
theorem ceg : CE getT 103 := fun t h => by unfold getT; rw [is103, has_bit h (by simp)]
theorem ces : CE setT 115 := fun t h => by unfold setT; rw [is115, has_bit h (by simp)]
theorem cem : CE methT 109 := fun t h => by unfold methT; rw [is109, has_bit h (by simp)]
theorem ceD : CE (ofT [3]) 68 := fun t _ => by rw [is68, ofT1]
theorem ceP : CE (ofT [5]) 80 := fun t _ => by rw [is80, ofT1]
theorem ceB : CE (ofT [6]) 66 := fun t _ => by rw [is66, ofT1]
theorem ceK : CE (ofT [22]) 75 := fun t _ => by rw [is75, ofT1]
theorem ceR : CE (ofT [39]) 82 := fun t _ => by rw [is82, ofT1]
theorem ceQ : CE (ofT [62]) 81 := fun t _ => by rw [is81, ofT1]
theorem ceZ : CE (ofT [64]) 90 := fun t _ => by rw [is90, ofT1]
attribute [local irreducible] isT
theorem eat2 (p : T → Bool) : ∀ (l : List T) (n : Nat), (eatF p 2 n l).2 = l.dropWhile p
  | [], _ => rfl
  | k :: r, n => by
    cases h : p k
    · rw [eatF, if_neg (by simp [h]), List.dropWhile_cons, if_neg (by simp [h])]
    · rw [eatF, if_pos ⟨h, .inr rfl⟩, List.dropWhile_cons, if_pos h]
      exact eat2 p r _
theorem eat_one (p : T → Bool) (m : Int) (hm : m ≠ 2) (l : List T) : eatF p m 1 l = (1, l) := by
  cases l with
  | nil => rfl
  | cons k r => rw [eatF, if_neg (by simp [hm])]
theorem fitP_nil' (l : List T) : fitP [] l = decide (l.length = 0) := rfl
theorem fitP_2 (p : T → Bool) (r : List ((T → Bool) × Int)) (l : List T) : fitP ((p, 2) :: r) l = fitP r (l.dropWhile p) := by rw [fitP, if_neg (by simp), eat2]
theorem fitP_1 (p : T → Bool) (r : List ((T → Bool) × Int)) (l : List T) : fitP ((p, 1) :: r) l = fitP r (match l with | k :: r => if p k = true then r else k :: r | [] => []) := by
  rw [fitP, if_neg (by simp)]
  cases l with
  | nil => rfl
  | cons k t =>
    cases h : p k
    · rw [eatF, if_neg (by simp [h])]; simp [h]
    · rw [eatF, if_pos ⟨h, .inl rfl⟩, eat_one p 1 (by decide)]; simp [h]
theorem fitP_0 (p : T → Bool) (r : List ((T → Bool) × Int)) (l : List T) : fitP ((p, 0) :: r) l = match l with | k :: t => if p k = true then fitP r t else false | [] => false := by
  rw [fitP]
  cases l with
  | nil => simp [eatF]
  | cons k t =>
    cases h : p k
    · have e : eatF p 0 0 (k :: t) = (0, k :: t) := by rw [eatF, if_neg (by simp [h])]
      rw [e]; simp [h]
    · have e : eatF p 0 0 (k :: t) = (1, t) := by rw [eatF, if_pos ⟨h, .inl rfl⟩, eat_one p 0 (by decide)]
      rw [e]; simp [h]
def RF (s : List UInt8) (rows : List ((T → Bool) × Int)) : Prop := ∀ l, rowP s l = fitP rows l
theorem rf_nil : RF [] [] := fun l => by rw [rowP_nil, fitP_nil']
theorem rf_star {s : List UInt8} {rows : List ((T → Bool) × Int)} (c : UInt8) (h : RF s rows) : RF (c :: 42 :: s) ((isT (c.toNat : Int), 2) :: rows) := fun l => by rw [rowP_star, fitP_2, h]
theorem rf_q {s : List UInt8} {rows : List ((T → Bool) × Int)} (c : UInt8) (h : RF s rows) : RF (c :: 63 :: s) ((isT (c.toNat : Int), 1) :: rows) := fun l => by
  rw [rowP_q, fitP_1, h]
  cases l <;> rfl
theorem rf_one {rows : List ((T → Bool) × Int)} (c : UInt8) (h : RF [] rows) : RF [c] ((isT (c.toNat : Int), 0) :: rows) := fun l => by
  rw [rowP_1, fitP_0]
  cases l with
  | nil => rfl
  | cons k t => simp only [h t]
theorem rf_d {d : UInt8} {s : List UInt8} {rows : List ((T → Bool) × Int)} (c : UInt8) (h1 : d ≠ 42) (h2 : d ≠ 63) (h : RF (d :: s) rows) : RF (c :: d :: s) ((isT (c.toNat : Int), 0) :: rows) := fun l => by
  rw [rowP_d h1 h2, fitP_0]
  cases l with
  | nil => rfl
  | cons k t => simp only [h t]
inductive RE : List ((T → Bool) × Int) → List ((T → Bool) × Int) → Prop
  | nil : RE [] []
  | cons {p q : T → Bool} {m : Int} {r r' : List ((T → Bool) × Int)} (h : ∀ t, OkF t → p t = q t) (hr : RE r r') : RE ((p, m) :: r) ((q, m) :: r')
theorem eat_sub (p : T → Bool) (m : Int) : ∀ (l : List T) (n : Nat) (k : T), k ∈ (eatF p m n l).2 → k ∈ l
  | [], _, _, h => h
  | x :: r, n, k, h => by
    rw [eatF] at h
    split at h
    · exact List.mem_cons_of_mem _ (eat_sub p m r _ k h)
    · exact h
theorem eat_congr {p q : T → Bool} (m : Int) : ∀ (l : List T) (n : Nat), (∀ k ∈ l, p k = q k) → eatF p m n l = eatF q m n l
  | [], _, _ => rfl
  | x :: r, n, h => by
    rw [eatF, eatF, h x (.head _), eat_congr m r _ fun k hk => h k (.tail _ hk)]
theorem fit_congr {r r' : List ((T → Bool) × Int)} (h : RE r r') : ∀ (l : List T), (∀ k ∈ l, OkF k) → fitP r l = fitP r' l := by
  induction h with
  | nil => exact fun _ _ => rfl
  | cons h hr ih =>
    rename_i p q m rr rr'
    intro l hl
    have e := eat_congr m l 0 fun k hk => h k (hl k hk)
    rw [fitP, fitP, e, ih _ fun k hk => hl k (eat_sub q m l 0 k hk)]
theorem len_zero (l : List T) : decide (l.length = 0) = l.isEmpty := by cases l <;> simp
theorem all_dw (p : T → Bool) : ∀ l : List T, (l.dropWhile p).isEmpty = l.all p
  | [] => rfl
  | k :: r => by
    rw [List.dropWhile_cons, List.all_cons]
    cases h : p k
    · simp
    · simp only [if_pos, Bool.true_and]
      exact all_dw p r
theorem few0 (p : T → Bool) (l : List T) : fewP p 0 (-1) l = fitP [(p, 2)] l := by
  rw [fitP_2, fitP_nil', len_zero, all_dw]
  unfold fewP
  simp
theorem few1 (p : T → Bool) (l : List T) : fewP p 1 (-1) l = fitP [(p, 0), (p, 2)] l := by
  rw [fitP_0]
  cases l with
  | nil => rfl
  | cons k r =>
    simp only [← few0]
    unfold fewP
    cases h : p k <;> simp [h]
    try omega
theorem few2 (p : T → Bool) (l : List T) : fewP p 2 (-1) l = fitP [(p, 0), (p, 0), (p, 2)] l := by
  rw [fitP_0]
  cases l with
  | nil => rfl
  | cons k r =>
    simp only [← few1]
    unfold fewP
    cases h : p k <;> simp [h]
    rw [show decide (2 ≤ (r.length : Int) + 1) = decide (1 ≤ (r.length : Int)) from decide_eq_decide.2 (by omega)]
theorem few11 (p : T → Bool) (l : List T) : fewP p 1 1 l = fitP [(p, 0)] l := by
  rw [fitP_0]
  cases l with
  | nil => rfl
  | cons k r =>
    simp only [fitP_nil']
    unfold fewP
    cases r with
    | nil => cases h : p k <;> simp [h]
    | cons k2 r =>
      cases h : p k <;> simp [h]
      try omega
theorem few22 (p : T → Bool) (l : List T) : fewP p 2 2 l = fitP [(p, 0), (p, 0)] l := by
  rw [fitP_0]
  cases l with
  | nil => rfl
  | cons k r =>
    simp only [← few11]
    unfold fewP
    cases h : p k <;> simp [h]
    rw [show decide (2 ≤ (r.length : Int) + 1) = decide (1 ≤ (r.length : Int)) from decide_eq_decide.2 (by omega), show decide ((r.length : Int) + 1 ≤ 2) = decide ((r.length : Int) ≤ 1) from decide_eq_decide.2 (by omega)]
theorem few33 (p : T → Bool) (l : List T) : fewP p 3 3 l = fitP [(p, 0), (p, 0), (p, 0)] l := by
  rw [fitP_0]
  cases l with
  | nil => rfl
  | cons k r =>
    simp only [← few22]
    unfold fewP
    cases h : p k <;> simp [h]
    rw [show decide (3 ≤ (r.length : Int) + 1) = decide (2 ≤ (r.length : Int)) from decide_eq_decide.2 (by omega), show decide ((r.length : Int) + 1 ≤ 3) = decide ((r.length : Int) ≤ 2) from decide_eq_decide.2 (by omega)]
theorem few01 (p : T → Bool) (l : List T) : fewP p 0 1 l = fitP [(p, 1)] l := by
  rw [fitP_1]
  cases l with
  | nil => rfl
  | cons k r =>
    unfold fewP
    cases r with
    | nil => cases h : p k <;> simp [h, fitP_nil']
    | cons k2 r =>
      cases h : p k <;> simp [h, fitP_nil']
      try omega
noncomputable def krowB (t : T) : Bool := if t.op = 36 then templB rExprT t.kids else decide (kindsS t ≠ ⟨#[33]⟩) && rowP (bl (kindsS t)) t.kids
noncomputable def extraB (t : T) : Bool := (if t.op = 19 then (match t.kids with | [_, y, z] => decide (y.op ≠ 7) || decide (z.op ≠ 7) | _ => false) else true) && (if t.op = 53 then (match t.kids with | [k] => chB k | _ => false) else true)
noncomputable def rKidsB (t : T) : Bool := krowB t && extraB t
theorem extra_true {t : T} (h1 : t.op ≠ 19) (h2 : t.op ≠ 53) : extraB t = true := by unfold extraB; rw [if_neg h1, if_neg h2]; rfl
theorem rk_row {t : T} {s : ByteArray} (h1 : t.op ≠ 19) (h2 : t.op ≠ 53) (h3 : t.op ≠ 36) (hs : kindsS t = s) (hne : s ≠ ⟨#[33]⟩) : rKidsB t = rowP (bl s) t.kids := by
  unfold rKidsB krowB
  rw [extra_true h1 h2, if_neg h3, hs, decide_eq_true hne, Bool.true_and, Bool.and_true]
attribute [local irreducible] fitP rowP fewP templB chB
theorem kr_prog (t : T) (hop : t.op = 1 ∨ t.op = 6) (hk : ∀ k ∈ t.kids, OkF k) : kidsB t = rKidsB t := by
  have e1 : kidsB t = fewP stmtT 0 (-1) t.kids := by
    unfold kidsB
    rw [if_pos (by omega)]
    unfold stB
    (repeat first | rw [if_pos (by omega)] | rw [if_neg (by omega)])
  have e2 : kindsS t = ⟨#[83, 42]⟩ := by
    unfold kindsS
    (repeat first | rw [if_pos (by omega)] | rw [if_neg (by omega)])
  rw [e1, rk_row (by omega) (by omega) (by omega) e2 (by decide), show bl ⟨#[83, 42]⟩ = [83, 42] from rfl, (rf_star 83 rf_nil)]
  rw [few0]
  exact fit_congr (.cons ceS .nil) _ hk
theorem kr_var (t : T) (hop : t.op = 2) (hk : ∀ k ∈ t.kids, OkF k) : kidsB t = rKidsB t := by
  have e1 : kidsB t = fewP (ofT [3]) 1 (-1) t.kids := by
    unfold kidsB
    rw [if_pos (by omega)]
    unfold stB
    (repeat first | rw [if_pos (by omega)] | rw [if_neg (by omega)])
  have e2 : kindsS t = ⟨#[68, 68, 42]⟩ := by
    unfold kindsS
    (repeat first | rw [if_pos (by omega)] | rw [if_neg (by omega)])
  rw [e1, rk_row (by omega) (by omega) (by omega) e2 (by decide), show bl ⟨#[68, 68, 42]⟩ = [68, 68, 42] from rfl, (rf_d 68 (by decide) (by decide) (rf_star 68 rf_nil))]
  rw [few1]
  exact fit_congr (.cons ceD (.cons ceD .nil)) _ hk
theorem kr_decl (t : T) (hop : t.op = 3) (hk : ∀ k ∈ t.kids, OkF k) : kidsB t = rKidsB t := by
  have e1 : kidsB t = fitP [(targetT, 0), (exprT, 1)] t.kids := by
    unfold kidsB
    rw [if_pos (by omega)]
    unfold stB
    (repeat first | rw [if_pos (by omega)] | rw [if_neg (by omega)])
  have e2 : kindsS t = ⟨#[84, 69, 63]⟩ := by
    unfold kindsS
    (repeat first | rw [if_pos (by omega)] | rw [if_neg (by omega)])
  rw [e1, rk_row (by omega) (by omega) (by omega) e2 (by decide), show bl ⟨#[84, 69, 63]⟩ = [84, 69, 63] from rfl, (rf_d 84 (by decide) (by decide) (rf_q 69 rf_nil))]
  exact fit_congr (.cons ceT (.cons ceE .nil)) _ hk
theorem kr_params (t : T) (hop : t.op = 5) (hk : ∀ k ∈ t.kids, OkF k) : kidsB t = rKidsB t := by
  have e1 : kidsB t = fitP [(eiT [targetT, ofT [63]], 2), (ofT [64], 1)] t.kids := by
    unfold kidsB
    rw [if_pos (by omega)]
    unfold stB
    (repeat first | rw [if_pos (by omega)] | rw [if_neg (by omega)])
  have e2 : kindsS t = ⟨#[70, 42, 90, 63]⟩ := by
    unfold kindsS
    (repeat first | rw [if_pos (by omega)] | rw [if_neg (by omega)])
  rw [e1, rk_row (by omega) (by omega) (by omega) e2 (by decide), show bl ⟨#[70, 42, 90, 63]⟩ = [70, 42, 90, 63] from rfl, (rf_star 70 (rf_q 90 rf_nil))]
  exact fit_congr (.cons ceF (.cons ceZ .nil)) _ hk
theorem kr_none (t : T) (hop : t.op = 7 ∨ t.op = 15 ∨ t.op = 16) (hk : ∀ k ∈ t.kids, OkF k) : kidsB t = rKidsB t := by
  have e1 : kidsB t = decide (t.kids.length = 0) := by
    unfold kidsB
    rw [if_pos (by omega)]
    unfold stB
    (repeat first | rw [if_pos (by omega)] | rw [if_neg (by omega)])
  have e2 : kindsS t = ⟨#[]⟩ := by
    unfold kindsS
    (repeat first | rw [if_pos (by omega)] | rw [if_neg (by omega)])
  rw [e1, rk_row (by omega) (by omega) (by omega) e2 (by decide), show bl ⟨#[]⟩ = [] from rfl, rf_nil]
  rw [fitP_nil']
theorem kr_expr (t : T) (hop : t.op = 8 ∨ t.op = 18) (hk : ∀ k ∈ t.kids, OkF k) : kidsB t = rKidsB t := by
  have e1 : kidsB t = fitP (eachP [exprT]) t.kids := by
    unfold kidsB
    rw [if_pos (by omega)]
    unfold stB
    (repeat first | rw [if_pos (by omega)] | rw [if_neg (by omega)])
  have e2 : kindsS t = ⟨#[69]⟩ := by
    unfold kindsS
    (repeat first | rw [if_pos (by omega)] | rw [if_neg (by omega)])
  rw [e1, rk_row (by omega) (by omega) (by omega) e2 (by decide), show bl ⟨#[69]⟩ = [69] from rfl, (rf_one 69 rf_nil)]
  exact fit_congr (.cons ceE .nil) _ hk
theorem kr_if (t : T) (hop : t.op = 9) (hk : ∀ k ∈ t.kids, OkF k) : kidsB t = rKidsB t := by
  have e1 : kidsB t = fitP [(exprT, 0), (stmtT, 0), (stmtT, 1)] t.kids := by
    unfold kidsB
    rw [if_pos (by omega)]
    unfold stB
    (repeat first | rw [if_pos (by omega)] | rw [if_neg (by omega)])
  have e2 : kindsS t = ⟨#[69, 83, 83, 63]⟩ := by
    unfold kindsS
    (repeat first | rw [if_pos (by omega)] | rw [if_neg (by omega)])
  rw [e1, rk_row (by omega) (by omega) (by omega) e2 (by decide), show bl ⟨#[69, 83, 83, 63]⟩ = [69, 83, 83, 63] from rfl, (rf_d 69 (by decide) (by decide) (rf_d 83 (by decide) (by decide) (rf_q 83 rf_nil)))]
  exact fit_congr (.cons ceE (.cons ceS (.cons ceS .nil))) _ hk
theorem kr_for (t : T) (hop : t.op = 10) (hk : ∀ k ∈ t.kids, OkF k) : kidsB t = rKidsB t := by
  have e1 : kidsB t = fitP (eachP [ofT [2, 8, 7], eiT [exprT, ofT [7]], eiT [exprT, ofT [7]], stmtT]) t.kids := by
    unfold kidsB
    rw [if_pos (by omega)]
    unfold stB
    (repeat first | rw [if_pos (by omega)] | rw [if_neg (by omega)])
  have e2 : kindsS t = ⟨#[73, 77, 77, 83]⟩ := by
    unfold kindsS
    (repeat first | rw [if_pos (by omega)] | rw [if_neg (by omega)])
  rw [e1, rk_row (by omega) (by omega) (by omega) e2 (by decide), show bl ⟨#[73, 77, 77, 83]⟩ = [73, 77, 77, 83] from rfl, (rf_d 73 (by decide) (by decide) (rf_d 77 (by decide) (by decide) (rf_d 77 (by decide) (by decide) (rf_one 83 rf_nil))))]
  exact fit_congr (.cons ceI (.cons ceM (.cons ceM (.cons ceS .nil)))) _ hk
theorem kr_forin (t : T) (hop : t.op = 11 ∨ t.op = 12) (hk : ∀ k ∈ t.kids, OkF k) : kidsB t = rKidsB t := by
  have e1 : kidsB t = fitP (eachP [leftT, exprT, stmtT]) t.kids := by
    unfold kidsB
    rw [if_pos (by omega)]
    unfold stB
    (repeat first | rw [if_pos (by omega)] | rw [if_neg (by omega)])
  have e2 : kindsS t = ⟨#[76, 69, 83]⟩ := by
    unfold kindsS
    (repeat first | rw [if_pos (by omega)] | rw [if_neg (by omega)])
  rw [e1, rk_row (by omega) (by omega) (by omega) e2 (by decide), show bl ⟨#[76, 69, 83]⟩ = [76, 69, 83] from rfl, (rf_d 76 (by decide) (by decide) (rf_d 69 (by decide) (by decide) (rf_one 83 rf_nil)))]
  exact fit_congr (.cons ceL (.cons ceE (.cons ceS .nil))) _ hk
theorem kr_while (t : T) (hop : t.op = 13) (hk : ∀ k ∈ t.kids, OkF k) : kidsB t = rKidsB t := by
  have e1 : kidsB t = fitP (eachP [exprT, stmtT]) t.kids := by
    unfold kidsB
    rw [if_pos (by omega)]
    unfold stB
    (repeat first | rw [if_pos (by omega)] | rw [if_neg (by omega)])
  have e2 : kindsS t = ⟨#[69, 83]⟩ := by
    unfold kindsS
    (repeat first | rw [if_pos (by omega)] | rw [if_neg (by omega)])
  rw [e1, rk_row (by omega) (by omega) (by omega) e2 (by decide), show bl ⟨#[69, 83]⟩ = [69, 83] from rfl, (rf_d 69 (by decide) (by decide) (rf_one 83 rf_nil))]
  exact fit_congr (.cons ceE (.cons ceS .nil)) _ hk
theorem kr_do (t : T) (hop : t.op = 14) (hk : ∀ k ∈ t.kids, OkF k) : kidsB t = rKidsB t := by
  have e1 : kidsB t = fitP (eachP [stmtT, exprT]) t.kids := by
    unfold kidsB
    rw [if_pos (by omega)]
    unfold stB
    (repeat first | rw [if_pos (by omega)] | rw [if_neg (by omega)])
  have e2 : kindsS t = ⟨#[83, 69]⟩ := by
    unfold kindsS
    (repeat first | rw [if_pos (by omega)] | rw [if_neg (by omega)])
  rw [e1, rk_row (by omega) (by omega) (by omega) e2 (by decide), show bl ⟨#[83, 69]⟩ = [83, 69] from rfl, (rf_d 83 (by decide) (by decide) (rf_one 69 rf_nil))]
  exact fit_congr (.cons ceS (.cons ceE .nil)) _ hk
theorem kr_ret (t : T) (hop : t.op = 17) (hk : ∀ k ∈ t.kids, OkF k) : kidsB t = rKidsB t := by
  have e1 : kidsB t = fewP exprT 0 1 t.kids := by
    unfold kidsB
    rw [if_pos (by omega)]
    unfold stB
    (repeat first | rw [if_pos (by omega)] | rw [if_neg (by omega)])
  have e2 : kindsS t = ⟨#[69, 63]⟩ := by
    unfold kindsS
    (repeat first | rw [if_pos (by omega)] | rw [if_neg (by omega)])
  rw [e1, rk_row (by omega) (by omega) (by omega) e2 (by decide), show bl ⟨#[69, 63]⟩ = [69, 63] from rfl, (rf_q 69 rf_nil)]
  rw [few01]
  exact fit_congr (.cons ceE .nil) _ hk
theorem kr_catch (t : T) (hop : t.op = 20) (hk : ∀ k ∈ t.kids, OkF k) : kidsB t = rKidsB t := by
  have e1 : kidsB t = fitP (eachP [eiT [targetT, ofT [7]], ofT [6]]) t.kids := by
    unfold kidsB
    rw [if_pos (by omega)]
    unfold stB
    (repeat first | rw [if_pos (by omega)] | rw [if_neg (by omega)])
  have e2 : kindsS t = ⟨#[71, 66]⟩ := by
    unfold kindsS
    (repeat first | rw [if_pos (by omega)] | rw [if_neg (by omega)])
  rw [e1, rk_row (by omega) (by omega) (by omega) e2 (by decide), show bl ⟨#[71, 66]⟩ = [71, 66] from rfl, (rf_d 71 (by decide) (by decide) (rf_one 66 rf_nil))]
  exact fit_congr (.cons ceG (.cons ceB .nil)) _ hk
theorem kr_switch (t : T) (hop : t.op = 21) (hk : ∀ k ∈ t.kids, OkF k) : kidsB t = rKidsB t := by
  have e1 : kidsB t = fitP [(exprT, 0), (ofT [22], 2)] t.kids := by
    unfold kidsB
    rw [if_pos (by omega)]
    unfold stB
    (repeat first | rw [if_pos (by omega)] | rw [if_neg (by omega)])
  have e2 : kindsS t = ⟨#[69, 75, 42]⟩ := by
    unfold kindsS
    (repeat first | rw [if_pos (by omega)] | rw [if_neg (by omega)])
    unfold moreS
    (repeat first | rw [if_pos (by omega)] | rw [if_neg (by omega)])
  rw [e1, rk_row (by omega) (by omega) (by omega) e2 (by decide), show bl ⟨#[69, 75, 42]⟩ = [69, 75, 42] from rfl, (rf_d 69 (by decide) (by decide) (rf_star 75 rf_nil))]
  exact fit_congr (.cons ceE (.cons ceK .nil)) _ hk
theorem kr_case1 (t : T) (hop : t.op = 22) (hn : t.n = 1) (hk : ∀ k ∈ t.kids, OkF k) : kidsB t = rKidsB t := by
  have e1 : kidsB t = fewP stmtT 0 (-1) t.kids := by
    unfold kidsB
    rw [if_pos (by omega)]
    unfold stB
    (repeat first | rw [if_pos (by omega)] | rw [if_neg (by omega)])
  have e2 : kindsS t = ⟨#[83, 42]⟩ := by
    unfold kindsS
    (repeat first | rw [if_pos (by omega)] | rw [if_neg (by omega)])
    unfold moreS
    (repeat first | rw [if_pos (by omega)] | rw [if_neg (by omega)])
  rw [e1, rk_row (by omega) (by omega) (by omega) e2 (by decide), show bl ⟨#[83, 42]⟩ = [83, 42] from rfl, (rf_star 83 rf_nil)]
  rw [few0]
  exact fit_congr (.cons ceS .nil) _ hk
theorem kr_case2 (t : T) (hop : t.op = 22) (hn : t.n ≠ 1) (hk : ∀ k ∈ t.kids, OkF k) : kidsB t = rKidsB t := by
  have e1 : kidsB t = fitP [(exprT, 0), (stmtT, 2)] t.kids := by
    unfold kidsB
    rw [if_pos (by omega)]
    unfold stB
    (repeat first | rw [if_pos (by omega)] | rw [if_neg (by omega)])
  have e2 : kindsS t = ⟨#[69, 83, 42]⟩ := by
    unfold kindsS
    (repeat first | rw [if_pos (by omega)] | rw [if_neg (by omega)])
    unfold moreS
    (repeat first | rw [if_pos (by omega)] | rw [if_neg (by omega)])
  rw [e1, rk_row (by omega) (by omega) (by omega) e2 (by decide), show bl ⟨#[69, 83, 42]⟩ = [69, 83, 42] from rfl, (rf_d 69 (by decide) (by decide) (rf_star 83 rf_nil))]
  exact fit_congr (.cons ceE (.cons ceS .nil)) _ hk
theorem kr_label (t : T) (hop : t.op = 23) (hk : ∀ k ∈ t.kids, OkF k) : kidsB t = rKidsB t := by
  have e1 : kidsB t = fitP (eachP [stmtT]) t.kids := by
    unfold kidsB
    rw [if_pos (by omega)]
    unfold stB
    (repeat first | rw [if_pos (by omega)] | rw [if_neg (by omega)])
  have e2 : kindsS t = ⟨#[83]⟩ := by
    unfold kindsS
    (repeat first | rw [if_pos (by omega)] | rw [if_neg (by omega)])
    unfold moreS
    (repeat first | rw [if_pos (by omega)] | rw [if_neg (by omega)])
  rw [e1, rk_row (by omega) (by omega) (by omega) e2 (by decide), show bl ⟨#[83]⟩ = [83] from rfl, (rf_one 83 rf_nil)]
  exact fit_congr (.cons ceS .nil) _ hk
theorem kr_lit (t : T) (hop : t.op = 30 ∨ t.op = 31 ∨ t.op = 32 ∨ t.op = 33 ∨ t.op = 34 ∨ t.op = 35 ∨ t.op = 40) (hk : ∀ k ∈ t.kids, OkF k) : kidsB t = rKidsB t := by
  have e1 : kidsB t = decide (t.kids.length = 0) := by
    unfold kidsB
    rw [if_neg (by omega)]
    unfold exB
    (repeat first | rw [if_pos (by omega)] | rw [if_neg (by omega)])
  have e2 : kindsS t = ⟨#[]⟩ := by
    unfold kindsS
    (repeat first | rw [if_pos (by omega)] | rw [if_neg (by omega)])
  rw [e1, rk_row (by omega) (by omega) (by omega) e2 (by decide), show bl ⟨#[]⟩ = [] from rfl, rf_nil]
  rw [fitP_nil']
theorem kr_array (t : T) (hop : t.op = 37) (hk : ∀ k ∈ t.kids, OkF k) : kidsB t = rKidsB t := by
  have e1 : kidsB t = fewP (eiT [exprT, ofT [40, 41]]) 0 (-1) t.kids := by
    unfold kidsB
    rw [if_neg (by omega)]
    unfold exB
    (repeat first | rw [if_pos (by omega)] | rw [if_neg (by omega)])
  have e2 : kindsS t = ⟨#[65, 42]⟩ := by
    unfold kindsS
    (repeat first | rw [if_pos (by omega)] | rw [if_neg (by omega)])
    unfold moreS
    (repeat first | rw [if_pos (by omega)] | rw [if_neg (by omega)])
  rw [e1, rk_row (by omega) (by omega) (by omega) e2 (by decide), show bl ⟨#[65, 42]⟩ = [65, 42] from rfl, (rf_star 65 rf_nil)]
  rw [few0]
  exact fit_congr (.cons ceA .nil) _ hk
theorem kr_object (t : T) (hop : t.op = 38) (hk : ∀ k ∈ t.kids, OkF k) : kidsB t = rKidsB t := by
  have e1 : kidsB t = fewP (ofT [39]) 0 (-1) t.kids := by
    unfold kidsB
    rw [if_neg (by omega)]
    unfold exB
    (repeat first | rw [if_pos (by omega)] | rw [if_neg (by omega)])
  have e2 : kindsS t = ⟨#[82, 42]⟩ := by
    unfold kindsS
    (repeat first | rw [if_pos (by omega)] | rw [if_neg (by omega)])
    unfold moreS
    (repeat first | rw [if_pos (by omega)] | rw [if_neg (by omega)])
  rw [e1, rk_row (by omega) (by omega) (by omega) e2 (by decide), show bl ⟨#[82, 42]⟩ = [82, 42] from rfl, (rf_star 82 rf_nil)]
  rw [few0]
  exact fit_congr (.cons ceR .nil) _ hk
theorem kr_spread (t : T) (hop : t.op = 41 ∨ t.op = 42) (hk : ∀ k ∈ t.kids, OkF k) : kidsB t = rKidsB t := by
  have e1 : kidsB t = fitP (eachP [exprT]) t.kids := by
    unfold kidsB
    rw [if_neg (by omega)]
    unfold exB
    (repeat first | rw [if_pos (by omega)] | rw [if_neg (by omega)])
  have e2 : kindsS t = ⟨#[69]⟩ := by
    unfold kindsS
    (repeat first | rw [if_pos (by omega)] | rw [if_neg (by omega)])
  rw [e1, rk_row (by omega) (by omega) (by omega) e2 (by decide), show bl ⟨#[69]⟩ = [69] from rfl, (rf_one 69 rf_nil)]
  exact fit_congr (.cons ceE .nil) _ hk
theorem kr_update (t : T) (hop : t.op = 43) (hk : ∀ k ∈ t.kids, OkF k) : kidsB t = rKidsB t := by
  have e1 : kidsB t = fitP (eachP [simpleT]) t.kids := by
    unfold kidsB
    rw [if_neg (by omega)]
    unfold exB
    (repeat first | rw [if_pos (by omega)] | rw [if_neg (by omega)])
  have e2 : kindsS t = ⟨#[116]⟩ := by
    unfold kindsS
    (repeat first | rw [if_pos (by omega)] | rw [if_neg (by omega)])
    unfold moreS
    (repeat first | rw [if_pos (by omega)] | rw [if_neg (by omega)])
  rw [e1, rk_row (by omega) (by omega) (by omega) e2 (by decide), show bl ⟨#[116]⟩ = [116] from rfl, (rf_one 116 rf_nil)]
  exact fit_congr (.cons cet .nil) _ hk
theorem kr_bin (t : T) (hop : t.op = 44 ∨ t.op = 45 ∨ t.op = 52) (hk : ∀ k ∈ t.kids, OkF k) : kidsB t = rKidsB t := by
  have e1 : kidsB t = fewP exprT 2 2 t.kids := by
    unfold kidsB
    rw [if_neg (by omega)]
    unfold exB
    (repeat first | rw [if_pos (by omega)] | rw [if_neg (by omega)])
  have e2 : kindsS t = ⟨#[69, 69]⟩ := by
    unfold kindsS
    (repeat first | rw [if_pos (by omega)] | rw [if_neg (by omega)])
    unfold moreS
    (repeat first | rw [if_pos (by omega)] | rw [if_neg (by omega)])
  rw [e1, rk_row (by omega) (by omega) (by omega) e2 (by decide), show bl ⟨#[69, 69]⟩ = [69, 69] from rfl, (rf_d 69 (by decide) (by decide) (rf_one 69 rf_nil))]
  rw [few22]
  exact fit_congr (.cons ceE (.cons ceE .nil)) _ hk
theorem kr_asg1 (t : T) (hop : t.op = 46) (hs : t.s = ⟨#[61]⟩) (hk : ∀ k ∈ t.kids, OkF k) : kidsB t = rKidsB t := by
  have e1 : kidsB t = fitP (eachP [targetT, exprT]) t.kids := by
    unfold kidsB
    rw [if_neg (by omega)]
    unfold exB
    (repeat first | rw [if_pos (by omega)] | rw [if_neg (by omega)])
    (try rw [if_pos hs])
  have e2 : kindsS t = ⟨#[84, 69]⟩ := by
    unfold kindsS
    (repeat first | rw [if_pos (by omega)] | rw [if_neg (by omega)])
    unfold moreS
    (repeat first | rw [if_pos (by omega)] | rw [if_neg (by omega)])
    (try rw [if_pos hs])
  rw [e1, rk_row (by omega) (by omega) (by omega) e2 (by decide), show bl ⟨#[84, 69]⟩ = [84, 69] from rfl, (rf_d 84 (by decide) (by decide) (rf_one 69 rf_nil))]
  exact fit_congr (.cons ceT (.cons ceE .nil)) _ hk
theorem kr_asg2 (t : T) (hop : t.op = 46) (hs : ¬t.s = ⟨#[61]⟩) (hk : ∀ k ∈ t.kids, OkF k) : kidsB t = rKidsB t := by
  have e1 : kidsB t = fitP (eachP [simpleT, exprT]) t.kids := by
    unfold kidsB
    rw [if_neg (by omega)]
    unfold exB
    (repeat first | rw [if_pos (by omega)] | rw [if_neg (by omega)])
    (try rw [if_neg hs])
  have e2 : kindsS t = ⟨#[116, 69]⟩ := by
    unfold kindsS
    (repeat first | rw [if_pos (by omega)] | rw [if_neg (by omega)])
    unfold moreS
    (repeat first | rw [if_pos (by omega)] | rw [if_neg (by omega)])
    (try rw [if_neg hs])
  rw [e1, rk_row (by omega) (by omega) (by omega) e2 (by decide), show bl ⟨#[116, 69]⟩ = [116, 69] from rfl, (rf_d 116 (by decide) (by decide) (rf_one 69 rf_nil))]
  exact fit_congr (.cons cet (.cons ceE .nil)) _ hk
theorem kr_cond (t : T) (hop : t.op = 47) (hk : ∀ k ∈ t.kids, OkF k) : kidsB t = rKidsB t := by
  have e1 : kidsB t = fewP exprT 3 3 t.kids := by
    unfold kidsB
    rw [if_neg (by omega)]
    unfold exB
    (repeat first | rw [if_pos (by omega)] | rw [if_neg (by omega)])
  have e2 : kindsS t = ⟨#[69, 69, 69]⟩ := by
    unfold kindsS
    (repeat first | rw [if_pos (by omega)] | rw [if_neg (by omega)])
    unfold moreS
    (repeat first | rw [if_pos (by omega)] | rw [if_neg (by omega)])
  rw [e1, rk_row (by omega) (by omega) (by omega) e2 (by decide), show bl ⟨#[69, 69, 69]⟩ = [69, 69, 69] from rfl, (rf_d 69 (by decide) (by decide) (rf_d 69 (by decide) (by decide) (rf_one 69 rf_nil)))]
  rw [few33]
  exact fit_congr (.cons ceE (.cons ceE (.cons ceE .nil))) _ hk
theorem kr_seq (t : T) (hop : t.op = 48) (hk : ∀ k ∈ t.kids, OkF k) : kidsB t = rKidsB t := by
  have e1 : kidsB t = fewP exprT 2 (-1) t.kids := by
    unfold kidsB
    rw [if_neg (by omega)]
    unfold exB
    (repeat first | rw [if_pos (by omega)] | rw [if_neg (by omega)])
  have e2 : kindsS t = ⟨#[69, 69, 69, 42]⟩ := by
    unfold kindsS
    (repeat first | rw [if_pos (by omega)] | rw [if_neg (by omega)])
    unfold moreS
    (repeat first | rw [if_pos (by omega)] | rw [if_neg (by omega)])
  rw [e1, rk_row (by omega) (by omega) (by omega) e2 (by decide), show bl ⟨#[69, 69, 69, 42]⟩ = [69, 69, 69, 42] from rfl, (rf_d 69 (by decide) (by decide) (rf_d 69 (by decide) (by decide) (rf_star 69 rf_nil)))]
  rw [few2]
  exact fit_congr (.cons ceE (.cons ceE (.cons ceE .nil))) _ hk
theorem kr_call (t : T) (hop : t.op = 49 ∨ t.op = 50) (hk : ∀ k ∈ t.kids, OkF k) : kidsB t = rKidsB t := by
  have e1 : kidsB t = fitP [(exprT, 0), (argsT, 2)] t.kids := by
    unfold kidsB
    rw [if_neg (by omega)]
    unfold exB
    (repeat first | rw [if_pos (by omega)] | rw [if_neg (by omega)])
  have e2 : kindsS t = ⟨#[69, 97, 42]⟩ := by
    unfold kindsS
    (repeat first | rw [if_pos (by omega)] | rw [if_neg (by omega)])
    unfold moreS
    (repeat first | rw [if_pos (by omega)] | rw [if_neg (by omega)])
  rw [e1, rk_row (by omega) (by omega) (by omega) e2 (by decide), show bl ⟨#[69, 97, 42]⟩ = [69, 97, 42] from rfl, (rf_d 69 (by decide) (by decide) (rf_star 97 rf_nil))]
  exact fit_congr (.cons ceE (.cons cea .nil)) _ hk
theorem kr_dot (t : T) (hop : t.op = 51) (hk : ∀ k ∈ t.kids, OkF k) : kidsB t = rKidsB t := by
  have e1 : kidsB t = fewP exprT 1 1 t.kids := by
    unfold kidsB
    rw [if_neg (by omega)]
    unfold exB
    (repeat first | rw [if_pos (by omega)] | rw [if_neg (by omega)])
  have e2 : kindsS t = ⟨#[69]⟩ := by
    unfold kindsS
    (repeat first | rw [if_pos (by omega)] | rw [if_neg (by omega)])
    unfold moreS
    (repeat first | rw [if_pos (by omega)] | rw [if_neg (by omega)])
  rw [e1, rk_row (by omega) (by omega) (by omega) e2 (by decide), show bl ⟨#[69]⟩ = [69] from rfl, (rf_one 69 rf_nil)]
  rw [few11]
  exact fit_congr (.cons ceE .nil) _ hk
theorem kr_yield1 (t : T) (hop : t.op = 54) (hn : t.n = 1) (hk : ∀ k ∈ t.kids, OkF k) : kidsB t = rKidsB t := by
  have e1 : kidsB t = fewP exprT 1 1 t.kids := by
    unfold kidsB
    rw [if_neg (by omega)]
    unfold exB
    (repeat first | rw [if_pos (by omega)] | rw [if_neg (by omega)])
    rw [hn]
  have e2 : kindsS t = ⟨#[69]⟩ := by
    unfold kindsS
    (repeat first | rw [if_pos (by omega)] | rw [if_neg (by omega)])
    unfold moreS
    (repeat first | rw [if_pos (by omega)] | rw [if_neg (by omega)])
  rw [e1, rk_row (by omega) (by omega) (by omega) e2 (by decide), show bl ⟨#[69]⟩ = [69] from rfl, (rf_one 69 rf_nil)]
  rw [few11]
  exact fit_congr (.cons ceE .nil) _ hk
theorem kr_yield0 (t : T) (hop : t.op = 54) (hn : t.n = 0) (hk : ∀ k ∈ t.kids, OkF k) : kidsB t = rKidsB t := by
  have e1 : kidsB t = fewP exprT 0 1 t.kids := by
    unfold kidsB
    rw [if_neg (by omega)]
    unfold exB
    (repeat first | rw [if_pos (by omega)] | rw [if_neg (by omega)])
    rw [hn]
  have e2 : kindsS t = ⟨#[69, 63]⟩ := by
    unfold kindsS
    (repeat first | rw [if_pos (by omega)] | rw [if_neg (by omega)])
    unfold moreS
    (repeat first | rw [if_pos (by omega)] | rw [if_neg (by omega)])
  rw [e1, rk_row (by omega) (by omega) (by omega) e2 (by decide), show bl ⟨#[69, 63]⟩ = [69, 63] from rfl, (rf_q 69 rf_nil)]
  rw [few01]
  exact fit_congr (.cons ceE .nil) _ hk
theorem kr_arrpat (t : T) (hop : t.op = 60) (hk : ∀ k ∈ t.kids, OkF k) : kidsB t = rKidsB t := by
  have e1 : kidsB t = fitP [(eiT [itemT, ofT [40]], 2), (ofT [64], 1)] t.kids := by
    unfold kidsB
    rw [if_neg (by omega)]
    unfold exB
    (repeat first | rw [if_pos (by omega)] | rw [if_neg (by omega)])
    unfold patternsT
    (repeat first | rw [if_pos (by omega)] | rw [if_neg (by omega)])
  have e2 : kindsS t = ⟨#[72, 42, 90, 63]⟩ := by
    unfold kindsS
    (repeat first | rw [if_pos (by omega)] | rw [if_neg (by omega)])
    unfold moreS
    (repeat first | rw [if_pos (by omega)] | rw [if_neg (by omega)])
  rw [e1, rk_row (by omega) (by omega) (by omega) e2 (by decide), show bl ⟨#[72, 42, 90, 63]⟩ = [72, 42, 90, 63] from rfl, (rf_star 72 (rf_q 90 rf_nil))]
  exact fit_congr (.cons ceH (.cons ceZ .nil)) _ hk
theorem kr_objpat (t : T) (hop : t.op = 61) (hk : ∀ k ∈ t.kids, OkF k) : kidsB t = rKidsB t := by
  have e1 : kidsB t = fitP [(ofT [62], 2), (ofT [64], 1)] t.kids := by
    unfold kidsB
    rw [if_neg (by omega)]
    unfold exB
    (repeat first | rw [if_pos (by omega)] | rw [if_neg (by omega)])
    unfold patternsT
    (repeat first | rw [if_pos (by omega)] | rw [if_neg (by omega)])
  have e2 : kindsS t = ⟨#[81, 42, 90, 63]⟩ := by
    unfold kindsS
    (repeat first | rw [if_pos (by omega)] | rw [if_neg (by omega)])
    unfold moreS
    (repeat first | rw [if_pos (by omega)] | rw [if_neg (by omega)])
  rw [e1, rk_row (by omega) (by omega) (by omega) e2 (by decide), show bl ⟨#[81, 42, 90, 63]⟩ = [81, 42, 90, 63] from rfl, (rf_star 81 (rf_q 90 rf_nil))]
  exact fit_congr (.cons ceQ (.cons ceZ .nil)) _ hk
theorem kr_patprop1 (t : T) (hop : t.op = 62) (hm : t.m = 1) (hk : ∀ k ∈ t.kids, OkF k) : kidsB t = rKidsB t := by
  have e1 : kidsB t = fitP (eachP [exprT, itemT]) t.kids := by
    unfold kidsB
    rw [if_neg (by omega)]
    unfold exB
    (repeat first | rw [if_pos (by omega)] | rw [if_neg (by omega)])
    unfold patternsT
    (repeat first | rw [if_pos (by omega)] | rw [if_neg (by omega)])
    unfold keyT
    (repeat first | rw [if_pos (by omega)] | rw [if_neg (by omega)])
  have e2 : kindsS t = ⟨#[69, 70]⟩ := by
    unfold kindsS
    (repeat first | rw [if_pos (by omega)] | rw [if_neg (by omega)])
    unfold moreS
    (repeat first | rw [if_pos (by omega)] | rw [if_neg (by omega)])
  rw [e1, rk_row (by omega) (by omega) (by omega) e2 (by decide), show bl ⟨#[69, 70]⟩ = [69, 70] from rfl, (rf_d 69 (by decide) (by decide) (rf_one 70 rf_nil))]
  exact fit_congr (.cons ceE (.cons ceF .nil)) _ hk
theorem kr_patprop0 (t : T) (hop : t.op = 62) (hm : t.m ≠ 1) (hk : ∀ k ∈ t.kids, OkF k) : kidsB t = rKidsB t := by
  have e1 : kidsB t = fitP (eachP [ofT [31, 30], itemT]) t.kids := by
    unfold kidsB
    rw [if_neg (by omega)]
    unfold exB
    (repeat first | rw [if_pos (by omega)] | rw [if_neg (by omega)])
    unfold patternsT
    (repeat first | rw [if_pos (by omega)] | rw [if_neg (by omega)])
    unfold keyT
    (repeat first | rw [if_pos (by omega)] | rw [if_neg (by omega)])
  have e2 : kindsS t = ⟨#[107, 70]⟩ := by
    unfold kindsS
    (repeat first | rw [if_pos (by omega)] | rw [if_neg (by omega)])
    unfold moreS
    (repeat first | rw [if_pos (by omega)] | rw [if_neg (by omega)])
  rw [e1, rk_row (by omega) (by omega) (by omega) e2 (by decide), show bl ⟨#[107, 70]⟩ = [107, 70] from rfl, (rf_d 107 (by decide) (by decide) (rf_one 70 rf_nil))]
  exact fit_congr (.cons cek (.cons ceF .nil)) _ hk
theorem kr_default (t : T) (hop : t.op = 63) (hk : ∀ k ∈ t.kids, OkF k) : kidsB t = rKidsB t := by
  have e1 : kidsB t = fitP (eachP [targetT, exprT]) t.kids := by
    unfold kidsB
    rw [if_neg (by omega)]
    unfold exB
    (repeat first | rw [if_pos (by omega)] | rw [if_neg (by omega)])
    unfold patternsT
    (repeat first | rw [if_pos (by omega)] | rw [if_neg (by omega)])
  have e2 : kindsS t = ⟨#[84, 69]⟩ := by
    unfold kindsS
    (repeat first | rw [if_pos (by omega)] | rw [if_neg (by omega)])
    unfold moreS
    (repeat first | rw [if_pos (by omega)] | rw [if_neg (by omega)])
  rw [e1, rk_row (by omega) (by omega) (by omega) e2 (by decide), show bl ⟨#[84, 69]⟩ = [84, 69] from rfl, (rf_d 84 (by decide) (by decide) (rf_one 69 rf_nil))]
  exact fit_congr (.cons ceT (.cons ceE .nil)) _ hk
theorem kr_rest (t : T) (hop : t.op = 64) (hk : ∀ k ∈ t.kids, OkF k) : kidsB t = rKidsB t := by
  have e1 : kidsB t = fitP (eachP [targetT]) t.kids := by
    unfold kidsB
    rw [if_neg (by omega)]
    unfold exB
    (repeat first | rw [if_pos (by omega)] | rw [if_neg (by omega)])
    unfold patternsT
    (repeat first | rw [if_pos (by omega)] | rw [if_neg (by omega)])
  have e2 : kindsS t = ⟨#[84]⟩ := by
    unfold kindsS
    (repeat first | rw [if_pos (by omega)] | rw [if_neg (by omega)])
    unfold moreS
    (repeat first | rw [if_pos (by omega)] | rw [if_neg (by omega)])
  rw [e1, rk_row (by omega) (by omega) (by omega) e2 (by decide), show bl ⟨#[84]⟩ = [84] from rfl, (rf_one 84 rf_nil)]
  exact fit_congr (.cons ceT .nil) _ hk
theorem kr_prop0k (t : T) (hop : t.op = 39) (hn : t.n = 0) (hm : t.m ≠ 1) (hk : ∀ k ∈ t.kids, OkF k) : kidsB t = rKidsB t := by
  have e1 : kidsB t = fitP (eachP [ofT [31, 30], exprT]) t.kids := by
    unfold kidsB
    rw [if_neg (by omega)]
    unfold exB
    (repeat first | rw [if_pos (by omega)] | rw [if_neg (by omega)])
    unfold propT
    (repeat first | rw [if_pos (by omega)] | rw [if_neg (by omega)])
    unfold keyT
    (repeat first | rw [if_pos (by omega)] | rw [if_neg (by omega)])
  have e2 : kindsS t = ⟨#[107, 69]⟩ := by
    unfold kindsS
    (repeat first | rw [if_pos (by omega)] | rw [if_neg (by omega)])
    unfold moreS
    (repeat first | rw [if_pos (by omega)] | rw [if_neg (by omega)])
    unfold propS
    (repeat first | rw [if_pos (by omega)] | rw [if_neg (by omega)])
    unfold keyS
    (repeat first | rw [if_pos (by omega)] | rw [if_neg (by omega)])
    rfl
  rw [e1, rk_row (by omega) (by omega) (by omega) e2 (by decide), show bl ⟨#[107, 69]⟩ = [107, 69] from rfl, (rf_d 107 (by decide) (by decide) (rf_one 69 rf_nil))]
  exact fit_congr (.cons cek (.cons ceE .nil)) _ hk
theorem kr_prop0e (t : T) (hop : t.op = 39) (hn : t.n = 0) (hm : t.m = 1) (hk : ∀ k ∈ t.kids, OkF k) : kidsB t = rKidsB t := by
  have e1 : kidsB t = fitP (eachP [exprT, exprT]) t.kids := by
    unfold kidsB
    rw [if_neg (by omega)]
    unfold exB
    (repeat first | rw [if_pos (by omega)] | rw [if_neg (by omega)])
    unfold propT
    (repeat first | rw [if_pos (by omega)] | rw [if_neg (by omega)])
    unfold keyT
    (repeat first | rw [if_pos (by omega)] | rw [if_neg (by omega)])
  have e2 : kindsS t = ⟨#[69, 69]⟩ := by
    unfold kindsS
    (repeat first | rw [if_pos (by omega)] | rw [if_neg (by omega)])
    unfold moreS
    (repeat first | rw [if_pos (by omega)] | rw [if_neg (by omega)])
    unfold propS
    (repeat first | rw [if_pos (by omega)] | rw [if_neg (by omega)])
    unfold keyS
    (repeat first | rw [if_pos (by omega)] | rw [if_neg (by omega)])
    rfl
  rw [e1, rk_row (by omega) (by omega) (by omega) e2 (by decide), show bl ⟨#[69, 69]⟩ = [69, 69] from rfl, (rf_d 69 (by decide) (by decide) (rf_one 69 rf_nil))]
  exact fit_congr (.cons ceE (.cons ceE .nil)) _ hk
theorem kr_prop1k (t : T) (hop : t.op = 39) (hn : t.n = 1) (hm : t.m ≠ 1) (hk : ∀ k ∈ t.kids, OkF k) : kidsB t = rKidsB t := by
  have e1 : kidsB t = fitP (eachP [ofT [31, 30], getT]) t.kids := by
    unfold kidsB
    rw [if_neg (by omega)]
    unfold exB
    (repeat first | rw [if_pos (by omega)] | rw [if_neg (by omega)])
    unfold propT
    (repeat first | rw [if_pos (by omega)] | rw [if_neg (by omega)])
    unfold keyT
    (repeat first | rw [if_pos (by omega)] | rw [if_neg (by omega)])
  have e2 : kindsS t = ⟨#[107, 103]⟩ := by
    unfold kindsS
    (repeat first | rw [if_pos (by omega)] | rw [if_neg (by omega)])
    unfold moreS
    (repeat first | rw [if_pos (by omega)] | rw [if_neg (by omega)])
    unfold propS
    (repeat first | rw [if_pos (by omega)] | rw [if_neg (by omega)])
    unfold keyS
    (repeat first | rw [if_pos (by omega)] | rw [if_neg (by omega)])
    rfl
  rw [e1, rk_row (by omega) (by omega) (by omega) e2 (by decide), show bl ⟨#[107, 103]⟩ = [107, 103] from rfl, (rf_d 107 (by decide) (by decide) (rf_one 103 rf_nil))]
  exact fit_congr (.cons cek (.cons ceg .nil)) _ hk
theorem kr_prop1e (t : T) (hop : t.op = 39) (hn : t.n = 1) (hm : t.m = 1) (hk : ∀ k ∈ t.kids, OkF k) : kidsB t = rKidsB t := by
  have e1 : kidsB t = fitP (eachP [exprT, getT]) t.kids := by
    unfold kidsB
    rw [if_neg (by omega)]
    unfold exB
    (repeat first | rw [if_pos (by omega)] | rw [if_neg (by omega)])
    unfold propT
    (repeat first | rw [if_pos (by omega)] | rw [if_neg (by omega)])
    unfold keyT
    (repeat first | rw [if_pos (by omega)] | rw [if_neg (by omega)])
  have e2 : kindsS t = ⟨#[69, 103]⟩ := by
    unfold kindsS
    (repeat first | rw [if_pos (by omega)] | rw [if_neg (by omega)])
    unfold moreS
    (repeat first | rw [if_pos (by omega)] | rw [if_neg (by omega)])
    unfold propS
    (repeat first | rw [if_pos (by omega)] | rw [if_neg (by omega)])
    unfold keyS
    (repeat first | rw [if_pos (by omega)] | rw [if_neg (by omega)])
    rfl
  rw [e1, rk_row (by omega) (by omega) (by omega) e2 (by decide), show bl ⟨#[69, 103]⟩ = [69, 103] from rfl, (rf_d 69 (by decide) (by decide) (rf_one 103 rf_nil))]
  exact fit_congr (.cons ceE (.cons ceg .nil)) _ hk
theorem kr_prop2k (t : T) (hop : t.op = 39) (hn : t.n = 2) (hm : t.m ≠ 1) (hk : ∀ k ∈ t.kids, OkF k) : kidsB t = rKidsB t := by
  have e1 : kidsB t = fitP (eachP [ofT [31, 30], setT]) t.kids := by
    unfold kidsB
    rw [if_neg (by omega)]
    unfold exB
    (repeat first | rw [if_pos (by omega)] | rw [if_neg (by omega)])
    unfold propT
    (repeat first | rw [if_pos (by omega)] | rw [if_neg (by omega)])
    unfold keyT
    (repeat first | rw [if_pos (by omega)] | rw [if_neg (by omega)])
  have e2 : kindsS t = ⟨#[107, 115]⟩ := by
    unfold kindsS
    (repeat first | rw [if_pos (by omega)] | rw [if_neg (by omega)])
    unfold moreS
    (repeat first | rw [if_pos (by omega)] | rw [if_neg (by omega)])
    unfold propS
    (repeat first | rw [if_pos (by omega)] | rw [if_neg (by omega)])
    unfold keyS
    (repeat first | rw [if_pos (by omega)] | rw [if_neg (by omega)])
    rfl
  rw [e1, rk_row (by omega) (by omega) (by omega) e2 (by decide), show bl ⟨#[107, 115]⟩ = [107, 115] from rfl, (rf_d 107 (by decide) (by decide) (rf_one 115 rf_nil))]
  exact fit_congr (.cons cek (.cons ces .nil)) _ hk
theorem kr_prop2e (t : T) (hop : t.op = 39) (hn : t.n = 2) (hm : t.m = 1) (hk : ∀ k ∈ t.kids, OkF k) : kidsB t = rKidsB t := by
  have e1 : kidsB t = fitP (eachP [exprT, setT]) t.kids := by
    unfold kidsB
    rw [if_neg (by omega)]
    unfold exB
    (repeat first | rw [if_pos (by omega)] | rw [if_neg (by omega)])
    unfold propT
    (repeat first | rw [if_pos (by omega)] | rw [if_neg (by omega)])
    unfold keyT
    (repeat first | rw [if_pos (by omega)] | rw [if_neg (by omega)])
  have e2 : kindsS t = ⟨#[69, 115]⟩ := by
    unfold kindsS
    (repeat first | rw [if_pos (by omega)] | rw [if_neg (by omega)])
    unfold moreS
    (repeat first | rw [if_pos (by omega)] | rw [if_neg (by omega)])
    unfold propS
    (repeat first | rw [if_pos (by omega)] | rw [if_neg (by omega)])
    unfold keyS
    (repeat first | rw [if_pos (by omega)] | rw [if_neg (by omega)])
    rfl
  rw [e1, rk_row (by omega) (by omega) (by omega) e2 (by decide), show bl ⟨#[69, 115]⟩ = [69, 115] from rfl, (rf_d 69 (by decide) (by decide) (rf_one 115 rf_nil))]
  exact fit_congr (.cons ceE (.cons ces .nil)) _ hk
theorem kr_prop5k (t : T) (hop : t.op = 39) (hn : t.n = 5) (hm : t.m ≠ 1) (hk : ∀ k ∈ t.kids, OkF k) : kidsB t = rKidsB t := by
  have e1 : kidsB t = fitP (eachP [ofT [31, 30], methT]) t.kids := by
    unfold kidsB
    rw [if_neg (by omega)]
    unfold exB
    (repeat first | rw [if_pos (by omega)] | rw [if_neg (by omega)])
    unfold propT
    (repeat first | rw [if_pos (by omega)] | rw [if_neg (by omega)])
    unfold keyT
    (repeat first | rw [if_pos (by omega)] | rw [if_neg (by omega)])
  have e2 : kindsS t = ⟨#[107, 109]⟩ := by
    unfold kindsS
    (repeat first | rw [if_pos (by omega)] | rw [if_neg (by omega)])
    unfold moreS
    (repeat first | rw [if_pos (by omega)] | rw [if_neg (by omega)])
    unfold propS
    (repeat first | rw [if_pos (by omega)] | rw [if_neg (by omega)])
    unfold keyS
    (repeat first | rw [if_pos (by omega)] | rw [if_neg (by omega)])
    rfl
  rw [e1, rk_row (by omega) (by omega) (by omega) e2 (by decide), show bl ⟨#[107, 109]⟩ = [107, 109] from rfl, (rf_d 107 (by decide) (by decide) (rf_one 109 rf_nil))]
  exact fit_congr (.cons cek (.cons cem .nil)) _ hk
theorem kr_prop5e (t : T) (hop : t.op = 39) (hn : t.n = 5) (hm : t.m = 1) (hk : ∀ k ∈ t.kids, OkF k) : kidsB t = rKidsB t := by
  have e1 : kidsB t = fitP (eachP [exprT, methT]) t.kids := by
    unfold kidsB
    rw [if_neg (by omega)]
    unfold exB
    (repeat first | rw [if_pos (by omega)] | rw [if_neg (by omega)])
    unfold propT
    (repeat first | rw [if_pos (by omega)] | rw [if_neg (by omega)])
    unfold keyT
    (repeat first | rw [if_pos (by omega)] | rw [if_neg (by omega)])
  have e2 : kindsS t = ⟨#[69, 109]⟩ := by
    unfold kindsS
    (repeat first | rw [if_pos (by omega)] | rw [if_neg (by omega)])
    unfold moreS
    (repeat first | rw [if_pos (by omega)] | rw [if_neg (by omega)])
    unfold propS
    (repeat first | rw [if_pos (by omega)] | rw [if_neg (by omega)])
    unfold keyS
    (repeat first | rw [if_pos (by omega)] | rw [if_neg (by omega)])
    rfl
  rw [e1, rk_row (by omega) (by omega) (by omega) e2 (by decide), show bl ⟨#[69, 109]⟩ = [69, 109] from rfl, (rf_d 69 (by decide) (by decide) (rf_one 109 rf_nil))]
  exact fit_congr (.cons ceE (.cons cem .nil)) _ hk
theorem kr_prop3 (t : T) (hop : t.op = 39) (hn : t.n = 3) (hk : ∀ k ∈ t.kids, OkF k) : kidsB t = rKidsB t := by
  have e1 : kidsB t = fitP (eachP [namedT]) t.kids := by
    unfold kidsB
    rw [if_neg (by omega)]
    unfold exB
    (repeat first | rw [if_pos (by omega)] | rw [if_neg (by omega)])
    unfold propT
    (repeat first | rw [if_pos (by omega)] | rw [if_neg (by omega)])
  have e2 : kindsS t = ⟨#[119]⟩ := by
    unfold kindsS
    (repeat first | rw [if_pos (by omega)] | rw [if_neg (by omega)])
    unfold moreS
    (repeat first | rw [if_pos (by omega)] | rw [if_neg (by omega)])
    unfold propS
    (repeat first | rw [if_pos (by omega)] | rw [if_neg (by omega)])
  rw [e1, rk_row (by omega) (by omega) (by omega) e2 (by decide), show bl ⟨#[119]⟩ = [119] from rfl, (rf_one 119 rf_nil)]
  exact fit_congr (.cons cew .nil) _ hk
theorem kr_prop4 (t : T) (hop : t.op = 39) (hn : t.n = 4) (hk : ∀ k ∈ t.kids, OkF k) : kidsB t = rKidsB t := by
  have e1 : kidsB t = fitP (eachP [exprT]) t.kids := by
    unfold kidsB
    rw [if_neg (by omega)]
    unfold exB
    (repeat first | rw [if_pos (by omega)] | rw [if_neg (by omega)])
    unfold propT
    (repeat first | rw [if_pos (by omega)] | rw [if_neg (by omega)])
  have e2 : kindsS t = ⟨#[69]⟩ := by
    unfold kindsS
    (repeat first | rw [if_pos (by omega)] | rw [if_neg (by omega)])
    unfold moreS
    (repeat first | rw [if_pos (by omega)] | rw [if_neg (by omega)])
    unfold propS
    (repeat first | rw [if_pos (by omega)] | rw [if_neg (by omega)])
  rw [e1, rk_row (by omega) (by omega) (by omega) e2 (by decide), show bl ⟨#[69]⟩ = [69] from rfl, (rf_one 69 rf_nil)]
  exact fit_congr (.cons ceE .nil) _ hk
end Go.Proofs.YtnllooebophcpaaDoor
