/- tree.Right. (and what leans on it). No statement of the seat is proved here. -/
import Derived.Test.YtfabmichdhbiaaaGreatDoorQat
import Derived.Test.YtfabmichdhbiaaaGreatDoorQae
set_option maxRecDepth 20000
set_option maxHeartbeats 2000000
namespace Go.Proofs.YtfabmichdhbiaaaGreatDoor
open Go.RowKit Go.Vcg
noncomputable def kidsB (t : T) : Bool := if t.op ≤ 23 then stB t else exB t
def onT (t : T) (i : Nat) (k : T) (spine : Bool) : Bool := decide (i = 0) && linkT k && (decide (t.op = 53) || spine && linkT t)
def Nd (t : T) (spine : Bool) : Prop := knownT t.op = true ∧ fieldsT t = true ∧ ¬(linkT t = true ∧ t.n = 1 ∧ spine = false)
inductive Rt : T → Nat → Bool → Prop
  | mk {t : T} {deep : Nat} {spine : Bool} (hd : deep ≤ 200) (hn : Nd t spine) (hk : kidsB t = true) (hr : ∀ (i : Nat) (k : T), t.kids[i]? = some k → Rt k (deep + 1) (onT t i k spine)) : Rt t deep spine
noncomputable def rtB (t : T) (deep : Nat) (spine : Bool) : Bool := dB (Rt t deep spine)
theorem rtB_t {t : T} {d : Nat} {s : Bool} (h : Rt t d s) : rtB t d s = true := by unfold rtB; exact dB_t h
theorem rtB_f {t : T} {d : Nat} {s : Bool} (h : ¬Rt t d s) : rtB t d s = false := by unfold rtB; exact dB_f h
theorem rtB_true {t : T} {d : Nat} {s : Bool} (h : rtB t d s = true) : Rt t d s := by unfold rtB at h; exact dB_true h
theorem rtB_false {t : T} {d : Nat} {s : Bool} (h : rtB t d s = false) : ¬Rt t d s := by unfold rtB at h; exact dB_false h
theorem sh_kid {t k : T} (h : Sh t) (hk : k ∈ t.kids) : Sh k := by
  cases h with
  | mk _ _ _ _ h => exact h k hk
theorem sh_op {t : T} (h : Sh t) : In64 t.op := by cases h; assumption
theorem sh_s {t : T} (h : Sh t) : t.s.size ≤ 4000 := by cases h; assumption
theorem sh_sh' : ∀ {t : T}, Sh t → Sh' t := fun {t} => T.ind2 (p := fun t => Sh t → Sh' t) (fun t ih h => .mk (by have := sh_s h; omega) fun k hk => ih k hk (sh_kid h hk)) t
attribute [local irreducible] knownT fieldsT stB exB rtB G GC GQ GA GAop Calls IntKind.wrap Int.decLt Int.decLe
theorem right_spec : ∀ (n : Nat), n ≤ 100000 → ∀ (t : T) (u : Value) (deep : Nat) (spine : Bool) (w : World) (μ : Mem), MOk μ w → KR μ t.kids u → t.size ≤ n → deep ≤ 201 → Sh t → TabA μ →
    Calls Tryz.prog 17 #[.agg (encT t u).toArray, .int .i64 deep, .bool spine] w fun e w' => e = .returned (.bool (rtB t deep spine)) ∧ Below w.heap.size w w' := by
  intro n
  induction n with
  | zero => intro _ t u d s w μ hμ hk hn; exact absurd hn (by rw [T.size_eq]; omega)
  | succ n ih =>
    intro hnb t u deep spine w μ hμ hk hn hdp hsh hT
    have ho := hk.one
    have hop := sh_op hsh
    unfold In64 at hop
    have hss := sh_s hsh
    have hks : ∀ k ∈ t.kids, T.size k ≤ 100000 ∧ k.s.size ≤ 65536 := fun k hk => by
      obtain ⟨i, hi⟩ := List.mem_iff_getElem?.1 hk
      have h1 := T.size_kid hi
      have h2 := sh_s (sh_kid hsh hk)
      exact ⟨by omega, by omega⟩
    have hks' : ∀ k ∈ t.kids, Sh' k := fun k hk => sh_sh' (sh_kid hsh hk)
    have hlen := kidsLe t
    obtain ⟨A, c, rfl, hlc, hkid⟩ := hk.form
    have c1 := fun (w : World) (μc : Mem) (hw : MOk μc w) (hle : MLe μ μc) => known_spec t.op hop w μc hw (hT.mono hle)
    have c2 := fun (w : World) (μc : Mem) (hw : MOk μc w) (hle : MLe μ μc) => fields_spec' t _ w μc hw (hk.mono hle) (by omega) (by omega) (hT.mono hle)
    have c3 := fun (w : World) (μc : Mem) (hw : MOk μc w) (hle : MLe μ μc) => link_spec t _ w μc hw (hk.mono hle) (by omega) (by omega)
    have c4 := fun (w : World) (μc : Mem) (hw : MOk μc w) (hle : MLe μ μc) => statements_spec t _ w μc hw (hk.mono hle) (by omega) hks
    have c5 := fun (w : World) (μc : Mem) (hw : MOk μc w) (hle : MLe μ μc) => expressions_spec t _ w μc hw (hk.mono hle) (by omega) hks hks'
    refine call_intro (args := [.agg (encT t (.slice A t.kids.length c)).toArray, .int .i64 deep, .bool spine]) Tryz.func17 rfl Tryz.ntmps17 (by simp) hμ ?_
    by_cases h1 : deep ≤ 200 ∧ Nd t spine
    · obtain ⟨hd, hnd⟩ := h1
      obtain ⟨hkn, hf, hl⟩ := id hnd
      rw [hkn] at c1
      rw [hf] at c2
      cases hkb : kidsB t
      · have hR : rtB t deep spine = false := rtB_f fun h => by
          cases h with
          | mk _ _ h2 _ => rw [hkb] at h2; cases h2
        rw [hR]
        unfold kidsB at hkb
        repeat' (first | ((with_reducible show GC _ _ (Code.seq (Code.region 3 _ _) _) _ _ _ _); (apply gc_stop)) | refine KO ?_ | ((with_reducible apply F1 26); exact rfl; exact EN; (exact fun w μc hw hse => c1 w μc hw hse.le)) | ((with_reducible apply F1 27); exact rfl; exact EN; (exact fun w μc hw hse => c2 w μc hw hse.le)) | ((with_reducible apply F1 28); exact rfl; exact EN; (exact fun w μc hw hse => c3 w μc hw hse.le)) | refine KI ?_ | refine NB fun b => ?_ | ((refine KB ?_ ?_ <;> intro hp)) | refine KG ?_ | fail)
        all_goals try (exfalso; apply hl; refine ⟨?_, ?_, ?_⟩ <;> assumption)
        all_goals
          refine gcs ?_
          by_cases h23 : t.op ≤ 23
          · rw [if_pos h23] at hkb
            rw [hkb] at c4
            repeat' (first | refine KO ?_ | ((with_reducible apply C1); exact rfl; exact EN; exact fun w μc hw hse => c4 w μc hw hse.le) | refine KI ?_ | refine NB fun b => ?_ | ((refine KB ?_ ?_ <;> intro hp)) | refine KG ?_ | fail)
            all_goals first | exact ret_s rfl rfl rfl | (exfalso; omega)
          · rw [if_neg h23] at hkb
            rw [hkb] at c5
            repeat' (first | refine KO ?_ | ((with_reducible apply C1); exact rfl; exact EN; exact fun w μc hw hse => c5 w μc hw hse.le) | refine KI ?_ | refine NB fun b => ?_ | ((refine KB ?_ ?_ <;> intro hp)) | refine KG ?_ | fail)
            all_goals first | exact ret_s rfl rfl rfl | (exfalso; omega)
      · have hkb' := hkb
        unfold kidsB at hkb'
        repeat' (first | ((with_reducible show GC _ _ (Code.seq (Code.seq (Code.region 1 _ _) _) _) _ _ _ _); (apply gc_stop)) | refine KK ?_ | refine NB fun b => ?_ | ((refine KB ?_ ?_ <;> intro hp)) | refine KG ?_ | fail)
        refine gcs (gc_join (ι := Unit) (fun _ => True) (fun _ => μ) (fun _ => [(1, .int .i64 deep), (2, .bool spine), (3, .pointer (some ⟨b, 0, none⟩))]) (fun _ => [.inl ⟨b, 27, 6, idx 0 (encT t (.slice A t.kids.length c))⟩]) ?_ ?_)
        · repeat' (first | refine KO ?_ | ((with_reducible apply F1 26); exact rfl; exact EN; (exact fun w μc hw hse => c1 w μc hw hse.le)) | ((with_reducible apply F1 27); exact rfl; exact EN; (exact fun w μc hw hse => c2 w μc hw hse.le)) | ((with_reducible apply F1 28); exact rfl; exact EN; (exact fun w μc hw hse => c3 w μc hw hse.le)) | refine KI ?_ | refine NB fun b => ?_ | ((refine KB ?_ ?_ <;> intro hp)) | refine KG ?_ | fail)
          all_goals try (exfalso; apply hl; refine ⟨?_, ?_, ?_⟩ <;> assumption)
          all_goals first | exact J1 () trivial | (exfalso; omega)
        intro _ _
        by_cases h23 : t.op ≤ 23
        · rw [if_pos h23] at hkb'
          rw [hkb'] at c4
          repeat' (first | refine KO ?_ | ((with_reducible apply C1); exact rfl; exact EN; exact fun w μc hw hse => c4 w μc hw hse.le) | refine KI ?_ | refine NB fun b => ?_ | ((refine KB ?_ ?_ <;> intro hp)) | refine KG ?_ | fail)
          all_goals try (exfalso; omega)
          refine gc_loop (ι := Nat) (fun i => i ≤ t.kids.length ∧ ∀ (j : Nat) (k : T), j < i → t.kids[j]? = some k → Rt k (deep + 1) (onT t j k spine)) (fun i => t.kids.length - i) (fun _ => μ) (fun i => [(47, .int .i64 i), (46, .int .i64 t.kids.length), (45, .slice A t.kids.length c), (1, .int .i64 deep), (2, .bool spine), (3, .pointer (some ⟨b, 0, none⟩))]) (fun _ => [.inl ⟨b, 27, 6, idx 0 (encT t (.slice A t.kids.length c))⟩]) 0 ⟨by omega, fun j _ h => absurd h (by omega)⟩ (fun a w hs => J5 hs) ?_
          rintro i ⟨hi, hok⟩
          by_cases hlt : i < t.kids.length
          · have hkk : t.kids[i]? = some t.kids[i] := List.getElem?_eq_getElem hlt
            generalize t.kids[i] = k at hkk
            obtain ⟨ad, x, rfl, hm, hox, hkx⟩ := hkid i k hkk
            have hsz := T.size_kid hkk
            have hshk := sh_kid hsh (List.mem_of_getElem? hkk)
            have hskk := sh_s hshk
            have ck := fun (w : World) (μc : Mem) (hw : MOk μc w) (hle : MLe μ μc) => link_spec k _ w μc hw (hkx.mono hle) (by omega) (by omega)
            have hnext : Rt k (deep + 1) (onT t i k spine) → ∀ (j : Nat) (k : T), j < i + 1 → t.kids[j]? = some k → Rt k (deep + 1) (onT t j k spine) := fun h j k' hj hk' => by
              rcases Nat.lt_or_ge j i with h1 | h1
              · exact hok j k' h1 hk'
              · obtain rfl : j = i := by omega
                rw [hkk] at hk'
                cases hk'
                exact h
            by_cases hi0 : i = 0
            · subst hi0
              cases hlk : linkT k
              · rw [hlk] at ck
                have hon : onT t 0 k spine = false := by simp [onT, hlk]
                cases hq : rtB k (deep + 1) false
                · have hR : rtB t deep spine = false := rtB_f fun h => rtB_false hq (by cases h with | mk _ _ _ h4 => exact hon ▸ h4 0 k hkk)
                  rw [hR]
                  have hcall := fun (w : World) (μc : Mem) (hw : MOk μc w) (hle : MLe μ μc) => hq ▸ ih (by omega) k x (deep + 1) false w μc hw (hkx.mono hle) (by omega) (by omega) hshk (hT.mono hle)
                  repeat' (first | refine KO ?_ | ((with_reducible apply F1 28); exact rfl; exact EN; first | (exact fun w μc hw hse => ck w μc hw hse.le) | (exact fun w μc hw hse => c3 w μc hw hse.le)) | ((with_reducible apply F1 17); exact rfl; exact EN; (exact fun w μc hw hse => hcall w μc hw hse.le)) | (refine KV (b := by first | exact U1 0 | exact U4 hm) (c := ?_)) | refine KI ?_ | refine NB fun b => ?_ | ((refine KB ?_ ?_ <;> intro hp)) | refine KG ?_ | fail)
                  all_goals first | exact ret_s rfl rfl rfl | (exfalso; omega)
                · have hnx := hnext (by rw [hon]; exact rtB_true hq)
                  have hcall := fun (w : World) (μc : Mem) (hw : MOk μc w) (hle : MLe μ μc) => hq ▸ ih (by omega) k x (deep + 1) false w μc hw (hkx.mono hle) (by omega) (by omega) hshk (hT.mono hle)
                  repeat' (first | refine KO ?_ | ((with_reducible apply F1 28); exact rfl; exact EN; first | (exact fun w μc hw hse => ck w μc hw hse.le) | (exact fun w μc hw hse => c3 w μc hw hse.le)) | ((with_reducible apply F1 17); exact rfl; exact EN; (exact fun w μc hw hse => hcall w μc hw hse.le)) | (refine KV (b := by first | exact U1 0 | exact U4 hm) (c := ?_)) | refine KI ?_ | refine NB fun b => ?_ | ((refine KB ?_ ?_ <;> intro hp)) | refine KG ?_ | fail)
                  all_goals first | exact J2 (0 + 1) ⟨by omega, hnx⟩ (by omega) | (exfalso; omega)
              · rw [hlk] at ck
                by_cases h53 : t.op = 53
                · have hon : onT t 0 k spine = true := by simp [onT, hlk, h53]
                  cases hq : rtB k (deep + 1) true
                  · have hR : rtB t deep spine = false := rtB_f fun h => rtB_false hq (by cases h with | mk _ _ _ h4 => exact hon ▸ h4 0 k hkk)
                    rw [hR]
                    have hcall := fun (w : World) (μc : Mem) (hw : MOk μc w) (hle : MLe μ μc) => hq ▸ ih (by omega) k x (deep + 1) true w μc hw (hkx.mono hle) (by omega) (by omega) hshk (hT.mono hle)
                    repeat' (first | refine KO ?_ | ((with_reducible apply F1 28); exact rfl; exact EN; first | (exact fun w μc hw hse => ck w μc hw hse.le) | (exact fun w μc hw hse => c3 w μc hw hse.le)) | ((with_reducible apply F1 17); exact rfl; exact EN; (exact fun w μc hw hse => hcall w μc hw hse.le)) | (refine KV (b := by first | exact U1 0 | exact U4 hm) (c := ?_)) | refine KI ?_ | refine NB fun b => ?_ | ((refine KB ?_ ?_ <;> intro hp)) | refine KG ?_ | fail)
                    all_goals first | exact ret_s rfl rfl rfl | (exfalso; omega)
                  · have hnx := hnext (by rw [hon]; exact rtB_true hq)
                    have hcall := fun (w : World) (μc : Mem) (hw : MOk μc w) (hle : MLe μ μc) => hq ▸ ih (by omega) k x (deep + 1) true w μc hw (hkx.mono hle) (by omega) (by omega) hshk (hT.mono hle)
                    repeat' (first | refine KO ?_ | ((with_reducible apply F1 28); exact rfl; exact EN; first | (exact fun w μc hw hse => ck w μc hw hse.le) | (exact fun w μc hw hse => c3 w μc hw hse.le)) | ((with_reducible apply F1 17); exact rfl; exact EN; (exact fun w μc hw hse => hcall w μc hw hse.le)) | (refine KV (b := by first | exact U1 0 | exact U4 hm) (c := ?_)) | refine KI ?_ | refine NB fun b => ?_ | ((refine KB ?_ ?_ <;> intro hp)) | refine KG ?_ | fail)
                    all_goals first | exact J2 (0 + 1) ⟨by omega, hnx⟩ (by omega) | (exfalso; omega)
                · cases spine
                  · skip
                    have hon : onT t 0 k false = false := by simp [onT, hlk, h53]
                    cases hq : rtB k (deep + 1) false
                    · have hR : rtB t deep false = false := rtB_f fun h => rtB_false hq (by cases h with | mk _ _ _ h4 => exact hon ▸ h4 0 k hkk)
                      rw [hR]
                      have hcall := fun (w : World) (μc : Mem) (hw : MOk μc w) (hle : MLe μ μc) => hq ▸ ih (by omega) k x (deep + 1) false w μc hw (hkx.mono hle) (by omega) (by omega) hshk (hT.mono hle)
                      repeat' (first | refine KO ?_ | ((with_reducible apply F1 28); exact rfl; exact EN; first | (exact fun w μc hw hse => ck w μc hw hse.le) | (exact fun w μc hw hse => c3 w μc hw hse.le)) | ((with_reducible apply F1 17); exact rfl; exact EN; (exact fun w μc hw hse => hcall w μc hw hse.le)) | (refine KV (b := by first | exact U1 0 | exact U4 hm) (c := ?_)) | refine KI ?_ | refine NB fun b => ?_ | ((refine KB ?_ ?_ <;> intro hp)) | refine KG ?_ | fail)
                      all_goals first | exact ret_s rfl rfl rfl | (exfalso; omega)
                    · have hnx := hnext (by rw [hon]; exact rtB_true hq)
                      have hcall := fun (w : World) (μc : Mem) (hw : MOk μc w) (hle : MLe μ μc) => hq ▸ ih (by omega) k x (deep + 1) false w μc hw (hkx.mono hle) (by omega) (by omega) hshk (hT.mono hle)
                      repeat' (first | refine KO ?_ | ((with_reducible apply F1 28); exact rfl; exact EN; first | (exact fun w μc hw hse => ck w μc hw hse.le) | (exact fun w μc hw hse => c3 w μc hw hse.le)) | ((with_reducible apply F1 17); exact rfl; exact EN; (exact fun w μc hw hse => hcall w μc hw hse.le)) | (refine KV (b := by first | exact U1 0 | exact U4 hm) (c := ?_)) | refine KI ?_ | refine NB fun b => ?_ | ((refine KB ?_ ?_ <;> intro hp)) | refine KG ?_ | fail)
                      all_goals first | exact J2 (0 + 1) ⟨by omega, hnx⟩ (by omega) | (exfalso; omega)
                  · cases hlt2 : linkT t
                    · rw [hlt2] at c3
                      have hon : onT t 0 k true = false := by simp [onT, hlk, h53, hlt2]
                      cases hq : rtB k (deep + 1) false
                      · have hR : rtB t deep true = false := rtB_f fun h => rtB_false hq (by cases h with | mk _ _ _ h4 => exact hon ▸ h4 0 k hkk)
                        rw [hR]
                        have hcall := fun (w : World) (μc : Mem) (hw : MOk μc w) (hle : MLe μ μc) => hq ▸ ih (by omega) k x (deep + 1) false w μc hw (hkx.mono hle) (by omega) (by omega) hshk (hT.mono hle)
                        repeat' (first | refine KO ?_ | ((with_reducible apply F1 28); exact rfl; exact EN; first | (exact fun w μc hw hse => ck w μc hw hse.le) | (exact fun w μc hw hse => c3 w μc hw hse.le)) | ((with_reducible apply F1 17); exact rfl; exact EN; (exact fun w μc hw hse => hcall w μc hw hse.le)) | (refine KV (b := by first | exact U1 0 | exact U4 hm) (c := ?_)) | refine KI ?_ | refine NB fun b => ?_ | ((refine KB ?_ ?_ <;> intro hp)) | refine KG ?_ | fail)
                        all_goals first | exact ret_s rfl rfl rfl | (exfalso; omega)
                      · have hnx := hnext (by rw [hon]; exact rtB_true hq)
                        have hcall := fun (w : World) (μc : Mem) (hw : MOk μc w) (hle : MLe μ μc) => hq ▸ ih (by omega) k x (deep + 1) false w μc hw (hkx.mono hle) (by omega) (by omega) hshk (hT.mono hle)
                        repeat' (first | refine KO ?_ | ((with_reducible apply F1 28); exact rfl; exact EN; first | (exact fun w μc hw hse => ck w μc hw hse.le) | (exact fun w μc hw hse => c3 w μc hw hse.le)) | ((with_reducible apply F1 17); exact rfl; exact EN; (exact fun w μc hw hse => hcall w μc hw hse.le)) | (refine KV (b := by first | exact U1 0 | exact U4 hm) (c := ?_)) | refine KI ?_ | refine NB fun b => ?_ | ((refine KB ?_ ?_ <;> intro hp)) | refine KG ?_ | fail)
                        all_goals first | exact J2 (0 + 1) ⟨by omega, hnx⟩ (by omega) | (exfalso; omega)
                    · rw [hlt2] at c3
                      have hon : onT t 0 k true = true := by simp [onT, hlk, h53, hlt2]
                      cases hq : rtB k (deep + 1) true
                      · have hR : rtB t deep true = false := rtB_f fun h => rtB_false hq (by cases h with | mk _ _ _ h4 => exact hon ▸ h4 0 k hkk)
                        rw [hR]
                        have hcall := fun (w : World) (μc : Mem) (hw : MOk μc w) (hle : MLe μ μc) => hq ▸ ih (by omega) k x (deep + 1) true w μc hw (hkx.mono hle) (by omega) (by omega) hshk (hT.mono hle)
                        repeat' (first | refine KO ?_ | ((with_reducible apply F1 28); exact rfl; exact EN; first | (exact fun w μc hw hse => ck w μc hw hse.le) | (exact fun w μc hw hse => c3 w μc hw hse.le)) | ((with_reducible apply F1 17); exact rfl; exact EN; (exact fun w μc hw hse => hcall w μc hw hse.le)) | (refine KV (b := by first | exact U1 0 | exact U4 hm) (c := ?_)) | refine KI ?_ | refine NB fun b => ?_ | ((refine KB ?_ ?_ <;> intro hp)) | refine KG ?_ | fail)
                        all_goals first | exact ret_s rfl rfl rfl | (exfalso; omega)
                      · have hnx := hnext (by rw [hon]; exact rtB_true hq)
                        have hcall := fun (w : World) (μc : Mem) (hw : MOk μc w) (hle : MLe μ μc) => hq ▸ ih (by omega) k x (deep + 1) true w μc hw (hkx.mono hle) (by omega) (by omega) hshk (hT.mono hle)
                        repeat' (first | refine KO ?_ | ((with_reducible apply F1 28); exact rfl; exact EN; first | (exact fun w μc hw hse => ck w μc hw hse.le) | (exact fun w μc hw hse => c3 w μc hw hse.le)) | ((with_reducible apply F1 17); exact rfl; exact EN; (exact fun w μc hw hse => hcall w μc hw hse.le)) | (refine KV (b := by first | exact U1 0 | exact U4 hm) (c := ?_)) | refine KI ?_ | refine NB fun b => ?_ | ((refine KB ?_ ?_ <;> intro hp)) | refine KG ?_ | fail)
                        all_goals first | exact J2 (0 + 1) ⟨by omega, hnx⟩ (by omega) | (exfalso; omega)
            · skip
              have hon : onT t i k spine = false := by simp [onT, hi0]
              cases hq : rtB k (deep + 1) false
              · have hR : rtB t deep spine = false := rtB_f fun h => rtB_false hq (by cases h with | mk _ _ _ h4 => exact hon ▸ h4 i k hkk)
                rw [hR]
                have hcall := fun (w : World) (μc : Mem) (hw : MOk μc w) (hle : MLe μ μc) => hq ▸ ih (by omega) k x (deep + 1) false w μc hw (hkx.mono hle) (by omega) (by omega) hshk (hT.mono hle)
                repeat' (first | refine KO ?_ | ((with_reducible apply F1 28); exact rfl; exact EN; first | (exact fun w μc hw hse => ck w μc hw hse.le) | (exact fun w μc hw hse => c3 w μc hw hse.le)) | ((with_reducible apply F1 17); exact rfl; exact EN; (exact fun w μc hw hse => hcall w μc hw hse.le)) | (refine KV (b := by first | exact U1 i | exact U4 hm) (c := ?_)) | refine KI ?_ | refine NB fun b => ?_ | ((refine KB ?_ ?_ <;> intro hp)) | refine KG ?_ | fail)
                all_goals first | exact ret_s rfl rfl rfl | (exfalso; omega)
              · have hnx := hnext (by rw [hon]; exact rtB_true hq)
                have hcall := fun (w : World) (μc : Mem) (hw : MOk μc w) (hle : MLe μ μc) => hq ▸ ih (by omega) k x (deep + 1) false w μc hw (hkx.mono hle) (by omega) (by omega) hshk (hT.mono hle)
                repeat' (first | refine KO ?_ | ((with_reducible apply F1 28); exact rfl; exact EN; first | (exact fun w μc hw hse => ck w μc hw hse.le) | (exact fun w μc hw hse => c3 w μc hw hse.le)) | ((with_reducible apply F1 17); exact rfl; exact EN; (exact fun w μc hw hse => hcall w μc hw hse.le)) | (refine KV (b := by first | exact U1 i | exact U4 hm) (c := ?_)) | refine KI ?_ | refine NB fun b => ?_ | ((refine KB ?_ ?_ <;> intro hp)) | refine KG ?_ | fail)
                all_goals first | exact J2 (i + 1) ⟨by omega, hnx⟩ (by omega) | (exfalso; omega)
          · have hR : rtB t deep spine = true := rtB_t (.mk hd hnd hkb fun j k hj => hok j k (by have := (List.getElem?_eq_some_iff.1 hj).1; omega) hj)
            rw [hR]
            repeat' (first | refine KK ?_ | refine NB fun b => ?_ | ((refine KB ?_ ?_ <;> intro hp)) | refine KG ?_ | fail)
            all_goals first | exact ret_s rfl rfl rfl | (exfalso; omega)
        · rw [if_neg h23] at hkb'
          rw [hkb'] at c5
          repeat' (first | refine KO ?_ | ((with_reducible apply C1); exact rfl; exact EN; exact fun w μc hw hse => c5 w μc hw hse.le) | refine KI ?_ | refine NB fun b => ?_ | ((refine KB ?_ ?_ <;> intro hp)) | refine KG ?_ | fail)
          all_goals try (exfalso; omega)
          refine gc_loop (ι := Nat) (fun i => i ≤ t.kids.length ∧ ∀ (j : Nat) (k : T), j < i → t.kids[j]? = some k → Rt k (deep + 1) (onT t j k spine)) (fun i => t.kids.length - i) (fun _ => μ) (fun i => [(47, .int .i64 i), (46, .int .i64 t.kids.length), (45, .slice A t.kids.length c), (1, .int .i64 deep), (2, .bool spine), (3, .pointer (some ⟨b, 0, none⟩))]) (fun _ => [.inl ⟨b, 27, 6, idx 0 (encT t (.slice A t.kids.length c))⟩]) 0 ⟨by omega, fun j _ h => absurd h (by omega)⟩ (fun a w hs => J5 hs) ?_
          rintro i ⟨hi, hok⟩
          by_cases hlt : i < t.kids.length
          · have hkk : t.kids[i]? = some t.kids[i] := List.getElem?_eq_getElem hlt
            generalize t.kids[i] = k at hkk
            obtain ⟨ad, x, rfl, hm, hox, hkx⟩ := hkid i k hkk
            have hsz := T.size_kid hkk
            have hshk := sh_kid hsh (List.mem_of_getElem? hkk)
            have hskk := sh_s hshk
            have ck := fun (w : World) (μc : Mem) (hw : MOk μc w) (hle : MLe μ μc) => link_spec k _ w μc hw (hkx.mono hle) (by omega) (by omega)
            have hnext : Rt k (deep + 1) (onT t i k spine) → ∀ (j : Nat) (k : T), j < i + 1 → t.kids[j]? = some k → Rt k (deep + 1) (onT t j k spine) := fun h j k' hj hk' => by
              rcases Nat.lt_or_ge j i with h1 | h1
              · exact hok j k' h1 hk'
              · obtain rfl : j = i := by omega
                rw [hkk] at hk'
                cases hk'
                exact h
            by_cases hi0 : i = 0
            · subst hi0
              cases hlk : linkT k
              · rw [hlk] at ck
                have hon : onT t 0 k spine = false := by simp [onT, hlk]
                cases hq : rtB k (deep + 1) false
                · have hR : rtB t deep spine = false := rtB_f fun h => rtB_false hq (by cases h with | mk _ _ _ h4 => exact hon ▸ h4 0 k hkk)
                  rw [hR]
                  have hcall := fun (w : World) (μc : Mem) (hw : MOk μc w) (hle : MLe μ μc) => hq ▸ ih (by omega) k x (deep + 1) false w μc hw (hkx.mono hle) (by omega) (by omega) hshk (hT.mono hle)
                  repeat' (first | refine KO ?_ | ((with_reducible apply F1 28); exact rfl; exact EN; first | (exact fun w μc hw hse => ck w μc hw hse.le) | (exact fun w μc hw hse => c3 w μc hw hse.le)) | ((with_reducible apply F1 17); exact rfl; exact EN; (exact fun w μc hw hse => hcall w μc hw hse.le)) | (refine KV (b := by first | exact U1 0 | exact U4 hm) (c := ?_)) | refine KI ?_ | refine NB fun b => ?_ | ((refine KB ?_ ?_ <;> intro hp)) | refine KG ?_ | fail)
                  all_goals first | exact ret_s rfl rfl rfl | (exfalso; omega)
                · have hnx := hnext (by rw [hon]; exact rtB_true hq)
                  have hcall := fun (w : World) (μc : Mem) (hw : MOk μc w) (hle : MLe μ μc) => hq ▸ ih (by omega) k x (deep + 1) false w μc hw (hkx.mono hle) (by omega) (by omega) hshk (hT.mono hle)
                  repeat' (first | refine KO ?_ | ((with_reducible apply F1 28); exact rfl; exact EN; first | (exact fun w μc hw hse => ck w μc hw hse.le) | (exact fun w μc hw hse => c3 w μc hw hse.le)) | ((with_reducible apply F1 17); exact rfl; exact EN; (exact fun w μc hw hse => hcall w μc hw hse.le)) | (refine KV (b := by first | exact U1 0 | exact U4 hm) (c := ?_)) | refine KI ?_ | refine NB fun b => ?_ | ((refine KB ?_ ?_ <;> intro hp)) | refine KG ?_ | fail)
                  all_goals first | exact J2 (0 + 1) ⟨by omega, hnx⟩ (by omega) | (exfalso; omega)
              · rw [hlk] at ck
                by_cases h53 : t.op = 53
                · have hon : onT t 0 k spine = true := by simp [onT, hlk, h53]
                  cases hq : rtB k (deep + 1) true
                  · have hR : rtB t deep spine = false := rtB_f fun h => rtB_false hq (by cases h with | mk _ _ _ h4 => exact hon ▸ h4 0 k hkk)
                    rw [hR]
                    have hcall := fun (w : World) (μc : Mem) (hw : MOk μc w) (hle : MLe μ μc) => hq ▸ ih (by omega) k x (deep + 1) true w μc hw (hkx.mono hle) (by omega) (by omega) hshk (hT.mono hle)
                    repeat' (first | refine KO ?_ | ((with_reducible apply F1 28); exact rfl; exact EN; first | (exact fun w μc hw hse => ck w μc hw hse.le) | (exact fun w μc hw hse => c3 w μc hw hse.le)) | ((with_reducible apply F1 17); exact rfl; exact EN; (exact fun w μc hw hse => hcall w μc hw hse.le)) | (refine KV (b := by first | exact U1 0 | exact U4 hm) (c := ?_)) | refine KI ?_ | refine NB fun b => ?_ | ((refine KB ?_ ?_ <;> intro hp)) | refine KG ?_ | fail)
                    all_goals first | exact ret_s rfl rfl rfl | (exfalso; omega)
                  · have hnx := hnext (by rw [hon]; exact rtB_true hq)
                    have hcall := fun (w : World) (μc : Mem) (hw : MOk μc w) (hle : MLe μ μc) => hq ▸ ih (by omega) k x (deep + 1) true w μc hw (hkx.mono hle) (by omega) (by omega) hshk (hT.mono hle)
                    repeat' (first | refine KO ?_ | ((with_reducible apply F1 28); exact rfl; exact EN; first | (exact fun w μc hw hse => ck w μc hw hse.le) | (exact fun w μc hw hse => c3 w μc hw hse.le)) | ((with_reducible apply F1 17); exact rfl; exact EN; (exact fun w μc hw hse => hcall w μc hw hse.le)) | (refine KV (b := by first | exact U1 0 | exact U4 hm) (c := ?_)) | refine KI ?_ | refine NB fun b => ?_ | ((refine KB ?_ ?_ <;> intro hp)) | refine KG ?_ | fail)
                    all_goals first | exact J2 (0 + 1) ⟨by omega, hnx⟩ (by omega) | (exfalso; omega)
                · cases spine
                  · skip
                    have hon : onT t 0 k false = false := by simp [onT, hlk, h53]
                    cases hq : rtB k (deep + 1) false
                    · have hR : rtB t deep false = false := rtB_f fun h => rtB_false hq (by cases h with | mk _ _ _ h4 => exact hon ▸ h4 0 k hkk)
                      rw [hR]
                      have hcall := fun (w : World) (μc : Mem) (hw : MOk μc w) (hle : MLe μ μc) => hq ▸ ih (by omega) k x (deep + 1) false w μc hw (hkx.mono hle) (by omega) (by omega) hshk (hT.mono hle)
                      repeat' (first | refine KO ?_ | ((with_reducible apply F1 28); exact rfl; exact EN; first | (exact fun w μc hw hse => ck w μc hw hse.le) | (exact fun w μc hw hse => c3 w μc hw hse.le)) | ((with_reducible apply F1 17); exact rfl; exact EN; (exact fun w μc hw hse => hcall w μc hw hse.le)) | (refine KV (b := by first | exact U1 0 | exact U4 hm) (c := ?_)) | refine KI ?_ | refine NB fun b => ?_ | ((refine KB ?_ ?_ <;> intro hp)) | refine KG ?_ | fail)
                      all_goals first | exact ret_s rfl rfl rfl | (exfalso; omega)
                    · have hnx := hnext (by rw [hon]; exact rtB_true hq)
                      have hcall := fun (w : World) (μc : Mem) (hw : MOk μc w) (hle : MLe μ μc) => hq ▸ ih (by omega) k x (deep + 1) false w μc hw (hkx.mono hle) (by omega) (by omega) hshk (hT.mono hle)
                      repeat' (first | refine KO ?_ | ((with_reducible apply F1 28); exact rfl; exact EN; first | (exact fun w μc hw hse => ck w μc hw hse.le) | (exact fun w μc hw hse => c3 w μc hw hse.le)) | ((with_reducible apply F1 17); exact rfl; exact EN; (exact fun w μc hw hse => hcall w μc hw hse.le)) | (refine KV (b := by first | exact U1 0 | exact U4 hm) (c := ?_)) | refine KI ?_ | refine NB fun b => ?_ | ((refine KB ?_ ?_ <;> intro hp)) | refine KG ?_ | fail)
                      all_goals first | exact J2 (0 + 1) ⟨by omega, hnx⟩ (by omega) | (exfalso; omega)
                  · cases hlt2 : linkT t
                    · rw [hlt2] at c3
                      have hon : onT t 0 k true = false := by simp [onT, hlk, h53, hlt2]
                      cases hq : rtB k (deep + 1) false
                      · have hR : rtB t deep true = false := rtB_f fun h => rtB_false hq (by cases h with | mk _ _ _ h4 => exact hon ▸ h4 0 k hkk)
                        rw [hR]
                        have hcall := fun (w : World) (μc : Mem) (hw : MOk μc w) (hle : MLe μ μc) => hq ▸ ih (by omega) k x (deep + 1) false w μc hw (hkx.mono hle) (by omega) (by omega) hshk (hT.mono hle)
                        repeat' (first | refine KO ?_ | ((with_reducible apply F1 28); exact rfl; exact EN; first | (exact fun w μc hw hse => ck w μc hw hse.le) | (exact fun w μc hw hse => c3 w μc hw hse.le)) | ((with_reducible apply F1 17); exact rfl; exact EN; (exact fun w μc hw hse => hcall w μc hw hse.le)) | (refine KV (b := by first | exact U1 0 | exact U4 hm) (c := ?_)) | refine KI ?_ | refine NB fun b => ?_ | ((refine KB ?_ ?_ <;> intro hp)) | refine KG ?_ | fail)
                        all_goals first | exact ret_s rfl rfl rfl | (exfalso; omega)
                      · have hnx := hnext (by rw [hon]; exact rtB_true hq)
                        have hcall := fun (w : World) (μc : Mem) (hw : MOk μc w) (hle : MLe μ μc) => hq ▸ ih (by omega) k x (deep + 1) false w μc hw (hkx.mono hle) (by omega) (by omega) hshk (hT.mono hle)
                        repeat' (first | refine KO ?_ | ((with_reducible apply F1 28); exact rfl; exact EN; first | (exact fun w μc hw hse => ck w μc hw hse.le) | (exact fun w μc hw hse => c3 w μc hw hse.le)) | ((with_reducible apply F1 17); exact rfl; exact EN; (exact fun w μc hw hse => hcall w μc hw hse.le)) | (refine KV (b := by first | exact U1 0 | exact U4 hm) (c := ?_)) | refine KI ?_ | refine NB fun b => ?_ | ((refine KB ?_ ?_ <;> intro hp)) | refine KG ?_ | fail)
                        all_goals first | exact J2 (0 + 1) ⟨by omega, hnx⟩ (by omega) | (exfalso; omega)
                    · rw [hlt2] at c3
                      have hon : onT t 0 k true = true := by simp [onT, hlk, h53, hlt2]
                      cases hq : rtB k (deep + 1) true
                      · have hR : rtB t deep true = false := rtB_f fun h => rtB_false hq (by cases h with | mk _ _ _ h4 => exact hon ▸ h4 0 k hkk)
                        rw [hR]
                        have hcall := fun (w : World) (μc : Mem) (hw : MOk μc w) (hle : MLe μ μc) => hq ▸ ih (by omega) k x (deep + 1) true w μc hw (hkx.mono hle) (by omega) (by omega) hshk (hT.mono hle)
                        repeat' (first | refine KO ?_ | ((with_reducible apply F1 28); exact rfl; exact EN; first | (exact fun w μc hw hse => ck w μc hw hse.le) | (exact fun w μc hw hse => c3 w μc hw hse.le)) | ((with_reducible apply F1 17); exact rfl; exact EN; (exact fun w μc hw hse => hcall w μc hw hse.le)) | (refine KV (b := by first | exact U1 0 | exact U4 hm) (c := ?_)) | refine KI ?_ | refine NB fun b => ?_ | ((refine KB ?_ ?_ <;> intro hp)) | refine KG ?_ | fail)
                        all_goals first | exact ret_s rfl rfl rfl | (exfalso; omega)
                      · have hnx := hnext (by rw [hon]; exact rtB_true hq)
                        have hcall := fun (w : World) (μc : Mem) (hw : MOk μc w) (hle : MLe μ μc) => hq ▸ ih (by omega) k x (deep + 1) true w μc hw (hkx.mono hle) (by omega) (by omega) hshk (hT.mono hle)
                        repeat' (first | refine KO ?_ | ((with_reducible apply F1 28); exact rfl; exact EN; first | (exact fun w μc hw hse => ck w μc hw hse.le) | (exact fun w μc hw hse => c3 w μc hw hse.le)) | ((with_reducible apply F1 17); exact rfl; exact EN; (exact fun w μc hw hse => hcall w μc hw hse.le)) | (refine KV (b := by first | exact U1 0 | exact U4 hm) (c := ?_)) | refine KI ?_ | refine NB fun b => ?_ | ((refine KB ?_ ?_ <;> intro hp)) | refine KG ?_ | fail)
                        all_goals first | exact J2 (0 + 1) ⟨by omega, hnx⟩ (by omega) | (exfalso; omega)
            · skip
              have hon : onT t i k spine = false := by simp [onT, hi0]
              cases hq : rtB k (deep + 1) false
              · have hR : rtB t deep spine = false := rtB_f fun h => rtB_false hq (by cases h with | mk _ _ _ h4 => exact hon ▸ h4 i k hkk)
                rw [hR]
                have hcall := fun (w : World) (μc : Mem) (hw : MOk μc w) (hle : MLe μ μc) => hq ▸ ih (by omega) k x (deep + 1) false w μc hw (hkx.mono hle) (by omega) (by omega) hshk (hT.mono hle)
                repeat' (first | refine KO ?_ | ((with_reducible apply F1 28); exact rfl; exact EN; first | (exact fun w μc hw hse => ck w μc hw hse.le) | (exact fun w μc hw hse => c3 w μc hw hse.le)) | ((with_reducible apply F1 17); exact rfl; exact EN; (exact fun w μc hw hse => hcall w μc hw hse.le)) | (refine KV (b := by first | exact U1 i | exact U4 hm) (c := ?_)) | refine KI ?_ | refine NB fun b => ?_ | ((refine KB ?_ ?_ <;> intro hp)) | refine KG ?_ | fail)
                all_goals first | exact ret_s rfl rfl rfl | (exfalso; omega)
              · have hnx := hnext (by rw [hon]; exact rtB_true hq)
                have hcall := fun (w : World) (μc : Mem) (hw : MOk μc w) (hle : MLe μ μc) => hq ▸ ih (by omega) k x (deep + 1) false w μc hw (hkx.mono hle) (by omega) (by omega) hshk (hT.mono hle)
                repeat' (first | refine KO ?_ | ((with_reducible apply F1 28); exact rfl; exact EN; first | (exact fun w μc hw hse => ck w μc hw hse.le) | (exact fun w μc hw hse => c3 w μc hw hse.le)) | ((with_reducible apply F1 17); exact rfl; exact EN; (exact fun w μc hw hse => hcall w μc hw hse.le)) | (refine KV (b := by first | exact U1 i | exact U4 hm) (c := ?_)) | refine KI ?_ | refine NB fun b => ?_ | ((refine KB ?_ ?_ <;> intro hp)) | refine KG ?_ | fail)
                all_goals first | exact J2 (i + 1) ⟨by omega, hnx⟩ (by omega) | (exfalso; omega)
          · have hR : rtB t deep spine = true := rtB_t (.mk hd hnd hkb fun j k hj => hok j k (by have := (List.getElem?_eq_some_iff.1 hj).1; omega) hj)
            rw [hR]
            repeat' (first | refine KK ?_ | refine NB fun b => ?_ | ((refine KB ?_ ?_ <;> intro hp)) | refine KG ?_ | fail)
            all_goals first | exact ret_s rfl rfl rfl | (exfalso; omega)
    · have hR : rtB t deep spine = false := rtB_f fun h => by
        cases h with
        | mk h2 h3 _ _ => exact h1 ⟨h2, h3⟩
      rw [hR]
      unfold Nd at h1
      repeat' (first | ((with_reducible show GC _ _ (Code.seq (Code.region 3 _ _) _) _ _ _ _); (apply gc_stop)) | refine KO ?_ | ((with_reducible apply F1 26); exact rfl; exact EN; (exact fun w μc hw hse => c1 w μc hw hse.le)) | ((with_reducible apply F1 27); exact rfl; exact EN; (exact fun w μc hw hse => c2 w μc hw hse.le)) | ((with_reducible apply F1 28); exact rfl; exact EN; (exact fun w μc hw hse => c3 w μc hw hse.le)) | refine KI ?_ | refine NB fun b => ?_ | ((refine KB ?_ ?_ <;> intro hp)) | refine KG ?_ | fail)
      all_goals first | exact ret_s rfl rfl rfl | (exfalso; clear c1 c2 c3 c4 c5 hk hkid hμ hT hks hks' hsh ih; simp_all; done) | (exfalso; clear c1 c2 c3 c4 c5 hk hkid hμ hT hks hks' hsh ih; simp_all; omega) | (exfalso; omega)
end Go.Proofs.YtfabmichdhbiaaaGreatDoor
