/- A machine for closed runs: appends and maps. -/
import Derived.Test.YtccbkihnedpjcaaDoorQag
import Derived.Deep.OwnRows
set_option maxRecDepth 20000
set_option maxHeartbeats 2000000
namespace Go.Rex
open Go.RowKit Go.MapKept
open Go.Vcg (Keep beq_ne aggOf sizeT zeroT bytesT add_lit callable run_zeroValue run_append_row run_append_call nat16_eq natB_eq lookV run_lookup_own)
theorem capU_big : 33554432 < capU := by unfold capU; decide
attribute [local irreducible] capU
section
variable {P : Program} {N : Nat} {w0 : World} {ρ : Env} {h : Heap} {l : Sls} {a : Act} {w : World} {nx : Nat}
variable {ds : Option Nat} {ty : TypeId} {pos : String} {af : Array Edge} {gd : Option (Nat × Bool)}
def srcM (h : Heap) (s : Nat) (v : Value) : Option (Nat × List Value) := match v with
  | .slice none 0 _ => some (0, [])
  | .slice (some ⟨b, o, none⟩) m _ => match m with
    | 0 => some (0, [])
    | m + 1 => match hcells h b with
      | some cs => match takeD o ((m + 1) * s) cs with
        | some xs => match xs.all (·.oneCell') with
          | true => some (m + 1, xs)
          | false => none
        | none => none
      | none => none
  | _ => none
theorem srcM_sound (hk : HeapOk ρ h w) {s m : Nat} {v V : Value} {xs : List Value} (hv : rv ρ v = some V) (e : srcM h s v = some (m, xs)) :
    ∃ A c NS, V = .slice A m c ∧ (A = none → m = 0 ∧ NS = []) ∧ rvs ρ xs = some NS ∧ NS.length = m * s ∧ (∀ u ∈ NS, u.oneCell' = true) ∧ ∀ ad, A = some ad → ∀ j u, NS[j]? = some u → w.cell? (ad.add j) = some u := by
  unfold srcM at e
  split at e
  · cases e
    cases rv_nil hv rfl
    exact ⟨none, _, [], rfl, fun _ => ⟨rfl, rfl⟩, by simp [rvs], by simp, by simp, by simp⟩
  · rename_i b o m' c
    obtain ⟨B, C, O, hb, h1⟩ := rv_slice hv
    have h2 : ∃ c', V = .slice (some ⟨B, O + o, none⟩) m' c' := by
      rcases h1 with ⟨_, rfl⟩ | ⟨_, _, rfl⟩ <;> exact ⟨_, rfl⟩
    obtain ⟨c', rfl⟩ := h2
    split at e
    · cases e
      exact ⟨_, _, [], rfl, by simp, by simp [rvs], by simp, by simp, by simp⟩
    · rename_i m
      split at e
      · rename_i cs hc
        split at e
        · rename_i xs' hx
          split at e
          · rename_i hall
            cases e
            obtain ⟨B', C', CS, g1, g2, g3⟩ := hcells_sound hk hc
            rw [hb] at g1
            cases g1
            obtain ⟨XS, k1, k2, k3⟩ := rvs_takeD g2 hx
            refine ⟨_, _, XS, rfl, by simp, k1, k2, rvs_one k1 hall, fun ad hA j u hu => ?_⟩
            cases hA
            rw [add_lit, Nat.zero_add]
            exact g3 _ _ (k3 j u hu)
          · cases e
        · cases e
      · cases e
  · cases e
theorem run_append_zero {t e : TypeId} {s : Nat} (ht : P.underlying t = some (.slice e)) (hs : sizeT P e = some s) {A B : Option Addr} {n c c2 : Nat} (hn : n ≤ c) : (Builtin.append_ #[t, t] ty #[.slice A n c, .slice B 0 c2]).run P w = .ok (.slice A n c) w := by
  have hl : ∀ b : Addr, (loadCells b 0).run P w = .ok #[] w := fun b => run_loadCells_list w b [] (by simp)
  have hz := Go.Vcg.run_sizeOf (P := P) hs
  rcases A with _ | A <;> rcases B with _ | B <;> simp [Builtin.append_, run_underlying ht, hz, Builtin.lenOf, Builtin.firstCells, hn, storeCells, hl]
def eappend (P : Program) (h : Heap) (b0 nx0 nx : Nat) (t : TypeId) (u v : Value) : Option Eff := match P.underlying t with
  | some (.slice e) => match sizeT P e with
    | some s => match srcM h s v with
      | some (0, _) => match u with
        | .slice none 0 0 => some (.val u h nx0)
        | .slice (some ⟨_, _, none⟩) n c => match Nat.ble n c with
          | true => some (.val u h nx0)
          | false => none
        | _ => none
      | some (m + 1, xs) => match zeroT P e with
          | some z => match Nat.beq z.cells.size s with
            | true => match bytesT P e with
              | some bytes => match Nat.blt 0 s with
                | true => match u with
                  | .slice none 0 0 => match Nat.ble ((m + 1) * bytes) 16777216 with
                    | true => match Nat.ble (m + 1) 16777216 with
                      | true => some (.val (.slice (some ⟨b0, 0, none⟩) (m + 1) capU) (hset h b0 (some (.row xs e s))) nx)
                      | false => none
                    | false => none
                  | .slice (some ⟨b, o, none⟩) n c => match Nat.ble ((n + (m + 1)) * bytes) 16777216 with
                    | true => match Nat.ble (n + (m + 1)) 16777216 with
                      | true => match Nat.beq c capU with
                        | true => match hget h b with
                          | some (.row cs t' s') => match Nat.beq o 0 with
                            | true => match Nat.beq t' e with
                              | true => match Nat.beq s' s with
                                | true => match Nat.beq cs.length (n * s) with
                                  | true => some (.val (.slice (some ⟨b0, 0, none⟩) (n + (m + 1)) capU) (hset (hset h b none) b0 (some (.row (cs ++ xs) e s))) nx)
                                  | false => none
                                | false => none
                              | false => none
                            | false => none
                          | _ => none
                        | false => match Nat.blt c (n + (m + 1)) with
                          | true => match Nat.beq n 0 with
                            | true => some (.val (.slice (some ⟨b0, 0, none⟩) (n + (m + 1)) capU) (hset h b0 (some (.row xs e s))) nx)
                            | false => match hcells h b with
                              | some cs => match takeD o (n * s) cs with
                                | some ys => some (.val (.slice (some ⟨b0, 0, none⟩) (n + (m + 1)) capU) (hset h b0 (some (.row (ys ++ xs) e s))) nx)
                                | none => none
                              | none => none
                          | false => none
                      | false => none
                    | false => none
                  | _ => none
                | false => none
              | none => none
            | false => none
          | none => none
      | none => none
    | none => none
  | _ => none
theorem row_new {CS : List Value} {z : Value} {s C n : Nat} (hz : z.cells.size = s) (hl : CS.length = n * s) (hn : n ≤ C) :
    (CS.toArray ++ Builtin.zeroCells z.cells (C - n)).size = C * s ∧ CS.length ≤ (CS.toArray ++ Builtin.zeroCells z.cells (C - n)).size ∧ (CS.toArray ++ Builtin.zeroCells z.cells (C - n)).toList.take CS.length = CS := by
  refine ⟨?_, by simp, by simp⟩
  simp only [Array.size_append, size_zeroCells, hz, List.size_toArray, hl]
  rw [← Nat.add_mul]
  congr 1
  omega
theorem append_own {b0 nx' : Nat} (r : Rel w0 ρ h nx w) (hf : Fresh ρ nx b0 nx') {t el : TypeId} {s bytes : Nat} {z : Value} (hT : P.underlying t = some (.slice el)) (hs : sizeT P el = some s) (hz : zeroT P el = some z) (hzs : z.cells.size = s) (hby : bytesT P el = some bytes) (hpos : 0 < s)
    {b B C n m c2 : Nat} {cs xs NS : List Value} {ad : Addr} (hg : hget h b = some (.row cs el s)) (hb : ρ b = some (B, C, 0)) (hobj : ObjOk ρ C (.row cs el s) w.heap[B]?) (hcl : cs.length = n * s) (hnC : n ≤ C)
    (hNS : rvs ρ xs = some NS) (hlen : NS.length = (m + 1) * s) (hcell : ∀ j u, NS[j]? = some u → w.cell? (ad.add j) = some u) (hone : ∀ u ∈ NS, u.oneCell' = true) (hb1 : (n + (m + 1)) * bytes ≤ 16777216) (hb2 : n + (m + 1) ≤ 16777216) :
    ∃ ρ' V w', ELe ρ ρ' ∧ (∀ c, c ≠ b0 → ρ' c = ρ c) ∧ rv ρ' (.slice (some ⟨b0, 0, none⟩) (n + (m + 1)) capU) = some V ∧ Rel w0 ρ' (hset (hset h b none) b0 (some (.row (cs ++ xs) el s))) nx' w' ∧ (Builtin.append_ #[t, t] ty #[.slice (some ⟨B, 0, none⟩) n C, .slice (some ad) (m + 1) c2]).run P w = .ok V w' := by
  obtain ⟨CS, arr, g1, g2, g3, g4, g5, g6⟩ := hobj
  have hCl := rvs_length g1
  have hown : w.ownsRow 0 el s (.slice (some ⟨B, 0, none⟩) n C) n CS :=
    ⟨by omega, .inr ⟨B, C, arr, rfl, Nat.zero_le _, g2, hnC, g4, g3, by rw [← hcl, ← hCl]; exact g6⟩⟩
  obtain ⟨v', w', r1, r2, r3, r4⟩ := run_append_row (P := P) (ty := ty) (w := w) (t := t) hT hs hz (by simpa using hzs) hby hpos hown (A := some ad) (m := m + 1) (c := c2) (news := NS) hlen (by simp) (fun ad' e' => by cases e'; exact hcell) hone (by omega) (by omega)
  have hBlt : B < w.heap.size := (Array.getElem?_eq_some_iff.1 g2).1
  have hB0 := r.own b _ hg rfl B C hb
  rcases r2.2 with ⟨h1, h2⟩ | ⟨g, cap, cur, hv', _, k1, k2, k3, k4, k5⟩
  · omega
  subst hv'
  have hgB : g = B ∨ g = w.heap.size := by
    rcases r4 with r4 | r4
    · left; simp only [Value.ownBlock, Option.some.injEq] at r4; exact r4
    · right; simp only [Value.ownBlock, Option.some.injEq] at r4; exact r4
  have fr : Fr2 g B w w' := ⟨r3.os, r3.tape, r3.output, r3.size, fun k hk _ hkB => r3.block k hk (by simp only [Value.ownBlock, ne_eq, Option.some.injEq]; exact fun e => hkB (by omega))⟩
  have hfreeB : ∀ c o C', hget (hset h b none) c = some o → ρ c = some (B, C', 0) → False := fun c o C' e1 e2 => by
    by_cases hcb : c = b
    · subst hcb; rw [hget_set_same (hget_lt hg)] at e1; cases e1
    · rw [hget_set_other (hget_lt hg) hcb] at e1
      exact hcb (r.inj c b o _ B C' C e1 hg e2 hb)
  have hfreeg : ∀ c o C', hget (hset h b none) c = some o → ρ c = some (g, C', 0) → False := fun c o C' e1 e2 => by
    rcases hgB with rfl | rfl
    · exact hfreeB c o C' e1 e2
    · exact (r.drop (hget_lt hg)).noSize c o C' e1 e2
  have hg0 : w0.heap.size ≤ g := by
    rcases hgB with rfl | rfl
    · exact hB0
    · exact r.keep.size
  have hrow := rvs_append g1 hNS
  have hll : (CS ++ NS).length = (n + (m + 1)) * s := by rw [List.length_append, hlen, hown.1, ← Nat.add_mul]
  have hfit : (n + (m + 1)) * s ≤ cap * s := Nat.mul_le_mul_right _ k2
  have hle := ext_le (x := (g, cap, 0)) hf.free
  have hobj' : ObjOk (ext ρ b0 (g, cap, 0)) cap (.row (cs ++ xs) el s) w'.heap[g]? :=
    ⟨CS ++ NS, cur, rvs_mono hle hrow, k1, k4, k3, by rw [hll, k4]; exact hfit, by rw [hll]; exact k5⟩
  refine ⟨_, _, w', hle, ext_other, ?_, (r.drop (hget_lt hg)).put2 hf rfl fr hg0 hB0 hfreeB hfreeg hobj', r1⟩
  have := rv_slice_mku (ρ := ext ρ b0 (g, cap, 0)) (b := b0) (o := 0) (n := n + (m + 1)) (c := capU) ext_same (Nat.le_refl _) (by rw [Nat.sub_self]; omega)
  rw [this]
  simp
set_option maxHeartbeats 1000000 in
theorem eappend_sound {b0 nx' : Nat} (r : Rel w0 ρ h nx w) (hf : Fresh ρ nx b0 nx') {t : TypeId} {x y : Operand} {u v : Value} {f : Eff} (hu : rv ρ u = some (a.eval x)) (hv : rv ρ v = some (a.eval y)) (e : eappend P h b0 nx nx' t u v = some f) :
    Does P w0 ρ h b0 a w ⟨ds, .call { callee := .builtin .append, args := #[x, y], argTypes := #[t, t] }, ty, pos, af, gd⟩ f := by
  have call : ∀ {V' w'}, (Builtin.append_ #[t, t] ty #[a.eval x, a.eval y]).run P w = .ok V' w' → (execOp a.eval ⟨ds, .call { callee := .builtin .append, args := #[x, y], argTypes := #[t, t] }, ty, pos, af, gd⟩).run P w = .ok (.value V') w' :=
    fun hr => run_append_call rfl rfl hr
  unfold eappend at e
  split at e
  · rename_i el hT
    split at e
    · rename_i s hs
      split at e
      · rename_i xs0 hsrc
        obtain ⟨A, c2, NS, hV, _⟩ := srcM_sound r.ok hv hsrc
        split at e
        · cases e
          have hU := rv_nil hu rfl
          refine ⟨ρ, _, w, ELe.refl _, fun _ _ => rfl, Pr.refl _, hu, r, call ?_⟩
          rw [hV, hU]
          exact run_append_zero hT hs (Nat.le_refl _)
        · rename_i b o n c
          split at e
          · rename_i hnc
            cases e
            refine ⟨ρ, _, w, ELe.refl _, fun _ _ => rfl, Pr.refl _, hu, r, call ?_⟩
            obtain ⟨B, C, O, hb, h1⟩ := rv_slice hu
            rcases h1 with ⟨_, h1⟩ | ⟨_, h2, h1⟩
            · rw [hV, h1]; exact run_append_zero hT hs (ble_t hnc)
            · rw [hV, h1]; exact run_append_zero hT hs (by omega)
          · cases e
        · cases e
      · rename_i m xs hsrc
        obtain ⟨A, c2, NS, hV, hA0, hNS, hlen, hone, hcell⟩ := srcM_sound r.ok hv hsrc
        have hA : ∃ ad, A = some ad := by
          cases A with
          | none => exact absurd (hA0 rfl).1 (by omega)
          | some ad => exact ⟨ad, rfl⟩
        obtain ⟨ad, rfl⟩ := hA
        have hcell := hcell ad rfl
        have hbs : b0 < 1048576 := Nat.lt_of_lt_of_le hf.lt hf.small
        by_cases hdummy : True
        · split at e
          · rename_i z hz
            split at e
            · rename_i hzs
              have hzs := Nat.eq_of_beq_eq_true hzs
              split at e
              · rename_i bytes hby
                split at e
                · rename_i hpos
                  have hpos := blt_t hpos
                  have hinfo : ∃ i, P.info? el = some i ∧ i.zero = some z ∧ i.size = s ∧ i.bytes = bytes := by
                    unfold sizeT at hs
                    unfold zeroT at hz
                    unfold bytesT at hby
                    cases hi : P.info? el with
                    | none => simp [hi] at hs
                    | some i =>
                      simp [hi, nat16_eq] at hs
                      simp [hi] at hz
                      simp [hi, natB_eq] at hby
                      exact ⟨i, rfl, hz, hs, hby⟩
                  obtain ⟨i, hi, hiz, his, hib⟩ := hinfo
                  split at e
                  · -- onto nothing
                    split at e
                    · rename_i hb1
                      have hb1 := ble_t hb1
                      split at e
                      · rename_i hb2
                        have hb2 := ble_t hb2
                        cases e
                        have hU := rv_nil hu rfl
                        have hr := Go.run_append_nil (P := P) w t ty el i z hT hi hiz ad (m + 1) c2 NS (by rw [his]; exact hlen) hcell (by omega) (by omega) (by rw [hib]; omega)
                        have hC1 := grownCap_ge w (m + 1) 0 el
                        have hC2 := grownCap_le_maxLen w (m + 1) 0 el (by simp only [maxLen]; omega)
                        obtain ⟨q1, q2, q3⟩ := row_new hzs hlen hC1
                        refine ⟨_, _, _, ext_le hf.free, ext_other, Pr.set hbs _, ?_, r.row hf hNS el q1 hC2 q2 q3, call (by rw [hV, hU]; exact hr)⟩
                        have := rv_slice_mku (ρ := ext ρ b0 (w.heap.size, grownCap w (m + 1) 0 el, 0)) (b := b0) (o := 0) (n := m + 1) (c := capU) ext_same (Nat.le_refl _) (by rw [Nat.sub_self]; omega)
                        rw [this]
                        simp
                      · cases e
                    · cases e
                  · rename_i b o n c
                    obtain ⟨B, C, O, hb, hU⟩ := rv_slice hu
                    split at e
                    · rename_i hb1
                      have hb1 := ble_t hb1
                      split at e
                      · rename_i hb2
                        have hb2 := ble_t hb2
                        split at e
                        · rename_i hc
                          have hc := Nat.eq_of_beq_eq_true hc
                          subst hc
                          split at e
                          · rename_i cs t' s' hg
                            split at e
                            · rename_i ho
                              split at e
                              · rename_i ht'
                                split at e
                                · rename_i hs'
                                  split at e
                                  · rename_i hcl
                                    have ho := Nat.eq_of_beq_eq_true ho
                                    have ht' := Nat.eq_of_beq_eq_true ht'
                                    have hs' := Nat.eq_of_beq_eq_true hs'
                                    have hcl := Nat.eq_of_beq_eq_true hcl
                                    subst ho
                                    subst ht'
                                    subst hs'
                                    cases e
                                    rcases hU with ⟨hlt, _⟩ | ⟨_, hnC, hU⟩
                                    · exact absurd hlt (Nat.lt_irrefl _)
                                    rw [Nat.sub_self, Nat.add_zero] at hnC
                                    rw [Nat.sub_self, Nat.sub_zero, Nat.add_zero] at hU
                                    obtain ⟨B', C', hB', hobj⟩ := r.ok b _ hg
                                    rw [hb] at hB'
                                    cases hB'
                                    obtain ⟨ρ', V', w', q1, q0, q2, q3, q4⟩ := append_own (P := P) (ty := ty) r hf hT hs hz hzs hby hpos hg hb hobj hcl hnC hNS hlen hcell hone hb1 hb2 (c2 := c2)
                                    exact ⟨ρ', V', w', q1, q0, (Pr.set (hget_lt hg) _).trans (Pr.set hbs _), q2, q3, call (by rw [hV, hU]; exact q4)⟩
                                  · cases e
                                · cases e
                              · cases e
                            · cases e
                          · cases e
                        · rename_i hcne
                          have hcne := Nat.ne_of_beq_eq_false hcne
                          split at e
                          · rename_i hcl
                            have hcl := blt_t hcl
                            have hclU : c < capU ∧ a.eval x = .slice (some ⟨B, O + o, none⟩) n c := by
                              rcases hU with hU | ⟨hcu, _⟩
                              · exact hU
                              · exact absurd hcl (by have := capU_big; omega)
                            have fin : ∀ (ys YS : List Value), rvs ρ ys = some YS → YS.length = n * s → (∀ j V, YS[j]? = some V → w.cell? ((⟨B, O + o, none⟩ : Addr).add j) = some V) →
                                Does P w0 ρ h b0 a w ⟨ds, .call { callee := .builtin .append, args := #[x, y], argTypes := #[t, t] }, ty, pos, af, gd⟩ (.val (.slice (some ⟨b0, 0, none⟩) (n + (m + 1)) capU) (hset h b0 (some (.row (ys ++ xs) el s))) nx') := fun ys YS hys hyl hyc => by
                              have hr := Go.run_append_grow (P := P) w t ty el i z hT hi hiz ⟨B, O + o, none⟩ n c YS (by rw [his]; exact hyl) hyc ad (m + 1) c2 NS (by rw [his]; exact hlen) hcell hcl (by omega) (growslice_fits hcl (by rw [hib]; omega))
                              have hC1 := grownCap_ge w (n + (m + 1)) c el
                              have hC2 := grownCap_le_maxLen w (n + (m + 1)) c el (by simp only [maxLen]; omega)
                              have hl2 : (YS ++ NS).length = (n + (m + 1)) * s := by rw [List.length_append, hlen, hyl, ← Nat.add_mul]
                              obtain ⟨q1, q2, q3⟩ := row_new hzs hl2 hC1
                              have eA : YS.toArray ++ NS.toArray = (YS ++ NS).toArray := by simp
                              rw [eA] at hr
                              refine ⟨_, _, _, ext_le hf.free, ext_other, Pr.set hbs _, ?_, r.row hf (rvs_append hys hNS) el q1 hC2 q2 q3, call (by rw [hV, hclU.2]; exact hr)⟩
                              have := rv_slice_mku (ρ := ext ρ b0 (w.heap.size, grownCap w (n + (m + 1)) c el, 0)) (b := b0) (o := 0) (n := n + (m + 1)) (c := capU) ext_same (Nat.le_refl _) (by rw [Nat.sub_self]; omega)
                              rw [this]
                              simp
                            split at e
                            · rename_i hn0
                              have hn0 := Nat.eq_of_beq_eq_true hn0
                              subst hn0
                              cases e
                              exact fin [] [] (by simp [rvs]) (by simp) (by simp)
                            · split at e
                              · rename_i cs hc'
                                split at e
                                · rename_i ys hy
                                  cases e
                                  obtain ⟨B', C', CS, g1, g2, g3⟩ := hcells_sound r.ok hc'
                                  rw [hb] at g1
                                  cases g1
                                  obtain ⟨YS, k1, k2, k3⟩ := rvs_takeD g2 hy
                                  exact fin ys YS k1 k2 (fun j V hj => by rw [add_lit, Nat.zero_add]; exact g3 _ _ (k3 j V hj))
                                · cases e
                              · cases e
                          · cases e
                      · cases e
                    · cases e
                  · cases e
                · cases e
              · cases e
            · cases e
          · cases e
        · exact absurd trivial hdummy
      · cases e
    · cases e
  · cases e
end
end Go.Rex
namespace Go.Vcg
open Go.RowKit Go.MapKept
section
variable {P : Program} {w : World}
theorem run_checkKey_scalar {f : Field} {x : Value} (e : Bool) (n : Nat) (hc : fcode P f = codeOf x) : (Instr.checkKey e (n + 1) f.type x).run P w = .ok () w := by
  unfold fcode at hc
  unfold Instr.checkKey
  cases hu : P.underlying f.type with
  | none => rw [hu] at hc; cases x <;> simp [codeOf] at hc
  | some d =>
    rw [hu] at hc
    simp only [Sem.run_bind, run_underlying hu, Result.andThen_ok]
    cases d <;> cases x <;> simp [codeOf] at hc <;> simp
theorem run_checkFields (e : Bool) (n : Nat) (XS : Array Value) : ∀ (fs : List Field) (k : Nat) (xs : List Value), fieldsOk P k fs (xs.map codeOf) = true → (∀ j v, xs[j]? = some v → XS[k + j]? = some v) →
    (forIn fs PUnit.unit fun (f : Field) (_ : PUnit) => (if f.name ≠ "_" then (do let y ← part f.type XS f.offset; Instr.checkKey e (n + 1) f.type y; pure (ForInStep.yield PUnit.unit)) else (do pure PUnit.unit; pure (ForInStep.yield PUnit.unit)) : Sem (ForInStep PUnit))).run P w = .ok PUnit.unit w
  | [], _, _, _, _ => by simp
  | f :: fs, k, [], h, _ => by simp [fieldsOk] at h
  | f :: fs, k, x :: xs, h1, hX => by
    simp only [List.map_cons, fieldsOk, Bool.and_eq_true, Bool.not_eq_true'] at h1
    obtain ⟨⟨⟨hn, ho⟩, hc⟩, hr⟩ := h1
    have hoff : f.offset = k := Nat.eq_of_beq_eq_true ho
    have hcode : fcode P f = codeOf x := Nat.eq_of_beq_eq_true hc
    have hname : f.name ≠ "_" := by simpa using hn
    have hx0 := hX 0 x rfl
    simp only [Nat.add_zero] at hx0
    have hag : aggOf P f.type = some false := by
      unfold fcode at hcode
      unfold aggOf
      cases hu : P.underlying f.type with
      | none => rw [hu] at hcode; cases x <;> simp [codeOf] at hcode
      | some de => rw [hu] at hcode; cases de <;> first | rfl | (cases x <;> simp [codeOf] at hcode)
    have ih := run_checkFields e n XS fs (k + 1) xs hr (fun j v hj => by rw [show k + 1 + j = k + (j + 1) by omega]; exact hX (j + 1) v (by simpa using hj))
    simp only [List.forIn_cons, hname, ne_eq, not_false_eq_true, if_true, Sem.run_bind, hoff, run_partScalar hag hx0, Result.andThen_ok, run_checkKey_scalar e n hcode, Sem.run_pure]
    exact ih
def keyS (P : Program) (t : TypeId) (xs : List Value) : Bool := match P.underlying t with
  | some (.struct fs) => fieldsOk P 0 fs.toList (xs.map codeOf) && !(P.stoodInHeld t)
  | _ => false
theorem run_checkKey_agg {t : TypeId} {xs : List Value} (e : Bool) (h : keyS P t xs = true) : (Instr.checkKey e 10000 t (.agg xs.toArray)).run P w = .ok () w := by
  unfold keyS at h
  split at h
  · rename_i fs hu
    simp only [Bool.and_eq_true] at h
    unfold Instr.checkKey
    simp only [Sem.run_bind, run_underlying hu, Result.andThen_ok]
    rw [← Array.forIn_toList]
    have := run_checkFields (P := P) (w := w) e 9998 xs.toArray fs.toList 0 xs h.1 (fun j v hj => by simpa using hj)
    simp at this ⊢
    rw [this]
    rfl
  · cases h
theorem keyS_equal {t : TypeId} {xs ys : List Value} (h : keyS P t xs = true) (hv : okVs xs ys = true) : (Op.equal t (.agg xs.toArray) (.agg ys.toArray)).run P w = .ok (eqVs xs ys) w := by
  unfold keyS at h
  split at h
  · rename_i fs hu
    simp only [Bool.and_eq_true, Bool.not_eq_true'] at h
    have hf : P.fieldsOf t = fs := by unfold Program.fieldsOf; rw [hu]
    have hu2 : P.underlying t = some (.struct (P.fieldsOf t)) := by rw [hf]; exact hu
    exact run_equal_agg hu2 h.2 (by rw [hf]; exact h.1) hv w
  · cases h
def findS (xs : List Value) : List MapEntry → Nat → Option (Option (Nat × Value))
  | [], _ => some none
  | e :: es, i => match e.key with
    | .agg ⟨ys⟩ => match okVs xs ys with
      | true => match eqVs xs ys with
        | true => some (some (i, e.val))
        | false => findS xs es (i + 1)
      | false => none
    | _ => none
theorem findAsking_sound {t : TypeId} {xs : List Value} (h : keyS P t xs = true) : ∀ {es : List MapEntry} {i : Nat} {r : Option (Nat × Value)}, findS xs es i = some r → (Instr.findAsking t (.agg xs.toArray) es i).run P w = .ok r w
  | [], i, r, e => by
    unfold findS at e; cases e
    simp [Instr.findAsking]
  | ⟨k, v, b⟩ :: es, i, r, e => by
    unfold findS at e
    split at e
    · rename_i ys hk
      dsimp only at hk
      subst hk
      split at e
      · rename_i hok
        have he := keyS_equal (w := w) h hok
        split at e
        · rename_i heq
          cases e
          rw [heq] at he
          have he' : (Op.equal t (.agg xs.toArray) (.agg { toList := ys })).run P w = .ok true w := he
          simp [Instr.findAsking, he']
        · rename_i heq
          rw [heq] at he
          have he' : (Op.equal t (.agg xs.toArray) (.agg { toList := ys })).run P w = .ok false w := he
          have ih := findAsking_sound h e
          simp [Instr.findAsking, he', ih]
      · cases e
    · cases e
theorem findKeyS_sound {t : TypeId} {xs : List Value} (h : keyS P t xs = true) {es : List MapEntry} {r : Option (Nat × Value)} (e : findS xs es 0 = some r) : (Instr.findKey t (.agg xs.toArray) es).run P w = .ok r w := by
  have hk := h
  unfold keyS at hk
  split at hk
  · rename_i fs hu
    cases es with
    | nil =>
      unfold findS at e; cases e
      simp [Instr.findKey, run_underlying hu, Instr.findNow]
    | cons x es =>
      have := findAsking_sound (w := w) h e
      have hn : Instr.findNow (.struct fs) (.agg xs.toArray) (x :: es) 0 = none := by unfold Instr.findNow Instr.sameNow; rfl
      simp [Instr.findKey, run_underlying hu, hn, this]
  · cases hk
theorem run_lookup_ownS {t kt et : TypeId} {b ck : Nat} {es : List MapEntry} {xs : List Value} {v : Value} {ok c : Bool} (ht : P.underlying t = some (.map kt et)) (hkey : keyS P kt xs = true)
    (hb : w.heap[b]? = some (.map es.toArray ck)) (hf : lookV P et (findS xs es 0) = some (v, ok)) : (Instr.lookup t (.map (some b)) (.agg xs.toArray) c).run P w = .ok (if c then .tuple #[v, .bool ok] else v) w := by
  cases hr : findS xs es 0 with
  | none => simp [hr, lookV] at hf
  | some r =>
    have h1 := findKeyS_sound (w := w) hkey hr
    have h2 := fun e => run_checkKey_agg (w := w) e hkey
    cases r with
    | none =>
      simp only [hr, lookV] at hf
      split at hf
      · rename_i z hz
        simp only [Option.some.injEq, Prod.mk.injEq] at hf
        obtain ⟨rfl, rfl⟩ := hf
        simp [Instr.lookup, run_underlying ht, MapKept.run_getObj_map hb, h1, h2, run_zeroValue hz]
      · cases hf
    | some p =>
      obtain ⟨n, x⟩ := p
      simp only [hr, lookV, Option.some.injEq, Prod.mk.injEq] at hf
      obtain ⟨rfl, rfl⟩ := hf
      simp [Instr.lookup, run_underlying ht, MapKept.run_getObj_map hb, h1, h2]
theorem run_mapUpdate_newS {t kt et : TypeId} {b ck : Nat} {es : List MapEntry} {xs : List Value} {v : Value} (ht : P.underlying t = some (.map kt et)) (hkey : keyS P kt xs = true)
    (hb : w.heap[b]? = some (.map es.toArray ck)) (hf : findS xs es 0 = some none) : (Instr.mapUpdate t (.map (some b)) (.agg xs.toArray) v).run P w = .ok () { w with heap := w.heap.setIfInBounds b (.map (es ++ [MapEntry.mk (.agg xs.toArray) v ck]).toArray (ck + 1)) } := by
  have h1 := findKeyS_sound (w := w) hkey hf
  have h2 := fun e => run_checkKey_agg (w := w) e hkey
  simp [Instr.mapUpdate, run_underlying ht, MapKept.run_getObj_map hb, h1, h2, MapKept.run_setObj_map _ hb]
end
end Go.Vcg
namespace Go.Rex
open Go.RowKit Go.MapKept
open Go.Vcg (Keep beq_ne aggOf sizeT zeroT bytesT add_lit callable run_zeroValue lookV run_lookup_own run_mapUpdate_new keyS findS run_lookup_ownS run_mapUpdate_newS okVs eqVs)
attribute [local irreducible] capU
section
variable {P : Program} {N : Nat} {w0 : World} {ρ : Env} {h : Heap} {l : Sls} {a : Act} {w : World} {nx : Nat}
variable {ds : Option Nat} {ty : TypeId} {pos : String} {af : Array Edge} {gd : Option (Nat × Bool)}
def emkmap (h : Heap) (b0 nx : Nat) : Option Eff := some (.val (.map (some b0)) (hset h b0 (some (.map []))) nx)
theorem emkmap_sound {b0 nx' : Nat} (r : Rel w0 ρ h nx w) (hf : Fresh ρ nx b0 nx') {t : TypeId} {f : Eff} (e : emkmap h b0 nx' = some f) : Does P w0 ρ h b0 a w ⟨ds, .makeMap t none, ty, pos, af, gd⟩ f := by
  unfold emkmap at e
  cases e
  refine ⟨_, .map (some w.heap.size), _, ext_le hf.free, ext_other, Pr.set (Nat.lt_of_lt_of_le hf.lt hf.small) _, by simp [rv, ext_same], r.put (C := 0) hf rfl (fr_alloc w (.map #[] 0)) r.keep.size r.noSize ⟨[], by simp [rvp], ?_⟩, ?_⟩
  · rw [heap_alloc_new]; simp [ents]
  · simp [execOp, run_makeMap]
def isKeyB : TypeDesc → Value → Bool
  | .bool, .bool _ => true
  | .string, .string _ => true
  | .int k, .int k' _ => decide (k' = k)
  | _, _ => false
theorem isKeyB_sound {d : TypeDesc} {k : Value} (h : isKeyB d k = true) : IsKey d k ∧ flat k = true := by
  unfold isKeyB at h
  split at h
  · exact ⟨trivial, rfl⟩
  · exact ⟨trivial, rfl⟩
  · have h2 := of_decide_eq_true h
    exact ⟨h2, rfl⟩
  · cases h
def mfind (d : TypeDesc) (k : Value) : List (Value × Value) → Option (Option Value)
  | [] => some none
  | (k', v) :: r => match Instr.sameNow d k k' with
    | some true => some (some v)
    | some false => mfind d k r
    | none => none
theorem sameNow_flat {d : TypeDesc} {k k' : Value} {b : Bool} (h : Instr.sameNow d k k' = some b) : flat k' = true := by
  unfold Instr.sameNow at h
  split at h
  · rfl
  · rfl
  · rfl
  · cases h
theorem mfind_sound {d : TypeDesc} {k : Value} : ∀ {es ES : List (Value × Value)} {x : Option Value} {j i : Nat}, rvp ρ es = some ES → mfind d k es = some x →
    (x = none ∧ Instr.findNow d k (ents j ES) i = some none) ∨ ∃ v V n, x = some v ∧ rv ρ v = some V ∧ Instr.findNow d k (ents j ES) i = some (some (n, V))
  | [], ES, x, j, i, h, e => by
    simp [rvp] at h; subst h
    unfold mfind at e; cases e
    exact .inl ⟨rfl, rfl⟩
  | (k', v) :: r, ES, x, j, i, h, e => by
    unfold rvp at h
    split at h
    · rename_i K V R hK hV hR
      cases h
      unfold mfind at e
      split at e
      · rename_i hs
        cases e
        cases rv_nil hK (sameNow_flat hs)
        exact .inr ⟨v, V, i, rfl, hV, by simp [ents, Instr.findNow, hs]⟩
      · rename_i hs
        cases rv_nil hK (sameNow_flat hs)
        rcases mfind_sound (j := j + 1) (i := i + 1) hR e with ⟨h1, h2⟩ | ⟨v', V', n, h1, h2, h3⟩
        · exact .inl ⟨h1, by simp [ents, Instr.findNow, hs, h2]⟩
        · exact .inr ⟨v', V', n, h1, h2, by simp [ents, Instr.findNow, hs, h3]⟩
      · cases e
    · cases h
def mfindS (xs : List Value) : List (Value × Value) → Option (Option Value)
  | [] => some none
  | (k', v) :: r => match k' with
    | .agg ⟨ys⟩ => match flats ys with
      | true => match okVs xs ys with
        | true => match eqVs xs ys with
          | true => some (some v)
          | false => mfindS xs r
        | false => none
      | false => none
    | _ => none
theorem mfindS_sound {xs : List Value} : ∀ {es ES : List (Value × Value)} {x : Option Value} {j i : Nat}, rvp ρ es = some ES → mfindS xs es = some x →
    (x = none ∧ findS xs (ents j ES) i = some none) ∨ ∃ v V n, x = some v ∧ rv ρ v = some V ∧ findS xs (ents j ES) i = some (some (n, V))
  | [], ES, x, j, i, h, e => by
    simp [rvp] at h; subst h
    unfold mfindS at e; cases e
    exact .inl ⟨rfl, rfl⟩
  | (k', v) :: r, ES, x, j, i, h, e => by
    unfold rvp at h
    split at h
    · rename_i K V R hK hV hR
      cases h
      unfold mfindS at e
      split at e
      · rename_i ys
        split at e
        · rename_i hfl
          have hKK : K = .agg ⟨ys⟩ := rv_flat2_eq (by simpa [flat2] using hfl) hK
          subst hKK
          split at e
          · rename_i hok
            split at e
            · rename_i heq
              cases e
              exact .inr ⟨v, V, i, rfl, hV, by simp [ents, findS, hok, heq]⟩
            · rename_i heq
              rcases mfindS_sound (j := j + 1) (i := i + 1) hR e with ⟨h1, h2⟩ | ⟨v', V', n, h1, h2, h3⟩
              · exact .inl ⟨h1, by simp [ents, findS, hok, heq, h2]⟩
              · exact .inr ⟨v', V', n, h1, h2, by simp [ents, findS, hok, heq, h3]⟩
          · cases e
        · cases e
      · cases e
    · cases h
def qlookup (P : Program) (h : Heap) (t : TypeId) (u k : Value) (ok : Bool) : Option Value := match P.underlying t with
  | some (.map kt et) => match P.underlying kt with
    | some dk => match isKeyB dk k with
      | true => match u with
        | .map (some b) => match hget h b with
          | some (.map es) => match mfind dk k es with
            | some (some v) => match ok with
              | true => some (.tuple ⟨[v, .bool true]⟩)
              | false => some v
            | some none => match zeroT P et with
              | some z => match flat2 z with
                | true => match ok with
                  | true => some (.tuple ⟨[z, .bool false]⟩)
                  | false => some z
                | false => none
              | none => none
            | none => none
          | _ => none
        | _ => none
      | false => match k with
        | .agg ⟨xs⟩ => match flats xs with
          | true => match keyS P kt xs with
            | true => match u with
              | .map (some b) => match hget h b with
                | some (.map es) => match mfindS xs es with
                  | some (some v) => match ok with
                    | true => some (.tuple ⟨[v, .bool true]⟩)
                    | false => some v
                  | some none => match zeroT P et with
                    | some z => match flat2 z with
                      | true => match ok with
                        | true => some (.tuple ⟨[z, .bool false]⟩)
                        | false => some z
                      | false => none
                    | none => none
                  | none => none
                | _ => none
              | _ => none
            | false => none
          | false => none
        | _ => none
    | none => none
  | _ => none
theorem qlookup_sound (hk : HeapOk ρ h w) {t : TypeId} {u k v U K : Value} {ok : Bool} (hu : rv ρ u = some U) (hkk : rv ρ k = some K) (e : qlookup P h t u k ok = some v) : ∃ V, rv ρ v = some V ∧ (Instr.lookup t U K ok).run P w = .ok V w := by
  unfold qlookup at e
  split at e
  · rename_i kt et hT
    split at e
    · rename_i dk hK
      split at e
      · rename_i hkey
        obtain ⟨hkey, hkf⟩ := isKeyB_sound hkey
        cases rv_nil hkk hkf
        split at e
        · rename_i b
          split at e
          · rename_i es hg
            obtain ⟨B, C, hB, ES, g1, g2⟩ := hk b _ hg
            obtain ⟨B', C', O', hb', rfl⟩ := rv_map_some hu
            rw [hB] at hb'; cases hb'
            split at e
            · rename_i v' hf
              rcases mfind_sound (j := 0) (i := 0) g1 hf with ⟨h1, _⟩ | ⟨v2, V, n, h1, h2, h3⟩
              · cases h1
              · cases h1
                have hr := run_lookup_own (P := P) (w := w) (c := ok) hT hK hkey g2 (v := V) (ok := true) (by rw [h3]; rfl)
                split at e
                · cases e; exact ⟨.tuple #[V, .bool true], by simp [rv, rvs, h2], by simpa using hr⟩
                · cases e; exact ⟨V, h2, by simpa using hr⟩
            · rename_i hf
              split at e
              · rename_i z hz
                split at e
                · rename_i hzf
                  rcases mfind_sound (j := 0) (i := 0) g1 hf with ⟨_, h2⟩ | ⟨v2, V, n, h1, _, _⟩
                  · have hr := run_lookup_own (P := P) (w := w) (c := ok) hT hK hkey g2 (v := z) (ok := false) (by rw [h2]; simp [lookV, hz])
                    split at e
                    · cases e; exact ⟨.tuple #[z, .bool false], by simp [rv, rvs, rv_flat2 hzf], by simpa using hr⟩
                    · cases e; exact ⟨_, rv_flat2 hzf, by simpa using hr⟩
                  · cases h1
                · cases e
              · cases e
            · cases e
          · cases e
        · cases e
      · split at e
        · rename_i xs hq0
          split at e
          · rename_i hfl
            have hKK : K = .agg ⟨xs⟩ := rv_flat2_eq (by simpa [flat2] using hfl) hkk
            subst hKK
            split at e
            · rename_i hks
              split at e
              · rename_i b
                split at e
                · rename_i es hg
                  obtain ⟨B, C, hB, ES, g1, g2⟩ := hk b _ hg
                  obtain ⟨B', C', O', hb', rfl⟩ := rv_map_some hu
                  rw [hB] at hb'; cases hb'
                  split at e
                  · rename_i v' hf
                    rcases mfindS_sound (j := 0) (i := 0) g1 hf with ⟨h1, _⟩ | ⟨v2, V, n, h1, h2, h3⟩
                    · cases h1
                    · cases h1
                      have hr := run_lookup_ownS (P := P) (w := w) (c := ok) hT hks g2 (v := V) (ok := true) (by rw [h3]; rfl)
                      split at e
                      · cases e; exact ⟨.tuple #[V, .bool true], by simp [rv, rvs, h2], by simpa using hr⟩
                      · cases e; exact ⟨V, h2, by simpa using hr⟩
                  · rename_i hf
                    split at e
                    · rename_i z hz
                      split at e
                      · rename_i hzf
                        rcases mfindS_sound (j := 0) (i := 0) g1 hf with ⟨_, h2⟩ | ⟨v2, V, n, h1, _, _⟩
                        · have hr := run_lookup_ownS (P := P) (w := w) (c := ok) hT hks g2 (v := z) (ok := false) (by rw [h2]; simp [lookV, hz])
                          split at e
                          · cases e; exact ⟨.tuple #[z, .bool false], by simp [rv, rvs, rv_flat2 hzf], by simpa using hr⟩
                          · cases e; exact ⟨_, rv_flat2 hzf, by simpa using hr⟩
                        · cases h1
                      · cases e
                    · cases e
                  · cases e
                · cases e
              · cases e
            · cases e
          · cases e
        · cases e
    · cases e
  · cases e
def mset (d : TypeDesc) (k v : Value) : List (Value × Value) → Option (List (Value × Value))
  | [] => some [(k, v)]
  | (k', v') :: r => match Instr.sameNow d k k' with
    | some true => some ((k, v) :: r)
    | some false => match mset d k v r with
      | some r' => some ((k', v') :: r')
      | none => none
    | none => none
theorem sameNow_eq {d : TypeDesc} {k k' : Value} (hk : IsKey d k) (h : Instr.sameNow d k k' = some true) : k' = k := by
  have h2 : IsKey d k' := by
    unfold Instr.sameNow at h
    split at h
    · rename_i kk x kk' y
      split at h
      · rename_i e; subst e; exact hk
      · cases h
    · trivial
    · trivial
    · cases h
  obtain ⟨r, h3, h4⟩ := sameNow_of_keys hk h2
  rw [h] at h3; cases h3
  exact (h4.1 rfl).symm
theorem mset_sound {d : TypeDesc} {k v V : Value} (hk : IsKey d k) (hkf : flat k = true) (hv : rv ρ v = some V) : ∀ {es es' ES : List (Value × Value)} {j i : Nat}, rvp ρ es = some ES → mset d k v es = some es' →
    ∃ ES', rvp ρ es' = some ES' ∧ ((Instr.findNow d k (ents j ES) i = some none ∧ ents j ES' = ents j ES ++ [MapEntry.mk k V (j + ES.length)] ∧ ES'.length = ES.length + 1) ∨
      ∃ n v0 e0, Instr.findNow d k (ents j ES) i = some (some (i + n, v0)) ∧ (ents j ES)[n]? = some e0 ∧ e0.key = k ∧ ents j ES' = (ents j ES).modify n (fun e => { e with key := k, val := V }) ∧ ES'.length = ES.length)
  | [], es', ES, j, i, h, e => by
    simp [rvp] at h; subst h
    unfold mset at e; cases e
    exact ⟨[(k, V)], by simp [rvp, rv_flat hkf, hv], .inl ⟨rfl, by simp [ents], rfl⟩⟩
  | (k', v') :: r, es', ES, j, i, h, e => by
    unfold rvp at h
    split at h
    · rename_i K V' R hK hV hR
      cases h
      unfold mset at e
      split at e
      · rename_i hs
        cases e
        cases rv_nil hK (sameNow_flat hs)
        have hkk := sameNow_eq hk hs
        subst hkk
        refine ⟨(k', V) :: R, by simp [rvp, rv_flat hkf, hv, hR], .inr ⟨0, V', ⟨k', V', j⟩, by simp [ents, Instr.findNow, hs], by simp [ents], rfl, by simp [ents], rfl⟩⟩
      · rename_i hs
        cases rv_nil hK (sameNow_flat hs)
        split at e
        · rename_i r' hr'
          cases e
          obtain ⟨ES', g1, g2⟩ := mset_sound hk hkf hv (j := j + 1) (i := i + 1) hR hr'
          refine ⟨(k', V') :: ES', by simp [rvp, hK, hV, g1], ?_⟩
          rcases g2 with ⟨f1, f2, f3⟩ | ⟨n, v0, e0, f1, f2, f3, f4, f5⟩
          · exact .inl ⟨by simp [ents, Instr.findNow, hs, f1], by simp [ents, f2]; omega, by simp [f3]⟩
          · exact .inr ⟨n + 1, v0, e0, by simp [ents, Instr.findNow, hs, f1]; omega, by simpa [ents] using f2, f3, by simp [ents, f4], by simp [f5]⟩
        · cases e
      · cases e
    · cases h
theorem run_mapUpdate_old {t kt et : TypeId} {dk : TypeDesc} {b ck n : Nat} {es : List MapEntry} {k v v0 : Value} {e0 : MapEntry} (ht : P.underlying t = some (.map kt et)) (hk : P.underlying kt = some dk) (hkey : IsKey dk k)
    (hb : w.heap[b]? = some (.map es.toArray ck)) (hf : Instr.findNow dk k es 0 = some (some (n, v0))) (h0 : es[n]? = some e0) (hk0 : e0.key = k) :
    (Instr.mapUpdate t (.map (some b)) k v).run P w = .ok () { w with heap := w.heap.setIfInBounds b (.map (es.modify n fun e => { e with key := k, val := v }).toArray ck) } := by
  simp [Instr.mapUpdate, run_underlying ht, MapKept.run_getObj_map hb, MapKept.run_checkKey hk hkey, MapKept.run_findKey hk hf, h0, hk0, MapKept.run_keyThatStays hkey, MapKept.run_setObj_map _ hb]
def emapset (P : Program) (h : Heap) (nx : Nat) (t : TypeId) (u k v : Value) : Option Eff := match P.underlying t with
  | some (.map kt _) => match P.underlying kt with
    | some dk => match isKeyB dk k with
      | true => match u with
        | .map (some b) => match hget h b with
          | some (.map es) => match mset dk k v es with
            | some es' => some (.skip (hset h b (some (.map es'))) nx)
            | none => none
          | _ => none
        | _ => none
      | false => match k with
        | .agg ⟨xs⟩ => match flats xs with
          | true => match keyS P kt xs with
            | true => match u with
              | .map (some b) => match hget h b with
                | some (.map es) => match mfindS xs es with
                  | some none => some (.skip (hset h b (some (.map (es ++ [(.agg ⟨xs⟩, v)])))) nx)
                  | _ => none
                | _ => none
              | _ => none
            | false => none
          | false => none
        | _ => none
    | none => none
  | _ => none
theorem ents_app : ∀ (l : List (Value × Value)) (j : Nat) (k v : Value), ents j (l ++ [(k, v)]) = ents j l ++ [MapEntry.mk k v (j + l.length)]
  | [], j, k, v => rfl
  | (a, b) :: r, j, k, v => by
    have := ents_app r (j + 1) k v
    simp only [List.cons_append, ents, this, List.length_cons]
    rw [show j + 1 + r.length = j + (r.length + 1) by omega]
theorem rvp_app {k v V : Value} (hk : rv ρ k = some k) (hv : rv ρ v = some V) : ∀ {es ES : List (Value × Value)}, rvp ρ es = some ES → rvp ρ (es ++ [(k, v)]) = some (ES ++ [(k, V)])
  | [], ES, h => by
    simp [rvp] at h; subst h
    simp [rvp, hk, hv]
  | (a, b) :: r, ES, h => by
    unfold rvp at h
    split at h
    · rename_i K B R h1 h2 h3
      cases h
      have ih := rvp_app hk hv h3
      simp only [List.cons_append]
      unfold rvp
      rw [h1, h2, ih]
    · cases h
theorem emapset_sound (r : Rel w0 ρ h nx w) {t : TypeId} {m x y : Operand} {u k v : Value} {f : Eff} {op : Op} (hop : op = .insert t m x y ∨ op = .mapUpdate t m x y) (hu : rv ρ u = some (a.eval m)) (hkk : rv ρ k = some (a.eval x)) (hv : rv ρ v = some (a.eval y)) {b0 : Nat} (e : emapset P h nx t u k v = some f) :
    Does P w0 ρ h b0 a w ⟨ds, op, ty, pos, af, gd⟩ f := by
  unfold emapset at e
  split at e
  · rename_i kt et hT
    split at e
    · rename_i dk hK
      split at e
      · rename_i hkey
        obtain ⟨hkey, hkf⟩ := isKeyB_sound hkey
        have hke := rv_nil hkk hkf
        split at e
        · rename_i b
          split at e
          · rename_i es hg
            obtain ⟨B, C, hB, ES, g1, g2⟩ := r.ok b _ hg
            obtain ⟨B', C', O', hb', hue⟩ := rv_map_some hu
            rw [hB] at hb'; cases hb'
            split at e
            · rename_i es' hset'
              cases e
              obtain ⟨ES', k1, k2⟩ := mset_sound hkey hkf hv (j := 0) (i := 0) g1 hset'
              have hBlt := (Array.getElem?_eq_some_iff.1 g2).1
              have upd : ∀ ob : Obj, ob = .map (ents 0 ES').toArray ES'.length → Rel w0 ρ (hset h b (some (.map es'))) nx { w with heap := w.heap.setIfInBounds B ob } := fun ob hob =>
                r.upd hg rfl rfl hB ⟨rfl, rfl, rfl, by simp, fun c _ hc => by simp [Array.getElem?_setIfInBounds_ne (Ne.symm hc)]⟩ ⟨ES', k1, by
                  show (w.heap.setIfInBounds B ob)[B]? = _
                  rw [Array.getElem?_setIfInBounds_self_of_lt hBlt, hob]⟩
              rcases k2 with ⟨f1, f2, f3⟩ | ⟨n, v0, e0, f1, f2, f3, f4, f5⟩
              · have hr := run_mapUpdate_new (P := P) (w := w) (v := a.eval y) hT hK hkey g2 f1
                refine ⟨_, Pr.set (hget_lt hg) _, upd (.map (ents 0 ES ++ [MapEntry.mk k (a.eval y) ES.length]).toArray (ES.length + 1)) ?_, ?_⟩
                · rw [f2, f3, Nat.zero_add]
                · generalize a.eval = ev at hke hue hr
                  rcases hop with rfl | rfl <;> simp [execOp, hke, hue, hr]
              · have hr := run_mapUpdate_old (P := P) (w := w) (v := a.eval y) hT hK hkey g2 (by simpa using f1) f2 f3
                refine ⟨_, Pr.set (hget_lt hg) _, upd (.map ((ents 0 ES).modify n fun e => { e with key := k, val := a.eval y }).toArray ES.length) ?_, ?_⟩
                · rw [f4, f5]
                · generalize a.eval = ev at hke hue hr
                  rcases hop with rfl | rfl <;> simp [execOp, hke, hue, hr]
            · cases e
          · cases e
        · cases e
      · split at e
        · rename_i xs hq0
          split at e
          · rename_i hfl
            have hfk : rv ρ (.agg ⟨xs⟩) = some (.agg ⟨xs⟩) := rv_flat2 (by simpa [flat2] using hfl)
            have hke : a.eval x = .agg ⟨xs⟩ := rv_flat2_eq (by simpa [flat2] using hfl) hkk
            split at e
            · rename_i hks
              split at e
              · rename_i b
                split at e
                · rename_i es hg
                  obtain ⟨B, C, hB, ES, g1, g2⟩ := r.ok b _ hg
                  obtain ⟨B', C', O', hb', hue⟩ := rv_map_some hu
                  rw [hB] at hb'; cases hb'
                  split at e
                  · rename_i hf
                    cases e
                    rcases mfindS_sound (j := 0) (i := 0) g1 hf with ⟨_, f1⟩ | ⟨v2, V, n, h1, _, _⟩
                    · have hBlt := (Array.getElem?_eq_some_iff.1 g2).1
                      have hr : (Instr.mapUpdate t (.map (some B)) (.agg ⟨xs⟩) (a.eval y)).run P w = .ok () { w with heap := w.heap.setIfInBounds B (.map (ents 0 ES ++ [MapEntry.mk (.agg ⟨xs⟩) (a.eval y) ES.length]).toArray (ES.length + 1)) } := run_mapUpdate_newS (P := P) (w := w) (v := a.eval y) hT hks g2 f1
                      have upd : Rel w0 ρ (hset h b (some (.map (es ++ [(.agg ⟨xs⟩, v)])))) nx { w with heap := w.heap.setIfInBounds B (.map (ents 0 ES ++ [MapEntry.mk (.agg ⟨xs⟩) (a.eval y) ES.length]).toArray (ES.length + 1)) } :=
                        r.upd hg rfl rfl hB ⟨rfl, rfl, rfl, by simp, fun c _ hc => by simp [Array.getElem?_setIfInBounds_ne (Ne.symm hc)]⟩ ⟨ES ++ [(.agg ⟨xs⟩, a.eval y)], rvp_app hfk hv g1, by
                          show (w.heap.setIfInBounds B _)[B]? = _
                          rw [Array.getElem?_setIfInBounds_self_of_lt hBlt, ents_app, Nat.zero_add, List.length_append]
                          rfl⟩
                      refine ⟨_, Pr.set (hget_lt hg) _, upd, ?_⟩
                      generalize a.eval = ev at hke hue hr upd ⊢
                      rcases hop with rfl | rfl <;> simp [execOp, hke, hue, hr]
                    · cases h1
                  · cases e
                · cases e
              · cases e
            · cases e
          · cases e
        · cases e
    · cases e
  · cases e
def eend (P : Program) (h : Heap) (b0 nx : Nat) (t : TypeId) (u : Value) (lo hi : Option Value) : Option Eff := match P.underlying t with
    | some (.slice e) => match sizeT P e with
      | some _ => match u with
        | .slice (some ⟨_, _, none⟩) n c => match Nat.blt c capU with
          | true => none
          | false => match boundOf lo 0 with
            | some i => match boundOf hi n with
              | some j => match Nat.beq i n with
                | true => match Nat.beq j n with
                  | true => some (.val (.slice (some ⟨b0, 0, none⟩) 0 capU) h nx)
                  | false => none
                | false => none
              | none => none
            | none => none
        | _ => none
      | none => none
    | _ => none
theorem eend_sound {b0 nx' : Nat} (r : Rel w0 ρ h nx w) (hf : Fresh ρ nx b0 nx') {t : TypeId} {u U : Value} {lo hi : Option Value} {f : Eff} (hu : rv ρ u = some U) (e : eend P h b0 nx' t u lo hi = some f) :
    ∃ v V ρ', f = .val v h nx' ∧ ELe ρ ρ' ∧ (∀ c, c ≠ b0 → ρ' c = ρ c) ∧ rv ρ' v = some V ∧ Rel w0 ρ' h nx' w ∧ (Instr.sliceAt t U lo hi none).run P w = .ok V w := by
  unfold eend at e
  by_cases hdummy : True
  · split at e
    · rename_i el ht
      split at e
      · rename_i s hs
        split at e
        · rename_i b o n c
          obtain ⟨B, C, O, hb, hU⟩ := rv_slice hu
          split at e
          · cases e
          · rename_i hc
            have hc := blt_f hc
            rcases hU with ⟨hlt, _⟩ | ⟨_, hnC, rfl⟩
            · omega
            split at e
            · rename_i i hi'
              split at e
              · rename_i j hj
                split at e
                · rename_i hin
                  split at e
                  · rename_i hjn
                    cases e
                    have hin := Nat.eq_of_beq_eq_true hin
                    have hjn := Nat.eq_of_beq_eq_true hjn
                    subst hin
                    subst hjn
                    have hr := run_sliceAt (P := P) (w := w) (A := some ⟨B, O + o, none⟩) (n := j) (c := C - (c - capU)) ht hs hi' hj (Nat.le_refl _) (by omega)
                    have hx : ∃ O', (if C - (c - capU) = j then (some ⟨B, O + o, none⟩ : Option Addr) else (some ⟨B, O + o, none⟩ : Option Addr).map (·.add (j * s))) = some ⟨B, O', none⟩ := by
                      split
                      · exact ⟨_, rfl⟩
                      · exact ⟨O + o + j * s, by simp only [Option.map_some, add_lit]⟩
                    obtain ⟨O', hx⟩ := hx
                    rw [hx, Nat.sub_self] at hr
                    refine ⟨_, _, ext ρ b0 (B, C - (c - capU) - j, O'), rfl, ext_le hf.free, ext_other, ?_, r.name hf _, hr⟩
                    have := rv_slice_mku (ρ := ext ρ b0 (B, C - (c - capU) - j, O')) (b := b0) (o := 0) (n := 0) (c := capU) ext_same (Nat.le_refl _) (by rw [Nat.sub_self]; omega)
                    rw [this]
                    simp
                  · cases e
                · cases e
              · cases e
            · cases e
        · cases e
      · cases e
    · cases e
  · exact absurd trivial hdummy
def emake (P : Program) (h : Heap) (b0 nx : Nat) (t : TypeId) (u v : Value) : Option Eff := match u with
  | .int .i64 (.ofNat n) => match v with
    | .int .i64 (.ofNat m) => match Nat.beq n m with
      | true => match P.underlying t with
        | some (.slice e) => match sizeT P e with
          | some s => match Nat.beq s 1 with
            | true => match zeroT P e with
              | some z => match flat z with
                | true => match bytesT P e with
                  | some bytes => match Nat.ble (bytes * n) 16777216 with
                    | true => match Nat.ble n 16777216 with
                      | true => some (.val (.slice (some ⟨b0, 0, none⟩) n n) (hset h b0 (some (.cells (List.replicate n z) e false))) nx)
                      | false => none
                    | false => none
                  | none => none
                | false => none
              | none => none
            | false => none
          | none => none
        | _ => none
      | false => none
    | _ => none
  | _ => none
theorem flat_one {z : Value} (h : flat z = true) : z.cells = #[z] := by
  unfold flat at h
  split at h <;> first | rfl | cases h
theorem flats_replicate {z : Value} (h : flat z = true) : ∀ n, flats (List.replicate n z) = true
  | 0 => rfl
  | n + 1 => by rw [List.replicate_succ, flats, h]; exact flats_replicate h n
theorem emake_sound {b0 nx' : Nat} (r : Rel w0 ρ h nx w) (hf : Fresh ρ nx b0 nx') {t : TypeId} {x y : Operand} {u v : Value} {f : Eff} (hu : rv ρ u = some (a.eval x)) (hv : rv ρ v = some (a.eval y)) (e : emake P h b0 nx' t u v = some f) : Does P w0 ρ h b0 a w ⟨ds, .makeSlice t x y, ty, pos, af, gd⟩ f := by
  unfold emake at e
  split at e
  · rename_i n
    split at e
    · rename_i m
      split at e
      · rename_i hnm
        have hnm := Nat.eq_of_beq_eq_true hnm
        subst hnm
        split at e
        · rename_i el hT
          split at e
          · rename_i s hs
            split at e
            · rename_i hs1
              have hs1 := Nat.eq_of_beq_eq_true hs1
              subst hs1
              split at e
              · rename_i z hz
                split at e
                · rename_i hfl
                  split at e
                  · rename_i bytes hby
                    split at e
                    · rename_i hb1
                      have hb1 := ble_t hb1
                      split at e
                      · rename_i hb2
                        have hb2 := ble_t hb2
                        cases e
                        have hinfo : (P.info? el).map (fun i => (i.zero, i.size, i.bytes)) = some (some z, 1, bytes) := by
                          unfold sizeT at hs
                          unfold zeroT at hz
                          unfold bytesT at hby
                          cases hi : P.info? el with
                          | none => simp [hi] at hs
                          | some i =>
                            simp [hi, Go.Vcg.nat16_eq] at hs
                            simp [hi] at hz
                            simp [hi, Go.Vcg.natB_eq] at hby
                            simp [hs, hz, hby]
                        have hr := run_make_row' (P := P) t el z bytes hT hinfo (flat_one hfl) .i64 .i64 n (by omega) (by omega) w
                        have e1 := rv_nil hu rfl
                        have e2 := rv_nil hv rfl
                        have hcs : rvs ρ (List.replicate n z) = some (List.replicate n z) := rvs_flats (flats_replicate hfl n)
                        have hmade : madeCells #[z] n = (List.replicate n z).toArray := by
                          rw [← Array.toList_inj]
                          simp [toList_madeCells_one]
                        rw [hmade] at hr
                        refine ⟨_, .slice (some ⟨w.heap.size, 0 + 0, none⟩) n n, _, ext_le hf.free, ext_other, Pr.set (Nat.lt_of_lt_of_le hf.lt hf.small) _, rv_slice_mk ext_same (by have := capU_big; omega), r.cells hf hcs el, ?_⟩
                        generalize a.eval = ev at e1 e2
                        simp [execOp, e1, e2, hr]
                      · cases e
                    · cases e
                  · cases e
                · cases e
              · cases e
            · cases e
          · cases e
        · cases e
      · cases e
    · cases e
  · cases e
end
end Go.Rex
namespace Go.Proofs.YtccbkihnedpjcaaDoor
end Go.Proofs.YtccbkihnedpjcaaDoor
