/- A machine for closed runs: appends and maps. -/
import Derived.Test.YtoclmkdfcafhfaaGreatDoorZai
set_option maxRecDepth 20000
set_option maxHeartbeats 2000000
namespace Go.Rex
open Go.RowKit Go.MapKept
open Go.Vcg (jP jN eU bA cH dF add_lit bW aK fC dW eR jS kA gB)
theorem MC : 33554432 < dX := by unfold dX; decide
attribute [local irreducible] dX
section
variable {P : Program} {N : Nat} {w0 : World} {ρ : Env} {h : Heap} {l : Sls} {a : Act} {w : World} {nx : Nat}
variable {ds : Option Nat} {ty : TypeId} {pos : String} {af : Array Edge} {gd : Option (Nat × Bool)}
def aEc (h : Heap) (s : Nat) (v : Value) : Option (Nat × List Value) := match v with
  | .slice none 0 _ => some (0, [])
  | .slice (some ⟨b, o, none⟩) m _ => match m with
    | 0 => some (0, [])
    | m + 1 => match tS h b with
      | some cs => match lK o ((m + 1) * s) cs with
        | some xs => match xs.all (·.oneCell') with
          | true => some (m + 1, xs)
          | false => none
        | none => none
      | none => none
  | _ => none
theorem wI (hk : nX ρ h w) {s m : Nat} {v V : Value} {xs : List Value} (hv : rv ρ v = some V) (e : aEc h s v = some (m, xs)) :
    ∃ A c NS, V = .slice A m c ∧ (A = none → m = 0 ∧ NS = []) ∧ rvs ρ xs = some NS ∧ NS.length = m * s ∧ (∀ u ∈ NS, u.oneCell' = true) ∧ ∀ ad, A = some ad → ∀ j u, NS[j]? = some u → w.cell? (ad.add j) = some u := by
  unfold aEc at e
  split at e
  · cases e
    cases bU hv rfl
    exact ⟨none, _, [], rfl, fun _ => ⟨rfl, rfl⟩, by simp [rvs], by simp, by simp, by simp⟩
  · rename_i b o m' c
    obtain ⟨B, C, O, hb, h1⟩ := iT hv
    have h2 : ∃ c', V = .slice (some ⟨B, O + o, none⟩) m' c' := by
      rcases h1 with ⟨_, rfl⟩ | ⟨_, _, rfl⟩ <;> exact ⟨_, rfl⟩
    obtain ⟨c', rfl⟩ := h2
    split at e
    · cases e
      exact ⟨_, _, [], rfl, by simp, by simp [rvs], by simp, by simp, by simp⟩
    · rename_i m
      split at e
      · rename_i cs hc
        split at e
        · rename_i xs' hx
          split at e
          · rename_i hall
            cases e
            obtain ⟨B', C', CS, g1, g2, g3⟩ := kS hk hc
            rw [hb] at g1
            cases g1
            obtain ⟨XS, k1, k2, k3⟩ := mN g2 hx
            refine ⟨_, _, XS, rfl, by simp, k1, k2, EI k1 hall, fun ad hA j u hu => ?_⟩
            cases hA
            rw [add_lit, Nat.zero_add]
            exact g3 _ _ (k3 j u hu)
          · cases e
        · cases e
      · cases e
  · cases e
theorem kG {t e : TypeId} {s : Nat} (ht : P.underlying t = some (.slice e)) (hs : bA P e = some s) {A B : Option Addr} {n c c2 : Nat} (hn : n ≤ c) : (Builtin.append_ #[t, t] ty #[.slice A n c, .slice B 0 c2]).run P w = .ok (.slice A n c) w := by
  have hl : ∀ b : Addr, (loadCells b 0).run P w = .ok #[] w := fun b => run_loadCells_list w b [] (by simp)
  have hz := Go.Vcg.run_sizeOf (P := P) hs
  rcases A with _ | A <;> rcases B with _ | B <;> simp [Builtin.append_, run_underlying ht, hz, Builtin.lenOf, Builtin.firstCells, hn, storeCells, hl]
def GO (P : Program) (h : Heap) (b0 nx0 nx : Nat) (t : TypeId) (u v : Value) : Option Eff := match P.underlying t with
  | some (.slice e) => match bA P e with
    | some s => match aEc h s v with
      | some (0, _) => match u with
        | .slice none 0 0 => some (.val u h nx0)
        | .slice (some ⟨_, _, none⟩) n c => match Nat.ble n c with
          | true => some (.val u h nx0)
          | false => none
        | _ => none
      | some (m + 1, xs) => match cH P e with
          | some z => match Nat.beq z.cells.size s with
            | true => match dF P e with
              | some bytes => match Nat.blt 0 s with
                | true => match u with
                  | .slice none 0 0 => match Nat.ble ((m + 1) * bytes) 16777216 with
                    | true => match Nat.ble (m + 1) 16777216 with
                      | true => some (.val (.slice (some ⟨b0, 0, none⟩) (m + 1) dX) (eL h b0 (some (.row xs e s))) nx)
                      | false => none
                    | false => none
                  | .slice (some ⟨b, o, none⟩) n c => match Nat.ble ((n + (m + 1)) * bytes) 16777216 with
                    | true => match Nat.ble (n + (m + 1)) 16777216 with
                      | true => match Nat.beq c dX with
                        | true => match cL h b with
                          | some (.row cs t' s') => match Nat.beq o 0 with
                            | true => match Nat.beq t' e with
                              | true => match Nat.beq s' s with
                                | true => match Nat.beq cs.length (n * s) with
                                  | true => some (.val (.slice (some ⟨b0, 0, none⟩) (n + (m + 1)) dX) (eL (eL h b none) b0 (some (.row (cs ++ xs) e s))) nx)
                                  | false => none
                                | false => none
                              | false => none
                            | false => none
                          | _ => none
                        | false => match Nat.blt c (n + (m + 1)) with
                          | true => match Nat.beq n 0 with
                            | true => some (.val (.slice (some ⟨b0, 0, none⟩) (n + (m + 1)) dX) (eL h b0 (some (.row xs e s))) nx)
                            | false => match tS h b with
                              | some cs => match lK o (n * s) cs with
                                | some ys => some (.val (.slice (some ⟨b0, 0, none⟩) (n + (m + 1)) dX) (eL h b0 (some (.row (ys ++ xs) e s))) nx)
                                | none => none
                              | none => none
                          | false => none
                      | false => none
                    | false => none
                  | _ => none
                | false => none
              | none => none
            | false => none
          | none => none
      | none => none
    | none => none
  | _ => none
theorem vD {CS : List Value} {z : Value} {s C n : Nat} (hz : z.cells.size = s) (hl : CS.length = n * s) (hn : n ≤ C) :
    (CS.toArray ++ Builtin.zeroCells z.cells (C - n)).size = C * s ∧ CS.length ≤ (CS.toArray ++ Builtin.zeroCells z.cells (C - n)).size ∧ (CS.toArray ++ Builtin.zeroCells z.cells (C - n)).toList.take CS.length = CS := by
  refine ⟨?_, by simp, by simp⟩
  simp only [Array.size_append, size_zeroCells, hz, List.size_toArray, hl]
  rw [← Nat.add_mul]
  congr 1
  omega
theorem QY {b0 nx' : Nat} (r : Rel w0 ρ h nx w) (hf : jG ρ nx b0 nx') {t el : TypeId} {s bytes : Nat} {z : Value} (hT : P.underlying t = some (.slice el)) (hs : bA P el = some s) (hz : cH P el = some z) (hzs : z.cells.size = s) (hby : dF P el = some bytes) (hpos : 0 < s)
    {b B C n m c2 : Nat} {cs xs NS : List Value} {ad : Addr} (hg : cL h b = some (.row cs el s)) (hb : ρ b = some (B, C, 0)) (hobj : kC ρ C (.row cs el s) w.heap[B]?) (hcl : cs.length = n * s) (hnC : n ≤ C)
    (hNS : rvs ρ xs = some NS) (hlen : NS.length = (m + 1) * s) (hcell : ∀ j u, NS[j]? = some u → w.cell? (ad.add j) = some u) (hone : ∀ u ∈ NS, u.oneCell' = true) (hb1 : (n + (m + 1)) * bytes ≤ 16777216) (hb2 : n + (m + 1) ≤ 16777216) :
    ∃ ρ' V w', ELe ρ ρ' ∧ (∀ c, c ≠ b0 → ρ' c = ρ c) ∧ rv ρ' (.slice (some ⟨b0, 0, none⟩) (n + (m + 1)) dX) = some V ∧ Rel w0 ρ' (eL (eL h b none) b0 (some (.row (cs ++ xs) el s))) nx' w' ∧ (Builtin.append_ #[t, t] ty #[.slice (some ⟨B, 0, none⟩) n C, .slice (some ad) (m + 1) c2]).run P w = .ok V w' := by
  obtain ⟨CS, arr, g1, g2, g3, g4, g5, g6⟩ := hobj
  have hCl := cW g1
  have hown : w.ownsRow 0 el s (.slice (some ⟨B, 0, none⟩) n C) n CS :=
    ⟨by omega, .inr ⟨B, C, arr, rfl, Nat.zero_le _, g2, hnC, g4, g3, by rw [← hcl, ← hCl]; exact g6⟩⟩
  obtain ⟨v', w', r1, r2, r3, r4⟩ := fC (P := P) (ty := ty) (w := w) (t := t) hT hs hz (by simpa using hzs) hby hpos hown (A := some ad) (m := m + 1) (c := c2) (news := NS) hlen (by simp) (fun ad' e' => by cases e'; exact hcell) hone (by omega) (by omega)
  have hBlt : B < w.heap.size := (Array.getElem?_eq_some_iff.1 g2).1
  have hB0 := r.own b _ hg rfl B C hb
  rcases r2.2 with ⟨h1, h2⟩ | ⟨g, cap, cur, hv', _, k1, k2, k3, k4, k5⟩
  · omega
  subst hv'
  have hgB : g = B ∨ g = w.heap.size := by
    rcases r4 with r4 | r4
    · left; simp only [Value.ownBlock, Option.some.injEq] at r4; exact r4
    · right; simp only [Value.ownBlock, Option.some.injEq] at r4; exact r4
  have fr : Fr2 g B w w' := ⟨r3.os, r3.tape, r3.output, r3.size, fun k hk _ hkB => r3.block k hk (by simp only [Value.ownBlock, ne_eq, Option.some.injEq]; exact fun e => hkB (by omega))⟩
  have hfreeB : ∀ c o C', cL (eL h b none) c = some o → ρ c = some (B, C', 0) → False := fun c o C' e1 e2 => by
    by_cases hcb : c = b
    · subst hcb; rw [cV (cJ hg)] at e1; cases e1
    · rw [bC (cJ hg) hcb] at e1
      exact hcb (r.inj c b o _ B C' C e1 hg e2 hb)
  have hfreeg : ∀ c o C', cL (eL h b none) c = some o → ρ c = some (g, C', 0) → False := fun c o C' e1 e2 => by
    rcases hgB with rfl | rfl
    · exact hfreeB c o C' e1 e2
    · exact (r.drop (cJ hg)).yC c o C' e1 e2
  have hg0 : w0.heap.size ≤ g := by
    rcases hgB with rfl | rfl
    · exact hB0
    · exact r.aT.size
  have hrow := gA g1 hNS
  have hll : (CS ++ NS).length = (n + (m + 1)) * s := by rw [List.length_append, hlen, hown.1, ← Nat.add_mul]
  have hfit : (n + (m + 1)) * s ≤ cap * s := Nat.mul_le_mul_right _ k2
  have hle := iF (x := (g, cap, 0)) hf.free
  have hobj' : kC (ext ρ b0 (g, cap, 0)) cap (.row (cs ++ xs) el s) w'.heap[g]? :=
    ⟨CS ++ NS, cur, eJ hle hrow, k1, k4, k3, by rw [hll, k4]; exact hfit, by rw [hll]; exact k5⟩
  refine ⟨_, _, w', hle, fG, ?_, (r.drop (cJ hg)).aEq hf rfl fr hg0 hB0 hfreeB hfreeg hobj', r1⟩
  have := fI (ρ := ext ρ b0 (g, cap, 0)) (b := b0) (o := 0) (n := n + (m + 1)) (c := dX) eT (Nat.le_refl _) (by rw [Nat.sub_self]; omega)
  rw [this]
  simp
set_option maxHeartbeats 1000000 in
theorem AK {b0 nx' : Nat} (r : Rel w0 ρ h nx w) (hf : jG ρ nx b0 nx') {t : TypeId} {x y : Operand} {u v : Value} {f : Eff} (hu : rv ρ u = some (a.eval x)) (hv : rv ρ v = some (a.eval y)) (e : GO P h b0 nx nx' t u v = some f) :
    vA P w0 ρ h b0 a w ⟨ds, .call { callee := .builtin .append, args := #[x, y], argTypes := #[t, t] }, ty, pos, af, gd⟩ f := by
  have call : ∀ {V' w'}, (Builtin.append_ #[t, t] ty #[a.eval x, a.eval y]).run P w = .ok V' w' → (execOp a.eval ⟨ds, .call { callee := .builtin .append, args := #[x, y], argTypes := #[t, t] }, ty, pos, af, gd⟩).run P w = .ok (.value V') w' :=
    fun hr => dW rfl rfl hr
  unfold GO at e
  split at e
  · rename_i el hT
    split at e
    · rename_i s hs
      split at e
      · rename_i xs0 hsrc
        obtain ⟨A, c2, NS, hV, _⟩ := wI r.ok hv hsrc
        split at e
        · cases e
          have hU := bU hu rfl
          refine ⟨ρ, _, w, ELe.refl _, fun _ _ => rfl, Pr.refl _, hu, r, call ?_⟩
          rw [hV, hU]
          exact kG hT hs (Nat.le_refl _)
        · rename_i b o n c
          split at e
          · rename_i hnc
            cases e
            refine ⟨ρ, _, w, ELe.refl _, fun _ _ => rfl, Pr.refl _, hu, r, call ?_⟩
            obtain ⟨B, C, O, hb, h1⟩ := iT hu
            rcases h1 with ⟨_, h1⟩ | ⟨_, h2, h1⟩
            · rw [hV, h1]; exact kG hT hs (eC hnc)
            · rw [hV, h1]; exact kG hT hs (by omega)
          · cases e
        · cases e
      · rename_i m xs hsrc
        obtain ⟨A, c2, NS, hV, hA0, hNS, hlen, hone, hcell⟩ := wI r.ok hv hsrc
        have hA : ∃ ad, A = some ad := by
          cases A with
          | none => exact absurd (hA0 rfl).1 (by omega)
          | some ad => exact ⟨ad, rfl⟩
        obtain ⟨ad, rfl⟩ := hA
        have hcell := hcell ad rfl
        have hbs : b0 < 1048576 := Nat.lt_of_lt_of_le hf.lt hf.small
        by_cases hdummy : True
        · split at e
          · rename_i z hz
            split at e
            · rename_i hzs
              have hzs := Nat.eq_of_beq_eq_true hzs
              split at e
              · rename_i bytes hby
                split at e
                · rename_i hpos
                  have hpos := gR hpos
                  have hinfo : ∃ i, P.info? el = some i ∧ i.zero = some z ∧ i.size = s ∧ i.bytes = bytes := by
                    unfold bA at hs
                    unfold cH at hz
                    unfold dF at hby
                    cases hi : P.info? el with
                    | none => simp [hi] at hs
                    | some i =>
                      simp [hi, eR] at hs
                      simp [hi] at hz
                      simp [hi, jS] at hby
                      exact ⟨i, rfl, hz, hs, hby⟩
                  obtain ⟨i, hi, hiz, his, hib⟩ := hinfo
                  split at e
                  · -- onto nothing
                    split at e
                    · rename_i hb1
                      have hb1 := eC hb1
                      split at e
                      · rename_i hb2
                        have hb2 := eC hb2
                        cases e
                        have hU := bU hu rfl
                        have hr := Go.run_append_nil (P := P) w t ty el i z hT hi hiz ad (m + 1) c2 NS (by rw [his]; exact hlen) hcell (by omega) (by omega) (by rw [hib]; omega)
                        have hC1 := grownCap_ge w (m + 1) 0 el
                        have hC2 := grownCap_le_maxLen w (m + 1) 0 el (by simp only [maxLen]; omega)
                        obtain ⟨q1, q2, q3⟩ := vD hzs hlen hC1
                        refine ⟨_, _, _, iF hf.free, fG, Pr.set hbs _, ?_, r.row hf hNS el q1 hC2 q2 q3, call (by rw [hV, hU]; exact hr)⟩
                        have := fI (ρ := ext ρ b0 (w.heap.size, grownCap w (m + 1) 0 el, 0)) (b := b0) (o := 0) (n := m + 1) (c := dX) eT (Nat.le_refl _) (by rw [Nat.sub_self]; omega)
                        rw [this]
                        simp
                      · cases e
                    · cases e
                  · rename_i b o n c
                    obtain ⟨B, C, O, hb, hU⟩ := iT hu
                    split at e
                    · rename_i hb1
                      have hb1 := eC hb1
                      split at e
                      · rename_i hb2
                        have hb2 := eC hb2
                        split at e
                        · rename_i hc
                          have hc := Nat.eq_of_beq_eq_true hc
                          subst hc
                          split at e
                          · rename_i cs t' s' hg
                            split at e
                            · rename_i ho
                              split at e
                              · rename_i ht'
                                split at e
                                · rename_i hs'
                                  split at e
                                  · rename_i hcl
                                    have ho := Nat.eq_of_beq_eq_true ho
                                    have ht' := Nat.eq_of_beq_eq_true ht'
                                    have hs' := Nat.eq_of_beq_eq_true hs'
                                    have hcl := Nat.eq_of_beq_eq_true hcl
                                    subst ho
                                    subst ht'
                                    subst hs'
                                    cases e
                                    rcases hU with ⟨hlt, _⟩ | ⟨_, hnC, hU⟩
                                    · exact absurd hlt (Nat.lt_irrefl _)
                                    rw [Nat.sub_self, Nat.add_zero] at hnC
                                    rw [Nat.sub_self, Nat.sub_zero, Nat.add_zero] at hU
                                    obtain ⟨B', C', hB', hobj⟩ := r.ok b _ hg
                                    rw [hb] at hB'
                                    cases hB'
                                    obtain ⟨ρ', V', w', q1, q0, q2, q3, q4⟩ := QY (P := P) (ty := ty) r hf hT hs hz hzs hby hpos hg hb hobj hcl hnC hNS hlen hcell hone hb1 hb2 (c2 := c2)
                                    exact ⟨ρ', V', w', q1, q0, (Pr.set (cJ hg) _).trans (Pr.set hbs _), q2, q3, call (by rw [hV, hU]; exact q4)⟩
                                  · cases e
                                · cases e
                              · cases e
                            · cases e
                          · cases e
                        · rename_i hcne
                          have hcne := Nat.ne_of_beq_eq_false hcne
                          split at e
                          · rename_i hcl
                            have hcl := gR hcl
                            have hclU : c < dX ∧ a.eval x = .slice (some ⟨B, O + o, none⟩) n c := by
                              rcases hU with hU | ⟨hcu, _⟩
                              · exact hU
                              · exact absurd hcl (by have := MC; omega)
                            have fin : ∀ (ys YS : List Value), rvs ρ ys = some YS → YS.length = n * s → (∀ j V, YS[j]? = some V → w.cell? ((⟨B, O + o, none⟩ : Addr).add j) = some V) →
                                vA P w0 ρ h b0 a w ⟨ds, .call { callee := .builtin .append, args := #[x, y], argTypes := #[t, t] }, ty, pos, af, gd⟩ (.val (.slice (some ⟨b0, 0, none⟩) (n + (m + 1)) dX) (eL h b0 (some (.row (ys ++ xs) el s))) nx') := fun ys YS hys hyl hyc => by
                              have hr := Go.run_append_grow (P := P) w t ty el i z hT hi hiz ⟨B, O + o, none⟩ n c YS (by rw [his]; exact hyl) hyc ad (m + 1) c2 NS (by rw [his]; exact hlen) hcell hcl (by omega) (growslice_fits hcl (by rw [hib]; omega))
                              have hC1 := grownCap_ge w (n + (m + 1)) c el
                              have hC2 := grownCap_le_maxLen w (n + (m + 1)) c el (by simp only [maxLen]; omega)
                              have hl2 : (YS ++ NS).length = (n + (m + 1)) * s := by rw [List.length_append, hlen, hyl, ← Nat.add_mul]
                              obtain ⟨q1, q2, q3⟩ := vD hzs hl2 hC1
                              have eA : YS.toArray ++ NS.toArray = (YS ++ NS).toArray := by simp
                              rw [eA] at hr
                              refine ⟨_, _, _, iF hf.free, fG, Pr.set hbs _, ?_, r.row hf (gA hys hNS) el q1 hC2 q2 q3, call (by rw [hV, hclU.2]; exact hr)⟩
                              have := fI (ρ := ext ρ b0 (w.heap.size, grownCap w (n + (m + 1)) c el, 0)) (b := b0) (o := 0) (n := n + (m + 1)) (c := dX) eT (Nat.le_refl _) (by rw [Nat.sub_self]; omega)
                              rw [this]
                              simp
                            split at e
                            · rename_i hn0
                              have hn0 := Nat.eq_of_beq_eq_true hn0
                              subst hn0
                              cases e
                              exact fin [] [] (by simp [rvs]) (by simp) (by simp)
                            · split at e
                              · rename_i cs hc'
                                split at e
                                · rename_i ys hy
                                  cases e
                                  obtain ⟨B', C', CS, g1, g2, g3⟩ := kS r.ok hc'
                                  rw [hb] at g1
                                  cases g1
                                  obtain ⟨YS, k1, k2, k3⟩ := mN g2 hy
                                  exact fin ys YS k1 k2 (fun j V hj => by rw [add_lit, Nat.zero_add]; exact g3 _ _ (k3 j V hj))
                                · cases e
                              · cases e
                          · cases e
                      · cases e
                    · cases e
                  · cases e
                · cases e
              · cases e
            · cases e
          · cases e
        · exact absurd trivial hdummy
      · cases e
    · cases e
  · cases e
end
end Go.Rex
namespace Go.Vcg
open Go.RowKit Go.MapKept
section
variable {P : Program} {w : World}
theorem qE {f : Field} {x : Value} (e : Bool) (n : Nat) (hc : uQ P f = codeOf x) : (Instr.checkKey e (n + 1) f.type x).run P w = .ok () w := by
  unfold uQ at hc
  unfold Instr.checkKey
  cases hu : P.underlying f.type with
  | none => rw [hu] at hc; cases x <;> simp [codeOf] at hc
  | some d =>
    rw [hu] at hc
    simp only [Sem.run_bind, run_underlying hu, Result.andThen_ok]
    cases d <;> cases x <;> simp [codeOf] at hc <;> simp
theorem nZ (e : Bool) (n : Nat) (XS : Array Value) : ∀ (fs : List Field) (k : Nat) (xs : List Value), bQ P k fs (xs.map codeOf) = true → (∀ j v, xs[j]? = some v → XS[k + j]? = some v) →
    (forIn fs PUnit.unit fun (f : Field) (_ : PUnit) => (if f.name ≠ "_" then (do let y ← part f.type XS f.offset; Instr.checkKey e (n + 1) f.type y; pure (ForInStep.yield PUnit.unit)) else (do pure PUnit.unit; pure (ForInStep.yield PUnit.unit)) : Sem (ForInStep PUnit))).run P w = .ok PUnit.unit w
  | [], _, _, _, _ => by simp
  | f :: fs, k, [], h, _ => by simp [bQ] at h
  | f :: fs, k, x :: xs, h1, hX => by
    simp only [List.map_cons, bQ, Bool.and_eq_true, Bool.not_eq_true'] at h1
    obtain ⟨⟨⟨hn, ho⟩, hc⟩, hr⟩ := h1
    have hoff : f.offset = k := Nat.eq_of_beq_eq_true ho
    have hcode : uQ P f = codeOf x := Nat.eq_of_beq_eq_true hc
    have hname : f.name ≠ "_" := by simpa using hn
    have hx0 := hX 0 x rfl
    simp only [Nat.add_zero] at hx0
    have hag : eU P f.type = some false := by
      unfold uQ at hcode
      unfold eU
      cases hu : P.underlying f.type with
      | none => rw [hu] at hcode; cases x <;> simp [codeOf] at hcode
      | some de => rw [hu] at hcode; cases de <;> first | rfl | (cases x <;> simp [codeOf] at hcode)
    have ih := nZ e n XS fs (k + 1) xs hr (fun j v hj => by rw [show k + 1 + j = k + (j + 1) by omega]; exact hX (j + 1) v (by simpa using hj))
    simp only [List.forIn_cons, hname, ne_eq, not_false_eq_true, if_true, Sem.run_bind, hoff, kU hag hx0, Result.andThen_ok, qE e n hcode, Sem.run_pure]
    exact ih
def uW (P : Program) (t : TypeId) (xs : List Value) : Bool := match P.underlying t with
  | some (.struct fs) => bQ P 0 fs.toList (xs.map codeOf) && !(P.stoodInHeld t)
  | _ => false
theorem mQ {t : TypeId} {xs : List Value} (e : Bool) (h : uW P t xs = true) : (Instr.checkKey e 10000 t (.agg xs.toArray)).run P w = .ok () w := by
  unfold uW at h
  split at h
  · rename_i fs hu
    simp only [Bool.and_eq_true] at h
    unfold Instr.checkKey
    simp only [Sem.run_bind, run_underlying hu, Result.andThen_ok]
    rw [← Array.forIn_toList]
    have := nZ (P := P) (w := w) e 9998 xs.toArray fs.toList 0 xs h.1 (fun j v hj => by simpa using hj)
    simp at this ⊢
    rw [this]
    rfl
  · cases h
theorem PV {t : TypeId} {xs ys : List Value} (h : uW P t xs = true) (hv : AF xs ys = true) : (Op.equal t (.agg xs.toArray) (.agg ys.toArray)).run P w = .ok (uY xs ys) w := by
  unfold uW at h
  split at h
  · rename_i fs hu
    simp only [Bool.and_eq_true, Bool.not_eq_true'] at h
    have hf : P.fieldsOf t = fs := by unfold Program.fieldsOf; rw [hu]
    have hu2 : P.underlying t = some (.struct (P.fieldsOf t)) := by rw [hf]; exact hu
    exact zZ hu2 h.2 (by rw [hf]; exact h.1) hv w
  · cases h
def lB (xs : List Value) : List MapEntry → Nat → Option (Option (Nat × Value))
  | [], _ => some none
  | e :: es, i => match e.key with
    | .agg ⟨ys⟩ => match AF xs ys with
      | true => match uY xs ys with
        | true => some (some (i, e.val))
        | false => lB xs es (i + 1)
      | false => none
    | _ => none
theorem nF {t : TypeId} {xs : List Value} (h : uW P t xs = true) : ∀ {es : List MapEntry} {i : Nat} {r : Option (Nat × Value)}, lB xs es i = some r → (Instr.findAsking t (.agg xs.toArray) es i).run P w = .ok r w
  | [], i, r, e => by
    unfold lB at e; cases e
    simp [Instr.findAsking]
  | ⟨k, v, b⟩ :: es, i, r, e => by
    unfold lB at e
    split at e
    · rename_i ys hk
      dsimp only at hk
      subst hk
      split at e
      · rename_i hok
        have he := PV (w := w) h hok
        split at e
        · rename_i heq
          cases e
          rw [heq] at he
          have he' : (Op.equal t (.agg xs.toArray) (.agg { toList := ys })).run P w = .ok true w := he
          simp [Instr.findAsking, he']
        · rename_i heq
          rw [heq] at he
          have he' : (Op.equal t (.agg xs.toArray) (.agg { toList := ys })).run P w = .ok false w := he
          have ih := nF h e
          simp [Instr.findAsking, he', ih]
      · cases e
    · cases e
theorem pE {t : TypeId} {xs : List Value} (h : uW P t xs = true) {es : List MapEntry} {r : Option (Nat × Value)} (e : lB xs es 0 = some r) : (Instr.findKey t (.agg xs.toArray) es).run P w = .ok r w := by
  have hk := h
  unfold uW at hk
  split at hk
  · rename_i fs hu
    cases es with
    | nil =>
      unfold lB at e; cases e
      simp [Instr.findKey, run_underlying hu, Instr.findNow]
    | cons x es =>
      have := nF (w := w) h e
      have hn : Instr.findNow (.struct fs) (.agg xs.toArray) (x :: es) 0 = none := by unfold Instr.findNow Instr.sameNow; rfl
      simp [Instr.findKey, run_underlying hu, hn, this]
  · cases hk
theorem kF {t kt et : TypeId} {b ck : Nat} {es : List MapEntry} {xs : List Value} {v : Value} {ok c : Bool} (ht : P.underlying t = some (.map kt et)) (hkey : uW P kt xs = true)
    (hb : w.heap[b]? = some (.map es.toArray ck)) (hf : kA P et (lB xs es 0) = some (v, ok)) : (Instr.lookup t (.map (some b)) (.agg xs.toArray) c).run P w = .ok (if c then .tuple #[v, .bool ok] else v) w := by
  cases hr : lB xs es 0 with
  | none => simp [hr, kA] at hf
  | some r =>
    have h1 := pE (w := w) hkey hr
    have h2 := fun e => mQ (w := w) e hkey
    cases r with
    | none =>
      simp only [hr, kA] at hf
      split at hf
      · rename_i z hz
        simp only [Option.some.injEq, Prod.mk.injEq] at hf
        obtain ⟨rfl, rfl⟩ := hf
        simp [Instr.lookup, run_underlying ht, MapKept.run_getObj_map hb, h1, h2, aK hz]
      · cases hf
    | some p =>
      obtain ⟨n, x⟩ := p
      simp only [hr, kA, Option.some.injEq, Prod.mk.injEq] at hf
      obtain ⟨rfl, rfl⟩ := hf
      simp [Instr.lookup, run_underlying ht, MapKept.run_getObj_map hb, h1, h2]
theorem kV {t kt et : TypeId} {b ck : Nat} {es : List MapEntry} {xs : List Value} {v : Value} (ht : P.underlying t = some (.map kt et)) (hkey : uW P kt xs = true)
    (hb : w.heap[b]? = some (.map es.toArray ck)) (hf : lB xs es 0 = some none) : (Instr.mapUpdate t (.map (some b)) (.agg xs.toArray) v).run P w = .ok () { w with heap := w.heap.setIfInBounds b (.map (es ++ [MapEntry.mk (.agg xs.toArray) v ck]).toArray (ck + 1)) } := by
  have h1 := pE (w := w) hkey hf
  have h2 := fun e => mQ (w := w) e hkey
  simp [Instr.mapUpdate, run_underlying ht, MapKept.run_getObj_map hb, h1, h2, MapKept.run_setObj_map _ hb]
end
end Go.Vcg
namespace Go.Proofs.YtoclmkdfcafhfaaGreatDoor
end Go.Proofs.YtoclmkdfcafhfaaGreatDoor
