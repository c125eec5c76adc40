/- fits: whether children match a row. (and what leans on it). No statement of the seat is proved here. -/
import Derived.Test.YtfabmichdhbiaaaGreatDoorQag
import Derived.Test.YtfabmichdhbiaaaGreatDoorQae
set_option maxRecDepth 20000
set_option maxHeartbeats 2000000
namespace Go.Proofs.YtfabmichdhbiaaaGreatDoor
open Go.RowKit Go.Vcg
theorem KR.drop1 {μ : Mem} {ks : List T} {A : Option Addr} {n c : Nat} (h : KR μ ks (.slice A n c)) (hn : 1 ≤ n) : KR μ (ks.drop 1) (.slice (if c = 1 then A else A.map (·.add (1 * 6))) (n - 1) (c - 1)) := by
  cases h with
  | mk _ A c vs hcap hcell hone hsub =>
    have e : (ks.drop 1).length = ks.length - 1 := by simp
    have h0 : ∀ (i : Nat) (t : T), (ks.drop 1)[i]? = some t → ks[1 + i]? = some t := fun i t hi => by simpa [Nat.add_comm] using hi
    have := KR.mk (μ := μ) (ks.drop 1) (if c = 1 then A else A.map (·.add (1 * 6))) (c - 1) (fun i => vs (1 + i)) (by omega) (fun i t hi => ?_) (fun i t hi => hone _ t (h0 i t hi)) (fun i t hi => hsub _ t (h0 i t hi))
    · rw [e] at this
      exact this
    · obtain ⟨a, e, hc⟩ := hcell _ t (h0 i t hi)
      have : 1 + i < ks.length := (List.getElem?_eq_some_iff.1 (h0 i t hi)).1
      rw [if_neg (by omega), e]
      refine ⟨_, rfl, ?_⟩
      rw [add_add', ← Nat.add_mul]
      exact hc
def eatF (p : T → Bool) (m : Int) : Nat → List T → Nat × List T
  | n, [] => (n, [])
  | n, k :: r => if p k = true ∧ (n = 0 ∨ m = 2) then eatF p m (n + 1) r else (n, k :: r)
def fitP : List ((T → Bool) × Int) → List T → Bool
  | [], l => decide (l.length = 0)
  | (p, m) :: r, l => if (eatF p m 0 l).1 = 0 ∧ m = 0 then false else fitP r (eatF p m 0 l).2
theorem drop_cons' {α : Type} {l : List α} {j : Nat} {t : α} (h : l[j]? = some t) : l.drop j = t :: l.drop (j + 1) := by
  obtain ⟨hlt, e⟩ := List.getElem?_eq_some_iff.1 h
  rw [← e, List.getElem_cons_drop]
attribute [local irreducible] G GC GQ GA GAop Calls IntKind.wrap Int.decLt Int.decLe
theorem fits_spec (parts : List (Value × Int)) (rows : List ((T → Bool) × Int)) (ks : List T) (A B : Option Addr) (n c m d : Nat) (w : World) (μ : Mem) (hμ : MOk μ w) (hk : KR μ ks (.slice A n c)) (hkn : ks.length = n) (hn : n ≤ 100000) (hS : Sl encP 2 μ B m parts) (hm : m ≤ 1000) (hrl : rows.length = m) (hrows : ∀ (i : Nat) (x : Value × Int) (y : (T → Bool) × Int), parts[i]? = some x → rows[i]? = some y → x.2 = y.2 ∧ Cls μ x.1 y.1) (hks : ∀ k ∈ ks, T.size k ≤ 100000 ∧ k.s.size ≤ 65536) :
    Calls Tryz.prog 58 #[.slice A n c, .slice B m d] w fun e w' => e = .returned (.bool (fitP rows ks)) ∧ Below w.heap.size w w' := by
  refine call_intro (args := [.slice A n c, .slice B m d]) Tryz.func58 rfl Tryz.ntmps58 (by simp) hμ ?_
  generalize hR : fitP rows ks = R
  repeat' (first | refine KK ?_ | refine NB fun b => ?_ | ((refine KB ?_ ?_ <;> intro hp)) | refine KG ?_ | fail)
  refine gc_loop (ι := Nat × Nat × Option Addr × Nat) (fun i => i.1 ≤ m ∧ i.2.1 ≤ n ∧ KR μ (ks.drop i.2.1) (.slice i.2.2.1 (n - i.2.1) i.2.2.2) ∧ fitP (rows.drop i.1) (ks.drop i.2.1) = R) (fun i => m - i.1) (fun _ => μ) (fun i => [(10, .int .i64 i.1), (9, .int .i64 m), (8, .slice B m d), (0, .slice i.2.2.1 (n - i.2.1) i.2.2.2)]) (fun _ => []) (0, 0, A, c) ⟨by simp, by simp, by simpa using hk, by simpa using hR⟩ (fun a w hs => J6 hs) ?_
  rintro ⟨i, j, Aj, cj⟩ ⟨hi, hj, hkj, hRj⟩
  dsimp only at hi hj hkj hRj ⊢
  by_cases hlt : i < m
  · obtain ⟨ad, ⟨v, mm⟩, rfl, hx, hmx⟩ := hS.get hlt
    have hy : rows[i]? = some rows[i] := List.getElem?_eq_getElem (by omega)
    generalize rows[i] = y at hy
    obtain ⟨p, mm'⟩ := y
    obtain ⟨he, hcls⟩ := hrows i _ _ hx hy
    dsimp only at he hcls
    subst he
    obtain ⟨f, cap, rfl, hcal, hf⟩ := hcls
    rw [drop_cons' hy] at hRj
    repeat' (first | refine KO ?_ | (refine KV (b := by first | exact U1 i | exact U4 hmx) (c := ?_)) | refine KI ?_ | refine NB fun b => ?_ | ((refine KB ?_ ?_ <;> intro hp)) | refine KG ?_ | fail)
    refine gc_loop (ι := Nat × Nat × Option Addr × Nat) (fun q => q.1 ≤ q.2.1 ∧ q.2.1 ≤ n ∧ KR μ (ks.drop q.2.1) (.slice q.2.2.1 (n - q.2.1) q.2.2.2) ∧ eatF p mm q.1 (ks.drop q.2.1) = eatF p mm 0 (ks.drop j)) (fun q => n - q.2.1) (fun _ => μ) (fun q => [(7, .int .i64 q.1), (6, .pointer (some ⟨b, 0, none⟩)), (10, .int .i64 i), (9, .int .i64 m), (8, .slice (some ad) m d), (0, .slice q.2.2.1 (n - q.2.1) q.2.2.2)]) (fun _ => [.inl ⟨b, 79, 2, idx 0 [.func (.func f) #[] cap.toArray, .int .i64 mm]⟩]) (0, j, Aj, cj) ⟨Nat.zero_le _, hj, hkj, rfl⟩ (fun a w hs => J5 hs) ?_
    rintro ⟨cnt, j2, A2, c2⟩ ⟨hcj, hj2, hk2, he2⟩
    dsimp only at hcj hj2 hk2 he2 ⊢
    have hend : ∀ l, eatF p mm cnt (ks.drop j2) = (cnt, l) → l = ks.drop j2 → (if cnt = 0 ∧ mm = 0 then false else fitP (rows.drop (i + 1)) (ks.drop j2)) = R := fun l h hl => by
      rw [fitP, ← he2, h, hl] at hRj
      exact hRj
    by_cases hlt2 : j2 < n
    · have hkk : ks[j2]? = some ks[j2] := List.getElem?_eq_getElem (by omega)
      generalize ks[j2] = t at hkk
      have hdt := drop_cons' hkk
      have hkt := hk2.drop1 (by omega)
      rw [List.drop_drop] at hkt
      obtain ⟨A', c', e, hlc, hget⟩ := hk2.form
      have hkl : (ks.drop j2).length = n - j2 := by rw [List.length_drop, hkn]
      rw [hkl] at e hlc
      cases e
      obtain ⟨ad2, x, rfl, hm2, ho2, hkx⟩ := hget 0 t (by rw [hdt]; rfl)
      have hts := hks t (List.mem_of_getElem? hkk)
      have hcall := fun (w : World) (μc : Mem) (hw : MOk μc w) (hle : MLe μ μc) => hf t x w μc hw hle (hkx.mono hle) hts.1 hts.2
      by_cases hp1 : p t = true ∧ (cnt = 0 ∨ mm = 2)
      · have hE : eatF p mm (cnt + 1) (ks.drop (j2 + 1)) = eatF p mm 0 (ks.drop j) := by
          rw [← he2, hdt, eatF, if_pos hp1]
        rw [hp1.1] at hcall
        have hp2 := hp1.2
        repeat' (first | refine KK ?_ | refine NB fun b => ?_ | ((refine KB ?_ ?_ <;> intro hp)) | refine KG ?_ | fail)
        refine gc_draw 20 _ (by kernel_rfl) rfl (List.Sublist.cons_cons _ (List.nil_sublist _)) ?_
        all_goals refine DD 0 ?_
        all_goals (first | refine D1 1 ?_ | (refine DV (k := 1) (b := by first | exact U1 0 | exact U4 hm2) (c := ?_)) | refine DD 1 ?_ | fail)
        all_goals (first | refine D1 2 ?_ | (refine DV (k := 2) (b := by first | exact U1 0 | exact U4 hm2) (c := ?_)) | refine DD 2 ?_ | fail)
        all_goals refine DD 3 ?_
        all_goals (try (refine D7 4 ?_; (repeat' (first | refine KO ?_ | (refine KB ?_ ?_ <;> intro hp)))))
        all_goals (first | refine D1 4 ?_ | (refine DV (k := 4) (b := by first | exact U1 0 | exact U4 hm2) (c := ?_)) | refine DD 4 ?_ | fail)
        all_goals (first | refine D1 5 ?_ | (refine DV (k := 5) (b := by first | exact U1 0 | exact U4 hm2) (c := ?_)) | (refine D3 5 (DW (b := by first | exact U1 0 | exact U4 hm2) (c := ?_))) | refine DD 5 ?_ | fail)
        all_goals refine DD 6 ?_
        all_goals (first | refine D1 7 ?_ | (refine DV (k := 7) (b := by first | exact U1 0 | exact U4 hm2) (c := ?_)) | refine DD 7 ?_ | fail)
        all_goals (first | refine D1 8 ?_ | (refine DV (k := 8) (b := by first | exact U1 0 | exact U4 hm2) (c := ?_)) | (refine D3 8 (DW (b := by first | exact U1 0 | exact U4 hm2) (c := ?_))) | refine DD 8 ?_ | fail)
        all_goals (first | (refine D3 9 ?_; refine D5 ?_; (with_reducible apply C1); exact rfl; exact EN; exact fun w μc hw hse => hcall w μc hw hse.le; refine D9 ?_) | refine D3 9 (D6 ?_))
        all_goals refine DD 10 ?_
        all_goals refine DD 11 ?_
        all_goals (try (refine D7 12 ?_; (repeat' (first | refine KO ?_ | (refine KB ?_ ?_ <;> intro hp)))))
        all_goals refine DD 12 ?_
        all_goals (first | refine D1 13 ?_ | (refine DV (k := 13) (b := by first | exact U1 0 | exact U4 hm2) (c := ?_)) | refine DD 13 ?_ | fail)
        all_goals refine DD 14 ?_
        all_goals (try (refine D7 15 ?_; (repeat' (first | refine KO ?_ | (refine KB ?_ ?_ <;> intro hp)))))
        all_goals (first | refine D1 15 ?_ | (refine DV (k := 15) (b := by first | exact U1 0 | exact U4 hm2) (c := ?_)) | refine DD 15 ?_ | fail)
        all_goals (first | refine D1 16 ?_ | (refine DV (k := 16) (b := by first | exact U1 0 | exact U4 hm2) (c := ?_)) | (refine D3 16 (DW (b := by first | exact U1 0 | exact U4 hm2) (c := ?_))) | refine DD 16 ?_ | fail)
        all_goals (first | refine D1 17 ?_ | (refine DV (k := 17) (b := by first | exact U1 0 | exact U4 hm2) (c := ?_)) | refine DD 17 ?_ | fail)
        all_goals refine DD 18 ?_
        all_goals refine DD 19 ?_
        all_goals refine D8 ?_
        all_goals
          repeat' (first | refine KO ?_ | (refine KV (b := by first | ((with_reducible apply v_slice_lo 1); exact rfl; exact rfl; exact rfl; exact rfl; exact rfl; omega)) (c := ?_)) | refine KI ?_ | refine NB fun b => ?_ | ((refine KB ?_ ?_ <;> intro hp)) | refine KG ?_ | fail)
        all_goals first
          | exact J2 (cnt + 1, j2 + 1, _, _) ⟨by show cnt + 1 ≤ j2 + 1; omega, by show j2 + 1 ≤ n; omega, hkt, hE⟩ (by show n - (j2 + 1) < n - j2; omega)
          | (exfalso; omega)
      · have hE := hend _ (by rw [hdt, eatF, if_neg hp1]) hdt.symm
        cases hpt : p t
        · rw [hpt] at hcall
          by_cases hz : cnt = 0 ∧ mm = 0
          · rw [if_pos hz] at hE
            repeat' (first | refine KK ?_ | refine NB fun b => ?_ | ((refine KB ?_ ?_ <;> intro hp)) | refine KG ?_ | fail)
            refine gc_draw 20 _ (by kernel_rfl) rfl (List.Sublist.cons_cons _ (List.nil_sublist _)) ?_
            all_goals refine DD 0 ?_
            all_goals (first | refine D1 1 ?_ | (refine DV (k := 1) (b := by first | exact U1 0 | exact U4 hm2) (c := ?_)) | refine DD 1 ?_ | fail)
            all_goals (first | refine D1 2 ?_ | (refine DV (k := 2) (b := by first | exact U1 0 | exact U4 hm2) (c := ?_)) | refine DD 2 ?_ | fail)
            all_goals refine DD 3 ?_
            all_goals (try (refine D7 4 ?_; (repeat' (first | refine KO ?_ | (refine KB ?_ ?_ <;> intro hp)))))
            all_goals (first | refine D1 4 ?_ | (refine DV (k := 4) (b := by first | exact U1 0 | exact U4 hm2) (c := ?_)) | refine DD 4 ?_ | fail)
            all_goals (first | refine D1 5 ?_ | (refine DV (k := 5) (b := by first | exact U1 0 | exact U4 hm2) (c := ?_)) | (refine D3 5 (DW (b := by first | exact U1 0 | exact U4 hm2) (c := ?_))) | refine DD 5 ?_ | fail)
            all_goals refine DD 6 ?_
            all_goals (first | refine D1 7 ?_ | (refine DV (k := 7) (b := by first | exact U1 0 | exact U4 hm2) (c := ?_)) | refine DD 7 ?_ | fail)
            all_goals (first | refine D1 8 ?_ | (refine DV (k := 8) (b := by first | exact U1 0 | exact U4 hm2) (c := ?_)) | (refine D3 8 (DW (b := by first | exact U1 0 | exact U4 hm2) (c := ?_))) | refine DD 8 ?_ | fail)
            all_goals (first | (refine D3 9 ?_; refine D5 ?_; (with_reducible apply C1); exact rfl; exact EN; exact fun w μc hw hse => hcall w μc hw hse.le; refine D9 ?_) | refine D3 9 (D6 ?_))
            all_goals refine DD 10 ?_
            all_goals refine DD 11 ?_
            all_goals (try (refine D7 12 ?_; (repeat' (first | refine KO ?_ | (refine KB ?_ ?_ <;> intro hp)))))
            all_goals refine DD 12 ?_
            all_goals (first | refine D1 13 ?_ | (refine DV (k := 13) (b := by first | exact U1 0 | exact U4 hm2) (c := ?_)) | refine DD 13 ?_ | fail)
            all_goals refine DD 14 ?_
            all_goals (try (refine D7 15 ?_; (repeat' (first | refine KO ?_ | (refine KB ?_ ?_ <;> intro hp)))))
            all_goals (first | refine D1 15 ?_ | (refine DV (k := 15) (b := by first | exact U1 0 | exact U4 hm2) (c := ?_)) | refine DD 15 ?_ | fail)
            all_goals (first | refine D1 16 ?_ | (refine DV (k := 16) (b := by first | exact U1 0 | exact U4 hm2) (c := ?_)) | (refine D3 16 (DW (b := by first | exact U1 0 | exact U4 hm2) (c := ?_))) | refine DD 16 ?_ | fail)
            all_goals (first | refine D1 17 ?_ | (refine DV (k := 17) (b := by first | exact U1 0 | exact U4 hm2) (c := ?_)) | refine DD 17 ?_ | fail)
            all_goals refine DD 18 ?_
            all_goals refine DD 19 ?_
            all_goals refine D8 ?_
            all_goals
              repeat' (first | refine KK ?_ | refine NB fun b => ?_ | ((refine KB ?_ ?_ <;> intro hp)) | refine KG ?_ | fail)
            all_goals first
              | exact ret_s rfl rfl (congrArg _ hE)
              | (exfalso; omega)
          · rw [if_neg hz] at hE
            repeat' (first | refine KK ?_ | refine NB fun b => ?_ | ((refine KB ?_ ?_ <;> intro hp)) | refine KG ?_ | fail)
            refine gc_draw 20 _ (by kernel_rfl) rfl (List.Sublist.cons_cons _ (List.nil_sublist _)) ?_
            all_goals refine DD 0 ?_
            all_goals (first | refine D1 1 ?_ | (refine DV (k := 1) (b := by first | exact U1 0 | exact U4 hm2) (c := ?_)) | refine DD 1 ?_ | fail)
            all_goals (first | refine D1 2 ?_ | (refine DV (k := 2) (b := by first | exact U1 0 | exact U4 hm2) (c := ?_)) | refine DD 2 ?_ | fail)
            all_goals refine DD 3 ?_
            all_goals (try (refine D7 4 ?_; (repeat' (first | refine KO ?_ | (refine KB ?_ ?_ <;> intro hp)))))
            all_goals (first | refine D1 4 ?_ | (refine DV (k := 4) (b := by first | exact U1 0 | exact U4 hm2) (c := ?_)) | refine DD 4 ?_ | fail)
            all_goals (first | refine D1 5 ?_ | (refine DV (k := 5) (b := by first | exact U1 0 | exact U4 hm2) (c := ?_)) | (refine D3 5 (DW (b := by first | exact U1 0 | exact U4 hm2) (c := ?_))) | refine DD 5 ?_ | fail)
            all_goals refine DD 6 ?_
            all_goals (first | refine D1 7 ?_ | (refine DV (k := 7) (b := by first | exact U1 0 | exact U4 hm2) (c := ?_)) | refine DD 7 ?_ | fail)
            all_goals (first | refine D1 8 ?_ | (refine DV (k := 8) (b := by first | exact U1 0 | exact U4 hm2) (c := ?_)) | (refine D3 8 (DW (b := by first | exact U1 0 | exact U4 hm2) (c := ?_))) | refine DD 8 ?_ | fail)
            all_goals (first | (refine D3 9 ?_; refine D5 ?_; (with_reducible apply C1); exact rfl; exact EN; exact fun w μc hw hse => hcall w μc hw hse.le; refine D9 ?_) | refine D3 9 (D6 ?_))
            all_goals refine DD 10 ?_
            all_goals refine DD 11 ?_
            all_goals (try (refine D7 12 ?_; (repeat' (first | refine KO ?_ | (refine KB ?_ ?_ <;> intro hp)))))
            all_goals refine DD 12 ?_
            all_goals (first | refine D1 13 ?_ | (refine DV (k := 13) (b := by first | exact U1 0 | exact U4 hm2) (c := ?_)) | refine DD 13 ?_ | fail)
            all_goals refine DD 14 ?_
            all_goals (try (refine D7 15 ?_; (repeat' (first | refine KO ?_ | (refine KB ?_ ?_ <;> intro hp)))))
            all_goals (first | refine D1 15 ?_ | (refine DV (k := 15) (b := by first | exact U1 0 | exact U4 hm2) (c := ?_)) | refine DD 15 ?_ | fail)
            all_goals (first | refine D1 16 ?_ | (refine DV (k := 16) (b := by first | exact U1 0 | exact U4 hm2) (c := ?_)) | (refine D3 16 (DW (b := by first | exact U1 0 | exact U4 hm2) (c := ?_))) | refine DD 16 ?_ | fail)
            all_goals (first | refine D1 17 ?_ | (refine DV (k := 17) (b := by first | exact U1 0 | exact U4 hm2) (c := ?_)) | refine DD 17 ?_ | fail)
            all_goals refine DD 18 ?_
            all_goals refine DD 19 ?_
            all_goals refine D8 ?_
            all_goals
              repeat' (first | refine KK ?_ | refine NB fun b => ?_ | ((refine KB ?_ ?_ <;> intro hp)) | refine KG ?_ | fail)
            all_goals first
              | exact J2 (i + 1, j2, _, _) ⟨by show i + 1 ≤ m; omega, hj2, hk2, hE⟩ (by show m - (i + 1) < m - i; omega)
              | (exfalso; omega)
        · rw [hpt] at hcall
          have hp2 : ¬(cnt = 0 ∨ mm = 2) := fun h => hp1 ⟨hpt, h⟩
          by_cases hz : cnt = 0 ∧ mm = 0
          · rw [if_pos hz] at hE
            repeat' (first | refine KK ?_ | refine NB fun b => ?_ | ((refine KB ?_ ?_ <;> intro hp)) | refine KG ?_ | fail)
            refine gc_draw 20 _ (by kernel_rfl) rfl (List.Sublist.cons_cons _ (List.nil_sublist _)) ?_
            all_goals refine DD 0 ?_
            all_goals (first | refine D1 1 ?_ | (refine DV (k := 1) (b := by first | exact U1 0 | exact U4 hm2) (c := ?_)) | refine DD 1 ?_ | fail)
            all_goals (first | refine D1 2 ?_ | (refine DV (k := 2) (b := by first | exact U1 0 | exact U4 hm2) (c := ?_)) | refine DD 2 ?_ | fail)
            all_goals refine DD 3 ?_
            all_goals (try (refine D7 4 ?_; (repeat' (first | refine KO ?_ | (refine KB ?_ ?_ <;> intro hp)))))
            all_goals (first | refine D1 4 ?_ | (refine DV (k := 4) (b := by first | exact U1 0 | exact U4 hm2) (c := ?_)) | refine DD 4 ?_ | fail)
            all_goals (first | refine D1 5 ?_ | (refine DV (k := 5) (b := by first | exact U1 0 | exact U4 hm2) (c := ?_)) | (refine D3 5 (DW (b := by first | exact U1 0 | exact U4 hm2) (c := ?_))) | refine DD 5 ?_ | fail)
            all_goals refine DD 6 ?_
            all_goals (first | refine D1 7 ?_ | (refine DV (k := 7) (b := by first | exact U1 0 | exact U4 hm2) (c := ?_)) | refine DD 7 ?_ | fail)
            all_goals (first | refine D1 8 ?_ | (refine DV (k := 8) (b := by first | exact U1 0 | exact U4 hm2) (c := ?_)) | (refine D3 8 (DW (b := by first | exact U1 0 | exact U4 hm2) (c := ?_))) | refine DD 8 ?_ | fail)
            all_goals (first | (refine D3 9 ?_; refine D5 ?_; (with_reducible apply C1); exact rfl; exact EN; exact fun w μc hw hse => hcall w μc hw hse.le; refine D9 ?_) | refine D3 9 (D6 ?_))
            all_goals refine DD 10 ?_
            all_goals refine DD 11 ?_
            all_goals (try (refine D7 12 ?_; (repeat' (first | refine KO ?_ | (refine KB ?_ ?_ <;> intro hp)))))
            all_goals refine DD 12 ?_
            all_goals (first | refine D1 13 ?_ | (refine DV (k := 13) (b := by first | exact U1 0 | exact U4 hm2) (c := ?_)) | refine DD 13 ?_ | fail)
            all_goals refine DD 14 ?_
            all_goals (try (refine D7 15 ?_; (repeat' (first | refine KO ?_ | (refine KB ?_ ?_ <;> intro hp)))))
            all_goals (first | refine D1 15 ?_ | (refine DV (k := 15) (b := by first | exact U1 0 | exact U4 hm2) (c := ?_)) | refine DD 15 ?_ | fail)
            all_goals (first | refine D1 16 ?_ | (refine DV (k := 16) (b := by first | exact U1 0 | exact U4 hm2) (c := ?_)) | (refine D3 16 (DW (b := by first | exact U1 0 | exact U4 hm2) (c := ?_))) | refine DD 16 ?_ | fail)
            all_goals (first | refine D1 17 ?_ | (refine DV (k := 17) (b := by first | exact U1 0 | exact U4 hm2) (c := ?_)) | refine DD 17 ?_ | fail)
            all_goals refine DD 18 ?_
            all_goals refine DD 19 ?_
            all_goals refine D8 ?_
            all_goals
              repeat' (first | refine KK ?_ | refine NB fun b => ?_ | ((refine KB ?_ ?_ <;> intro hp)) | refine KG ?_ | fail)
            all_goals first
              | exact ret_s rfl rfl (congrArg _ hE)
              | (exfalso; omega)
          · rw [if_neg hz] at hE
            repeat' (first | refine KK ?_ | refine NB fun b => ?_ | ((refine KB ?_ ?_ <;> intro hp)) | refine KG ?_ | fail)
            refine gc_draw 20 _ (by kernel_rfl) rfl (List.Sublist.cons_cons _ (List.nil_sublist _)) ?_
            all_goals refine DD 0 ?_
            all_goals (first | refine D1 1 ?_ | (refine DV (k := 1) (b := by first | exact U1 0 | exact U4 hm2) (c := ?_)) | refine DD 1 ?_ | fail)
            all_goals (first | refine D1 2 ?_ | (refine DV (k := 2) (b := by first | exact U1 0 | exact U4 hm2) (c := ?_)) | refine DD 2 ?_ | fail)
            all_goals refine DD 3 ?_
            all_goals (try (refine D7 4 ?_; (repeat' (first | refine KO ?_ | (refine KB ?_ ?_ <;> intro hp)))))
            all_goals (first | refine D1 4 ?_ | (refine DV (k := 4) (b := by first | exact U1 0 | exact U4 hm2) (c := ?_)) | refine DD 4 ?_ | fail)
            all_goals (first | refine D1 5 ?_ | (refine DV (k := 5) (b := by first | exact U1 0 | exact U4 hm2) (c := ?_)) | (refine D3 5 (DW (b := by first | exact U1 0 | exact U4 hm2) (c := ?_))) | refine DD 5 ?_ | fail)
            all_goals refine DD 6 ?_
            all_goals (first | refine D1 7 ?_ | (refine DV (k := 7) (b := by first | exact U1 0 | exact U4 hm2) (c := ?_)) | refine DD 7 ?_ | fail)
            all_goals (first | refine D1 8 ?_ | (refine DV (k := 8) (b := by first | exact U1 0 | exact U4 hm2) (c := ?_)) | (refine D3 8 (DW (b := by first | exact U1 0 | exact U4 hm2) (c := ?_))) | refine DD 8 ?_ | fail)
            all_goals (first | (refine D3 9 ?_; refine D5 ?_; (with_reducible apply C1); exact rfl; exact EN; exact fun w μc hw hse => hcall w μc hw hse.le; refine D9 ?_) | refine D3 9 (D6 ?_))
            all_goals refine DD 10 ?_
            all_goals refine DD 11 ?_
            all_goals (try (refine D7 12 ?_; (repeat' (first | refine KO ?_ | (refine KB ?_ ?_ <;> intro hp)))))
            all_goals refine DD 12 ?_
            all_goals (first | refine D1 13 ?_ | (refine DV (k := 13) (b := by first | exact U1 0 | exact U4 hm2) (c := ?_)) | refine DD 13 ?_ | fail)
            all_goals refine DD 14 ?_
            all_goals (try (refine D7 15 ?_; (repeat' (first | refine KO ?_ | (refine KB ?_ ?_ <;> intro hp)))))
            all_goals (first | refine D1 15 ?_ | (refine DV (k := 15) (b := by first | exact U1 0 | exact U4 hm2) (c := ?_)) | refine DD 15 ?_ | fail)
            all_goals (first | refine D1 16 ?_ | (refine DV (k := 16) (b := by first | exact U1 0 | exact U4 hm2) (c := ?_)) | (refine D3 16 (DW (b := by first | exact U1 0 | exact U4 hm2) (c := ?_))) | refine DD 16 ?_ | fail)
            all_goals (first | refine D1 17 ?_ | (refine DV (k := 17) (b := by first | exact U1 0 | exact U4 hm2) (c := ?_)) | refine DD 17 ?_ | fail)
            all_goals refine DD 18 ?_
            all_goals refine DD 19 ?_
            all_goals refine D8 ?_
            all_goals
              repeat' (first | refine KK ?_ | refine NB fun b => ?_ | ((refine KB ?_ ?_ <;> intro hp)) | refine KG ?_ | fail)
            all_goals first
              | exact J2 (i + 1, j2, _, _) ⟨by show i + 1 ≤ m; omega, hj2, hk2, hE⟩ (by show m - (i + 1) < m - i; omega)
              | (exfalso; omega)
    · obtain rfl : j2 = n := by omega
      have hdt : ks.drop j2 = [] := List.drop_of_length_le (by omega)
      have hE := hend _ (by rw [hdt, eatF]) hdt.symm
      by_cases hz : cnt = 0 ∧ mm = 0
      · rw [if_pos hz] at hE
        repeat' (first | refine KK ?_ | refine NB fun b => ?_ | ((refine KB ?_ ?_ <;> intro hp)) | refine KG ?_ | fail)
        refine gc_draw 20 _ (by kernel_rfl) rfl (List.Sublist.cons_cons _ (List.nil_sublist _)) ?_
        all_goals refine DD 0 ?_
        all_goals (first | refine D1 1 ?_ | (refine DV (k := 1) (b := by first | exact U1 0) (c := ?_)) | refine DD 1 ?_ | fail)
        all_goals (first | refine D1 2 ?_ | (refine DV (k := 2) (b := by first | exact U1 0) (c := ?_)) | refine DD 2 ?_ | fail)
        all_goals refine DD 3 ?_
        all_goals (try (refine D7 4 ?_; (repeat' (first | refine KO ?_ | (refine KB ?_ ?_ <;> intro hp)))))
        all_goals (first | refine D1 4 ?_ | (refine DV (k := 4) (b := by first | exact U1 0) (c := ?_)) | refine DD 4 ?_ | fail)
        all_goals (first | refine D1 5 ?_ | (refine DV (k := 5) (b := by first | exact U1 0) (c := ?_)) | (refine D3 5 (DW (b := by first | exact U1 0) (c := ?_))) | refine DD 5 ?_ | fail)
        all_goals refine DD 6 ?_
        all_goals (first | refine D1 7 ?_ | (refine DV (k := 7) (b := by first | exact U1 0) (c := ?_)) | refine DD 7 ?_ | fail)
        all_goals (first | refine D1 8 ?_ | (refine DV (k := 8) (b := by first | exact U1 0) (c := ?_)) | (refine D3 8 (DW (b := by first | exact U1 0) (c := ?_))) | refine DD 8 ?_ | fail)
        all_goals (first | (refine D3 9 ?_; refine D5 ?_; (with_reducible apply C1); exact rfl; exact EN; fail; refine D9 ?_) | refine D3 9 (D6 ?_))
        all_goals refine DD 10 ?_
        all_goals refine DD 11 ?_
        all_goals (try (refine D7 12 ?_; (repeat' (first | refine KO ?_ | (refine KB ?_ ?_ <;> intro hp)))))
        all_goals refine DD 12 ?_
        all_goals (first | refine D1 13 ?_ | (refine DV (k := 13) (b := by first | exact U1 0) (c := ?_)) | refine DD 13 ?_ | fail)
        all_goals refine DD 14 ?_
        all_goals (try (refine D7 15 ?_; (repeat' (first | refine KO ?_ | (refine KB ?_ ?_ <;> intro hp)))))
        all_goals (first | refine D1 15 ?_ | (refine DV (k := 15) (b := by first | exact U1 0) (c := ?_)) | refine DD 15 ?_ | fail)
        all_goals (first | refine D1 16 ?_ | (refine DV (k := 16) (b := by first | exact U1 0) (c := ?_)) | (refine D3 16 (DW (b := by first | exact U1 0) (c := ?_))) | refine DD 16 ?_ | fail)
        all_goals (first | refine D1 17 ?_ | (refine DV (k := 17) (b := by first | exact U1 0) (c := ?_)) | refine DD 17 ?_ | fail)
        all_goals refine DD 18 ?_
        all_goals refine DD 19 ?_
        all_goals refine D8 ?_
        all_goals
          repeat' (first | refine KK ?_ | refine NB fun b => ?_ | ((refine KB ?_ ?_ <;> intro hp)) | refine KG ?_ | fail)
        all_goals first
          | exact ret_s rfl rfl (congrArg _ hE)
          | (exfalso; omega)
      · rw [if_neg hz] at hE
        repeat' (first | refine KK ?_ | refine NB fun b => ?_ | ((refine KB ?_ ?_ <;> intro hp)) | refine KG ?_ | fail)
        refine gc_draw 20 _ (by kernel_rfl) rfl (List.Sublist.cons_cons _ (List.nil_sublist _)) ?_
        all_goals refine DD 0 ?_
        all_goals (first | refine D1 1 ?_ | (refine DV (k := 1) (b := by first | exact U1 0) (c := ?_)) | refine DD 1 ?_ | fail)
        all_goals (first | refine D1 2 ?_ | (refine DV (k := 2) (b := by first | exact U1 0) (c := ?_)) | refine DD 2 ?_ | fail)
        all_goals refine DD 3 ?_
        all_goals (try (refine D7 4 ?_; (repeat' (first | refine KO ?_ | (refine KB ?_ ?_ <;> intro hp)))))
        all_goals (first | refine D1 4 ?_ | (refine DV (k := 4) (b := by first | exact U1 0) (c := ?_)) | refine DD 4 ?_ | fail)
        all_goals (first | refine D1 5 ?_ | (refine DV (k := 5) (b := by first | exact U1 0) (c := ?_)) | (refine D3 5 (DW (b := by first | exact U1 0) (c := ?_))) | refine DD 5 ?_ | fail)
        all_goals refine DD 6 ?_
        all_goals (first | refine D1 7 ?_ | (refine DV (k := 7) (b := by first | exact U1 0) (c := ?_)) | refine DD 7 ?_ | fail)
        all_goals (first | refine D1 8 ?_ | (refine DV (k := 8) (b := by first | exact U1 0) (c := ?_)) | (refine D3 8 (DW (b := by first | exact U1 0) (c := ?_))) | refine DD 8 ?_ | fail)
        all_goals (first | (refine D3 9 ?_; refine D5 ?_; (with_reducible apply C1); exact rfl; exact EN; fail; refine D9 ?_) | refine D3 9 (D6 ?_))
        all_goals refine DD 10 ?_
        all_goals refine DD 11 ?_
        all_goals (try (refine D7 12 ?_; (repeat' (first | refine KO ?_ | (refine KB ?_ ?_ <;> intro hp)))))
        all_goals refine DD 12 ?_
        all_goals (first | refine D1 13 ?_ | (refine DV (k := 13) (b := by first | exact U1 0) (c := ?_)) | refine DD 13 ?_ | fail)
        all_goals refine DD 14 ?_
        all_goals (try (refine D7 15 ?_; (repeat' (first | refine KO ?_ | (refine KB ?_ ?_ <;> intro hp)))))
        all_goals (first | refine D1 15 ?_ | (refine DV (k := 15) (b := by first | exact U1 0) (c := ?_)) | refine DD 15 ?_ | fail)
        all_goals (first | refine D1 16 ?_ | (refine DV (k := 16) (b := by first | exact U1 0) (c := ?_)) | (refine D3 16 (DW (b := by first | exact U1 0) (c := ?_))) | refine DD 16 ?_ | fail)
        all_goals (first | refine D1 17 ?_ | (refine DV (k := 17) (b := by first | exact U1 0) (c := ?_)) | refine DD 17 ?_ | fail)
        all_goals refine DD 18 ?_
        all_goals refine DD 19 ?_
        all_goals refine D8 ?_
        all_goals
          repeat' (first | refine KK ?_ | refine NB fun b => ?_ | ((refine KB ?_ ?_ <;> intro hp)) | refine KG ?_ | fail)
        all_goals first
          | exact J2 (i + 1, j2, _, _) ⟨by show i + 1 ≤ m; omega, hj2, hk2, hE⟩ (by show m - (i + 1) < m - i; omega)
          | (exfalso; omega)
  · obtain rfl : i = m := by omega
    rw [List.drop_of_length_le (by omega)] at hRj
    have hR2 : decide (n - j = 0) = R := by rw [← hRj, ← hkn, ← List.length_drop]; rfl
    repeat' (first | refine KK ?_ | refine NB fun b => ?_ | ((refine KB ?_ ?_ <;> intro hp)) | refine KG ?_ | fail)
    refine ret_s rfl rfl ?_
    rw [← hR2]
    congr 1
    simp
    try omega
end Go.Proofs.YtfabmichdhbiaaaGreatDoor
namespace Go.Proofs.YtfabmichdhbiaaaGreatDoor
open Go.RowKit Go.Vcg
def bodyT (t : T) : T → Bool := if hasT t 128 = true then exprT else ofT [6]
def keyT (t : T) : T → Bool := if t.m = 1 then exprT else ofT [31, 30]
def argsT : T → Bool := eiT [exprT, ofT [41]]
theorem Cls.form {μ : Mem} {v : Value} {p : T → Bool} (h : Cls μ v p) : ∃ (f : FuncId) (cap : List Value), v = .func (.func f) #[] cap.toArray := let ⟨f, cap, e, _⟩ := h; ⟨f, cap, e⟩
theorem cls_expr (μ : Mem) : Cls μ (.func (.func 55) #[] #[]) exprT := Cls.of expression_spec (by kernel_rfl) μ
attribute [local irreducible] G GC GQ GA GAop Calls IntKind.wrap Int.decLt Int.decLe
theorem body_spec (t : T) (u : Value) (w : World) (μ : Mem) (hμ : MOk μ w) (hk : KR μ t.kids u) (hs : t.size ≤ 100000) :
    Calls Tryz.prog 66 #[.agg (encT t u).toArray] w fun e w' => ∃ v μ', e = .returned v ∧ Grow w w' μ μ' ∧ OfPost (bodyT t) μ' v := by
  have ho := hk.one
  refine call_intro (args := [.agg (encT t u).toArray]) Tryz.func66 rfl Tryz.ntmps66 (by simp) hμ ?_
  unfold bodyT
  cases hh : hasT t 128
  · rw [if_neg (by simp)]
    repeat' (first | refine KO ?_ | ((with_reducible apply F1 87); exact rfl; exact EN; (exact fun w μc hw hse => hh ▸ tHas_spec 128 t u w μc hw (hk.mono hse.le) hs)) | (refine CF 56 ?_; (with_reducible apply g_share); exact rfl; intro μs hles hshs; (with_reducible apply g_enter_m); exact rfl; exact rfl; exact rfl; ((with_reducible apply e_call1); kernel_rfl; exact rfl); (exact fun w hw => of_spec [6] _ _ _ w _ hw (sl_lit hshs rfl (by simp) (by repeat first | exact lc_nil | refine lc_cons rfl ?_)) (by omega)); rintro v3 μ3 hle3 hc3) | refine KI ?_ | refine NB fun b => ?_ | ((refine KB ?_ ?_ <;> intro hp)) | refine KG ?_ | fail)
    exact ret_m1 rfl (rv_tmp rfl) (fun μ' hle' hL => Cls.mono hc3 hle')
  · rw [if_pos rfl]
    repeat' (first | refine KO ?_ | ((with_reducible apply F1 87); exact rfl; exact EN; (exact fun w μc hw hse => hh ▸ tHas_spec 128 t u w μc hw (hk.mono hse.le) hs)) | refine KI ?_ | refine NB fun b => ?_ | ((refine KB ?_ ?_ <;> intro hp)) | refine KG ?_ | fail)
    exact ret_m1 rfl (rv_tmp rfl) (fun μ' hle' hL => cls_expr μ')
theorem key_spec (t : T) (u : Value) (w : World) (μ : Mem) (hμ : MOk μ w) (hk : KR μ t.kids u) :
    Calls Tryz.prog 96 #[.agg (encT t u).toArray] w fun e w' => ∃ v μ', e = .returned v ∧ Grow w w' μ μ' ∧ OfPost (keyT t) μ' v := by
  have ho := hk.one
  refine call_intro (args := [.agg (encT t u).toArray]) Tryz.func96 rfl Tryz.ntmps96 (by simp) hμ ?_
  unfold keyT
  by_cases h1 : t.m = 1
  · rw [if_pos h1]
    repeat' (first | refine KK ?_ | refine NB fun b => ?_ | ((refine KB ?_ ?_ <;> intro hp)) | refine KG ?_ | fail)
    exact ret_m1 rfl (rv_tmp rfl) (fun μ' hle' hL => cls_expr μ')
  · rw [if_neg h1]
    repeat' (first | refine KO ?_ | (refine CF 56 ?_; (with_reducible apply g_share); exact rfl; intro μs hles hshs; (with_reducible apply g_enter_m); exact rfl; exact rfl; exact rfl; ((with_reducible apply e_call1); kernel_rfl; exact rfl); (exact fun w hw => of_spec [31, 30] _ _ _ w _ hw (sl_lit hshs rfl (by simp) (by repeat first | exact lc_nil | refine lc_cons rfl ?_)) (by omega)); rintro v3 μ3 hle3 hc3) | refine KI ?_ | refine NB fun b => ?_ | ((refine KB ?_ ?_ <;> intro hp)) | refine KG ?_ | fail)
    exact ret_m1 rfl (rv_tmp rfl) (fun μ' hle' hL => Cls.mono hc3 hle')
theorem args_spec (w : World) (μ : Mem) (hμ : MOk μ w) :
    Calls Tryz.prog 62 #[] w fun e w' => ∃ v μ', e = .returned v ∧ Grow w w' μ μ' ∧ OfPost argsT μ' v := by
  refine call_intro (args := []) Tryz.func62 rfl Tryz.ntmps62 (by simp) hμ ?_
  repeat' (first | refine KO ?_ | (refine CF 56 ?_; (with_reducible apply g_share); exact rfl; intro μs hles hshs; (with_reducible apply g_enter_m); exact rfl; exact rfl; exact rfl; ((with_reducible apply e_call1); kernel_rfl; exact rfl); (exact fun w hw => of_spec [41] _ _ _ w _ hw (sl_lit hshs rfl (by simp) (by repeat first | exact lc_nil | refine lc_cons rfl ?_)) (by omega)); rintro v3 μ3 hle3 hc3; (obtain ⟨f3, cap3, rfl⟩ := Cls.form hc3)) | (refine CF 54 ?_; (with_reducible apply g_share); exact rfl; intro μt hlet hsht; (with_reducible apply g_enter_m); exact rfl; exact rfl; exact rfl; ((with_reducible apply e_call1); kernel_rfl; exact rfl); (exact fun w hw => either_spec [.func (.func 55) #[] #[], .func (.func f3) #[] cap3.toArray] [exprT, ofT [41]] _ _ _ w _ hw (sl_lit hsht rfl (by simp) (by repeat first | exact lc_nil | refine lc_cons rfl ?_)) (Clss.cons (cls_expr _) (Clss.cons (Cls.mono hc3 hlet) (Clss.nil _))) (by omega)); rintro v4 μ4 hle4 hc4) | refine KI ?_ | refine NB fun b => ?_ | ((refine KB ?_ ?_ <;> intro hp)) | refine KG ?_ | fail)
  exact ret_m1 rfl (rv_tmp rfl) (fun μ' hle' hL => Cls.mono hc4 hle')
end Go.Proofs.YtfabmichdhbiaaaGreatDoor
namespace Go.Proofs.YtfabmichdhbiaaaGreatDoor
open Go.RowKit Go.Vcg
def tmOk (i : Nat) (e : T → Bool) (t : T) : Prop := if i % 2 = 0 then t.op = 31 else e t = true
def templP (e : T → Bool) (ks : List T) : Prop := ks.length % 2 = 1 ∧ ∀ (i : Nat) (t : T), ks[i]? = some t → tmOk i e t
noncomputable def templB (e : T → Bool) (ks : List T) : Bool := dB (templP e ks)
theorem templB_t {e : T → Bool} {ks : List T} (h : templP e ks) : templB e ks = true := by unfold templB; exact dB_t h
theorem templB_f {e : T → Bool} {ks : List T} (h : ¬templP e ks) : templB e ks = false := by unfold templB; exact dB_f h
inductive Chained : T → Prop
  | one {t : T} (h : linkT t = true) (hn : t.n = 1) : Chained t
  | more {t k : T} (h : linkT t = true) (hk : t.kids[0]? = some k) (hc : Chained k) : Chained t
noncomputable def chB (t : T) : Bool := dB (Chained t)
theorem chB_t {t : T} (h : Chained t) : chB t = true := by unfold chB; exact dB_t h
theorem chB_f {t : T} (h : ¬Chained t) : chB t = false := by unfold chB; exact dB_f h
theorem ch_link {t : T} (h : linkT t = false) : ¬Chained t := fun hc => by
  cases hc with
  | one h2 _ => rw [h] at h2; cases h2
  | more h2 _ _ => rw [h] at h2; cases h2
theorem ch_nil {t : T} (h : t.n ≠ 1) (hk : t.kids[0]? = none) : ¬Chained t := fun hc => by
  cases hc with
  | one _ h2 => exact h h2
  | more _ h2 _ => rw [hk] at h2; cases h2
theorem ch_iff {t k : T} (hl : linkT t = true) (h : t.n ≠ 1) (hk : t.kids[0]? = some k) : Chained t ↔ Chained k := by
  constructor
  · intro hc
    cases hc with
    | one _ h2 => exact absurd h2 h
    | more _ h2 h3 => rw [hk] at h2; cases h2; exact h3
  · exact fun hc => .more hl hk hc
noncomputable def chainT (ks : List T) : Bool := match ks with | [k] => chB k | _ => false
inductive Sh' : T → Prop
  | mk {t : T} (h : t.s.size ≤ 65536) (hk : ∀ k ∈ t.kids, Sh' k) : Sh' t
theorem Sh'.s {t : T} (h : Sh' t) : t.s.size ≤ 65536 := by cases h; assumption
theorem Sh'.kid {t k : T} (h : Sh' t) (hk : k ∈ t.kids) : Sh' k := by
  cases h with
  | mk _ h => exact h k hk
attribute [local irreducible] templB chB G GC GQ GA GAop Calls IntKind.wrap Int.decLt Int.decLe
theorem template_spec (ks : List T) (A : Option Addr) (n c : Nat) (w : World) (μ : Mem) (hμ : MOk μ w) (hk : KR μ ks (.slice A n c)) (hkn : ks.length = n) (hn : n ≤ 100000) (hks : ∀ k ∈ ks, T.size k ≤ 100000 ∧ k.s.size ≤ 65536) :
    Calls Tryz.prog 52 #[.slice A n c] w fun e w' => e = .returned (.bool (templB exprT ks)) ∧ Below w.heap.size w w' := by
  refine call_intro (args := [.slice A n c]) Tryz.func52 rfl Tryz.ntmps52 (by simp) hμ ?_
  have hget : ∀ (i : Nat) (t : T), ks[i]? = some t → ∃ a u, A = some a ∧ MCells μ (a.add (i * 6)) (encT t u) ∧ u.oneCell' = true ∧ KR μ t.kids u := by
    obtain ⟨A', c', e, _, hg⟩ := hk.form
    cases e
    exact hg
  repeat' (first | refine KK ?_ | refine NB fun b => ?_ | ((refine KB ?_ ?_ <;> intro hp)) | refine KG ?_ | fail)
  refine gc_loop (ι := Nat) (fun i => i ≤ n ∧ ∀ (j : Nat) (t : T), j < i → ks[j]? = some t → tmOk j exprT t) (fun i => n - i) (fun _ => μ) (fun i => [(7, .int .i64 i), (6, .int .i64 n), (5, .slice A n c), (0, .slice A n c)]) (fun _ => []) 0 ⟨by omega, fun j _ h => absurd h (by omega)⟩ (fun a w hs => J6 hs) ?_
  rintro i ⟨hi, hok⟩
  by_cases hlt : i < n
  · have hkk : ks[i]? = some ks[i] := List.getElem?_eq_getElem (by omega)
    generalize ks[i] = t at hkk
    obtain ⟨ad, x, rfl, hm, ho, hkx⟩ := hget i t hkk
    have hts := hks t (List.mem_of_getElem? hkk)
    have hr : (i : Int).tmod 2 = ((i % 2 : Nat) : Int) := rfl
    have hcall := fun (w : World) (μc : Mem) (hw : MOk μc w) (hle : MLe μ μc) => expression_spec t x w μc hw (hkx.mono hle) hts.1 hts.2
    by_cases hp1 : tmOk i exprT t
    · have hnext : ∀ (j : Nat) (t : T), j < i + 1 → ks[j]? = some t → tmOk j exprT t := fun j t' hj ht => by
        rcases Nat.lt_or_ge j i with h | h
        · exact hok j t' h ht
        · obtain rfl : j = i := by omega
          rw [hkk] at ht
          cases ht
          exact hp1
      unfold tmOk at hp1
      by_cases h2 : i % 2 = 0
      · rw [if_pos h2] at hp1
        repeat' (first | refine KO ?_ | ((with_reducible apply C1); exact rfl; exact EN; exact fun w μc hw hse => hcall w μc hw hse.le) | (refine KV (b := by first | exact U1 i | exact U4 hm) (c := ?_)) | refine KI ?_ | refine NB fun b => ?_ | ((refine KB ?_ ?_ <;> intro hp)) | refine KG ?_ | fail)
        all_goals first
          | exact J2 (i + 1) ⟨by omega, hnext⟩ (by omega)
          | (exfalso; omega)
      · rw [if_neg h2] at hp1
        rw [hp1] at hcall
        repeat' (first | refine KO ?_ | ((with_reducible apply C1); exact rfl; exact EN; exact fun w μc hw hse => hcall w μc hw hse.le) | (refine KV (b := by first | exact U1 i | exact U4 hm) (c := ?_)) | refine KI ?_ | refine NB fun b => ?_ | ((refine KB ?_ ?_ <;> intro hp)) | refine KG ?_ | fail)
        all_goals first
          | exact J2 (i + 1) ⟨by omega, hnext⟩ (by omega)
          | (exfalso; omega)
    · rw [templB_f fun h => hp1 (h.2 i t hkk)]
      unfold tmOk at hp1
      by_cases h2 : i % 2 = 0
      · rw [if_pos h2] at hp1
        repeat' (first | refine KO ?_ | ((with_reducible apply C1); exact rfl; exact EN; exact fun w μc hw hse => hcall w μc hw hse.le) | (refine KV (b := by first | exact U1 i | exact U4 hm) (c := ?_)) | refine KI ?_ | refine NB fun b => ?_ | ((refine KB ?_ ?_ <;> intro hp)) | refine KG ?_ | fail)
        all_goals first
          | exact ret_s rfl rfl rfl
          | (exfalso; omega)
      · rw [if_neg h2] at hp1
        rw [Bool.not_eq_true _ |>.mp hp1] at hcall
        repeat' (first | refine KO ?_ | ((with_reducible apply C1); exact rfl; exact EN; exact fun w μc hw hse => hcall w μc hw hse.le) | (refine KV (b := by first | exact U1 i | exact U4 hm) (c := ?_)) | refine KI ?_ | refine NB fun b => ?_ | ((refine KB ?_ ?_ <;> intro hp)) | refine KG ?_ | fail)
        all_goals first
          | exact ret_s rfl rfl rfl
          | (exfalso; omega)
  · obtain rfl : i = n := by omega
    have hr : (i : Int).tmod 2 = ((i % 2 : Nat) : Int) := rfl
    have hg : templB exprT ks = decide ((i : Int).tmod 2 = 1) := by
      by_cases h : i % 2 = 1
      · rw [templB_t ⟨by rw [hkn]; exact h, fun j t hj => hok j t (by have := (List.getElem?_eq_some_iff.1 hj).1; omega) hj⟩]
        symm
        rw [decide_eq_true_eq]
        omega
      · rw [templB_f fun hf => h (by rw [← hkn]; exact hf.1)]
        symm
        rw [decide_eq_false_iff_not]
        omega
    rw [hg]
    repeat' (first | refine KK ?_ | refine NB fun b => ?_ | ((refine KB ?_ ?_ <;> intro hp)) | refine KG ?_ | fail)
    exact ret_s rfl rfl rfl
structure ChS where
  bb : Nat
  t : T
  u : Value
theorem chain_spec (ks : List T) (A : Option Addr) (n c : Nat) (w : World) (μ : Mem) (hμ : MOk μ w) (hk : KR μ ks (.slice A n c)) (hkn : ks.length = n) (hn : n ≤ 100000) (hks : ∀ k ∈ ks, T.size k ≤ 100000 ∧ Sh' k) :
    Calls Tryz.prog 63 #[.slice A n c] w fun e w' => e = .returned (.bool (chainT ks)) ∧ Below w.heap.size w w' := by
  refine call_intro (args := [.slice A n c]) Tryz.func63 rfl Tryz.ntmps63 (by simp) hμ ?_
  by_cases h1 : n = 1
  · subst h1
    obtain ⟨t0, rfl⟩ := List.length_eq_one_iff.1 hkn
    obtain ⟨A', c', e, _, hget⟩ := hk.form
    cases e
    obtain ⟨ad, x, rfl, hm, ho, hkx⟩ := hget 0 t0 rfl
    have hts := hks t0 (List.mem_singleton.2 rfl)
    have hg : chainT [t0] = chB t0 := rfl
    rw [hg]
    have hcall := fun (w : World) (μc : Mem) (hw : MOk μc w) (hle : MLe μ μc) => link_spec t0 x w μc hw (hkx.mono hle) hts.1 (hts.2.s)
    cases hl : linkT t0
    · rw [chB_f (ch_link hl)]
      rw [hl] at hcall
      repeat' (first | refine KO ?_ | ((with_reducible apply C1); exact rfl; exact EN; exact fun w μc hw hse => hcall w μc hw hse.le) | (refine KV (b := by first | exact U1 0 | exact U4 hm) (c := ?_)) | refine KI ?_ | refine NB fun b => ?_ | ((refine KB ?_ ?_ <;> intro hp)) | refine KG ?_ | fail)
      all_goals first | exact ret_s rfl rfl rfl | (exfalso; omega)
    · rw [hl] at hcall
      generalize hB : chB t0 = B
      repeat' (first | refine KO ?_ | ((with_reducible apply C1); exact rfl; exact EN; exact fun w μc hw hse => hcall w μc hw hse.le) | (refine KV (b := by first | exact U1 0 | exact U4 hm) (c := ?_)) | refine KI ?_ | refine NB fun b => ?_ | ((refine KB ?_ ?_ <;> intro hp)) | refine KG ?_ | fail)
      refine gc_loop (ι := ChS) (fun j => chB j.t = B ∧ KR μ j.t.kids j.u ∧ j.t.size ≤ 100000 ∧ Sh' j.t) (fun j => j.t.size) (fun _ => μ) (fun j => [(3, .pointer (some ⟨j.bb, 0, none⟩))]) (fun j => [.inl ⟨j.bb, 27, 6, idx 0 (encT j.t j.u)⟩]) ⟨b, t0, x⟩ ⟨hB, hkx, hts⟩ (fun a w hs => J5 hs) ?_
      clear hcall hl hB hts hkx ho hm hget hk hks
      rintro ⟨bb, t, u⟩ ⟨hB, hkt, hsz, hsh⟩
      dsimp only at hB hkt hsz hsh ⊢
      have hot := hkt.one
      obtain ⟨A2, c2, rfl, hlc2, hget⟩ := hkt.form
      have hlen := kidsLe t
      have hcall := fun (w : World) (μc : Mem) (hw : MOk μc w) (hle : MLe μ μc) => link_spec t _ w μc hw (hkt.mono hle) hsz hsh.s
      cases hl : linkT t
      · rw [chB_f (ch_link hl)] at hB
        subst hB
        rw [hl] at hcall
        repeat' (first | refine KO ?_ | ((with_reducible apply C1); exact rfl; exact EN; exact fun w μc hw hse => hcall w μc hw hse.le) | refine KI ?_ | refine NB fun b => ?_ | ((refine KB ?_ ?_ <;> intro hp)) | refine KG ?_ | fail)
        all_goals first | exact ret_s rfl rfl rfl | (exfalso; omega)
      · rw [hl] at hcall
        by_cases hn1 : t.n = 1
        · rw [chB_t (.one hl hn1)] at hB
          subst hB
          repeat' (first | refine KO ?_ | ((with_reducible apply C1); exact rfl; exact EN; exact fun w μc hw hse => hcall w μc hw hse.le) | refine KI ?_ | refine NB fun b => ?_ | ((refine KB ?_ ?_ <;> intro hp)) | refine KG ?_ | fail)
          all_goals first | exact ret_s rfl rfl rfl | (exfalso; omega)
        · by_cases h0 : t.kids.length = 0
          · rw [chB_f (ch_nil hn1 (by rw [List.getElem?_eq_none_iff]; omega))] at hB
            subst hB
            repeat' (first | refine KO ?_ | ((with_reducible apply C1); exact rfl; exact EN; exact fun w μc hw hse => hcall w μc hw hse.le) | refine KI ?_ | refine NB fun b => ?_ | ((refine KB ?_ ?_ <;> intro hp)) | refine KG ?_ | fail)
            all_goals first | exact ret_s rfl rfl rfl | (exfalso; omega)
          · have hk0 : t.kids[0]? = some t.kids[0] := List.getElem?_eq_getElem (by omega)
            generalize t.kids[0] = k at hk0
            obtain ⟨ad2, x2, rfl, hm2, ho2, hkx2⟩ := hget 0 k hk0
            have hks := T.size_kid hk0
            have hBk : chB k = B := by
              by_cases hc : Chained k
              · rw [chB_t hc, ← hB, chB_t ((ch_iff hl hn1 hk0).2 hc)]
              · rw [chB_f hc, ← hB, chB_f fun h => hc ((ch_iff hl hn1 hk0).1 h)]
            have hshk := hsh.kid (List.mem_of_getElem? hk0)
            repeat' (first | refine KO ?_ | ((with_reducible apply C1); exact rfl; exact EN; exact fun w μc hw hse => hcall w μc hw hse.le) | (refine KV (b := by first | exact U1 0 | exact U4 hm2) (c := ?_)) | refine KI ?_ | refine NB fun b => ?_ | ((refine KB ?_ ?_ <;> intro hp)) | refine KG ?_ | fail)
            all_goals first
              | exact J2 ⟨_, k, x2⟩ ⟨hBk, hkx2, (by show k.size ≤ 100000; omega), hshk⟩ hks
              | (exfalso; omega)
  · have hg : chainT ks = false := by
      unfold chainT
      split
      · exact absurd hkn.symm h1
      · rfl
    rw [hg]
    repeat' (first | refine KO ?_ | ((with_reducible apply C1); exact rfl; exact EN; fail) | refine KI ?_ | refine NB fun b => ?_ | ((refine KB ?_ ?_ <;> intro hp)) | refine KG ?_ | fail)
    all_goals first | exact ret_s rfl rfl rfl | (exfalso; omega)
end Go.Proofs.YtfabmichdhbiaaaGreatDoor
namespace Go.Proofs.YtfabmichdhbiaaaGreatDoor
open Go.RowKit Go.Vcg
theorem Clss.forms {μ : Mem} {vs : List Value} {ps : List (T → Bool)} (h : Clss μ vs ps) : ∀ v ∈ vs, ∃ (f : FuncId) (cap : List Value), v = .func (.func f) #[] cap.toArray := fun v hv => by
  obtain ⟨i, hi⟩ := List.mem_iff_getElem?.1 hv
  have hlt := (List.getElem?_eq_some_iff.1 hi).1
  have hlt2 : i < ps.length := by rw [← h.1]; exact hlt
  exact (h.2 i v ps[i] hi (List.getElem?_eq_getElem hlt2)).form
def Rws (μ : Mem) (parts : List (Value × Int)) (rows : List ((T → Bool) × Int)) : Prop := parts.length = rows.length ∧ ∀ (i : Nat) (x : Value × Int) (y : (T → Bool) × Int), parts[i]? = some x → rows[i]? = some y → x.2 = y.2 ∧ Cls μ x.1 y.1
theorem Rws.nil (μ : Mem) : Rws μ [] [] := ⟨rfl, fun i x y h => by simp at h⟩
theorem Rws.cons {μ : Mem} {v : Value} {p : T → Bool} {m : Int} {ps : List (Value × Int)} {rs : List ((T → Bool) × Int)} (h : Cls μ v p) (hr : Rws μ ps rs) : Rws μ ((v, m) :: ps) ((p, m) :: rs) :=
  ⟨by simp [hr.1], fun i x y hx hy => by
    cases i with
    | zero => simp at hx hy; subst hx; subst hy; exact ⟨rfl, h⟩
    | succ i => exact hr.2 i x y (by simpa using hx) (by simpa using hy)⟩
theorem Rws.each {μ : Mem} {vs : List Value} {ps : List (T → Bool)} (h : Clss μ vs ps) : Rws μ (vs.map fun v => (v, (0 : Int))) (ps.map fun p => (p, (0 : Int))) :=
  ⟨by simp [h.1], fun i x y hx hy => by
    rw [List.getElem?_map] at hx hy
    cases hv : vs[i]? with
    | none => rw [hv] at hx; cases hx
    | some v =>
      cases hp : ps[i]? with
      | none => rw [hp] at hy; cases hy
      | some p =>
        rw [hv] at hx
        rw [hp] at hy
        cases hx
        cases hy
        exact ⟨rfl, h.2 i v p hv hp⟩⟩
theorem fits_rows (parts : List (Value × Int)) (rows : List ((T → Bool) × Int)) (ks : List T) (A B : Option Addr) (c m d : Nat) (w : World) (μ : Mem) (hμ : MOk μ w) {n : Nat} (hk : KR μ ks (.slice A n c)) (hkn : ks.length = n) (hn : n ≤ 100000) (hS : Sl encP 2 μ B m parts) (_hl : parts.length = m) (hm : m ≤ 1000) (hr : Rws μ parts rows) (hks : ∀ k ∈ ks, T.size k ≤ 100000 ∧ k.s.size ≤ 65536) :
    Calls Tryz.prog 58 #[.slice A n c, .slice B m d] w fun e w' => e = .returned (.bool (fitP rows ks)) ∧ Below w.heap.size w w' :=
  fits_spec parts rows ks A B n c m d w μ hμ hk hkn hn hS hm (by rw [← hr.1]; exact hS.1) hr.2 hks
def eachP (ps : List (T → Bool)) : List ((T → Bool) × Int) := ps.map fun p => (p, (0 : Int))
theorem fits_each (vs : List Value) (ps : List (T → Bool)) (ks : List T) (A B : Option Addr) (c m d : Nat) (w : World) (μ : Mem) (hμ : MOk μ w) {n : Nat} (hk : KR μ ks (.slice A n c)) (hkn : ks.length = n) (hn : n ≤ 100000) (hS : Sl encP 2 μ B m (vs.map fun v => (v, (0 : Int)))) (_hl : vs.length = m) (hm : m ≤ 1000) (hr : Clss μ vs ps) (hks : ∀ k ∈ ks, T.size k ≤ 100000 ∧ k.s.size ≤ 65536) :
    Calls Tryz.prog 58 #[.slice A n c, .slice B m d] w fun e w' => e = .returned (.bool (fitP (eachP ps) ks)) ∧ Below w.heap.size w w' :=
  fits_rows _ _ ks A B c m d w μ hμ hk hkn hn hS (by simpa using _hl) hm (Rws.each hr) hks
theorem cls_target (μ : Mem) : Cls μ (.func (.func 61) #[] #[]) targetT := Cls.of target_spec (by kernel_rfl) μ
theorem cls_expression (μ : Mem) : Cls μ (.func (.func 55) #[] #[]) exprT := Cls.of expression_spec (by kernel_rfl) μ
theorem cls_statement (μ : Mem) : Cls μ (.func (.func 65) #[] #[]) stmtT := Cls.of statement_spec (by kernel_rfl) μ
theorem cls_simple (μ : Mem) : Cls μ (.func (.func 60) #[] #[]) simpleT := Cls.of simple_spec (by kernel_rfl) μ
theorem cls_left (μ : Mem) : Cls μ (.func (.func 67) #[] #[]) leftT := Cls.of left_spec (by kernel_rfl) μ
theorem cls_getter (μ : Mem) : Cls μ (.func (.func 97) #[] #[]) getT := Cls.of getter_spec (by kernel_rfl) μ
theorem cls_setter (μ : Mem) : Cls μ (.func (.func 98) #[] #[]) setT := Cls.of setter_spec (by kernel_rfl) μ
theorem cls_method (μ : Mem) : Cls μ (.func (.func 99) #[] #[]) methT := Cls.of method_spec (by kernel_rfl) μ
theorem cls_named (μ : Mem) : Cls μ (.func (.func 100) #[] #[]) namedT := Cls.of named_spec (by kernel_rfl) μ
end Go.Proofs.YtfabmichdhbiaaaGreatDoor
