/- The reference's own and numbers: rows that a loop fills. (and what leans on it). No statement of the seat is proved here. -/
import Derived.Test.YtnllooebophcpaaGreatDoorMp
import Derived.Test.YtnllooebophcpaaGreatDoorVw
import Derived.Test.YtnllooebophcpaaGreatDoorSt
set_option maxRecDepth 20000
set_option maxHeartbeats 2000000
namespace Go.Proofs.YtnllooebophcpaaGreatDoor
open Go.RowKit Go.Vcg
def rowT (f : Nat → Value) (z : Value) (n i : Nat) : List Value := (List.range n).map fun j => if j < i then f j else z
theorem rowT_len (f : Nat → Value) (z : Value) (n i : Nat) : (rowT f z n i).length = n := by simp [rowT]
theorem rowT_get {f : Nat → Value} {z : Value} {n i j : Nat} (hj : j < n) (hi : j < i) : (rowT f z n i)[j]? = some (f j) := by simp [rowT, hj, hi]
theorem rowT_zero (f : Nat → Value) (z : Value) (n : Nat) : rowT f z n 0 = List.replicate n z := by
  apply List.ext_getElem?
  intro j
  by_cases hj : j < n
  · simp [rowT, hj]
  · simp [rowT, hj]
theorem rowT_full (f : Nat → Value) (z : Value) (n : Nat) : rowT f z n n = (List.range n).flatMap fun j => [f j] := by
  have : ∀ l : List Nat, (l.flatMap fun j => [f j]) = l.map f := fun l => by induction l with
    | nil => rfl
    | cons x r ih => rw [List.flatMap_cons, ih]; rfl
  rw [this]
  refine List.map_congr_left fun j hj => ?_
  rw [if_pos (List.mem_range.1 hj)]
theorem rowT_set {f : Nat → Value} {z : Value} {n i : Nat} (h : i < n) : (rowT f z n i).take i ++ [f i] ++ (rowT f z n i).drop (i + 1) = rowT f z n (i + 1) := by
  apply List.ext_getElem?
  intro j
  have := get_splice (rowT f z n i) [f i] i j (by rw [rowT_len]; exact h)
  rw [show i + [f i].length = i + 1 from rfl] at this
  rw [this]
  by_cases hj : j < n
  · by_cases h1 : j < i
    · rw [if_pos h1, rowT_get hj h1, rowT_get hj (by omega)]
    · by_cases h2 : j < i + 1
      · have : j = i := by omega
        subst this
        rw [if_neg h1, if_pos h2, rowT_get hj (by omega), Nat.sub_self]
        rfl
      · rw [if_neg h1, if_neg h2]
        simp [rowT, hj, h1, h2]
  · have h1 : ¬ j < i := by omega
    have h2 : ¬ j < i + 1 := by omega
    rw [if_neg h1, if_neg h2]
    simp [rowT, hj]
theorem set_again {l : List Value} {i : Nat} {x : Value} (h : i < l.length) : (l.take i ++ [x] ++ l.drop (i + 1)).take i = l.take i ∧ (l.take i ++ [x] ++ l.drop (i + 1)).drop (i + 1) = l.drop (i + 1) := by
  have h1 : (l.take i).length = i := by simp; omega
  constructor
  · rw [List.append_assoc, List.take_append_of_le_length (by omega), List.take_of_length_le (by omega)]
  · rw [List.drop_append, List.drop_of_length_le (by simp; omega), List.nil_append]
    simp [h1]
attribute [local irreducible] G GC GQ GA GAop GI GCI Calls IntKind.wrap Int.decLt Int.decLe
theorem rLoop_spec (t : T) (u : Value) (w : World) (μ : Mem) (hμ : MOk μ w) (ho : u.oneCell' = true) :
    Calls Tryz.prog 18 #[.agg (encT t u).toArray] w fun e w' => e = .returned (.bool (loopT t)) ∧ Below w.heap.size w w' := by
  refine call_intro (args := [.agg (encT t u).toArray]) Tryz.func18 rfl Tryz.ntmps18 (by simp) hμ ?_
  repeat' (first | refine KK ?_ | refine NB fun b => ?_ | ((refine KB ?_ ?_ <;> intro hp)) | refine KG ?_ | fail)
  all_goals (refine ret_s rfl rfl ?_; simp [loopT]; omega)
theorem rMarks_spec (t : T) (u : Value) (w : World) (μ : Mem) (hμ : MOk μ w) (ho : u.oneCell' = true) :
    Calls Tryz.prog 26 #[.agg (encT t u).toArray] w fun e w' => e = .returned (.bool (marksT t)) ∧ Below w.heap.size w w' := by
  refine call_intro (args := [.agg (encT t u).toArray]) Tryz.func26 rfl Tryz.ntmps26 (by simp) hμ ?_
  have hl := fun (w : World) (μc : Mem) (hw : MOk μc w) => rLoop_spec t u w μc hw ho
  cases hlt : loopT t
  · rw [hlt] at hl
    repeat' (first | refine KO ?_ | ((with_reducible apply C1); exact rfl; exact EN; exact fun w μc hw hse => hl w μc hw) | refine KI ?_ | refine NB fun b => ?_ | ((refine KB ?_ ?_ <;> intro hp)) | refine KG ?_ | fail)
    all_goals (refine ret_s rfl rfl ?_; simp [marksT, hlt]; omega)
  · rw [hlt] at hl
    repeat' (first | refine KO ?_ | ((with_reducible apply C1); exact rfl; exact EN; exact fun w μc hw hse => hl w μc hw) | refine KI ?_ | refine NB fun b => ?_ | ((refine KB ?_ ?_ <;> intro hp)) | refine KG ?_ | fail)
    all_goals (refine ret_s rfl rfl ?_; simp [marksT, hlt])
end Go.Proofs.YtnllooebophcpaaGreatDoor
namespace Go.Proofs.YtnllooebophcpaaGreatDoor
open Go.RowKit Go.Vcg
theorem FL.at {μ : Mem} {E : List En} {v : Value} {es : List FE} (h : FL μ E v es) : E.length = es.length ∧ ∃ A c, v = .slice A es.length c ∧ ∀ i, i < es.length → ∃ ad e, A = some ad ∧ es[i]? = some e ∧ MCells μ (ad.add (i * 11)) (encF e) ∧ MCells μ (ad.add (i * 11)) (encT e.t e.u) ∧ eT E i = e.t ∧ KR μ e.t.kids e.u ∧ e.u.oneCell' = true ∧ (∀ x : En, E[i]? = some x → x.2 = e.up) ∧ E[i]? = some (e.t, e.up) ∧ eU E i = e.up.toNat := by
  obtain ⟨⟨A, c, h1, h2⟩, h3, h4⟩ := h
  subst h3
  refine ⟨by simp, A, c, h1, fun i hi => ?_⟩
  obtain ⟨ad, e, hA, he, hm⟩ := h2.get hi
  have hE : (es.map FE.key)[i]? = some e.key := by simp [he]
  have hk := h4 e (List.mem_of_getElem? he)
  refine ⟨ad, e, hA, he, hm, fun j x hj => hm j x ?_, by unfold eT; rw [hE]; rfl, hk, hk.one, fun x hx => by rw [hE] at hx; cases hx; rfl, hE, by unfold eU; rw [hE]; rfl⟩
  unfold encF
  rw [List.getElem?_append_left (List.getElem?_eq_some_iff.1 hj).1]
  exact hj
theorem own_zero (E : List En) : own E 0 = false := rfl
def encN (x : Int) : List Value := [.int .i64 x]
def encBo (x : Bool) : List Value := [.bool x]
theorem row_full {α : Type} {enc : α → List Value} {g : Nat → α} {f : Nat → Value} {z v : Value} {e n : Nat} {μ : Mem} (hf : ∀ x, enc (g x) = [f x]) (h : Bk.sh (.inr ⟨v, e, 1, n, rowT f z n n⟩) μ) : ∃ A c, v = .slice A n c ∧ Sl enc 1 μ A n ((List.range n).map g) := by
  obtain ⟨A, c, h1, h2⟩ := row_sl (enc := enc) (xs := (List.range n).map g) h (by simp) (fun x hx => by
    obtain ⟨j, _, rfl⟩ := List.mem_map.1 hx
    rw [hf]; rfl) (by rw [rowT_full, List.flatMap_map]; congr 1; funext j; exact (hf j).symm)
  exact ⟨A, c, h1, h2⟩
theorem rowT_set1 {f : Nat → Value} {z x : Value} {n i : Nat} (h : i < n) (hx : f i = x) (hc : x.cells.toList = [x] := by rfl) : (rowT f z n i).take (i * 1) ++ x.cells.toList ++ (rowT f z n i).drop (i * 1 + 1) = rowT f z n (i + 1) := by
  rw [Nat.mul_one, hc, ← hx]
  exact rowT_set h
theorem rowT_keep {f : Nat → Value} {z : Value} {n : Nat} (h : 0 < n) : (rowT f z n 0).take 0 ++ [z] ++ (rowT f z n 0).drop (0 + 1) = rowT f z n 0 := by
  rw [rowT_zero]
  cases n with
  | zero => omega
  | succ m => rfl
theorem rowT_end {f : Nat → Value} {z : Value} {n i : Nat} (h : i < n) (x : Value) (hc : x.cells.toList = [x]) : ((rowT f z n i).take (i * 1) ++ x.cells.toList ++ (rowT f z n i).drop (i * 1 + 1)).length = n := by
  rw [hc]
  simp [rowT_len]
  omega
theorem rowT_set2 {f : Nat → Value} {z x y : Value} {n i : Nat} (h : i < n) (hx : f i = x) (hc : x.cells.toList = [x] := by rfl) (hy : y.cells.toList = [y] := by rfl) :
    ((rowT f z n i).take (i * 1) ++ y.cells.toList ++ (rowT f z n i).drop (i * 1 + 1)).take (i * 1) ++ x.cells.toList ++ ((rowT f z n i).take (i * 1) ++ y.cells.toList ++ (rowT f z n i).drop (i * 1 + 1)).drop (i * 1 + 1) = rowT f z n (i + 1) := by
  have h' := set_again (l := rowT f z n i) (i := i) (x := y) (by rw [rowT_len]; exact h)
  rw [Nat.mul_one, hc, hy, h'.1, h'.2, ← hx]
  exact rowT_set h
attribute [local irreducible] rowT own flatN G GC GQ GA GAop GI GCI Calls IntKind.wrap Int.decLt Int.decLe
theorem in_spec (E : List En) (v : Value) (es : List FE) (w : World) (μ : Mem) (hμ : MOk μ w) (hF : FL μ E v es) (hup : UpOk E) (h0 : 0 < es.length) (hl : es.length ≤ 200000) :
    Calls Tryz.prog 15 #[v] w fun e w' => ∃ v μ', e = .returned v ∧ Grow w w' μ μ' ∧ ∃ A c, v = .slice A es.length c ∧ Sl encBo 1 μ' A es.length ((List.range es.length).map (own E)) := by
  obtain ⟨hEl, A, c, rfl, hat⟩ := hF.at
  obtain ⟨f, hf⟩ : ∃ f : Nat → Value, f = fun j => .bool (own E j) := ⟨_, rfl⟩
  refine call_intro (args := [.slice A es.length c]) Tryz.func15 rfl Tryz.ntmps15 (by simp) hμ ?_
  repeat' (first | refine KK ?_ | ((refine KB ?_ ?_ <;> intro hp)) | refine KG ?_ | fail)
  refine g_mkrow (z := .bool false) (bytes := 1) es.length (rowT f (.bool false) es.length 0) (by exact rfl) (by exact rfl) (by exact rfl) (by exact rfl) rfl rfl (by exact rfl) (by exact rfl) (by exact rfl) (by omega) (by omega) (rowT_zero _ _ _) (fun b => ?_)
  repeat' (first | refine KK ?_ | ((refine KB ?_ ?_ <;> intro hp)) | refine KG ?_ | fail)
  have hown0 : f 0 = .bool false := by
    rw [hf]
    exact congrArg Value.bool (own_zero E)
  have h01 : rowT f (.bool false) es.length 1 = rowT f (.bool false) es.length 0 := by rw [← rowT_set h0, hown0]; exact rowT_keep h0
  refine gc_loop (ι := Nat) (fun i => 1 ≤ i ∧ i ≤ es.length) (fun i => es.length - i) (fun _ => μ) (fun i => [(0, .slice A es.length c), (3, .slice (some ⟨b, 0, none⟩) es.length es.length), (4, .int .i64 i)])
    (fun i => [.inr ⟨.slice (some ⟨b, 0, none⟩) es.length es.length, 4, 1, es.length, rowT f (.bool false) es.length i⟩]) 1 ⟨Nat.le_refl _, h0⟩ (fun a w hs => (hs.rowEq (i := 0) rfl rfl h01.symm).sel PU PS) ?_
  rintro i ⟨hi1, hil⟩
  by_cases hlt : i < es.length
  · obtain ⟨ad, e, rfl, he, hm, hmN, hET, hkr, ho, hx, hEi, hEU⟩ := hat i hlt
    have hu := hup i _ hEi (by omega)
    dsimp only at hu
    obtain ⟨k, hk⟩ : ∃ k : Nat, e.up = k := ⟨e.up.toNat, by omega⟩
    have hki : k < i := by omega
    have hEUk : eU E i = k := by rw [hEU, hk]; rfl
    obtain ⟨ad2, e2, hA2, he2, hm2, hmN2, hET2, _⟩ := hat k (by omega)
    cases hA2
    have hoe := own_eq E (i := i) (by omega) (by omega)
    rw [hEUk, hET2] at hoe
    have hgk : (rowT f (.bool false) es.length i)[k * 1]? = some (.bool (own E k)) := by rw [Nat.mul_one, rowT_get (by omega) hki, hf]
    have hfi : f i = .bool (own E i) := by rw [hf]
    rw [hoe] at hfi
    by_cases hk0 : k = 0
    · subst hk0
      simp at hfi
      repeat' (first | refine KO ?_ | ((with_reducible apply g_store_row 0); exact rfl; exact rfl; exact rfl; exact rfl; exact rfl; exact rfl; exact rfl; (rw [rowT_len]; omega)) | (refine KV (b := by first | exact U1 i | exact U4 hm) (c := ?_)) | refine KI ?_ | ((refine KB ?_ ?_ <;> intro hp)) | refine KG ?_ | fail)
      all_goals first | (exfalso; omega) | skip
      all_goals refine gq_rowEq (n' := es.length) (xs' := rowT f (.bool false) es.length (i + 1)) 0 rfl rfl (rowT_set1 hlt hfi) ?_
      all_goals exact J2 (i + 1) ⟨by omega, by omega⟩ (by omega)
    · have hd0 : decide (k = 0) = false := by simp [hk0]
      rw [hd0, Bool.false_or] at hfi
      cases hok : own E k
      · rw [hok] at hfi hgk
        repeat' (first | refine KO ?_ | ((with_reducible apply g_store_row 0); exact rfl; exact rfl; exact rfl; exact rfl; exact rfl; exact rfl; exact rfl; (rw [rowT_len]; omega)) | (refine KV (b := by first | exact U1 i | exact U1 k | exact U4 hm | ((with_reducible apply v_load_row 0); exact rfl; exact rfl; exact rfl; exact hgk)) (c := ?_)) | refine KI ?_ | ((refine KB ?_ ?_ <;> intro hp)) | refine KG ?_ | fail)
        all_goals first | (exfalso; omega) | skip
        all_goals refine gq_rowEq (n' := es.length) (xs' := rowT f (.bool false) es.length (i + 1)) 0 rfl rfl (rowT_set1 hlt hfi) ?_
        all_goals exact J2 (i + 1) ⟨by omega, by omega⟩ (by omega)
      · rw [hok, Bool.true_and] at hfi
        rw [hok] at hgk
        repeat' (first | refine KO ?_ | ((with_reducible apply g_store_row 0); exact rfl; exact rfl; exact rfl; exact rfl; exact rfl; exact rfl; exact rfl; (rw [rowT_len]; omega)) | (refine KV (b := by first | exact U1 i | exact U1 k | exact U4 hm | exact U4 hm2 | ((with_reducible apply v_load_row 0); exact rfl; exact rfl; exact rfl; exact hgk)) (c := ?_)) | refine KI ?_ | ((refine KB ?_ ?_ <;> intro hp)) | refine KG ?_ | fail)
        all_goals first | (exfalso; omega) | skip
        all_goals refine gq_rowEq (n' := es.length) (xs' := rowT f (.bool false) es.length (i + 1)) 0 rfl rfl (rowT_set1 hlt hfi) ?_
        all_goals exact J2 (i + 1) ⟨by omega, by omega⟩ (by omega)
  · have hi : i = es.length := by omega
    subst hi
    repeat' (first | refine KK ?_ | ((refine KB ?_ ?_ <;> intro hp)) | refine KG ?_ | fail)
    refine ret_m1 rfl (rv_tmp rfl) (fun μ' hle' hsh => ?_)
    exact row_full (g := own E) (fun x => by rw [hf]; rfl) (hsh _ (List.mem_cons_self ..))
theorem num_own {E : List En} {i : Nat} {t : T} (h : eT E i = t) : numE E i = (if own E i = true ∧ marksT t = true then (nextE E i : Int) else -1) ∧ nextE E (i + 1) = nextE E i + (if own E i = true ∧ marksT t = true then (if loopT t then 2 else 1) else 0) := by
  subst h
  unfold numE
  rw [nextE, wt]
  cases own E i <;> cases marksT (eT E i) <;> simp
attribute [local irreducible] numE nextE
theorem numbers_spec (E : List En) (v v2 : Value) (es : List FE) (w : World) (μ : Mem) (hμ : MOk μ w) (hF : FL μ E v es) (hl : es.length ≤ 200000) (hn : ∀ i, nextE E i ≤ 2 * i) (hO : ∃ A c, v2 = .slice A es.length c ∧ Sl encBo 1 μ A es.length ((List.range es.length).map (own E))) :
    Calls Tryz.prog 16 #[v, v2] w fun e w' => ∃ v μ', e = .returned v ∧ Grow w w' μ μ' ∧ ∃ A c, v = .slice A es.length c ∧ Sl encN 1 μ' A es.length ((List.range es.length).map (numE E)) := by
  obtain ⟨hEl, A, c, rfl, hat⟩ := hF.at
  obtain ⟨A2, c2, rfl, hO⟩ := hO
  obtain ⟨f, hf⟩ : ∃ f : Nat → Value, f = fun j => .int .i64 (numE E j) := ⟨_, rfl⟩
  refine call_intro (args := [.slice A es.length c, .slice A2 es.length c2]) Tryz.func16 rfl Tryz.ntmps16 (by simp) hμ ?_
  repeat' (first | refine KK ?_ | ((refine KB ?_ ?_ <;> intro hp)) | refine KG ?_ | fail)
  refine g_mkrow (z := .int .i64 0) (bytes := 8) es.length (rowT f (.int .i64 0) es.length 0) (by exact rfl) (by exact rfl) (by exact rfl) (by exact rfl) rfl rfl (by exact rfl) (by exact rfl) (by exact rfl) (by omega) (by omega) (rowT_zero _ _ _) (fun b => ?_)
  repeat' (first | refine KK ?_ | ((refine KB ?_ ?_ <;> intro hp)) | refine KG ?_ | fail)
  refine gc_loop (ι := Nat × Nat) (fun i => i.1 ≤ es.length ∧ i.2 = nextE E i.1) (fun i => es.length - i.1) (fun _ => μ) (fun i => [(0, .slice A es.length c), (1, .slice A2 es.length c2), (5, .slice (some ⟨b, 0, none⟩) es.length es.length), (6, .int .i64 i.2), (7, .int .i64 i.1)])
    (fun i => [.inr ⟨.slice (some ⟨b, 0, none⟩) es.length es.length, 3, 1, es.length, rowT f (.int .i64 0) es.length i.1⟩]) (0, 0) ⟨Nat.zero_le _, by unfold nextE; rfl⟩ (fun a w hs => J5 hs) ?_
  rintro ⟨i, n⟩ ⟨hil, hni⟩
  dsimp only at hil hni ⊢
  by_cases hlt : i < es.length
  · obtain ⟨ad, e, rfl, he, hm, hmN, hET, hkr, ho, hx, hEi, hEU⟩ := hat i hlt
    obtain ⟨ad2, x2, rfl, hx2, hmo⟩ := hO.get hlt
    have hx2' : x2 = own E i := by simp [hlt] at hx2; exact hx2.symm
    have hnl := hn i
    obtain ⟨hn1, hn2⟩ := num_own hET
    have hfi : f i = .int .i64 (numE E i) := by rw [hf]
    rw [hn1] at hfi
    have hmk := fun (w : World) (μc : Mem) (hw : MOk μc w) => rMarks_spec e.t e.u w μc hw ho
    have hlo := fun (w : World) (μc : Mem) (hw : MOk μc w) => rLoop_spec e.t e.u w μc hw ho
    obtain ⟨m, hmm⟩ : ∃ m, marksT e.t = m := ⟨_, rfl⟩
    obtain ⟨lo, hll⟩ : ∃ lo, loopT e.t = lo := ⟨_, rfl⟩
    rw [hmm] at hmk hfi hn2
    rw [hll] at hlo hn2
    rw [← hx2'] at hfi hn2
    have hend := rowT_end (f := f) (z := .int .i64 0) hlt (.int .i64 (-1)) rfl
    cases x2 <;> cases m <;> cases lo
    all_goals simp at hfi hn2
    all_goals first
      | (repeat' (first | refine KO ?_ | ((with_reducible apply F1 26); exact rfl; exact EN; (exact fun w μc hw hse => hmk w μc hw)) | ((with_reducible apply F1 18); exact rfl; exact EN; (exact fun w μc hw hse => hlo w μc hw)) | ((with_reducible apply g_store_row 0); exact rfl; exact rfl; exact rfl; exact rfl; exact rfl; exact rfl; exact rfl; (first | (rw [rowT_len]; omega) | (rw [hend]; omega))) | (refine KV (b := by first | exact U1 i | exact U4 hmN | exact U3 (hmo.at 0 rfl)) (c := ?_)) | refine KI ?_ | ((refine KB ?_ ?_ <;> intro hp)) | refine KG ?_ | fail))
    all_goals first | (exfalso; omega) | skip
    all_goals refine gq_rowEq (n' := es.length) (xs' := rowT f (.int .i64 0) es.length (i + 1)) 0 rfl rfl (by subst hni; first | exact rowT_set1 hlt hfi | exact rowT_set2 hlt hfi) ?_
    all_goals first
      | exact J2 (i + 1, n) ⟨by dsimp only; omega, by dsimp only; omega⟩ (by dsimp only; omega)
      | exact J2 (i + 1, n + 1) ⟨by dsimp only; omega, by dsimp only; omega⟩ (by dsimp only; omega)
      | exact J2 (i + 1, n + 1 + 1) ⟨by dsimp only; omega, by dsimp only; omega⟩ (by dsimp only; omega)
  · have hi : i = es.length := by omega
    subst hi
    repeat' (first | refine KK ?_ | ((refine KB ?_ ?_ <;> intro hp)) | refine KG ?_ | fail)
    refine ret_m1 rfl (rv_tmp rfl) (fun μ' hle' hsh => ?_)
    exact row_full (g := numE E) (fun x => by rw [hf]; rfl) (hsh _ (List.mem_cons_self ..))
end Go.Proofs.YtnllooebophcpaaGreatDoor
namespace Go.Proofs.YtnllooebophcpaaGreatDoor
open Go.RowKit Go.Vcg
theorem eU_lt {E : List En} (hup : UpOk E) {k : Nat} (hk : k ≠ 0) : eU E k < k := by
  unfold eU
  cases h : E[k]? with
  | none => show (0 : Int).toNat < k; simp; omega
  | some x =>
    have := hup k x h hk
    show x.2.toNat < k
    omega
theorem around_fuel {E : List En} (hup : UpOk E) (name : ByteArray) (ag : Bool) : ∀ (F k F' : Nat), k < F → k < F' → aroundE E name ag F k = aroundE E name ag F' k
  | 0, k, F', h, _ => by omega
  | F + 1, k, 0, _, h => by omega
  | F + 1, k, F' + 1, h, h' => by
    unfold aroundE
    by_cases h0 : k = 0
    · rw [if_pos h0, if_pos h0]
    · have := eU_lt hup h0
      rw [if_neg h0, if_neg h0, around_fuel hup name ag F (eU E k) F' (by omega) (by omega)]
theorem around_le {E : List En} (hup : UpOk E) (name : ByteArray) (ag : Bool) : ∀ (F k : Nat), aroundE E name ag F k ≤ k
  | 0, k => Nat.zero_le _
  | F + 1, k => by
    unfold aroundE
    split
    · omega
    split
    · omega
    split
    · omega
    · rename_i h0 _ _
      have := eU_lt hup h0
      have := around_le hup name ag F (eU E k)
      omega
theorem around_step {E : List En} (hup : UpOk E) (name : ByteArray) (ag : Bool) {k : Nat} (hk : k < E.length) (h0 : k ≠ 0) : aroundE E name ag E.length k = if (eT E k).op = 4 then 0 else if hitT name ag (eT E k) then k else aroundE E name ag E.length (eU E k) := by
  have := eU_lt hup h0
  have h1 : aroundE E name ag (E.length + 1) k = aroundE E name ag E.length k := around_fuel hup name ag _ _ _ (by omega) hk
  rw [← h1]
  conv => lhs; unfold aroundE
  rw [if_neg h0]
theorem target_lt {E : List En} (hn : ∀ k, k < E.length → (eT E k).op = 23 → k + 1 < E.length) : ∀ (F k : Nat), k < E.length → targetE E F k < E.length
  | 0, k, h => h
  | F + 1, k, h => by
    unfold targetE
    split
    · rename_i h23
      exact target_lt hn F (k + 1) (hn k h h23)
    · exact h
theorem nextE_le (E : List En) : ∀ i, nextE E i ≤ 2 * i
  | 0 => Nat.le_refl _
  | i + 1 => by
    have := nextE_le E i
    have hw : wt (eT E i) ≤ 2 := by unfold wt; split <;> (try split) <;> omega
    rw [nextE]
    split <;> omega
theorem numE_le (E : List En) (i : Nat) : -1 ≤ numE E i ∧ numE E i ≤ 2 * i := by
  have := nextE_le E i
  unfold numE
  split <;> omega
theorem flat_size : ∀ (n : Nat) (t : T) (up : Int) (i : Nat), t.size ≤ n → ∀ (j : Nat) (x : En), (flatN n t up i)[j]? = some x → j + x.1.size ≤ t.size
  | 0, t, _, _, h => by rw [T.size_eq] at h; omega
  | n + 1, t, up, i, h => by
    have key : ∀ (ks : List T) (pa : Nat) (i : Nat), (∀ k ∈ ks, k.size ≤ n) → ∀ (j : Nat) (x : En), (flatKs (flatN n) ks pa i)[j]? = some x → j + x.1.size ≤ szs ks := by
      intro ks
      induction ks with
      | nil => intro pa i _ j x hx; simp [flatKs] at hx
      | cons k r ihr =>
        intro pa i hk j x hx
        rw [flatKs] at hx
        rw [szs_cons]
        have hl := flatN_len n k pa i (hk k (List.mem_cons_self ..))
        by_cases hj : j < k.size
        · rw [List.getElem?_append_left (by omega)] at hx
          have := flat_size n k pa i (hk k (List.mem_cons_self ..)) j x hx
          omega
        · rw [List.getElem?_append_right (by omega), hl] at hx
          have := ihr pa (i + k.size) (fun y hy => hk y (List.mem_cons_of_mem _ hy)) _ x hx
          omega
    intro j x hx
    cases j with
    | zero =>
      rw [flatN] at hx
      cases hx
      exact Nat.le_of_eq (Nat.zero_add _)
    | succ j =>
      rw [flatN, List.getElem?_cons_succ] at hx
      have := key t.kids i (i + 1) (fun k hk => size_kids_le h hk) j x hx
      have := t.size_kids
      omega
theorem flat_all {p : T → Prop} (hp : ∀ t k, p t → k ∈ t.kids → p k) : ∀ (n : Nat) (t : T) (up : Int) (i : Nat), p t → ∀ x ∈ flatN n t up i, p x.1
  | 0, _, _, _, _, x, hx => by cases hx
  | n + 1, t, up, i, h, x, hx => by
    have key : ∀ (ks : List T) (pa : Nat) (i : Nat), (∀ k ∈ ks, p k) → ∀ x ∈ flatKs (flatN n) ks pa i, p x.1 := by
      intro ks
      induction ks with
      | nil => intro pa i _ x hx; cases hx
      | cons k r ihr =>
        intro pa i hk x hx
        rw [flatKs] at hx
        rcases List.mem_append.1 hx with hx | hx
        · exact flat_all hp n k pa i (hk k (List.mem_cons_self ..)) x hx
        · exact ihr pa _ (fun y hy => hk y (List.mem_cons_of_mem _ hy)) x hx
    rw [flatN] at hx
    rcases List.mem_cons.1 hx with rfl | hx
    · exact h
    · exact key t.kids i (i + 1) (fun k hk => hp t k h hk) x hx
theorem flat_next {t : T} (hs : t.size ≤ 100000) (hrt : rtB t 1 false = true) : ∀ k, k < (flatT t).length → (eT (flatT t) k).op = 23 → k + 1 < (flatT t).length := by
  intro k hk h23
  have hx := List.getElem?_eq_getElem hk
  generalize (flatT t)[k] = x at hx
  rw [eT_get hx] at h23
  have hr : ∃ d sp, Rt x.1 d sp := flat_all (p := fun t => ∃ d sp, Rt t d sp) (fun t y ⟨d, sp, h⟩ hy => by
    obtain ⟨j, hj⟩ := List.mem_iff_getElem?.1 hy
    cases h with
    | mk _ _ _ hr => exact ⟨_, _, hr j y hj⟩) 100001 t (-1) 0 ⟨_, _, rtB_true hrt⟩ x (List.mem_of_getElem? hx)
  obtain ⟨d, sp, hr⟩ := hr
  have hl : x.1.kids.length = 1 := by
    cases hr with
    | mk _ _ h _ => exact stw_label h h23
  have hsz := flat_size 100001 t (-1) 0 (by omega) k x hx
  have h0 := T.size_kid (List.getElem?_eq_getElem (show 0 < x.1.kids.length by omega))
  have h1 : 0 < T.size (x.1.kids[0]'(by omega)) := by rw [T.size_eq]; omega
  rw [flatT_len hs]
  omega
theorem around_zero (E : List En) (name : ByteArray) (ag : Bool) : ∀ F, aroundE E name ag F 0 = 0
  | 0 => rfl
  | _ + 1 => by unfold aroundE; rw [if_pos rfl]
theorem target_fuel {E : List En} (hn : ∀ k, k < E.length → (eT E k).op = 23 → k + 1 < E.length) : ∀ (F k F' : Nat), k < E.length → E.length ≤ F + k → E.length ≤ F' + k → targetE E F k = targetE E F' k
  | 0, k, F', h, h1, _ => by omega
  | F + 1, k, 0, h, _, h2 => by omega
  | F + 1, k, F' + 1, h, h1, h2 => by
    unfold targetE
    by_cases h23 : (eT E k).op = 23
    · rw [if_pos h23, if_pos h23, target_fuel hn F (k + 1) F' (hn k h h23) (by omega) (by omega)]
    · rw [if_neg h23, if_neg h23]
theorem target_step {E : List En} (hn : ∀ k, k < E.length → (eT E k).op = 23 → k + 1 < E.length) {k : Nat} (hk : k < E.length) : targetE E E.length k = if (eT E k).op = 23 then targetE E E.length (k + 1) else k := by
  rw [← target_fuel hn (E.length + 1) k E.length hk (by omega) (by omega)]
  conv => lhs; unfold targetE
attribute [local irreducible] rowT own flatN aroundE targetE numE nextE G GC GQ GA GAop GI GCI Calls IntKind.wrap Int.decLt Int.decLe
theorem around_spec (E : List En) (v : Value) (es : List FE) (w : World) (μ : Mem) (hμ : MOk μ w) (hF : FL μ E v es) (hup : UpOk E) (hl : es.length ≤ 200000) (name : ByteArray) (ag : Bool) (i : Nat) (hi : i < es.length) (hi0 : 0 < i) :
    Calls Tryz.prog 17 #[v, .int .i64 i, .string name, .bool ag] w fun e w' => e = .returned (.int .i64 (aroundE E name ag E.length (eU E i) : Nat)) ∧ Below w.heap.size w w' := by
  obtain ⟨hEl, A, c, rfl, hat⟩ := hF.at
  obtain ⟨ad, e0, rfl, he0, hm0, hmN0, hET0, hkr0, ho0, hx0, hEi0, hEU0⟩ := hat i hi
  have hu0 := hup i _ hEi0 (by omega)
  dsimp only at hu0
  obtain ⟨k0, hk0⟩ : ∃ k : Nat, e0.up = k := ⟨e0.up.toNat, by omega⟩
  have hEU : eU E i = k0 := by rw [hEU0, hk0]; rfl
  rw [hEU]
  refine call_intro (args := [.slice (some ad) es.length c, .int .i64 i, .string name, .bool ag]) Tryz.func17 rfl Tryz.ntmps17 (by simp) hμ ?_
  repeat' (first | refine KO ?_ | (refine KV (b := by first | exact U1 i | exact U4 hm0) (c := ?_)) | refine KI ?_ | refine NB fun b => ?_ | ((refine KB ?_ ?_ <;> intro hp)) | refine KG ?_ | fail)
  simp only [hk0]
  refine gc_loop (ι := Nat) (fun k => k < es.length ∧ aroundE E name ag E.length k = aroundE E name ag E.length k0) (fun k => k) (fun _ => μ) (fun k => [(0, .slice (some ad) es.length c), (1, .int .i64 k), (2, .string name), (3, .bool ag)]) (fun _ => []) k0 ⟨by omega, rfl⟩ (fun a w hs => J5 hs) ?_
  rintro k ⟨hk, hJ⟩
  by_cases hk0 : k = 0
  · subst hk0
    rw [around_zero] at hJ
    repeat' (first | refine KK ?_ | refine NB fun b => ?_ | ((refine KB ?_ ?_ <;> intro hp)) | refine KG ?_ | fail)
    exact ret_s rfl rfl (by rw [← hJ]; rfl)
  · obtain ⟨ad2, e, hA2, he, hm, hmN, hET, hkr, ho, hx, hEi, hEU⟩ := hat k hk
    cases hA2
    have hu := hup k _ hEi hk0
    dsimp only at hu
    obtain ⟨k2, hk2⟩ : ∃ k : Nat, e.up = k := ⟨e.up.toNat, by omega⟩
    have hEUk : eU E k = k2 := by rw [hEU, hk2]; rfl
    have hst := around_step hup name ag (k := k) (by omega) hk0
    rw [hET, hJ, hEUk] at hst
    have hlo := fun (w : World) (μc : Mem) (hw : MOk μc w) => rLoop_spec e.t e.u w μc hw ho
    by_cases h4 : e.t.op = 4
    · rw [if_pos h4] at hst
      repeat' (first | refine KO ?_ | (refine KV (b := by first | exact U1 k | exact U4 hm | exact U4 hmN) (c := ?_)) | refine KI ?_ | refine NB fun b => ?_ | ((refine KB ?_ ?_ <;> intro hp)) | refine KG ?_ | fail)
      all_goals first | (exfalso; omega) | exact ret_s rfl rfl (by rw [hst]; rfl)
    · rw [if_neg h4] at hst
      by_cases hn : name = ⟨#[]⟩
      · subst hn
        have hh : hitT ⟨#[]⟩ ag e.t = (loopT e.t || decide (e.t.op = 21) && !ag) := by
          unfold hitT
          rw [show (⟨#[]⟩ : ByteArray).size = 0 from rfl]
          simp
        rw [hh] at hst
        cases hll : loopT e.t <;> rw [hll] at hlo hst
        all_goals cases ag
        all_goals by_cases h21 : e.t.op = 21
        all_goals simp [h21] at hst
        all_goals repeat' (first | refine KO ?_ | ((with_reducible apply F1 18); exact rfl; exact EN; (exact fun w μc hw hse => hlo w μc hw)) | (refine KV (b := by first | exact U1 k | exact U4 hm | exact U4 hmN) (c := ?_)) | refine KI ?_ | refine NB fun b => ?_ | ((refine KB ?_ ?_ <;> intro hp)) | refine KG ?_ | fail)
        all_goals first
          | (exfalso; omega)
          | exact ret_s rfl rfl (by rw [hst])
          | (simp only [hk2]; exact J2 k2 ⟨by omega, hst.symm⟩ (by omega))
      · have hh : hitT name ag e.t = (decide (e.t.op = 23) && decide (e.t.s = name)) := by
          have : ¬ name.size = 0 := fun h => hn (str0.1 h)
          simp [hitT, this]
        rw [hh] at hst
        by_cases h23 : e.t.op = 23
        · by_cases hs : e.t.s = name
          · simp [h23, hs] at hst
            repeat' (first | refine KO ?_ | ((with_reducible apply F1 18); exact rfl; exact EN; (exact fun w μc hw hse => hlo w μc hw)) | (refine KV (b := by first | exact U1 k | exact U4 hm | exact U4 hmN) (c := ?_)) | refine KI ?_ | refine NB fun b => ?_ | ((refine KB ?_ ?_ <;> intro hp)) | refine KG ?_ | fail)
            all_goals first | (exfalso; omega) | exact absurd hs ‹_› | exact absurd ‹_› hn | exact ret_s rfl rfl (by rw [hst])
          · simp [h23, hs] at hst
            repeat' (first | refine KO ?_ | ((with_reducible apply F1 18); exact rfl; exact EN; (exact fun w μc hw hse => hlo w μc hw)) | (refine KV (b := by first | exact U1 k | exact U4 hm | exact U4 hmN) (c := ?_)) | refine KI ?_ | refine NB fun b => ?_ | ((refine KB ?_ ?_ <;> intro hp)) | refine KG ?_ | fail)
            all_goals first | (exfalso; omega) | exact absurd ‹_› hs | exact absurd ‹_› hn | (simp only [hk2]; exact J2 k2 ⟨by omega, hst.symm⟩ (by omega))
        · simp [h23] at hst
          repeat' (first | refine KO ?_ | ((with_reducible apply F1 18); exact rfl; exact EN; (exact fun w μc hw hse => hlo w μc hw)) | (refine KV (b := by first | exact U1 k | exact U4 hm | exact U4 hmN) (c := ?_)) | refine KI ?_ | refine NB fun b => ?_ | ((refine KB ?_ ?_ <;> intro hp)) | refine KG ?_ | fail)
          all_goals first | (exfalso; omega) | exact absurd ‹_› hn | (simp only [hk2]; exact J2 k2 ⟨by omega, hst.symm⟩ (by omega))
theorem tgtE_spec (E : List En) (v : Value) (es : List FE) (w : World) (μ : Mem) (hμ : MOk μ w) (hF : FL μ E v es) (hl : es.length ≤ 200000) (hn : ∀ k, k < E.length → (eT E k).op = 23 → k + 1 < E.length) (i : Nat) (hi : i < es.length) :
    Calls Tryz.prog 27 #[v, .int .i64 i] w fun e w' => e = .returned (.int .i64 (targetE E E.length i : Nat)) ∧ Below w.heap.size w w' := by
  obtain ⟨hEl, A, c, rfl, hat⟩ := hF.at
  refine call_intro (args := [.slice A es.length c, .int .i64 i]) Tryz.func27 rfl Tryz.ntmps27 (by simp) hμ ?_
  repeat' (first | refine KK ?_ | ((refine KB ?_ ?_ <;> intro hp)) | refine KG ?_ | fail)
  refine gc_loop (ι := Nat) (fun k => k < es.length ∧ targetE E E.length k = targetE E E.length i) (fun k => es.length - k) (fun _ => μ) (fun k => [(0, .slice A es.length c), (1, .int .i64 k)]) (fun _ => []) i ⟨hi, rfl⟩ (fun a w hs => J5 hs) ?_
  rintro k ⟨hk, hJ⟩
  obtain ⟨ad, e, rfl, he, hm, hmN, hET, hkr, ho, hx, hEi, hEU⟩ := hat k hk
  have hst := target_step hn (k := k) (by omega)
  have hnk := hn k (by omega)
  rw [hET] at hst hnk
  rw [hJ] at hst
  by_cases h23 : e.t.op = 23
  · rw [if_pos h23] at hst
    have := hnk h23
    repeat' (first | refine KO ?_ | (refine KV (b := by first | exact U1 k | exact U4 hm | exact U4 hmN) (c := ?_)) | refine KI ?_ | ((refine KB ?_ ?_ <;> intro hp)) | refine KG ?_ | fail)
    all_goals first | (exfalso; omega) | exact J2 (k + 1) ⟨by omega, hst.symm⟩ (by omega)
  · rw [if_neg h23] at hst
    repeat' (first | refine KO ?_ | (refine KV (b := by first | exact U1 k | exact U4 hm | exact U4 hmN) (c := ?_)) | refine KI ?_ | ((refine KB ?_ ?_ <;> intro hp)) | refine KG ?_ | fail)
    all_goals first | (exfalso; omega) | exact ret_s rfl rfl (by rw [hst])
theorem leads_spec (E : List En) (v v2 : Value) (es : List FE) (w : World) (μ : Mem) (hμ : MOk μ w) (hF : FL μ E v es) (hup : UpOk E) (hl : es.length ≤ 200000) (hn : ∀ k, k < E.length → (eT E k).op = 23 → k + 1 < E.length) (hN : ∃ A c, v2 = .slice A es.length c ∧ Sl encN 1 μ A es.length ((List.range es.length).map (numE E))) (hnb : ∀ k, -1 ≤ numE E k ∧ numE E k ≤ 2 * k) (i : Nat) (hi : i < es.length) (hi0 : 0 < i) :
    Calls Tryz.prog 19 #[v, v2, .int .i64 i] w fun e w' => e = .returned (.tuple #[.int .i64 (leadsE E i).1, .int .i64 (leadsE E i).2]) ∧ Below w.heap.size w w' := by
  have har := fun (w : World) (μc : Mem) (hw : MOk μc w) (hle : MLe μ μc) (name : ByteArray) (ag : Bool) => around_spec E v es w μc hw (hF.mono hle) hup hl name ag i hi hi0
  have htg := fun (w : World) (μc : Mem) (hw : MOk μc w) (hle : MLe μ μc) (k : Nat) (hk : k < es.length) => tgtE_spec E v es w μc hw (hF.mono hle) hl hn k hk
  obtain ⟨hEl, A, c, rfl, hat⟩ := hF.at
  obtain ⟨A2, c2, rfl, hO⟩ := hN
  obtain ⟨ad, e0, rfl, he0, hm0, hmN0, hET0, hkr0, ho0, hx0, hEi0, hEU0⟩ := hat i hi
  have hu0 := hup i _ hEi0 (by omega)
  obtain ⟨res, hres⟩ : ∃ res, leadsE E i = res := ⟨_, rfl⟩
  rw [hres]
  unfold leadsE at hres
  dsimp only at hres hu0
  rw [hET0] at hres
  obtain ⟨k, hk⟩ : ∃ k, aroundE E e0.t.s (decide (e0.t.op = 16)) E.length (eU E i) = k := ⟨_, rfl⟩
  have hki := around_le hup e0.t.s (decide (e0.t.op = 16)) E.length (eU E i)
  have hEUl : eU E i < i := by rw [hEU0]; omega
  have har' := fun (w : World) (μc : Mem) (hw : MOk μc w) (hle : MLe μ μc) => har w μc hw hle e0.t.s (decide (e0.t.op = 16))
  rw [hk] at hki hres har'
  refine call_intro (args := [.slice (some ad) es.length c, .slice A2 es.length c2, .int .i64 i]) Tryz.func19 rfl Tryz.ntmps19 (by simp) hμ ?_
  by_cases h16 : e0.t.op = 16
  · skip
    by_cases hk0 : k = 0
    · subst hk0
      by_cases hs : e0.t.s = ⟨#[]⟩
      · rw [if_neg (fun h => h.2 (str0.2 hs)), if_pos rfl] at hres
        subst hres
        repeat' (first | refine KO ?_ | ((with_reducible apply F1 17); exact rfl; exact EN; (exact fun w μc hw hse => har' w μc hw hse.le)) | (refine KV (b := by first | exact U1 i | exact U4 hm0 | exact U4 hmN0) (c := ?_)) | refine KI ?_ | refine NB fun b => ?_ | ((refine KB ?_ ?_ <;> intro hp)) | refine KG ?_ | fail)
        all_goals first | (exfalso; omega) | exact absurd hs ‹_› | exact ret_vn rfl (by repeat first | exact rvs_nil | refine rvs_cons (by first | exact rv_tmp rfl | exact (rv_agg 0 rfl rfl rfl rfl rfl (by repeat first | exact lc_nil | refine lc_cons rfl ?_)) | exact (rv_agg 1 rfl rfl rfl rfl rfl (by repeat first | exact lc_nil | refine lc_cons rfl ?_)) | exact (rv_agg 2 rfl rfl rfl rfl rfl (by repeat first | exact lc_nil | refine lc_cons rfl ?_)) | exact (rv_agg 3 rfl rfl rfl rfl rfl (by repeat first | exact lc_nil | refine lc_cons rfl ?_))) ?_) rfl rfl
      · rw [if_pos ⟨rfl, fun h => hs (str0.1 h)⟩] at hres
        subst hres
        repeat' (first | refine KO ?_ | ((with_reducible apply F1 17); exact rfl; exact EN; (exact fun w μc hw hse => har' w μc hw hse.le)) | (refine KV (b := by first | exact U1 i | exact U4 hm0 | exact U4 hmN0) (c := ?_)) | refine KI ?_ | refine NB fun b => ?_ | ((refine KB ?_ ?_ <;> intro hp)) | refine KG ?_ | fail)
        all_goals first | (exfalso; omega) | exact absurd ‹_› hs | exact ret_vn rfl (by repeat first | exact rvs_nil | refine rvs_cons (by first | exact rv_tmp rfl | exact (rv_agg 0 rfl rfl rfl rfl rfl (by repeat first | exact lc_nil | refine lc_cons rfl ?_)) | exact (rv_agg 1 rfl rfl rfl rfl rfl (by repeat first | exact lc_nil | refine lc_cons rfl ?_)) | exact (rv_agg 2 rfl rfl rfl rfl rfl (by repeat first | exact lc_nil | refine lc_cons rfl ?_)) | exact (rv_agg 3 rfl rfl rfl rfl rfl (by repeat first | exact lc_nil | refine lc_cons rfl ?_))) ?_) rfl rfl
    · rw [if_neg (fun h => hk0 h.1), if_neg hk0, if_neg (fun h => h h16)] at hres
      have hkl := target_lt hn E.length k (by omega)
      have htg' := fun (w : World) (μc : Mem) (hw : MOk μc w) (hle : MLe μ μc) => htg w μc hw hle k (by omega)
      obtain ⟨j, hj⟩ : ∃ j, targetE E E.length k = j := ⟨_, rfl⟩
      rw [hj] at htg' hres hkl
      obtain ⟨ad2, e, hA2, he, hm, hmN, hET, hkr, ho, hx, hEi, hEU⟩ := hat j (by omega)
      cases hA2
      obtain ⟨ad3, x3, rfl, hx3, hmn⟩ := hO.get (k := j) (by omega)
      have hx3' : x3 = numE E j := by simp [show j < es.length by omega] at hx3; exact hx3.symm
      have hnj := hnb j
      rw [← hx3'] at hnj
      rw [hET, ← hx3'] at hres
      have hlo := fun (w : World) (μc : Mem) (hw : MOk μc w) => rLoop_spec e.t e.u w μc hw ho
      cases hll : loopT e.t
      · rw [hll] at hlo hres
        rw [if_neg (by simp)] at hres
        subst hres
        repeat' (first | refine KO ?_ | ((with_reducible apply F1 17); exact rfl; exact EN; (exact fun w μc hw hse => har' w μc hw hse.le)) | ((with_reducible apply F1 27); exact rfl; exact EN; (exact fun w μc hw hse => htg' w μc hw hse.le)) | ((with_reducible apply F1 18); exact rfl; exact EN; (exact fun w μc hw hse => hlo w μc hw)) | (refine KV (b := by first | exact U1 i | exact U1 j | exact U4 hm0 | exact U4 hmN0 | exact U4 hm | exact U4 hmN | exact U3 (hmn.at 0 rfl)) (c := ?_)) | refine KI ?_ | refine NB fun b => ?_ | ((refine KB ?_ ?_ <;> intro hp)) | refine KG ?_ | fail)
        all_goals first | (exfalso; omega) | exact ret_vn rfl (by repeat first | exact rvs_nil | refine rvs_cons (by first | exact rv_tmp rfl | exact (rv_agg 0 rfl rfl rfl rfl rfl (by repeat first | exact lc_nil | refine lc_cons rfl ?_)) | exact (rv_agg 1 rfl rfl rfl rfl rfl (by repeat first | exact lc_nil | refine lc_cons rfl ?_)) | exact (rv_agg 2 rfl rfl rfl rfl rfl (by repeat first | exact lc_nil | refine lc_cons rfl ?_)) | exact (rv_agg 3 rfl rfl rfl rfl rfl (by repeat first | exact lc_nil | refine lc_cons rfl ?_))) ?_) rfl rfl
      · rw [hll] at hlo hres
        rw [if_pos rfl] at hres
        subst hres
        repeat' (first | refine KO ?_ | ((with_reducible apply F1 17); exact rfl; exact EN; (exact fun w μc hw hse => har' w μc hw hse.le)) | ((with_reducible apply F1 27); exact rfl; exact EN; (exact fun w μc hw hse => htg' w μc hw hse.le)) | ((with_reducible apply F1 18); exact rfl; exact EN; (exact fun w μc hw hse => hlo w μc hw)) | (refine KV (b := by first | exact U1 i | exact U1 j | exact U4 hm0 | exact U4 hmN0 | exact U4 hm | exact U4 hmN | exact U3 (hmn.at 0 rfl)) (c := ?_)) | refine KI ?_ | refine NB fun b => ?_ | ((refine KB ?_ ?_ <;> intro hp)) | refine KG ?_ | fail)
        all_goals first | (exfalso; omega) | exact ret_vn rfl (by repeat first | exact rvs_nil | refine rvs_cons (by first | exact rv_tmp rfl | exact (rv_agg 0 rfl rfl rfl rfl rfl (by repeat first | exact lc_nil | refine lc_cons rfl ?_)) | exact (rv_agg 1 rfl rfl rfl rfl rfl (by repeat first | exact lc_nil | refine lc_cons rfl ?_)) | exact (rv_agg 2 rfl rfl rfl rfl rfl (by repeat first | exact lc_nil | refine lc_cons rfl ?_)) | exact (rv_agg 3 rfl rfl rfl rfl rfl (by repeat first | exact lc_nil | refine lc_cons rfl ?_))) ?_) rfl rfl
  · skip
    by_cases hk0 : k = 0
    · subst hk0
      by_cases hs : e0.t.s = ⟨#[]⟩
      · rw [if_neg (fun h => h.2 (str0.2 hs)), if_pos rfl] at hres
        subst hres
        repeat' (first | refine KO ?_ | ((with_reducible apply F1 17); exact rfl; exact EN; (exact fun w μc hw hse => har' w μc hw hse.le)) | (refine KV (b := by first | exact U1 i | exact U4 hm0 | exact U4 hmN0) (c := ?_)) | refine KI ?_ | refine NB fun b => ?_ | ((refine KB ?_ ?_ <;> intro hp)) | refine KG ?_ | fail)
        all_goals first | (exfalso; omega) | exact absurd hs ‹_› | exact ret_vn rfl (by repeat first | exact rvs_nil | refine rvs_cons (by first | exact rv_tmp rfl | exact (rv_agg 0 rfl rfl rfl rfl rfl (by repeat first | exact lc_nil | refine lc_cons rfl ?_)) | exact (rv_agg 1 rfl rfl rfl rfl rfl (by repeat first | exact lc_nil | refine lc_cons rfl ?_)) | exact (rv_agg 2 rfl rfl rfl rfl rfl (by repeat first | exact lc_nil | refine lc_cons rfl ?_)) | exact (rv_agg 3 rfl rfl rfl rfl rfl (by repeat first | exact lc_nil | refine lc_cons rfl ?_))) ?_) rfl rfl
      · rw [if_pos ⟨rfl, fun h => hs (str0.1 h)⟩] at hres
        subst hres
        repeat' (first | refine KO ?_ | ((with_reducible apply F1 17); exact rfl; exact EN; (exact fun w μc hw hse => har' w μc hw hse.le)) | (refine KV (b := by first | exact U1 i | exact U4 hm0 | exact U4 hmN0) (c := ?_)) | refine KI ?_ | refine NB fun b => ?_ | ((refine KB ?_ ?_ <;> intro hp)) | refine KG ?_ | fail)
        all_goals first | (exfalso; omega) | exact absurd ‹_› hs | exact ret_vn rfl (by repeat first | exact rvs_nil | refine rvs_cons (by first | exact rv_tmp rfl | exact (rv_agg 0 rfl rfl rfl rfl rfl (by repeat first | exact lc_nil | refine lc_cons rfl ?_)) | exact (rv_agg 1 rfl rfl rfl rfl rfl (by repeat first | exact lc_nil | refine lc_cons rfl ?_)) | exact (rv_agg 2 rfl rfl rfl rfl rfl (by repeat first | exact lc_nil | refine lc_cons rfl ?_)) | exact (rv_agg 3 rfl rfl rfl rfl rfl (by repeat first | exact lc_nil | refine lc_cons rfl ?_))) ?_) rfl rfl
    · rw [if_neg (fun h => hk0 h.1), if_neg hk0, if_pos h16] at hres
      obtain ⟨ad3, x3, rfl, hx3, hmn⟩ := hO.get (k := k) (by omega)
      have hx3' : x3 = numE E k := by simp [show k < es.length by omega] at hx3; exact hx3.symm
      rw [← hx3'] at hres
      subst hres
      repeat' (first | refine KO ?_ | ((with_reducible apply F1 17); exact rfl; exact EN; (exact fun w μc hw hse => har' w μc hw hse.le)) | (refine KV (b := by first | exact U1 i | exact U1 k | exact U4 hm0 | exact U4 hmN0 | exact U3 (hmn.at 0 rfl)) (c := ?_)) | refine KI ?_ | refine NB fun b => ?_ | ((refine KB ?_ ?_ <;> intro hp)) | refine KG ?_ | fail)
      all_goals first | (exfalso; omega) | exact ret_vn rfl (by repeat first | exact rvs_nil | refine rvs_cons (by first | exact rv_tmp rfl | exact (rv_agg 0 rfl rfl rfl rfl rfl (by repeat first | exact lc_nil | refine lc_cons rfl ?_)) | exact (rv_agg 1 rfl rfl rfl rfl rfl (by repeat first | exact lc_nil | refine lc_cons rfl ?_)) | exact (rv_agg 2 rfl rfl rfl rfl rfl (by repeat first | exact lc_nil | refine lc_cons rfl ?_)) | exact (rv_agg 3 rfl rfl rfl rfl rfl (by repeat first | exact lc_nil | refine lc_cons rfl ?_))) ?_) rfl rfl
end Go.Proofs.YtnllooebophcpaaGreatDoor
namespace Go.Proofs.YtnllooebophcpaaGreatDoor
open Go.RowKit Go.Vcg
def RofPost (r : Except (Int × Int) RS) (μ : Mem) (v : Value) : Prop := match r with
  | .ok s => ∃ (A : Option Addr) (c : Nat) (B : Option Addr) (d : Nat), v = .agg #[.slice A s.1.length c, .slice B s.2.length d, .int .i64 0, .int .i64 0] ∧ Sl encM 3 μ A s.1.length s.1 ∧ Sl encJ 2 μ B s.2.length s.2
  | .error x => v = .agg #[.slice none 0 0, .slice none 0 0, .int .i64 x.1, .int .i64 x.2]
theorem num_marks {E : List En} {i : Nat} {t : T} (h : eT E i = t) (hn : 0 ≤ numE E i) : marksT t = true := by
  rw [(num_own h).1] at hn
  split at hn
  · rename_i hc; exact hc.2
  · omega
theorem marks_not {t : T} (h : marksT t = true) : ¬ (t.op = 15 ∨ t.op = 16) := by
  intro h2
  simp [marksT, loopT] at h
  omega
theorem run_step (E : List En) {i n : Nat} (h : i < n) (s : RS) : refRun E i (n - i) s = match refStep E i s with | .ok s' => refRun E (i + 1) (n - (i + 1)) s' | .error e => .error e := by
  rw [show n - i = (n - (i + 1)) + 1 by omega, refRun]
  cases refStep E i s <;> rfl
abbrev tellB (b : Nat) (mv jv : Value) : Bk := .inl ⟨b, 35, 4, [(0, mv), (1, jv), (2, .int .i64 0), (3, .int .i64 0)]⟩
abbrev tellL (b b2 : Nat) (s : RS) (mv jv : Value) : List Bk := [tellB b mv jv, .inr ⟨mv, 39, 3, s.1.length, s.1.flatMap encM⟩, .inr ⟨jv, 42, 2, s.2.length, s.2.flatMap encJ⟩, tellB b2 (.slice none 0 0) (.slice none 0 0)]
attribute [local irreducible] refRun refStep leadsE flatT rtB rowT own flatN aroundE targetE numE nextE G GC GQ GA GAop GI GCI Calls IntKind.wrap Int.decLt Int.decLe
theorem rOf_spec (t : T) (u : Value) (w : World) (μ : Mem) (hμ : MOk μ w) (hk : KR μ t.kids u) (hs : t.size ≤ 100000) (hsh : Sh t) :
    Calls Tryz.prog 7 #[.agg (encT t u).toArray] w fun e w' => ∃ v μ', e = .returned v ∧ Grow w w' μ μ' ∧ RofPost (refF t) μ' v := by
  have ho := hk.one
  obtain ⟨res, hres⟩ : ∃ res, refF t = res := ⟨_, rfl⟩
  rw [hres]
  unfold refF at hres
  refine call_intro (args := [.agg (encT t u).toArray]) Tryz.func7 rfl Tryz.ntmps7 (by simp) hμ ?_
  have hr := fun (w : World) (μc : Mem) (hw : MOk μc w) (hle : MLe μ μc) => rRight_spec t u w μc hw (hk.mono hle) hs hsh
  by_cases hc : rtB t 1 false = true ∧ (t.op = 4 ∨ t.op = 1)
  · rw [if_pos hc] at hres
    obtain ⟨hrt, hop⟩ := hc
    rw [hrt] at hr
    have hup := flatT_up hs
    have hn := flat_next hs hrt
    have hEl := flatT_len hs
    have hpos : 0 < t.size := by rw [T.size_eq]; omega
    have hli := fun (w : World) (hw : MOk μ w) => list_spec t u w μ hw hs hk
    obtain ⟨E, hEE⟩ : ∃ E, flatT t = E := ⟨_, rfl⟩
    rw [hEE] at hup hn hEl hres hli
    have hnx := nextE_le E
    have hnb := numE_le E
    repeat' (first | ((with_reducible show GC _ _ (Code.seq (Code.seq (Code.region 1 _ _) _) _) _ _ _ _); (apply gc_stop)) | refine KK ?_ | refine NB fun b => ?_ | ((refine KB ?_ ?_ <;> intro hp)) | refine KG ?_ | fail)
    rename_i bn
    obtain ⟨b2, hb2⟩ : ∃ x, x = b := ⟨_, rfl⟩
    rw [← hb2]
    clear hb2
    refine gcs (gc_join (ι := Unit) (fun _ => True) (fun _ => μ) (fun _ => [(1, .pointer (some ⟨bn, 0, none⟩)), (2, .pointer (some ⟨b2, 0, none⟩))]) (fun _ => [tellB b2 (.slice none 0 0) (.slice none 0 0), .inl ⟨bn, 24, 6, idx 0 (encT t u)⟩]) ?_ ?_)
    · repeat' (first | refine KO ?_ | ((with_reducible apply C1); exact rfl; exact EN; (exact fun w μc hw hse => hr w μc hw hse.le)) | refine KI ?_ | refine NB fun b => ?_ | ((refine KB ?_ ?_ <;> intro hp)) | refine KG ?_ | fail)
      all_goals first | (exfalso; omega) | exact J1 () trivial
    intro _ _
    repeat' (first | refine KO ?_ | ((with_reducible apply F2 14); exact rfl; exact EN; (exact fun w hw => hli w hw); rintro v1 μ1 hle1 ⟨es, hF⟩; (have hF' := hF.at); (obtain ⟨hEs, A, c, rfl, hat⟩ := hF')) | ((with_reducible apply F2 15); exact rfl; exact EN; (exact fun w hw => in_spec E _ es w μ1 hw hF hup (by omega) (by omega)); rintro v2 μ2 hle2 ⟨A2, c2, rfl, hO⟩) | ((with_reducible apply F2 16); exact rfl; exact EN; (exact fun w hw => numbers_spec E _ _ es w μ2 hw (hF.mono hle2) (by omega) hnx ⟨A2, c2, rfl, hO⟩); rintro v3 μ3 hle3 ⟨A3, c3, rfl, hN⟩) | refine KI ?_ | refine NB fun b => ?_ | ((refine KB ?_ ?_ <;> intro hp)) | refine KG ?_ | fail)
    have hl : es.length ≤ 200000 := by omega
    have hF3 := (hF.mono hle2).mono hle3
    have hO3 := hO.mono hle3
    rw [hEs] at hres
    refine gc_nilR 42 2 (gc_nilR 39 3 ?_)
    refine gc_loop (ι := Nat × RS × Value × Value) (fun j => j.1 ≤ es.length ∧ refRun E j.1 (es.length - j.1) j.2.1 = res ∧ j.2.1.1.length ≤ j.1 ∧ j.2.1.2.length ≤ j.1) (fun j => es.length - j.1) (fun _ => μ3)
      (fun j => [(2, .pointer (some ⟨b2, 0, none⟩)), (3, .slice A es.length c), (4, .slice A2 es.length c2), (5, .slice A3 es.length c3), (6, .pointer (some ⟨b, 0, none⟩)), (7, .int .i64 j.1)])
      (fun j => tellL b b2 j.2.1 j.2.2.1 j.2.2.2) (0, ([], []), .slice none 0 0, .slice none 0 0) ⟨Nat.zero_le _, hres, Nat.le_refl _, Nat.le_refl _⟩ (fun a w hs => J5 hs) ?_
    rintro ⟨i, s, mv, jv⟩ ⟨hil, hrun, hs1, hs2⟩
    dsimp only at hil hrun hs1 hs2 ⊢
    refine gc_rowOk 1 rfl ?_
    rintro A4 c4 rfl hok1
    refine gc_rowOk 2 rfl ?_
    rintro A5 c5 rfl hok2
    by_cases hlt : i < es.length
    · obtain ⟨ad, e, rfl, he, hm1, hmN1, hET, hkr, hoe, hx, hEi, hEU⟩ := hat i hlt
      have hm := (hm1.mono hle2).mono hle3
      have hmN := (hmN1.mono hle2).mono hle3
      obtain ⟨ad2, x2, rfl, hx2, hmo⟩ := hO3.get hlt
      obtain ⟨ad3, x3, rfl, hx3, hmn⟩ := hN.get hlt
      have hx2' : x2 = own E i := by simp [hlt] at hx2; exact hx2.symm
      have hx3' : x3 = numE E i := by simp [hlt] at hx3; exact hx3.symm
      have hnbi := hnb i
      rw [run_step E hlt] at hrun
      have hlo := fun (w : World) (μc : Mem) (hw : MOk μc w) => rLoop_spec e.t e.u w μc hw hoe
      obtain ⟨st, hst⟩ : ∃ st, refStep E i s = st := ⟨_, rfl⟩
      rw [hst] at hrun
      unfold refStep at hst
      rw [hET, ← hx2', ← hx3'] at hst
      rw [← hx3'] at hnbi
      cases x2 with
      | false =>
        rw [if_pos rfl] at hst
        subst hst
        repeat' (first | refine KO ?_ | (refine KV (b := by first | exact U1 i | exact U4 hm | exact U4 hmN | exact U3 (hmo.at 0 rfl) | exact U3 (hmn.at 0 rfl)) (c := ?_)) | refine KI ?_ | refine NB fun b => ?_ | ((refine KB ?_ ?_ <;> intro hp)) | refine KG ?_ | fail)
        all_goals first | (exfalso; omega) | exact J2 (i + 1, s, .slice A4 s.1.length c4, .slice A5 s.2.length c5) ⟨by dsimp only; omega, hrun, by dsimp only; omega, by dsimp only; omega⟩ (by dsimp only; omega)
      | true =>
        rw [if_neg (by simp)] at hst
        have hi0 : 0 < i := by
          rcases Nat.eq_zero_or_pos i with h | h
          · subst h; rw [own_zero] at hx2'; cases hx2'
          · exact h
        have har := fun (w : World) (μc : Mem) (hw : MOk μc w) (hle : MLe μ3 μc) => around_spec E _ es w μc hw (hF3.mono hle) hup hl e.t.s false i hlt hi0
        have hld := fun (w : World) (μc : Mem) (hw : MOk μc w) (hle : MLe μ3 μc) => leads_spec E _ _ es w μc hw (hF3.mono hle) hup hl hn ⟨_, c3, rfl, hN.mono hle⟩ hnb i hlt hi0
        obtain ⟨k, hk9⟩ : ∃ k, aroundE E e.t.s false E.length (eU E i) = k := ⟨_, rfl⟩
        rw [hk9] at har hst
        by_cases hlab : e.t.op = 23 ∧ 0 < k
        · rw [if_pos hlab] at hst
          subst hst
          dsimp only at hrun
          subst hrun
          repeat' (first | refine KO ?_ | ((with_reducible apply F1 17); exact rfl; exact EN; (exact fun w μc hw hse => har w μc hw hse.le)) | (refine KV (b := by first | exact U1 i | exact U4 hm | exact U4 hmN | exact U3 (hmo.at 0 rfl) | exact U3 (hmn.at 0 rfl)) (c := ?_)) | refine KI ?_ | refine NB fun b => ?_ | ((refine KB ?_ ?_ <;> intro hp)) | refine KG ?_ | fail)
          all_goals first | (exfalso; omega) | exact ret_m1 rfl (rv_agg 4 rfl rfl rfl rfl rfl (by repeat first | exact lc_nil | refine lc_cons rfl ?_)) (fun _ _ _ => rfl)
        · rw [if_neg hlab] at hst
          dsimp only at hst
          by_cases hnum : 0 ≤ x3
          · have hmk := num_marks hET (by rw [← hx3']; exact hnum)
            have h15 := marks_not hmk
            rw [if_neg h15, if_pos hnum] at hst
            cases hll : loopT e.t
            all_goals rw [hll] at hst hlo
            · rw [if_neg (by simp)] at hst
              subst hst
              dsimp only at hrun
              repeat' (first | refine KO ?_ | ((with_reducible apply F1 17); exact rfl; exact EN; (exact fun w μc hw hse => har w μc hw hse.le)) | (refine KV (b := by first | exact U1 i | exact U4 hm | exact U4 hmN | exact U3 (hmo.at 0 rfl) | exact U3 (hmn.at 0 rfl)) (c := ?_)) | refine KI ?_ | refine NB fun b => ?_ | ((refine KB ?_ ?_ <;> intro hp)) | refine KG ?_ | fail)
              all_goals try (exfalso; omega)
              all_goals refine gc_draw 9 _ (by kernel_rfl) rfl (List.Sublist.cons_cons _ (List.Sublist.cons _ (List.Sublist.cons _ (List.Sublist.cons _ (List.Sublist.cons _ (List.nil_sublist _)))))) ?_
                        all_goals (first | refine D1 0 ?_ | (refine DV (k := 0) (b := by first | exact U1 i | exact U3 (hmn.at 0 rfl)) (c := ?_)) | (refine D3 0 (DW (b := by first | exact U1 i | exact U3 (hmn.at 0 rfl)) (c := ?_))) | refine DD 0 ?_ | fail)
                        all_goals (first | refine D1 1 ?_ | (refine DV (k := 1) (b := by first | exact U1 i | exact U3 (hmn.at 0 rfl)) (c := ?_)) | (refine D3 1 (DW (b := by first | exact U1 i | exact U3 (hmn.at 0 rfl)) (c := ?_))) | refine DD 1 ?_ | fail)
                        all_goals (first | refine D1 2 ?_ | (refine DV (k := 2) (b := by first | exact U1 i | exact U3 (hmn.at 0 rfl)) (c := ?_)) | (refine D3 2 (DW (b := by first | exact U1 i | exact U3 (hmn.at 0 rfl)) (c := ?_))) | refine DD 2 ?_ | fail)
                        all_goals (first | refine D1 3 ?_ | (refine DV (k := 3) (b := by first | exact U1 i | exact U3 (hmn.at 0 rfl)) (c := ?_)) | (refine D3 3 (DW (b := by first | exact U1 i | exact U3 (hmn.at 0 rfl)) (c := ?_))) | refine DD 3 ?_ | fail)
                        all_goals (first | refine D1 4 ?_ | (refine DV (k := 4) (b := by first | exact U1 i | exact U3 (hmn.at 0 rfl)) (c := ?_)) | (refine D3 4 (DW (b := by first | exact U1 i | exact U3 (hmn.at 0 rfl)) (c := ?_))) | refine DD 4 ?_ | fail)
                        all_goals (first | refine D1 5 ?_ | (refine DV (k := 5) (b := by first | exact U1 i | exact U3 (hmn.at 0 rfl)) (c := ?_)) | (refine D3 5 (DW (b := by first | exact U1 i | exact U3 (hmn.at 0 rfl)) (c := ?_))) | refine DD 5 ?_ | fail)
                        all_goals (first | refine D1 6 ?_ | (refine DV (k := 6) (b := by first | exact U1 i | exact U3 (hmn.at 0 rfl)) (c := ?_)) | (refine D3 6 (DW (b := by first | exact U1 i | exact U3 (hmn.at 0 rfl)) (c := ?_))) | refine DD 6 ?_ | fail)
                        all_goals (first | (refine D3 7 ?_; refine D5 ?_; refine NB fun b => ?_; refine D9 ?_))
                        all_goals (first | (refine D3 8 ?_; refine D5 ?_; refine Y0 ?_; refine D9 ?_))
                        all_goals refine D8 ?_
              all_goals repeat' (first | refine KO ?_ | ((with_reducible apply F1 18); exact rfl; exact EN; (exact fun w μc hw hse => hlo w μc hw)) | (first | ((with_reducible apply g_ap); exact rfl; exact rfl; exact rfl; (repeat first | with_reducible exact rowup_hd | with_reducible apply rowup_tl); (iterate 6 exact rfl); (first | ((with_reducible apply src_in); exact rfl; (repeat first | with_reducible exact inb_hd | with_reducible apply inb_tl); exact rfl)); (first | exact rfl | omega | simp); (first | assumption | (exact ones_mem (by (repeat first | with_reducible exact ones_nil | ((with_reducible apply ones_cons); (first | exact rfl | assumption))))) | simp [Value.oneCell']); omega; omega; intro v; (first | ((with_reducible apply g_rowForm 2); exact rfl; omega) | ((with_reducible apply g_rowForm 3); exact rfl; omega) | ((with_reducible apply g_rowForm 4); exact rfl; omega) | ((with_reducible apply g_rowForm 5); exact rfl; omega)); (rintro g cap rfl hcap)) | ((with_reducible apply g_append0); (iterate 9 exact rfl); (first | ((with_reducible apply src_in); exact rfl; (repeat first | with_reducible exact inb_hd | with_reducible apply inb_tl); exact rfl)); (first | exact rfl | omega | simp); (first | assumption | (exact ones_mem (by (repeat first | with_reducible exact ones_nil | ((with_reducible apply ones_cons); (first | exact rfl | assumption))))) | simp [Value.oneCell']); omega; omega; intro v; (first | ((with_reducible apply g_rowForm 2); exact rfl; omega) | ((with_reducible apply g_rowForm 3); exact rfl; omega) | ((with_reducible apply g_rowForm 4); exact rfl; omega) | ((with_reducible apply g_rowForm 5); exact rfl; omega)); (rintro g cap rfl hcap))) | refine KI ?_ | refine NB fun b => ?_ | ((refine KB ?_ ?_ <;> intro hp)) | refine KG ?_ | fail)
              all_goals refine gq_rowEq (n' := (s.1 ++ [(e.t.at', x3, -1)]).length) (xs' := (s.1 ++ [(e.t.at', x3, -1)]).flatMap encM) 4 rfl (by simp) (by rw [List.flatMap_append]; rfl) ?_
              all_goals first | (exfalso; omega) | exact J2 (i + 1, (s.1 ++ [(e.t.at', x3, -1)], s.2), .slice (some ⟨g, 0, none⟩) (s.1.length + 1) cap, .slice A5 s.2.length c5) ⟨by dsimp only; omega, hrun, by dsimp only; (try simp only [List.length_append, List.length_cons, List.length_nil]); omega, by dsimp only; (try simp only [List.length_append, List.length_cons, List.length_nil]); omega⟩ (by dsimp only; omega)
            · rw [if_pos rfl] at hst
              subst hst
              dsimp only at hrun
              repeat' (first | refine KO ?_ | ((with_reducible apply F1 17); exact rfl; exact EN; (exact fun w μc hw hse => har w μc hw hse.le)) | (refine KV (b := by first | exact U1 i | exact U4 hm | exact U4 hmN | exact U3 (hmo.at 0 rfl) | exact U3 (hmn.at 0 rfl)) (c := ?_)) | refine KI ?_ | refine NB fun b => ?_ | ((refine KB ?_ ?_ <;> intro hp)) | refine KG ?_ | fail)
              all_goals try (exfalso; omega)
              all_goals refine gc_draw 9 _ (by kernel_rfl) rfl (List.Sublist.cons_cons _ (List.Sublist.cons _ (List.Sublist.cons _ (List.Sublist.cons _ (List.Sublist.cons _ (List.nil_sublist _)))))) ?_
                        all_goals (first | refine D1 0 ?_ | (refine DV (k := 0) (b := by first | exact U1 i | exact U3 (hmn.at 0 rfl)) (c := ?_)) | (refine D3 0 (DW (b := by first | exact U1 i | exact U3 (hmn.at 0 rfl)) (c := ?_))) | refine DD 0 ?_ | fail)
                        all_goals (first | refine D1 1 ?_ | (refine DV (k := 1) (b := by first | exact U1 i | exact U3 (hmn.at 0 rfl)) (c := ?_)) | (refine D3 1 (DW (b := by first | exact U1 i | exact U3 (hmn.at 0 rfl)) (c := ?_))) | refine DD 1 ?_ | fail)
                        all_goals (first | refine D1 2 ?_ | (refine DV (k := 2) (b := by first | exact U1 i | exact U3 (hmn.at 0 rfl)) (c := ?_)) | (refine D3 2 (DW (b := by first | exact U1 i | exact U3 (hmn.at 0 rfl)) (c := ?_))) | refine DD 2 ?_ | fail)
                        all_goals (first | refine D1 3 ?_ | (refine DV (k := 3) (b := by first | exact U1 i | exact U3 (hmn.at 0 rfl)) (c := ?_)) | (refine D3 3 (DW (b := by first | exact U1 i | exact U3 (hmn.at 0 rfl)) (c := ?_))) | refine DD 3 ?_ | fail)
                        all_goals (first | refine D1 4 ?_ | (refine DV (k := 4) (b := by first | exact U1 i | exact U3 (hmn.at 0 rfl)) (c := ?_)) | (refine D3 4 (DW (b := by first | exact U1 i | exact U3 (hmn.at 0 rfl)) (c := ?_))) | refine DD 4 ?_ | fail)
                        all_goals (first | refine D1 5 ?_ | (refine DV (k := 5) (b := by first | exact U1 i | exact U3 (hmn.at 0 rfl)) (c := ?_)) | (refine D3 5 (DW (b := by first | exact U1 i | exact U3 (hmn.at 0 rfl)) (c := ?_))) | refine DD 5 ?_ | fail)
                        all_goals (first | refine D1 6 ?_ | (refine DV (k := 6) (b := by first | exact U1 i | exact U3 (hmn.at 0 rfl)) (c := ?_)) | (refine D3 6 (DW (b := by first | exact U1 i | exact U3 (hmn.at 0 rfl)) (c := ?_))) | refine DD 6 ?_ | fail)
                        all_goals (first | (refine D3 7 ?_; refine D5 ?_; refine NB fun b => ?_; refine D9 ?_))
                        all_goals (first | (refine D3 8 ?_; refine D5 ?_; refine Y0 ?_; refine D9 ?_))
                        all_goals refine D8 ?_
              all_goals repeat' (first | refine KO ?_ | ((with_reducible apply F1 18); exact rfl; exact EN; (exact fun w μc hw hse => hlo w μc hw)) | (first | ((with_reducible apply g_ap); exact rfl; exact rfl; exact rfl; (repeat first | with_reducible exact rowup_hd | with_reducible apply rowup_tl); (iterate 6 exact rfl); (first | ((with_reducible apply src_in); exact rfl; (repeat first | with_reducible exact inb_hd | with_reducible apply inb_tl); exact rfl)); (first | exact rfl | omega | simp); (first | assumption | (exact ones_mem (by (repeat first | with_reducible exact ones_nil | ((with_reducible apply ones_cons); (first | exact rfl | assumption))))) | simp [Value.oneCell']); omega; omega; intro v; (first | ((with_reducible apply g_rowForm 2); exact rfl; omega) | ((with_reducible apply g_rowForm 3); exact rfl; omega) | ((with_reducible apply g_rowForm 4); exact rfl; omega) | ((with_reducible apply g_rowForm 5); exact rfl; omega)); (rintro g cap rfl hcap)) | ((with_reducible apply g_append0); (iterate 9 exact rfl); (first | ((with_reducible apply src_in); exact rfl; (repeat first | with_reducible exact inb_hd | with_reducible apply inb_tl); exact rfl)); (first | exact rfl | omega | simp); (first | assumption | (exact ones_mem (by (repeat first | with_reducible exact ones_nil | ((with_reducible apply ones_cons); (first | exact rfl | assumption))))) | simp [Value.oneCell']); omega; omega; intro v; (first | ((with_reducible apply g_rowForm 2); exact rfl; omega) | ((with_reducible apply g_rowForm 3); exact rfl; omega) | ((with_reducible apply g_rowForm 4); exact rfl; omega) | ((with_reducible apply g_rowForm 5); exact rfl; omega)); (rintro g cap rfl hcap))) | (refine KV (b := by first | exact U1 i | exact U3 (hmn.at 0 rfl)) (c := ?_)) | refine KI ?_ | refine NB fun b => ?_ | ((refine KB ?_ ?_ <;> intro hp)) | refine KG ?_ | fail)
              all_goals refine gq_rowEq (n' := (s.1 ++ [(e.t.at', x3, x3 + 1)]).length) (xs' := (s.1 ++ [(e.t.at', x3, x3 + 1)]).flatMap encM) 4 rfl (by simp) (by rw [List.flatMap_append]; rfl) ?_
              all_goals first | (exfalso; omega) | exact J2 (i + 1, (s.1 ++ [(e.t.at', x3, x3 + 1)], s.2), .slice (some ⟨g, 0, none⟩) (s.1.length + 1) cap, .slice A5 s.2.length c5) ⟨by dsimp only; omega, hrun, by dsimp only; (try simp only [List.length_append, List.length_cons, List.length_nil]); omega, by dsimp only; (try simp only [List.length_append, List.length_cons, List.length_nil]); omega⟩ (by dsimp only; omega)
          · rw [if_neg hnum] at hst
            by_cases h15 : e.t.op = 15 ∨ e.t.op = 16
            · rw [if_pos h15] at hst
              obtain ⟨ld, hlde⟩ : ∃ ld, leadsE E i = ld := ⟨_, rfl⟩
              rw [hlde] at hst hld
              by_cases he0 : ld.2 = 0
              · rw [if_neg (fun h => h he0)] at hst
                subst hst
                dsimp only at hrun
                repeat' (first | refine KO ?_ | ((with_reducible apply F1 19); exact rfl; exact EN; (exact fun w μc hw hse => hld w μc hw hse.le)) | ((with_reducible apply F1 17); exact rfl; exact EN; (exact fun w μc hw hse => har w μc hw hse.le)) | (first | ((with_reducible apply g_ap); exact rfl; exact rfl; exact rfl; (repeat first | with_reducible exact rowup_hd | with_reducible apply rowup_tl); (iterate 6 exact rfl); (first | ((with_reducible apply src_in); exact rfl; (repeat first | with_reducible exact inb_hd | with_reducible apply inb_tl); exact rfl)); (first | exact rfl | omega | simp); (first | assumption | (exact ones_mem (by (repeat first | with_reducible exact ones_nil | ((with_reducible apply ones_cons); (first | exact rfl | assumption))))) | simp [Value.oneCell']); omega; omega; intro v; (first | ((with_reducible apply g_rowForm 2); exact rfl; omega) | ((with_reducible apply g_rowForm 3); exact rfl; omega) | ((with_reducible apply g_rowForm 4); exact rfl; omega) | ((with_reducible apply g_rowForm 5); exact rfl; omega)); (rintro g cap rfl hcap)) | ((with_reducible apply g_append0); (iterate 9 exact rfl); (first | ((with_reducible apply src_in); exact rfl; (repeat first | with_reducible exact inb_hd | with_reducible apply inb_tl); exact rfl)); (first | exact rfl | omega | simp); (first | assumption | (exact ones_mem (by (repeat first | with_reducible exact ones_nil | ((with_reducible apply ones_cons); (first | exact rfl | assumption))))) | simp [Value.oneCell']); omega; omega; intro v; (first | ((with_reducible apply g_rowForm 2); exact rfl; omega) | ((with_reducible apply g_rowForm 3); exact rfl; omega) | ((with_reducible apply g_rowForm 4); exact rfl; omega) | ((with_reducible apply g_rowForm 5); exact rfl; omega)); (rintro g cap rfl hcap))) | (refine KV (b := by first | exact U1 i | exact U4 hm | exact U4 hmN | exact U3 (hmo.at 0 rfl) | exact U3 (hmn.at 0 rfl)) (c := ?_)) | refine KI ?_ | refine NB fun b => ?_ | ((refine KB ?_ ?_ <;> intro hp)) | refine KG ?_ | fail)
                all_goals refine gq_rowEq (n' := (s.2 ++ [(e.t.at', ld.1)]).length) (xs' := (s.2 ++ [(e.t.at', ld.1)]).flatMap encJ) 4 rfl (by simp) (by rw [List.flatMap_append]; rfl) ?_
                all_goals first | (exfalso; omega) | exact J2 (i + 1, (s.1, s.2 ++ [(e.t.at', ld.1)]), .slice A4 s.1.length c4, .slice (some ⟨g, 0, none⟩) (s.2.length + 1) cap) ⟨by dsimp only; omega, hrun, by dsimp only; (try simp only [List.length_append, List.length_cons, List.length_nil]); omega, by dsimp only; (try simp only [List.length_append, List.length_cons, List.length_nil]); omega⟩ (by dsimp only; omega)
              · rw [if_pos he0] at hst
                subst hst
                dsimp only at hrun
                subst hrun
                repeat' (first | refine KO ?_ | ((with_reducible apply F1 19); exact rfl; exact EN; (exact fun w μc hw hse => hld w μc hw hse.le)) | ((with_reducible apply F1 17); exact rfl; exact EN; (exact fun w μc hw hse => har w μc hw hse.le)) | (refine KV (b := by first | exact U1 i | exact U4 hm | exact U4 hmN | exact U3 (hmo.at 0 rfl) | exact U3 (hmn.at 0 rfl)) (c := ?_)) | refine KI ?_ | refine NB fun b => ?_ | ((refine KB ?_ ?_ <;> intro hp)) | refine KG ?_ | fail)
                all_goals first | (exfalso; omega) | exact ret_m1 rfl (rv_agg 4 rfl rfl rfl rfl rfl (by repeat first | exact lc_nil | refine lc_cons rfl ?_)) (fun _ _ _ => rfl)
            · rw [if_neg h15] at hst
              subst hst
              dsimp only at hrun
              repeat' (first | refine KO ?_ | ((with_reducible apply F1 17); exact rfl; exact EN; (exact fun w μc hw hse => har w μc hw hse.le)) | (refine KV (b := by first | exact U1 i | exact U4 hm | exact U4 hmN | exact U3 (hmo.at 0 rfl) | exact U3 (hmn.at 0 rfl)) (c := ?_)) | refine KI ?_ | refine NB fun b => ?_ | ((refine KB ?_ ?_ <;> intro hp)) | refine KG ?_ | fail)
              all_goals first | (exfalso; omega) | exact J2 (i + 1, s, .slice A4 s.1.length c4, .slice A5 s.2.length c5) ⟨by dsimp only; omega, hrun, by dsimp only; omega, by dsimp only; omega⟩ (by dsimp only; omega)
    · have hi : i = es.length := by omega
      subst hi
      rw [Nat.sub_self] at hrun
      unfold refRun at hrun
      subst hrun
      repeat' (first | refine KK ?_ | refine NB fun b => ?_ | ((refine KB ?_ ?_ <;> intro hp)) | refine KG ?_ | fail)
      refine ret_m1 (v := .agg #[.slice A4 s.1.length c4, .slice A5 s.2.length c5, .int .i64 0, .int .i64 0]) rfl (rv_agg 3 rfl rfl rfl rfl rfl (by repeat first | exact lc_nil | refine lc_cons rfl ?_)) (fun μ' hle' hsh => ?_)
      obtain ⟨A6, c6, h6, h7⟩ := row_sl (enc := encM) (hsh _ (List.mem_cons_of_mem _ (List.mem_cons_self ..))) rfl (fun _ _ => rfl) rfl
      obtain ⟨A8, c8, h8, h9⟩ := row_sl (enc := encJ) (hsh _ (List.mem_cons_of_mem _ (List.mem_cons_of_mem _ (List.mem_cons_self ..)))) rfl (fun _ _ => rfl) rfl
      exact ⟨A6, c6, A8, c8, by rw [h6, h8], h7, h9⟩
  · rw [if_neg hc] at hres
    subst hres
    cases hb : rtB t 1 false
    · rw [hb] at hr
      repeat' (first | refine KO ?_ | ((with_reducible apply C1); exact rfl; exact EN; (exact fun w μc hw hse => hr w μc hw hse.le)) | refine KI ?_ | refine NB fun b => ?_ | ((refine KB ?_ ?_ <;> intro hp)) | refine KG ?_ | fail)
      all_goals first | (exfalso; omega) | exact ret_m1 rfl (rv_agg 0 rfl rfl rfl rfl rfl (by repeat first | exact lc_nil | refine lc_cons rfl ?_)) (fun _ _ _ => rfl)
    · rw [hb] at hr
      have h4 : ¬ t.op = 4 := fun h => hc ⟨hb, .inl h⟩
      have h1 : ¬ t.op = 1 := fun h => hc ⟨hb, .inr h⟩
      repeat' (first | refine KO ?_ | ((with_reducible apply C1); exact rfl; exact EN; (exact fun w μc hw hse => hr w μc hw hse.le)) | refine KI ?_ | refine NB fun b => ?_ | ((refine KB ?_ ?_ <;> intro hp)) | refine KG ?_ | fail)
      all_goals first | (exfalso; omega) | exact ret_m1 rfl (rv_agg 0 rfl rfl rfl rfl rfl (by repeat first | exact lc_nil | refine lc_cons rfl ?_)) (fun _ _ _ => rfl)
end Go.Proofs.YtnllooebophcpaaGreatDoor
