/- The reference of outcomes: valid keys and events, lists of names, places. (and what leans on it). No statement of the seat is proved here. -/
import Derived.Test.YtmihpkdhfomcgaaGreatDoorMn
import Derived.Test.YtmihpkdhfomcgaaGreatDoorMb
import Derived.Test.YtmihpkdhfomcgaaGreatDoorMr
import Derived.Test.YtmihpkdhfomcgaaGreatDoorOu4
import Derived.Test.YtmihpkdhfomcgaaGreatDoorSt
set_option maxRecDepth 20000
set_option maxHeartbeats 2000000
namespace Go.Proofs.YtmihpkdhfomcgaaGreatDoor
open Go.RowKit Go.Vcg Ou
theorem sl_list {ls : List (List UInt8)} {b t n : Nat} {μ : Mem} (h : Bk.sh (.inl ⟨b, t, n, idx 0 (ls.map fun y => Value.string (ofB y))⟩) μ) (hn : ls.length = n) : Sl encL 1 μ (some ⟨b, 0, none⟩) n ls := by
  refine Sl.of_own h hn (fun i y hy j v hv => ?_)
  have hj : j = 0 := by have := (List.getElem?_eq_some_iff.1 hv).1; simpa using this
  subst hj
  have h2 := lk_idx_of (ls.map fun y => Value.string (ofB y)) 0 i (.string (ofB y)) (by rw [List.getElem?_map, hy]; rfl)
  rw [Nat.zero_add] at h2
  rw [Nat.mul_one, Nat.add_zero, h2]
  simpa using hv
abbrev encNo (n : Int) : List Value := [.int .i64 n]
theorem sl_ints {ls : List Int} {b t n : Nat} {μ : Mem} (h : Bk.sh (.inl ⟨b, t, n, idx 0 (ls.map fun y => Value.int .i64 y)⟩) μ) (hn : ls.length = n) : Sl encNo 1 μ (some ⟨b, 0, none⟩) n ls := by
  refine Sl.of_own h hn (fun i y hy j v hv => ?_)
  have hj : j = 0 := by have := (List.getElem?_eq_some_iff.1 hv).1; simpa using this
  subst hj
  have h2 := lk_idx_of (ls.map fun y => Value.int .i64 y) 0 i (.int .i64 y) (by rw [List.getElem?_map, hy]; rfl)
  rw [Nat.zero_add] at h2
  rw [Nat.mul_one, Nat.add_zero, h2]
  simpa using hv
def placeB (w : List UInt8) : List (List UInt8) → Nat → Int
  | [], _ => -1
  | x :: r, i => if x = w ∧ w ≠ [] then i else placeB w r (i + 1)
def numd : List (List UInt8) → Nat → List (Int × List UInt8)
  | [], _ => []
  | x :: r, i => ((i : Int), x) :: numd r (i + 1)
theorem place_find (w : List UInt8) (hw : w ≠ []) : ∀ (l : List (List UInt8)) (i : Nat), placeB w l i = match findB (numd l i) w with | some k => k | none => -1
  | [], i => rfl
  | x :: r, i => by
    have ih := place_find w hw r (i + 1)
    unfold placeB numd findB
    by_cases h : x = w
    · rw [if_pos ⟨h, hw⟩, if_pos h]
    · rw [if_neg (fun hh => h hh.1), if_neg h, ih]
theorem place_nil : ∀ (l : List (List UInt8)) (i : Nat), placeB [] l i = -1
  | [], i => rfl
  | x :: r, i => by
    unfold placeB
    rw [if_neg (fun h => h.2 rfl), place_nil r (i + 1)]
def kindL : List (List UInt8) := [] :: evT
def endL : List (List UInt8) := [[110, 111, 114, 109, 97, 108], [116, 104, 114, 111, 119], [], [], [], [], [115, 116, 111, 112]]
def keyL : List (List UInt8) := [[105, 110, 100, 101, 120], [116, 101, 120, 116], [115, 121, 109, 98, 111, 108]]
def errL : List (List UInt8) := errT.map (·.2)
def errN : List Int := errT.map (·.1)
theorem find_skip {w v : List UInt8} {k : Int} (r : List (Int × List UInt8)) (h : v ≠ w) : findB ((k, v) :: r) w = findB r w := by
  rw [findB, if_neg h]
theorem place_kind (w : List UInt8) : placeB w kindL 0 = match findB evT' w with | some k => k | none => -1 := by
  by_cases hw : w = []
  · subst hw; rw [place_nil, find_nil.2.2]
  rw [place_find w hw]
  have e : numd kindL 0 = (0, []) :: evT' := by decide +kernel
  rw [e, find_skip _ (fun h => hw h.symm)]
theorem place_end (w : List UInt8) : placeB w endL 0 = match findB endT w with | some k => k | none => -1 := by
  by_cases hw : w = []
  · subst hw; rw [place_nil, find_nil.2.1]
  rw [place_find w hw]
  have hw' : ([] : List UInt8) ≠ w := fun h => hw h.symm
  have e : findB (numd endL 0) w = findB endT w := by
    unfold numd endL numd numd numd numd numd numd numd endT
    rw [findB, findB, find_skip _ hw', find_skip _ hw', find_skip _ hw', find_skip _ hw']
    rfl
  rw [e]
theorem place_key (w : List UInt8) : placeB w keyL 0 = if w = [105, 110, 100, 101, 120] then 0 else if w = [116, 101, 120, 116] then 1 else if w = [115, 121, 109, 98, 111, 108] then 2 else -1 := by
  unfold keyL placeB placeB placeB placeB
  by_cases h1 : w = [105, 110, 100, 101, 120]
  · subst h1; rfl
  rw [if_neg (fun h => h1 h.1.symm), if_neg h1]
  by_cases h2 : w = [116, 101, 120, 116]
  · subst h2; rfl
  rw [if_neg (fun h => h2 h.1.symm), if_neg h2]
  by_cases h3 : w = [115, 121, 109, 98, 111, 108]
  · subst h3; rfl
  rw [if_neg (fun h => h3 h.1.symm), if_neg h3]
theorem find_map (f : Int → Int) (w : List UInt8) : ∀ l : List (Int × List UInt8), findB (l.map fun p => (f p.1, p.2)) w = (findB l w).map f
  | [] => rfl
  | (k, v) :: r => by
    have ih := find_map f w r
    rw [List.map_cons, findB, findB]
    by_cases h : v = w
    · rw [if_pos h, if_pos h]; rfl
    · rw [if_neg h, if_neg h, ih]
theorem place_err (w : List UInt8) : match findB errT' w with
    | some e => ∃ k : Nat, placeB w errL 0 = k ∧ 1 ≤ k ∧ k < 30 ∧ errN.getD k 0 = e
    | none => placeB w errL 0 < 1 := by
  by_cases hw : w = []
  · subst hw; rw [place_nil, find_nil.1]; decide
  rw [place_find w hw]
  obtain ⟨T, hT, e2, key, e3⟩ : ∃ T, numd errL 0 = (0, [111, 107]) :: T ∧ errT' = T.map (fun p => (errN.getD p.1.toNat 0, p.2)) ∧ (∀ x ∈ T, x.1 = (x.1.toNat : Int) ∧ 1 ≤ x.1.toNat ∧ x.1.toNat < 30) ∧ findB T [111, 107] = none :=
    ⟨(numd errL 0).tail, by decide +kernel, by decide +kernel, by decide +kernel, by decide +kernel⟩
  rw [e2, find_map (fun k => errN.getD k.toNat 0), hT]
  by_cases h0 : w = [111, 107]
  · subst h0
    rw [e3, findB, if_pos rfl]
    show (0 : Int) < 1
    decide
  rw [find_skip _ (fun h => h0 h.symm)]
  cases hf : findB T w with
  | none => show (-1 : Int) < 1; decide
  | some k =>
    have := key _ (findB_some hf)
    exact ⟨k.toNat, this.1, this.2.1, this.2.2, rfl⟩
attribute [local irreducible] G GC GQ GA GAop Calls IntKind.wrap Int.decLt Int.decLe idxF
theorem within_spec (n : Int) (w : World) (μ : Mem) (hμ : MOk μ w) : Calls Tryz.prog 73 #[.int .i64 n] w fun en w' => en = .returned (.bool (decide (inB n))) ∧ Below w.heap.size w w' := by
  refine call_intro (args := [.int .i64 n]) Tryz.func73 rfl Tryz.ntmps73 (by simp) hμ ?_
  by_cases h : inB n
  · rw [decide_eq_true h]
    obtain ⟨h1, h2⟩ := h
    repeat' (first | refine KK ?_ | ((refine KB ?_ ?_ <;> intro hp)) | refine KG ?_ | fail)
    all_goals first | (exfalso; omega) | exact ret_s rfl rfl rfl | (refine ret_s rfl rfl ?_; rw [decide_eq_true h2])
  · rw [decide_eq_false h]
    unfold inB at h
    repeat' (first | refine KK ?_ | ((refine KB ?_ ?_ <;> intro hp)) | refine KG ?_ | fail)
    all_goals first | (exfalso; omega) | exact ret_s rfl rfl rfl | (refine ret_s rfl rfl ?_; rw [decide_eq_false (by omega)])
theorem rRight_spec (k : KeyP) (hs : k.s.size ≤ 9223372036854775807) (w : World) (μ : Mem) (hμ : MOk μ w) :
    Calls Tryz.prog 72 #[.agg (encK k).toArray] w fun e w' => e = .returned (.bool (keyR k)) ∧ Below w.heap.size w w' := by
  refine call_intro (args := [.agg (encK k).toArray]) Tryz.func72 rfl Tryz.ntmps72 (by simp) hμ ?_
  have hix := fun (w : World) (μ : Mem) (hμ : MOk μ w) => refIndex_spec w μ hμ k.s hs
  by_cases h0 : k.kind = 0
  · rw [show keyR k = (decide (k.s = ⟨#[]⟩) && (decide (0 ≤ k.n) && decide (k.n ≤ 4294967294))) by unfold keyR; rw [if_pos h0]]
    by_cases c1 : k.s = ⟨#[]⟩ <;> by_cases c2 : 0 ≤ k.n <;> by_cases c3 : k.n ≤ 4294967294
    all_goals repeat' (first | refine KK ?_ | refine NB fun b => ?_ | ((refine KB ?_ ?_ <;> intro hp)) | refine KG ?_ | fail)
    all_goals first | (exfalso; omega) | exact absurd c1 ‹_› | exact absurd ‹_› c1 | (refine ret_s rfl rfl ?_; simp [c1, c2, c3]; done) | (refine ret_s rfl rfl ?_; simp [c1]; omega)
  by_cases h1 : k.kind = 1
  · rw [show keyR k = (decide (k.n = 0) && (decide (k.s.size ≤ 65536) && !(idxF (bl k.s)).2)) by unfold keyR; rw [if_neg h0, if_pos h1]]
    generalize (idxF (bl k.s)).2 = ix at hix
    by_cases c1 : k.n = 0 <;> by_cases c2 : k.s.size ≤ 65536
    all_goals cases ix
    all_goals repeat' (first | refine KO ?_ | ((with_reducible apply F1 89); exact rfl; exact EN; (exact fun w μc hw hse => hix w μc hw)) | refine KI ?_ | refine NB fun b => ?_ | ((refine KB ?_ ?_ <;> intro hp)) | refine KG ?_ | fail)
    all_goals first | (exfalso; omega) | (refine ret_s rfl rfl ?_; simp [c1, c2]; done) | (refine ret_s rfl rfl ?_; simp [c1]; omega)
  by_cases h2 : k.kind = 2
  · rw [show keyR k = (decide (k.s = ⟨#[]⟩) && decide (1 ≤ k.n)) by unfold keyR; rw [if_neg h0, if_neg h1, if_pos h2]]
    by_cases c1 : k.s = ⟨#[]⟩ <;> by_cases c2 : 1 ≤ k.n
    all_goals repeat' (first | refine KK ?_ | refine NB fun b => ?_ | ((refine KB ?_ ?_ <;> intro hp)) | refine KG ?_ | fail)
    all_goals first | (exfalso; omega) | exact absurd c1 ‹_› | exact absurd ‹_› c1 | (refine ret_s rfl rfl ?_; simp [c1, c2]; done) | (refine ret_s rfl rfl ?_; simp [c1]; omega)
  · rw [show keyR k = false by unfold keyR; rw [if_neg h0, if_neg h1, if_neg h2]]
    repeat' (first | refine KK ?_ | refine NB fun b => ?_ | ((refine KB ?_ ?_ <;> intro hp)) | refine KG ?_ | fail)
    all_goals first | (exfalso; omega) | exact ret_s rfl rfl rfl
theorem rmay_spec (e : EvP) (hs : e.key.s.size ≤ 9223372036854775807) (w : World) (μ : Mem) (hμ : MOk μ w) :
    Calls Tryz.prog 57 #[.agg (encE e).toArray] w fun en w' => en = .returned (.bool (decide (1 ≤ e.kind ∧ e.kind ≤ 13) && (keyR e.key && decide (inB e.key.n)))) ∧ Below w.heap.size w w' := by
  refine call_intro (args := [.agg (encE e).toArray]) Tryz.func57 rfl Tryz.ntmps57 (by simp) hμ ?_
  have hr := fun (w : World) (μ : Mem) (hμ : MOk μ w) => rRight_spec e.key hs w μ hμ
  have hn := fun (w : World) (μ : Mem) (hμ : MOk μ w) => within_spec e.key.n w μ hμ
  by_cases h0 : 1 ≤ e.kind ∧ e.kind ≤ 13
  · rw [decide_eq_true h0]
    generalize keyR e.key = r at hr
    cases r <;> by_cases h1 : inB e.key.n
    all_goals first | rw [decide_eq_true h1] at hn ⊢ | rw [decide_eq_false h1] at hn ⊢
    all_goals repeat' (first | refine KO ?_ | ((with_reducible apply F1 72); exact rfl; exact EN; (exact fun w μc hw hse => hr w μc hw)) | ((with_reducible apply F1 73); exact rfl; exact EN; (exact fun w μc hw hse => hn w μc hw)) | refine KI ?_ | refine NB fun b => ?_ | ((refine KB ?_ ?_ <;> intro hp)) | refine KG ?_ | fail)
    all_goals first | (exfalso; omega) | exact ret_s rfl rfl rfl | (refine ret_s rfl rfl ?_; simp [*]; done)
  · rw [decide_eq_false h0]
    by_cases h2 : 1 ≤ e.kind
    all_goals repeat' (first | refine KK ?_ | refine NB fun b => ?_ | ((refine KB ?_ ?_ <;> intro hp)) | refine KG ?_ | fail)
    all_goals first | (exfalso; omega) | exact ret_s rfl rfl rfl | (refine ret_s rfl rfl ?_; simp [*]; done)
theorem rkeys_spec (w : World) (μ : Mem) (hμ : MOk μ w) : Calls Tryz.prog 56 #[] w fun e w' => ∃ v μ', e = .returned v ∧ Grow w w' μ μ' ∧ ∃ A : Option Addr, v = .slice A 3 3 ∧ Sl encL 1 μ' A 3 keyL := by
  refine call_intro (args := []) Tryz.func56 rfl Tryz.ntmps56 (by simp) hμ ?_
  repeat' (first | refine KK ?_ | refine NB fun b => ?_ | ((refine KB ?_ ?_ <;> intro hp)) | refine KG ?_ | fail)
  exact ret_m1 rfl (rv_tmp rfl) (fun μ' hle hL => ⟨some ⟨b, 0, none⟩, rfl, sl_list (ls := keyL) (hL _ (List.mem_cons_self ..)) rfl⟩)
theorem rkinds_spec (w : World) (μ : Mem) (hμ : MOk μ w) : Calls Tryz.prog 55 #[] w fun e w' => ∃ v μ', e = .returned v ∧ Grow w w' μ μ' ∧ ∃ A : Option Addr, v = .slice A 14 14 ∧ Sl encL 1 μ' A 14 kindL := by
  refine call_intro (args := []) Tryz.func55 rfl Tryz.ntmps55 (by simp) hμ ?_
  repeat' (first | refine KK ?_ | refine NB fun b => ?_ | ((refine KB ?_ ?_ <;> intro hp)) | refine KG ?_ | fail)
  exact ret_m1 rfl (rv_tmp rfl) (fun μ' hle hL => ⟨some ⟨b, 0, none⟩, rfl, sl_list (ls := kindL) (hL _ (List.mem_cons_self ..)) rfl⟩)
theorem rends_spec (w : World) (μ : Mem) (hμ : MOk μ w) : Calls Tryz.prog 34 #[] w fun e w' => ∃ v μ', e = .returned v ∧ Grow w w' μ μ' ∧ ∃ A : Option Addr, v = .slice A 7 7 ∧ Sl encL 1 μ' A 7 endL := by
  refine call_intro (args := []) Tryz.func34 rfl Tryz.ntmps34 (by simp) hμ ?_
  repeat' (first | refine KK ?_ | refine NB fun b => ?_ | ((refine KB ?_ ?_ <;> intro hp)) | refine KG ?_ | fail)
  exact ret_m1 rfl (rv_tmp rfl) (fun μ' hle hL => ⟨some ⟨b, 0, none⟩, rfl, sl_list (ls := endL) (hL _ (List.mem_cons_self ..)) rfl⟩)
theorem rerrors_spec (w : World) (μ : Mem) (hμ : MOk μ w) : Calls Tryz.prog 30 #[] w fun e w' => ∃ v μ', e = .returned v ∧ Grow w w' μ μ' ∧ ∃ A B : Option Addr, v = .tuple #[.slice A 30 30, .slice B 30 30] ∧ Sl encL 1 μ' A 30 errL ∧ Sl encNo 1 μ' B 30 errN := by
  refine call_intro (args := []) Tryz.func30 rfl Tryz.ntmps30 (by simp) hμ ?_
  repeat' (first | refine KK ?_ | refine NB fun b => ?_ | ((refine KB ?_ ?_ <;> intro hp)) | refine KG ?_ | fail)
  exact ret_m2 rfl (rv_tmp rfl) (rv_tmp rfl) (fun μ' hle hL => ⟨_, _, rfl, sl_list (ls := errL) (hL _ (List.mem_cons_of_mem _ (List.mem_cons_self ..))) rfl, sl_ints (ls := errN) (hL _ (List.mem_cons_self ..)) rfl⟩)
theorem place_spec (u : List UInt8) (ls : List (List UInt8)) (A : Option Addr) (n c : Nat) (hn : n ≤ 100000) (w : World) (μ : Mem) (hμ : MOk μ w) (hA : Sl encL 1 μ A n ls) :
    Calls Tryz.prog 31 #[.string (ofB u), .slice A n c] w fun en w' => en = .returned (.int .i64 (placeB u ls 0)) ∧ Below w.heap.size w w' := by
  refine call_intro (args := [.string (ofB u), .slice A n c]) Tryz.func31 rfl Tryz.ntmps31 (by simp) hμ ?_
  have hl : ls.length = n := hA.1
  repeat' (first | refine KK ?_ | ((refine KB ?_ ?_ <;> intro hp)) | refine KG ?_ | fail)
  refine gc_loop (ι := Nat) (fun i => i ≤ n ∧ placeB u ls 0 = placeB u (ls.drop i) i) (fun i => n - i) (fun _ => μ) (fun i => [(5, .int .i64 i), (1, .slice A n c), (0, .string (ofB u))]) (fun _ => []) 0 ⟨Nat.zero_le _, rfl⟩ (fun a w hs => J5 hs) ?_
  rintro i ⟨hi, hp⟩
  by_cases hlt : i < n
  · obtain ⟨ad, x, rfl, hx, hm⟩ := hA.get hlt
    have hd : ls.drop i = x :: ls.drop (i + 1) := by
      obtain ⟨h1, h2⟩ := List.getElem?_eq_some_iff.1 hx
      rw [List.drop_eq_getElem_cons h1, h2]
    rw [hd, placeB] at hp
    by_cases h1 : x = u
    · subst h1
      by_cases h2 : x = []
      · subst h2
        rw [if_neg (fun h => h.2 rfl)] at hp
        have hz : ofB [] = ⟨#[]⟩ := rfl
        repeat' (first | refine KO ?_ | (refine KV (b := by first | exact U1 i | exact U3 (hm.at 0 rfl)) (c := ?_)) | refine KI ?_ | ((refine KB ?_ ?_ <;> intro hp)) | refine KG ?_ | fail)
        all_goals first | (exfalso; first | omega | contradiction | exact absurd hz ‹_›) | exact J2 (i + 1) ⟨by omega, hp⟩ (by omega)
      · rw [if_pos ⟨rfl, h2⟩] at hp
        have hz : ¬ ofB x = ⟨#[]⟩ := fun h => h2 (ofB_inj (b := []) h)
        rw [hp]
        repeat' (first | refine KO ?_ | (refine KV (b := by first | exact U1 i | exact U3 (hm.at 0 rfl)) (c := ?_)) | refine KI ?_ | ((refine KB ?_ ?_ <;> intro hp)) | refine KG ?_ | fail)
        all_goals first | (exfalso; first | omega | contradiction) | exact ret_s rfl rfl rfl
    · rw [if_neg (fun h => h1 h.1)] at hp
      have hz : ¬ ofB x = ofB u := fun h => h1 (ofB_inj h)
      repeat' (first | refine KO ?_ | (refine KV (b := by first | exact U1 i | exact U3 (hm.at 0 rfl)) (c := ?_)) | refine KI ?_ | ((refine KB ?_ ?_ <;> intro hp)) | refine KG ?_ | fail)
      all_goals first | (exfalso; first | omega | contradiction) | exact J2 (i + 1) ⟨by omega, hp⟩ (by omega)
  · obtain rfl : i = n := by omega
    rw [List.drop_eq_nil_of_le (by omega)] at hp
    rw [hp, placeB]
    repeat' (first | refine KK ?_ | ((refine KB ?_ ?_ <;> intro hp)) | refine KG ?_ | fail)
    all_goals first | (exfalso; first | omega | contradiction) | exact ret_s rfl rfl rfl
end Go.Proofs.YtmihpkdhfomcgaaGreatDoor
namespace Go.Vcg
open Go.RowKit
section
variable {P : Program} {μ : Mem} {l : Slots} {L : List Bk} {ty : TypeId} {pos : String} {af : Array Edge} {gd : Option (Nat × Bool)} {ds : Option Nat}
theorem v_str_bothE {p q r : Operand} {t : TypeId} {b b' : ByteArray} {j i : Int} (k m : Nat) (he : b.extract k m = b') (ht : P.underlying t = some .string) (hx : ev l p = some (.string b)) (hq : ev l q = some (.int .i64 j)) (hj : j = (k : Int)) (hr' : ev l r = some (.int .i64 i)) (hi : i = (m : Int)) (hk : k ≤ m) (hm : m ≤ b.size) :
    Val P μ l L ⟨ds, .slice t p (some q) (some r) none, ty, pos, af, gd⟩ (.string b') := by
  rw [← he]
  exact v_str_both k m ht hx hq hj hr' hi hk hm
end
end Go.Vcg
namespace Go.Proofs.YtmihpkdhfomcgaaGreatDoor
open Go.RowKit Go.Vcg Ou
abbrev curV (l : List UInt8) (i : Nat) (bad : Bool) : List Value := [.string (ofB l), .int .i64 i, .bool bad]
abbrev wordOf (l : List UInt8) : List UInt8 := l.takeWhile (fun c => decide (c ≠ 32))
def wordC (l : List UInt8) (i : Nat) (bad : Bool) : List UInt8 × Nat × Bool :=
  if l.length < i then ([], i, true) else (wordOf (l.drop i), i + (wordOf (l.drop i)).length + 1, bad || decide (wordOf (l.drop i) = []))
def numC (l : List UInt8) (i : Nat) (bad : Bool) : Int × Nat × Bool := match numB (wordC l i bad).1 with
  | some n => (n, (wordC l i bad).2.1, (wordC l i bad).2.2)
  | none => (0, (wordC l i bad).2.1, true)
def quoC (l : List UInt8) (i : Nat) (bad : Bool) : List UInt8 × Nat × Bool := match readL (l.drop i) with
  | .error _ => ([], i, true)
  | .ok (t, u) => if quoteB t ++ u = l.drop i ∧ (u = [] ∨ u.head? = some 32) then (t, l.length - u.length + 1, bad) else ([], i, true)
def toCu (l : List UInt8) (i : Nat) : Cu := if l.length < i then none else some (l.drop i)
theorem tw_get {p : UInt8 → Bool} : ∀ (d : List UInt8) (j : Nat), j < (d.takeWhile p).length → ∃ c, d[j]? = some c ∧ p c = true
  | [], j, h => by simp at h
  | c :: r, j, h => by
    rw [List.takeWhile_cons] at h
    by_cases hc : p c = true
    · rw [if_pos hc] at h
      cases j with
      | zero => exact ⟨c, rfl, hc⟩
      | succ j => exact tw_get r j (by simpa using h)
    · rw [if_neg hc] at h; simp at h
theorem tw_end {p : UInt8 → Bool} : ∀ (d : List UInt8) (c : UInt8), d[(d.takeWhile p).length]? = some c → p c = false
  | [], c, h => by simp at h
  | x :: r, c, h => by
    rw [List.takeWhile_cons] at h
    by_cases hc : p x = true
    · rw [if_pos hc, List.length_cons, List.getElem?_cons_succ] at h
      exact tw_end r c h
    · rw [if_neg hc] at h
      simp at h
      rw [← h]
      simpa using hc
theorem tw_len {p : UInt8 → Bool} (d : List UInt8) : (d.takeWhile p).length ≤ d.length := (List.takeWhile_prefix p).length_le
theorem word_more {l : List UInt8} {i j : Nat} {c : UInt8} (hj : j ≤ (wordOf (l.drop i)).length) (hc : l[i + j]? = some c) (h : c ≠ 32) : j + 1 ≤ (wordOf (l.drop i)).length := by
  rcases Nat.lt_or_ge j (wordOf (l.drop i)).length with h1 | h1
  · omega
  · have e : j = (wordOf (l.drop i)).length := by omega
    rw [← List.getElem?_drop, e] at hc
    have := tw_end _ _ hc
    simp at this
    exact absurd this h
theorem word_stop {l : List UInt8} {i j : Nat} (hj : j ≤ (wordOf (l.drop i)).length) (h : l.length ≤ i + j ∨ l[i + j]? = some 32) : (wordOf (l.drop i)).length = j := by
  rcases Nat.lt_or_ge j (wordOf (l.drop i)).length with h1 | h1
  · obtain ⟨c, h2, h3⟩ := tw_get _ _ h1
    rw [List.getElem?_drop] at h2
    rcases h with h | h
    · rw [List.getElem?_eq_none h] at h2; cases h2
    · rw [h] at h2; cases h2; simp at h3
  · omega
theorem word_ext {l : List UInt8} {i : Nat} : (ofB l).extract i (i + (wordOf (l.drop i)).length) = ofB (wordOf (l.drop i)) := by
  apply bl_inj
  rw [bl_extract, bl_ofB, bl_ofB, Nat.add_sub_cancel_left]
  exact (List.prefix_iff_eq_take.1 (List.takeWhile_prefix _)).symm
theorem rc_le : ∀ (l : List UInt8) (n m : Int), n ≤ 9007199254740992 → rcountF 10 l n = some m → m ≤ 9007199254740992
  | [], n, m, h, e => by cases e; exact h
  | c :: r, n, m, h, e => by
    unfold rcountF at e
    repeat' split at e
    all_goals first | (cases e; done) | exact rc_le r _ m (by decide) e | exact rc_le r _ m (by omega) e
theorem count_some {w : List UInt8} {n : Int} (h : numB w = some n) : rcount2 10 w = (n, true) ∧ inB n ∧ Lib.decDigits n.toNat = w := by
  obtain ⟨h1, h2⟩ := numB_some h
  have hd : Lib.decDigits n.toNat = w := by
    rw [← h2]; unfold Lib.itoa; rw [if_neg (by have := h1.1; omega)]
  have hc := rc_some 10 (.inl rfl) _ 0 _ (Int.le_refl 0) (count_digits n.toNat (by have := h1.2; omega))
  refine ⟨?_, h1, hd⟩
  rw [hd] at hc
  unfold rcount2
  rw [hc]
  have hne : w ≠ [] := by rw [← hd]; exact digits_ne _
  have : ((n.toNat : Nat) : Int) = n := by have := h1.1; omega
  rw [this]
  simp [hne]
theorem count_none {w : List UInt8} (h : numB w = none) : (rcount2 10 w).2 = false ∨ (rcount2 10 w).1 < 0 ∨ (inB (rcount2 10 w).1 ∧ Lib.decDigits (rcount2 10 w).1.toNat ≠ w) := by
  cases hb : (rcount2 10 w).2 with
  | false => exact .inl rfl
  | true =>
    refine .inr ?_
    by_cases h0 : (rcount2 10 w).1 < 0
    · exact .inl h0
    refine .inr ?_
    have hle : (rcount2 10 w).1 ≤ 9007199254740992 := by
      unfold rcount2
      cases hc : rcountF 10 w 0 with
      | none => show (0 : Int) ≤ 9007199254740992; decide
      | some m => exact rc_le w 0 m (by decide) hc
    have hin : inB (rcount2 10 w).1 := ⟨by omega, hle⟩
    refine ⟨hin, fun hd => ?_⟩
    have h2 : Lib.itoa (rcount2 10 w).1 = w := by unfold Lib.itoa; rw [if_neg (by omega)]; exact hd
    rw [← h2, numB_itoa hin] at h
    cases h
attribute [local irreducible] G GC GQ GA GAop Calls IntKind.wrap Int.decLt Int.decLe rcount2
theorem over_spec (l : List UInt8) (i : Nat) (bad : Bool) (hl : l.length ≤ 1000000) (hi : i ≤ 2000000) (w : World) (μ : Mem) (hμ : MOk μ w) :
    Calls Tryz.prog 33 #[.agg (curV l i bad).toArray] w fun en w' => en = .returned (.bool (!bad && decide (i = l.length + 1))) ∧ Below w.heap.size w w' := by
  refine call_intro (args := [.agg (curV l i bad).toArray]) Tryz.func33 rfl Tryz.ntmps33 (by simp) hμ ?_
  have hsz := ofB_size l
  cases bad <;> by_cases h : i = l.length + 1
  all_goals first | rw [decide_eq_true h] | rw [decide_eq_false h]
  all_goals repeat' (first | refine KK ?_ | refine NB fun b => ?_ | ((refine KB ?_ ?_ <;> intro hp)) | refine KG ?_ | fail)
  all_goals first | (exfalso; first | omega | contradiction) | exact ret_s rfl rfl rfl | (refine ret_s rfl rfl ?_; congr 1; rw [Bool.eq_iff_iff]; simp; omega)
theorem word_spec (l : List UInt8) (i : Nat) (bad : Bool) (hl : l.length ≤ 1000000) (hi : i ≤ 2000000) (w : World) (μ : Mem) (hμ : MOk μ w) :
    Calls Tryz.prog 29 #[.agg (curV l i bad).toArray] w fun en w' => en = .returned (.tuple #[.string (ofB (wordC l i bad).1), .agg (curV l (wordC l i bad).2.1 (wordC l i bad).2.2).toArray]) ∧ Below w.heap.size w w' := by
  refine call_intro (args := [.agg (curV l i bad).toArray]) Tryz.func29 rfl Tryz.ntmps29 (by simp) hμ ?_
  have hsz := ofB_size l
  unfold wordC
  by_cases h0 : l.length < i
  · rw [if_pos h0]
    repeat' (first | refine KK ?_ | refine NB fun b => ?_ | ((refine KB ?_ ?_ <;> intro hp)) | refine KG ?_ | fail)
    all_goals first | (exfalso; first | omega | contradiction | (exact absurd ‹_› ‹¬ _›)) | skip
    refine gc_draw 3 _ (by kernel_rfl) rfl (List.Sublist.cons _ (List.Sublist.cons_cons _ (List.nil_sublist _))) ?_
    all_goals refine DD 0 ?_
    all_goals refine DD 1 ?_
    all_goals (first | (refine D3 2 ?_; refine D5 ?_; refine Y0 ?_; refine D9 ?_))
    all_goals refine D8 ?_
    repeat' (first | refine KK ?_ | refine NB fun b => ?_ | ((refine KB ?_ ?_ <;> intro hp)) | refine KG ?_ | fail)
    exact ret_v2 rfl (rv_tmp rfl) (rv_agg (vs := curV l i true) 0 rfl rfl rfl rfl rfl (by repeat first | exact lc_nil | refine lc_cons rfl ?_)) rfl rfl
  · rw [if_neg h0]
    have hwl := tw_len (p := fun c => decide (c ≠ 32)) (l.drop i)
    rw [List.length_drop] at hwl
    have hext := word_ext (l := l) (i := i)
    have hmore := fun (j : Nat) (c : UInt8) => word_more (l := l) (i := i) (j := j) (c := c)
    have hstop := fun (j : Nat) => word_stop (l := l) (i := i) (j := j)
    change (wordOf (l.drop i)).length ≤ _ at hwl
    generalize wordOf (l.drop i) = u at hwl hext hmore hstop ⊢
    have hcast : ((i + u.length + 1 : Nat) : Int) = (i : Int) + u.length + 1 := by omega
    dsimp only
    repeat' (first | refine KK ?_ | refine NB fun b => ?_ | ((refine KB ?_ ?_ <;> intro hp)) | refine KG ?_ | fail)
    all_goals first | (exfalso; first | omega | contradiction | (exact absurd ‹_› ‹¬ _›)) | skip
    rename_i b1
    obtain ⟨bR, hbR⟩ : ∃ x, x = b := ⟨_, rfl⟩
    rw [← hbR]
    clear hbR
    refine gc_loop (ι := Nat) (fun j => j ≤ u.length) (fun j => l.length - j) (fun _ => μ) (fun j => [(4, .int .i64 ((i : Int) + j)), (1, .pointer (some ⟨b1, 0, none⟩)), (3, .pointer (some ⟨bR, 0, none⟩))])
      (fun _ => [.inl ⟨bR, 66, 3, idx 0 [.string ⟨#[]⟩, .int .i64 0, .bool false]⟩, .inl ⟨b1, 66, 3, idx 0 (curV l i bad)⟩]) 0 (Nat.zero_le _) (fun a w hs => hs.sel (by rw [show ((i : Int) + ((0 : Nat) : Int)) = (i : Int) by omega]; exact PU) PS) ?_
    intro j hj
    by_cases hlt : i + j < l.length
    · obtain ⟨c, hb1, hb2⟩ := bl_at (s := ofB l) (i := i + j) (by omega)
      rw [bl_ofB] at hb1
      have hij : (i : Int) + j = ((i + j : Nat) : Int) := by omega
      by_cases hc : c = 32
      · have hw := hstop j hj (.inr (by rw [← hc]; exact hb1))
        have hb3 : bAt (ofB l) (i + j) = 32 := by rw [hb2, hc]; rfl
        subst hw
        by_cases hue : u = []
        · have hz : ofB u = ⟨#[]⟩ := by rw [hue]; rfl
          repeat' (first | refine KO ?_ | (refine KV (b := by first | exact U2 (i + u.length) | ((with_reducible apply v_str_bothE i (i + u.length) hext); exact rfl; exact rfl; exact rfl; (first | rfl | omega); exact rfl; (first | rfl | omega); omega; (rw [ofB_size]; omega))) (c := ?_)) | refine KI ?_ | refine NB fun b => ?_ | ((refine KB ?_ ?_ <;> intro hp)) | refine KG ?_ | fail)
          all_goals first | (exfalso; first | omega | contradiction | (exact absurd ‹_› ‹¬ _›)) | skip
          refine gc_draw 4 _ (by kernel_rfl) rfl (List.Sublist.cons _ (List.Sublist.cons_cons _ (List.nil_sublist _))) ?_
          all_goals refine DD 0 ?_
          all_goals refine DD 1 ?_
          all_goals refine DD 2 ?_
          all_goals (first | (refine D3 3 ?_; refine D5 ?_; refine Y0 ?_; refine D9 ?_))
          all_goals refine D8 ?_
          repeat' (first | refine KK ?_ | refine NB fun b => ?_ | ((refine KB ?_ ?_ <;> intro hp)) | refine KG ?_ | fail)
          exact ret_v2 rfl (rv_tmp rfl) (rv_agg (vs := [.string (ofB l), .int .i64 ((i : Int) + u.length + 1), .bool true]) 0 rfl rfl rfl rfl rfl (by repeat first | exact lc_nil | refine lc_cons rfl ?_)) rfl (by simp only [curV, decide_eq_true hue, Bool.or_true, hcast])
        · have hz : ¬ ofB u = ⟨#[]⟩ := fun h => hue (ofB_inj (b := []) h)
          repeat' (first | refine KO ?_ | (refine KV (b := by first | exact U2 (i + u.length) | ((with_reducible apply v_str_bothE i (i + u.length) hext); exact rfl; exact rfl; exact rfl; (first | rfl | omega); exact rfl; (first | rfl | omega); omega; (rw [ofB_size]; omega))) (c := ?_)) | refine KI ?_ | refine NB fun b => ?_ | ((refine KB ?_ ?_ <;> intro hp)) | refine KG ?_ | fail)
          all_goals first | (exfalso; first | omega | contradiction | (exact absurd ‹_› ‹¬ _›)) | skip
          refine gc_draw 4 _ (by kernel_rfl) rfl (List.Sublist.cons _ (List.Sublist.cons_cons _ (List.nil_sublist _))) ?_
          all_goals refine DD 0 ?_
          all_goals refine DD 1 ?_
          all_goals refine DD 2 ?_
          all_goals (first | (refine D3 3 ?_; refine D5 ?_; refine Y0 ?_; refine D9 ?_))
          all_goals refine D8 ?_
          repeat' (first | refine KK ?_ | refine NB fun b => ?_ | ((refine KB ?_ ?_ <;> intro hp)) | refine KG ?_ | fail)
          exact ret_v2 rfl (rv_tmp rfl) (rv_agg (vs := [.string (ofB l), .int .i64 ((i : Int) + u.length + 1), .bool bad]) 0 rfl rfl rfl rfl rfl (by repeat first | exact lc_nil | refine lc_cons rfl ?_)) rfl (by simp only [curV, decide_eq_false hue, Bool.or_false, hcast])
      · have hw := hmore j c hj hb1 hc
        have hb3 : ¬ bAt (ofB l) (i + j) = 32 := by
          rw [hb2]
          intro h
          exact hc (UInt8.toNat_inj.1 (by have h2 : c.toNat = 32 := (by omega); exact h2))
        repeat' (first | refine KO ?_ | (refine KV (b := by first | exact U2 (i + j)) (c := ?_)) | refine KI ?_ | refine NB fun b => ?_ | ((refine KB ?_ ?_ <;> intro hp)) | refine KG ?_ | fail)
        all_goals first | (exfalso; first | omega | contradiction | (exact absurd ‹_› ‹¬ _›)) | skip
        refine gq_backS (j + 1) hw (by omega) rfl ?_ PS
        rw [show ((i : Int) + ((j + 1 : Nat) : Int)) = (i : Int) + j + 1 by omega]
        exact PU
    · have hw := hstop j hj (.inl (by omega))
      subst hw
      by_cases hue : u = []
      · have hz : ofB u = ⟨#[]⟩ := by rw [hue]; rfl
        repeat' (first | refine KO ?_ | (refine KV (b := by first | exact U2 (i + u.length) | ((with_reducible apply v_str_bothE i (i + u.length) hext); exact rfl; exact rfl; exact rfl; (first | rfl | omega); exact rfl; (first | rfl | omega); omega; (rw [ofB_size]; omega))) (c := ?_)) | refine KI ?_ | refine NB fun b => ?_ | ((refine KB ?_ ?_ <;> intro hp)) | refine KG ?_ | fail)
        all_goals first | (exfalso; first | omega | contradiction | (exact absurd ‹_› ‹¬ _›)) | skip
        refine gc_draw 4 _ (by kernel_rfl) rfl (List.Sublist.cons _ (List.Sublist.cons_cons _ (List.nil_sublist _))) ?_
        all_goals refine DD 0 ?_
        all_goals refine DD 1 ?_
        all_goals refine DD 2 ?_
        all_goals (first | (refine D3 3 ?_; refine D5 ?_; refine Y0 ?_; refine D9 ?_))
        all_goals refine D8 ?_
        repeat' (first | refine KK ?_ | refine NB fun b => ?_ | ((refine KB ?_ ?_ <;> intro hp)) | refine KG ?_ | fail)
        exact ret_v2 rfl (rv_tmp rfl) (rv_agg (vs := [.string (ofB l), .int .i64 ((i : Int) + u.length + 1), .bool true]) 0 rfl rfl rfl rfl rfl (by repeat first | exact lc_nil | refine lc_cons rfl ?_)) rfl (by simp only [curV, decide_eq_true hue, Bool.or_true, hcast])
      · have hz : ¬ ofB u = ⟨#[]⟩ := fun h => hue (ofB_inj (b := []) h)
        repeat' (first | refine KO ?_ | (refine KV (b := by first | exact U2 (i + u.length) | ((with_reducible apply v_str_bothE i (i + u.length) hext); exact rfl; exact rfl; exact rfl; (first | rfl | omega); exact rfl; (first | rfl | omega); omega; (rw [ofB_size]; omega))) (c := ?_)) | refine KI ?_ | refine NB fun b => ?_ | ((refine KB ?_ ?_ <;> intro hp)) | refine KG ?_ | fail)
        all_goals first | (exfalso; first | omega | contradiction | (exact absurd ‹_› ‹¬ _›)) | skip
        refine gc_draw 4 _ (by kernel_rfl) rfl (List.Sublist.cons _ (List.Sublist.cons_cons _ (List.nil_sublist _))) ?_
        all_goals refine DD 0 ?_
        all_goals refine DD 1 ?_
        all_goals refine DD 2 ?_
        all_goals (first | (refine D3 3 ?_; refine D5 ?_; refine Y0 ?_; refine D9 ?_))
        all_goals refine D8 ?_
        repeat' (first | refine KK ?_ | refine NB fun b => ?_ | ((refine KB ?_ ?_ <;> intro hp)) | refine KG ?_ | fail)
        exact ret_v2 rfl (rv_tmp rfl) (rv_agg (vs := [.string (ofB l), .int .i64 ((i : Int) + u.length + 1), .bool bad]) 0 rfl rfl rfl rfl rfl (by repeat first | exact lc_nil | refine lc_cons rfl ?_)) rfl (by simp only [curV, decide_eq_false hue, Bool.or_false, hcast])
end Go.Proofs.YtmihpkdhfomcgaaGreatDoor
namespace Go.Proofs.YtmihpkdhfomcgaaGreatDoor
open Go.RowKit Go.Vcg Ou
theorem wordC_i {l : List UInt8} {i : Nat} {bad : Bool} (hi : i ≤ l.length + 1) : (wordC l i bad).2.1 ≤ l.length + 1 := by
  unfold wordC
  split
  · exact hi
  · have hwl := tw_len (p := fun c => decide (c ≠ 32)) (l.drop i)
    rw [List.length_drop] at hwl
    dsimp only
    change (wordOf (l.drop i)).length ≤ _ at hwl
    omega
theorem wordC_len {l : List UInt8} {i : Nat} {bad : Bool} : (wordC l i bad).1.length ≤ l.length := by
  unfold wordC
  split
  · simp
  · have hwl := tw_len (p := fun c => decide (c ≠ 32)) (l.drop i)
    rw [List.length_drop] at hwl
    dsimp only
    change (wordOf (l.drop i)).length ≤ _ at hwl
    omega
attribute [local irreducible] G GC GQ GA GAop Calls IntKind.wrap Int.decLt Int.decLe rcount2 wordC
theorem number_spec (l : List UInt8) (i : Nat) (bad : Bool) (hl : l.length ≤ 1000000) (hi : i ≤ l.length + 1) (w : World) (μ : Mem) (hμ : MOk μ w) :
    Calls Tryz.prog 32 #[.agg (curV l i bad).toArray] w fun en w' => en = .returned (.tuple #[.int .i64 (numC l i bad).1, .agg (curV l (numC l i bad).2.1 (numC l i bad).2.2).toArray]) ∧ Below w.heap.size w w' := by
  refine call_intro (args := [.agg (curV l i bad).toArray]) Tryz.func32 rfl Tryz.ntmps32 (by simp) hμ ?_
  have hwd := fun (w : World) (μ : Mem) (hμ : MOk μ w) => word_spec l i bad hl (by omega) w μ hμ
  have hwl := wordC_len (l := l) (i := i) (bad := bad)
  unfold numC
  generalize (wordC l i bad).1 = u at hwd hwl ⊢
  generalize (wordC l i bad).2.1 = i1 at hwd ⊢
  generalize (wordC l i bad).2.2 = b1 at hwd ⊢
  have hct := fun (w : World) (μ : Mem) (hμ : MOk μ w) => refCount_spec w μ hμ (ofB u) 10 (.inl rfl) (by rw [ofB_size]; omega)
  rw [bl_ofB] at hct
  cases hn : numB u with
  | some n =>
    obtain ⟨h1, h2, h3⟩ := count_some hn
    rw [h1] at hct
    obtain ⟨m, rfl⟩ : ∃ m : Nat, n = m := ⟨n.toNat, by have := h2.1; omega⟩
    have h21 := h2.1
    have h22 := h2.2
    rw [Int.toNat_natCast] at h3
    have hdg := fun (w : World) (μ : Mem) (hμ : MOk μ w) => digits_spec m (by omega) w μ hμ
    rw [h3] at hdg
    change ∀ (w : World) (μ : Mem), MOk μ w → Calls _ _ _ w fun e w' => e = .returned (.string (ofB u)) ∧ _ at hdg
    have hmx : (if (m : Int) < 0 then (0 : Int) else m) = m := by rw [if_neg (by omega)]
    dsimp only at hct ⊢
    repeat' (first | refine KO ?_ | ((with_reducible apply F1 29); exact rfl; exact EN; (exact fun w μc hw hse => hwd w μc hw)) | ((with_reducible apply F1 51); exact rfl; exact EN; (exact fun w μc hw hse => hct w μc hw)) | ((with_reducible apply F1 52); exact rfl; exact EN; (exact fun w μc hw hse => by rw [hmx]; exact hdg w μc hw)) | (refine KV (b := by first | ((with_reducible apply v_max2); exact rfl; exact rfl)) (c := ?_)) | refine KI ?_ | refine NB fun b => ?_ | ((refine KB ?_ ?_ <;> intro hp)) | refine KG ?_ | fail)
    all_goals first | (exfalso; first | omega | contradiction | (exact absurd ‹_› ‹¬ _›)) | skip
    refine gc_draw 4 _ (by kernel_rfl) rfl (List.Sublist.cons_cons _ (List.Sublist.cons _ (List.Sublist.cons_cons _ (List.nil_sublist _)))) ?_
    all_goals refine DD 0 ?_
    all_goals refine DD 1 ?_
    all_goals refine DD 2 ?_
    all_goals (first | (refine D3 3 ?_; refine D5 ?_; refine Y0 ?_; refine D9 ?_))
    all_goals refine D8 ?_
    repeat' (first | refine KK ?_ | refine NB fun b => ?_ | ((refine KB ?_ ?_ <;> intro hp)) | refine KG ?_ | fail)
    exact ret_v2 rfl (rv_tmp rfl) (rv_agg (vs := curV l i1 b1) 1 rfl rfl rfl rfl rfl (by repeat first | exact lc_nil | refine lc_cons rfl ?_)) rfl rfl
  | none =>
    have hnn := count_none hn
    generalize rcount2 10 u = r at hct hnn
    obtain ⟨n, ok⟩ := r
    dsimp only at hct hnn ⊢
    have hdg : ∀ (w : World) (μ : Mem), MOk μ w → True := fun _ _ _ => trivial
    have hmx : True := trivial
    cases ok with
    | false =>
      repeat' (first | refine KO ?_ | ((with_reducible apply F1 29); exact rfl; exact EN; (exact fun w μc hw hse => hwd w μc hw)) | ((with_reducible apply F1 51); exact rfl; exact EN; (exact fun w μc hw hse => hct w μc hw)) | ((with_reducible apply F1 52); exact rfl; exact EN; (exact fun w μc hw hse => by rw [hmx]; exact hdg w μc hw)) | (refine KV (b := by first | ((with_reducible apply v_max2); exact rfl; exact rfl)) (c := ?_)) | refine KI ?_ | refine NB fun b => ?_ | ((refine KB ?_ ?_ <;> intro hp)) | refine KG ?_ | fail)
      all_goals first | (exfalso; first | omega | contradiction | (exact absurd ‹_› ‹¬ _›)) | skip
      refine gc_draw 3 _ (by kernel_rfl) rfl (List.Sublist.cons_cons _ (List.Sublist.cons _ (List.Sublist.cons_cons _ (List.nil_sublist _)))) ?_
      all_goals refine DD 0 ?_
      all_goals refine DD 1 ?_
      all_goals (first | (refine D3 2 ?_; refine D5 ?_; refine Y0 ?_; refine D9 ?_))
      all_goals refine D8 ?_
      repeat' (first | refine KK ?_ | refine NB fun b => ?_ | ((refine KB ?_ ?_ <;> intro hp)) | refine KG ?_ | fail)
      exact ret_v2 rfl (rv_tmp rfl) (rv_agg (vs := curV l i1 true) 1 rfl rfl rfl rfl rfl (by repeat first | exact lc_nil | refine lc_cons rfl ?_)) rfl rfl
    | true =>
      by_cases hneg : n < 0
      · repeat' (first | refine KO ?_ | ((with_reducible apply F1 29); exact rfl; exact EN; (exact fun w μc hw hse => hwd w μc hw)) | ((with_reducible apply F1 51); exact rfl; exact EN; (exact fun w μc hw hse => hct w μc hw)) | ((with_reducible apply F1 52); exact rfl; exact EN; (exact fun w μc hw hse => by rw [hmx]; exact hdg w μc hw)) | (refine KV (b := by first | ((with_reducible apply v_max2); exact rfl; exact rfl)) (c := ?_)) | refine KI ?_ | refine NB fun b => ?_ | ((refine KB ?_ ?_ <;> intro hp)) | refine KG ?_ | fail)
        all_goals first | (exfalso; first | omega | contradiction | (exact absurd ‹_› ‹¬ _›)) | skip
        refine gc_draw 3 _ (by kernel_rfl) rfl (List.Sublist.cons_cons _ (List.Sublist.cons _ (List.Sublist.cons_cons _ (List.nil_sublist _)))) ?_
        all_goals refine DD 0 ?_
        all_goals refine DD 1 ?_
        all_goals (first | (refine D3 2 ?_; refine D5 ?_; refine Y0 ?_; refine D9 ?_))
        all_goals refine D8 ?_
        repeat' (first | refine KK ?_ | refine NB fun b => ?_ | ((refine KB ?_ ?_ <;> intro hp)) | refine KG ?_ | fail)
        exact ret_v2 rfl (rv_tmp rfl) (rv_agg (vs := curV l i1 true) 1 rfl rfl rfl rfl rfl (by repeat first | exact lc_nil | refine lc_cons rfl ?_)) rfl rfl
      · have h3 : inB n ∧ Lib.decDigits n.toNat ≠ u := by
          rcases hnn with h | h | h
          · cases h
          · omega
          · exact h
        obtain ⟨h2, h4⟩ := h3
        obtain ⟨m, rfl⟩ : ∃ m : Nat, n = m := ⟨n.toNat, by have := h2.1; omega⟩
        have h21 := h2.1
        have h22 := h2.2
        rw [Int.toNat_natCast] at h4
        have hdg := fun (w : World) (μ : Mem) (hμ : MOk μ w) => digits_spec m (by omega) w μ hμ
        have hz : ¬ (⟨(Lib.decDigits m).toArray⟩ : ByteArray) = ofB u := fun h => h4 (ofB_inj (b := u) h)
        have hmx : (if (m : Int) < 0 then (0 : Int) else m) = m := by rw [if_neg (by omega)]
        repeat' (first | refine KO ?_ | ((with_reducible apply F1 29); exact rfl; exact EN; (exact fun w μc hw hse => hwd w μc hw)) | ((with_reducible apply F1 51); exact rfl; exact EN; (exact fun w μc hw hse => hct w μc hw)) | ((with_reducible apply F1 52); exact rfl; exact EN; (exact fun w μc hw hse => by rw [hmx]; exact hdg w μc hw)) | (refine KV (b := by first | ((with_reducible apply v_max2); exact rfl; exact rfl)) (c := ?_)) | refine KI ?_ | refine NB fun b => ?_ | ((refine KB ?_ ?_ <;> intro hp)) | refine KG ?_ | fail)
        all_goals first | (exfalso; first | omega | contradiction | (exact absurd ‹_› ‹¬ _›)) | skip
        refine gc_draw 3 _ (by kernel_rfl) rfl (List.Sublist.cons_cons _ (List.Sublist.cons _ (List.Sublist.cons_cons _ (List.nil_sublist _)))) ?_
        all_goals refine DD 0 ?_
        all_goals refine DD 1 ?_
        all_goals (first | (refine D3 2 ?_; refine D5 ?_; refine Y0 ?_; refine D9 ?_))
        all_goals refine D8 ?_
        repeat' (first | refine KK ?_ | refine NB fun b => ?_ | ((refine KB ?_ ?_ <;> intro hp)) | refine KG ?_ | fail)
        exact ret_v2 rfl (rv_tmp rfl) (rv_agg (vs := curV l i1 true) 1 rfl rfl rfl rfl rfl (by repeat first | exact lc_nil | refine lc_cons rfl ?_)) rfl rfl
end Go.Proofs.YtmihpkdhfomcgaaGreatDoor
namespace Go.Proofs.YtmihpkdhfomcgaaGreatDoor
open Go.RowKit Go.Vcg Ou
theorem quoC_i {l : List UInt8} {i : Nat} {bad : Bool} (hi : i ≤ l.length + 1) : (quoC l i bad).2.1 ≤ l.length + 1 := by
  unfold quoC
  split
  · exact hi
  · split
    · dsimp only; omega
    · exact hi
theorem toCu_word (l : List UInt8) (i : Nat) (hi : i ≤ l.length + 1) : wordR (toCu l i) = if (wordC l i false).2.2 = true then none else some ((wordC l i false).1, toCu l (wordC l i false).2.1) := by
  unfold toCu wordC
  by_cases h : l.length < i
  · rw [if_pos h, if_pos h]; rfl
  · rw [if_neg h, if_neg h]
    have hwl := tw_len (p := fun c => decide (c ≠ 32)) (l.drop i)
    rw [List.length_drop] at hwl
    change (wordOf (l.drop i)).length ≤ _ at hwl
    dsimp only [wordR, Bool.false_or]
    change (if wordOf (l.drop i) = [] then none else some (wordOf (l.drop i), skipC ((l.drop i).drop (wordOf (l.drop i)).length))) = _
    generalize wordOf (l.drop i) = u at hwl ⊢
    by_cases hu : u = []
    · rw [if_pos hu, if_pos (by simpa using hu)]
    · rw [if_neg hu, if_neg (by simpa using hu), List.drop_drop]
      congr 2
      by_cases h2 : l.length < i + u.length + 1
      · rw [if_pos h2, List.drop_eq_nil_of_le (by omega)]; rfl
      · rw [if_neg h2, List.drop_eq_getElem_cons (show i + u.length < l.length by omega)]; rfl
theorem toCu_num (l : List UInt8) (i : Nat) (hi : i ≤ l.length + 1) : numberR (toCu l i) = if (numC l i false).2.2 = true then none else some ((numC l i false).1, toCu l (numC l i false).2.1) := by
  unfold numberR numC
  rw [toCu_word l i hi]
  have hnil : (wordC l i false).2.2 = true → (wordC l i false).1 = [] := fun h => by
    unfold wordC at h ⊢
    split
    · rfl
    · rename_i h0
      rw [if_neg h0] at h
      simpa using h
  cases hb : (wordC l i false).2.2 with
  | true =>
    rw [hnil hb, numB_nil]
    rfl
  | false =>
    rw [if_neg (by simp)]
    dsimp only
    cases numB (wordC l i false).1 <;> simp
theorem toCu_quo (l : List UInt8) (i : Nat) (hi : i ≤ l.length + 1) : quotedR (toCu l i) = if (quoC l i false).2.2 = true then none else some ((quoC l i false).1, toCu l (quoC l i false).2.1) := by
  unfold toCu
  by_cases h : l.length < i
  · have hE : quoC l i false = ([], i, true) := by
      unfold quoC
      rw [List.drop_eq_nil_of_le (show l.length ≤ i by omega)]
      rfl
    rw [if_pos h, hE]
    rfl
  · rw [if_neg h]
    dsimp only [quotedR]
    cases hr : readL (l.drop i) with
    | error e =>
      have hE : quoC l i false = ([], i, true) := by unfold quoC; rw [hr]
      rw [hE]; rfl
    | ok p =>
      obtain ⟨t, u⟩ := p
      obtain ⟨h1, h2⟩ := readL_suf hr
      rw [List.length_drop] at h1 h2
      dsimp only
      by_cases hq : quoteB t ++ u = l.drop i ∧ (u = [] ∨ u.head? = some 32)
      · have hE : quoC l i false = (t, l.length - u.length + 1, false) := by
          unfold quoC
          rw [hr]
          exact if_pos hq
        rw [if_pos hq, hE]
        have hul : u = l.drop (l.length - u.length) := by
          rw [List.drop_drop] at h1
          rw [show i + (l.length - i - u.length) = l.length - u.length by omega] at h1
          exact h1
        rw [if_neg (by simp)]
        dsimp only
        congr 2
        by_cases hu : u = []
        · subst hu
          rw [if_pos (by simp)]; rfl
        · have hp : 0 < u.length := List.length_pos_iff.2 hu
          rw [if_neg (by omega)]
          have h3 : l.length - u.length < l.length := by omega
          rw [List.drop_eq_getElem_cons h3] at hul
          generalize l.drop (l.length - u.length + 1) = z at hul ⊢
          rw [hul]
          rfl
      · have hE : quoC l i false = ([], i, true) := by
          unfold quoC
          rw [hr]
          exact if_neg hq
        rw [if_neg hq, hE]; rfl
attribute [local irreducible] G GC GQ GA GAop Calls IntKind.wrap Int.decLt Int.decLe readL
theorem quoted_spec57 (l : List UInt8) (i : Nat) (bad : Bool) (hl : l.length ≤ 1000000) (hi : i ≤ l.length + 1) (w : World) (μ : Mem) (hμ : MOk μ w) :
    Calls Tryz.prog 35 #[.agg (curV l i bad).toArray] w fun en w' => en = .returned (.tuple #[.string (ofB (quoC l i bad).1), .agg (curV l (quoC l i bad).2.1 (quoC l i bad).2.2).toArray]) ∧ Below w.heap.size w w' := by
  refine call_intro (args := [.agg (curV l i bad).toArray]) Tryz.func35 rfl Tryz.ntmps35 (by simp) hμ ?_
  have hsz := ofB_size l
  have hrd := fun (w : World) (μ : Mem) (hμ : MOk μ w) => rread_spec (ofB l) (by omega) i (by omega) w μ hμ
  rw [bl_ofB, hsz] at hrd
  unfold quoC
  cases hr : readL (l.drop i) with
  | error e =>
    have he := readL_err hr
    rw [hr] at hrd
    unfold readV at hrd
    dsimp only at hrd ⊢
    obtain ⟨nx, hnx⟩ : ∃ nx : Nat, nx = 0 := ⟨_, rfl⟩
    have hext : True := trivial
    have hqt : True := trivial
    repeat' (first | refine KO ?_ | ((with_reducible apply F1 53); exact rfl; exact EN; (exact fun w μc hw hse => hrd w μc hw)) | refine KI ?_ | refine NB fun b => ?_ | ((refine KB ?_ ?_ <;> intro hp)) | refine KG ?_ | fail)
    refine gc_draw 35 _ (by kernel_rfl) rfl (List.Sublist.cons _ (List.Sublist.cons_cons _ (List.nil_sublist _))) ?_
    all_goals refine DD 0 ?_
    all_goals (first | refine D1 1 ?_ | (refine DV (k := 1) (b := by first | exact U2 nx | ((with_reducible apply v_str_bothE i nx hext); exact rfl; exact rfl; exact rfl; (first | rfl | omega); exact rfl; (first | rfl | omega); omega; (rw [ofB_size]; omega))) (c := ?_)) | refine DD 1 ?_ | fail)
    all_goals refine DD 2 ?_
    all_goals (try (refine D7 3 ?_; (repeat' (first | refine KO ?_ | (refine KB ?_ ?_ <;> intro hp)))))
    all_goals (first | refine D1 3 ?_ | (refine DV (k := 3) (b := by first | exact U2 nx | ((with_reducible apply v_str_bothE i nx hext); exact rfl; exact rfl; exact rfl; (first | rfl | omega); exact rfl; (first | rfl | omega); omega; (rw [ofB_size]; omega))) (c := ?_)) | refine DD 3 ?_ | fail)
    all_goals (first | refine D1 4 ?_ | (refine DV (k := 4) (b := by first | exact U2 nx | ((with_reducible apply v_str_bothE i nx hext); exact rfl; exact rfl; exact rfl; (first | rfl | omega); exact rfl; (first | rfl | omega); omega; (rw [ofB_size]; omega))) (c := ?_)) | (refine D3 4 (DW (b := by first | exact U2 nx | ((with_reducible apply v_str_bothE i nx hext); exact rfl; exact rfl; exact rfl; (first | rfl | omega); exact rfl; (first | rfl | omega); omega; (rw [ofB_size]; omega))) (c := ?_))) | refine DD 4 ?_ | fail)
    all_goals (first | refine D1 5 ?_ | (refine DV (k := 5) (b := by first | exact U2 nx | ((with_reducible apply v_str_bothE i nx hext); exact rfl; exact rfl; exact rfl; (first | rfl | omega); exact rfl; (first | rfl | omega); omega; (rw [ofB_size]; omega))) (c := ?_)) | refine DD 5 ?_ | fail)
    all_goals (first | refine D1 6 ?_ | (refine DV (k := 6) (b := by first | exact U2 nx | ((with_reducible apply v_str_bothE i nx hext); exact rfl; exact rfl; exact rfl; (first | rfl | omega); exact rfl; (first | rfl | omega); omega; (rw [ofB_size]; omega))) (c := ?_)) | (refine D3 6 (DW (b := by first | exact U2 nx | ((with_reducible apply v_str_bothE i nx hext); exact rfl; exact rfl; exact rfl; (first | rfl | omega); exact rfl; (first | rfl | omega); omega; (rw [ofB_size]; omega))) (c := ?_))) | refine DD 6 ?_ | fail)
    all_goals (first | refine D1 7 ?_ | (refine DV (k := 7) (b := by first | exact U2 nx | ((with_reducible apply v_str_bothE i nx hext); exact rfl; exact rfl; exact rfl; (first | rfl | omega); exact rfl; (first | rfl | omega); omega; (rw [ofB_size]; omega))) (c := ?_)) | refine DD 7 ?_ | fail)
    all_goals (first | refine D1 8 ?_ | (refine DV (k := 8) (b := by first | exact U2 nx | ((with_reducible apply v_str_bothE i nx hext); exact rfl; exact rfl; exact rfl; (first | rfl | omega); exact rfl; (first | rfl | omega); omega; (rw [ofB_size]; omega))) (c := ?_)) | refine DD 8 ?_ | fail)
    all_goals refine DD 9 ?_
    all_goals refine DD 10 ?_
    all_goals (try (refine D7 11 ?_; (repeat' (first | refine KO ?_ | (refine KB ?_ ?_ <;> intro hp)))))
    all_goals refine DD 11 ?_
    all_goals (first | refine D1 13 ?_ | (refine DV (k := 13) (b := by first | exact U2 nx | ((with_reducible apply v_str_bothE i nx hext); exact rfl; exact rfl; exact rfl; (first | rfl | omega); exact rfl; (first | rfl | omega); omega; (rw [ofB_size]; omega))) (c := ?_)) | refine DD 13 ?_ | fail)
    all_goals (first | refine D1 14 ?_ | (refine DV (k := 14) (b := by first | exact U2 nx | ((with_reducible apply v_str_bothE i nx hext); exact rfl; exact rfl; exact rfl; (first | rfl | omega); exact rfl; (first | rfl | omega); omega; (rw [ofB_size]; omega))) (c := ?_)) | (refine D3 14 (DW (b := by first | exact U2 nx | ((with_reducible apply v_str_bothE i nx hext); exact rfl; exact rfl; exact rfl; (first | rfl | omega); exact rfl; (first | rfl | omega); omega; (rw [ofB_size]; omega))) (c := ?_))) | refine DD 14 ?_ | fail)
    all_goals (first | refine D1 15 ?_ | (refine DV (k := 15) (b := by first | exact U2 nx | ((with_reducible apply v_str_bothE i nx hext); exact rfl; exact rfl; exact rfl; (first | rfl | omega); exact rfl; (first | rfl | omega); omega; (rw [ofB_size]; omega))) (c := ?_)) | refine DD 15 ?_ | fail)
    all_goals (first | refine D1 16 ?_ | (refine DV (k := 16) (b := by first | exact U2 nx | ((with_reducible apply v_str_bothE i nx hext); exact rfl; exact rfl; exact rfl; (first | rfl | omega); exact rfl; (first | rfl | omega); omega; (rw [ofB_size]; omega))) (c := ?_)) | (refine D3 16 (DW (b := by first | exact U2 nx | ((with_reducible apply v_str_bothE i nx hext); exact rfl; exact rfl; exact rfl; (first | rfl | omega); exact rfl; (first | rfl | omega); omega; (rw [ofB_size]; omega))) (c := ?_))) | refine DD 16 ?_ | fail)
    all_goals refine DD 17 ?_
    all_goals (first | refine D1 18 ?_ | (refine DV (k := 18) (b := by first | exact U2 nx | ((with_reducible apply v_str_bothE i nx hext); exact rfl; exact rfl; exact rfl; (first | rfl | omega); exact rfl; (first | rfl | omega); omega; (rw [ofB_size]; omega))) (c := ?_)) | refine DD 18 ?_ | fail)
    all_goals (first | (refine D3 12 ?_; refine D5 ?_; (with_reducible apply F1 54); exact rfl; exact EN; (exact fun w μc hw hse => hqt w μc hw); refine D9 ?_) | refine D3 12 (D6 ?_))
    all_goals (first | refine D1 19 ?_ | (refine DV (k := 19) (b := by first | exact U2 nx | ((with_reducible apply v_str_bothE i nx hext); exact rfl; exact rfl; exact rfl; (first | rfl | omega); exact rfl; (first | rfl | omega); omega; (rw [ofB_size]; omega))) (c := ?_)) | refine DD 19 ?_ | fail)
    all_goals refine DD 20 ?_
    all_goals refine DD 21 ?_
    all_goals (try (refine D7 22 ?_; (repeat' (first | refine KO ?_ | (refine KB ?_ ?_ <;> intro hp)))))
    all_goals refine DD 22 ?_
    all_goals (first | refine D1 23 ?_ | (refine DV (k := 23) (b := by first | exact U2 nx | ((with_reducible apply v_str_bothE i nx hext); exact rfl; exact rfl; exact rfl; (first | rfl | omega); exact rfl; (first | rfl | omega); omega; (rw [ofB_size]; omega))) (c := ?_)) | refine DD 23 ?_ | fail)
    all_goals (first | refine D1 24 ?_ | (refine DV (k := 24) (b := by first | exact U2 nx | ((with_reducible apply v_str_bothE i nx hext); exact rfl; exact rfl; exact rfl; (first | rfl | omega); exact rfl; (first | rfl | omega); omega; (rw [ofB_size]; omega))) (c := ?_)) | (refine D3 24 (DW (b := by first | exact U2 nx | ((with_reducible apply v_str_bothE i nx hext); exact rfl; exact rfl; exact rfl; (first | rfl | omega); exact rfl; (first | rfl | omega); omega; (rw [ofB_size]; omega))) (c := ?_))) | refine DD 24 ?_ | fail)
    all_goals (first | refine D1 25 ?_ | (refine DV (k := 25) (b := by first | exact U2 nx | ((with_reducible apply v_str_bothE i nx hext); exact rfl; exact rfl; exact rfl; (first | rfl | omega); exact rfl; (first | rfl | omega); omega; (rw [ofB_size]; omega))) (c := ?_)) | refine DD 25 ?_ | fail)
    all_goals (first | refine D1 26 ?_ | (refine DV (k := 26) (b := by first | exact U2 nx | ((with_reducible apply v_str_bothE i nx hext); exact rfl; exact rfl; exact rfl; (first | rfl | omega); exact rfl; (first | rfl | omega); omega; (rw [ofB_size]; omega))) (c := ?_)) | refine DD 26 ?_ | fail)
    all_goals refine DD 27 ?_
    all_goals (try (refine D7 28 ?_; (repeat' (first | refine KO ?_ | (refine KB ?_ ?_ <;> intro hp)))))
    all_goals (first | refine D1 28 ?_ | (refine DV (k := 28) (b := by first | exact U2 nx | ((with_reducible apply v_str_bothE i nx hext); exact rfl; exact rfl; exact rfl; (first | rfl | omega); exact rfl; (first | rfl | omega); omega; (rw [ofB_size]; omega))) (c := ?_)) | refine DD 28 ?_ | fail)
    all_goals (first | refine D1 29 ?_ | (refine DV (k := 29) (b := by first | exact U2 nx | ((with_reducible apply v_str_bothE i nx hext); exact rfl; exact rfl; exact rfl; (first | rfl | omega); exact rfl; (first | rfl | omega); omega; (rw [ofB_size]; omega))) (c := ?_)) | (refine D3 29 (DW (b := by first | exact U2 nx | ((with_reducible apply v_str_bothE i nx hext); exact rfl; exact rfl; exact rfl; (first | rfl | omega); exact rfl; (first | rfl | omega); omega; (rw [ofB_size]; omega))) (c := ?_))) | refine DD 29 ?_ | fail)
    all_goals refine DD 30 ?_
    all_goals (first | refine D1 31 ?_ | (refine DV (k := 31) (b := by first | exact U2 nx | ((with_reducible apply v_str_bothE i nx hext); exact rfl; exact rfl; exact rfl; (first | rfl | omega); exact rfl; (first | rfl | omega); omega; (rw [ofB_size]; omega))) (c := ?_)) | refine DD 31 ?_ | fail)
    all_goals (first | refine D1 32 ?_ | (refine DV (k := 32) (b := by first | exact U2 nx | ((with_reducible apply v_str_bothE i nx hext); exact rfl; exact rfl; exact rfl; (first | rfl | omega); exact rfl; (first | rfl | omega); omega; (rw [ofB_size]; omega))) (c := ?_)) | refine DD 32 ?_ | fail)
    all_goals refine DD 33 ?_
    all_goals refine DD 34 ?_
    all_goals refine D8 ?_
    repeat' (first | refine KK ?_ | refine NB fun b => ?_ | ((refine KB ?_ ?_ <;> intro hp)) | refine KG ?_ | fail)
    all_goals first | (exfalso; first | omega | contradiction | (exact absurd ‹_› ‹¬ _›)) | skip
    refine gc_draw 3 _ (by kernel_rfl) rfl (List.Sublist.cons _ (List.Sublist.cons_cons _ (List.nil_sublist _))) ?_
    all_goals refine DD 0 ?_
    all_goals refine DD 1 ?_
    all_goals (first | (refine D3 2 ?_; refine D5 ?_; refine Y0 ?_; refine D9 ?_))
    all_goals refine D8 ?_
    repeat' (first | refine KK ?_ | refine NB fun b => ?_ | ((refine KB ?_ ?_ <;> intro hp)) | refine KG ?_ | fail)
    exact ret_v2 rfl (rv_tmp rfl) (rv_agg (vs := curV l i true) 0 rfl rfl rfl rfl rfl (by repeat first | exact lc_nil | refine lc_cons rfl ?_)) rfl rfl
  | ok p =>
    obtain ⟨t, u⟩ := p
    obtain ⟨h1, h2⟩ := readL_suf hr
    have htl := readL_len hr
    have hqc := quote_cond hr
    rw [List.length_drop] at h1 h2 hqc
    rw [hr] at hrd
    unfold readV at hrd
    dsimp only at hrd ⊢
    have hne : l.drop i ≠ [] := fun h => by
      rw [h] at hr
      unfold readL at hr
      cases hr
    have hil : i < l.length := by
      rcases Nat.lt_or_ge i l.length with h | h
      · exact h
      · exact absurd (List.drop_eq_nil_of_le h) hne
    obtain ⟨nx, hnx⟩ : ∃ nx, l.length - u.length = nx := ⟨_, rfl⟩
    rw [hnx] at hrd ⊢
    have hnl : i ≤ nx ∧ nx ≤ l.length := by omega
    have hul : u = l.drop nx := by
      rw [List.drop_drop, show i + (l.length - i - u.length) = nx by omega] at h1
      exact h1
    obtain ⟨g, hg⟩ : ∃ g, g = ofB ((l.drop i).take (nx - i)) := ⟨_, rfl⟩
    have hext : (ofB l).extract i nx = g := by
      rw [hg]
      exact bl_inj (by rw [bl_extract, bl_ofB, bl_ofB])
    have hqt := fun (w : World) (μ : Mem) (hμ : MOk μ w) => rquote_spec (ofB t) (by rw [ofB_size]; omega) w μ hμ
    rw [byS_ofB] at hqt
    have hqg : ofB (quoteB t) = g ↔ quoteB t ++ u = l.drop i := by
      rw [hg, ← hqc, ext_take, show l.length - i - u.length = nx - i by omega]
    by_cases hc1 : quoteB t ++ u = l.drop i
    rotate_left
    · have hng : ¬ ofB (quoteB t) = g := fun h => hc1 (hqg.1 h)
      rw [if_neg (fun h => hc1 h.1)]
      repeat' (first | refine KO ?_ | ((with_reducible apply F1 53); exact rfl; exact EN; (exact fun w μc hw hse => hrd w μc hw)) | refine KI ?_ | refine NB fun b => ?_ | ((refine KB ?_ ?_ <;> intro hp)) | refine KG ?_ | fail)
      refine gc_draw 35 _ (by kernel_rfl) rfl (List.Sublist.cons _ (List.Sublist.cons_cons _ (List.nil_sublist _))) ?_
      all_goals refine DD 0 ?_
      all_goals (first | refine D1 1 ?_ | (refine DV (k := 1) (b := by first | exact U2 nx | ((with_reducible apply v_str_bothE i nx hext); exact rfl; exact rfl; exact rfl; (first | rfl | omega); exact rfl; (first | rfl | omega); omega; (rw [ofB_size]; omega))) (c := ?_)) | refine DD 1 ?_ | fail)
      all_goals refine DD 2 ?_
      all_goals (try (refine D7 3 ?_; (repeat' (first | refine KO ?_ | (refine KB ?_ ?_ <;> intro hp)))))
      all_goals (first | refine D1 3 ?_ | (refine DV (k := 3) (b := by first | exact U2 nx | ((with_reducible apply v_str_bothE i nx hext); exact rfl; exact rfl; exact rfl; (first | rfl | omega); exact rfl; (first | rfl | omega); omega; (rw [ofB_size]; omega))) (c := ?_)) | refine DD 3 ?_ | fail)
      all_goals (first | refine D1 4 ?_ | (refine DV (k := 4) (b := by first | exact U2 nx | ((with_reducible apply v_str_bothE i nx hext); exact rfl; exact rfl; exact rfl; (first | rfl | omega); exact rfl; (first | rfl | omega); omega; (rw [ofB_size]; omega))) (c := ?_)) | (refine D3 4 (DW (b := by first | exact U2 nx | ((with_reducible apply v_str_bothE i nx hext); exact rfl; exact rfl; exact rfl; (first | rfl | omega); exact rfl; (first | rfl | omega); omega; (rw [ofB_size]; omega))) (c := ?_))) | refine DD 4 ?_ | fail)
      all_goals (first | refine D1 5 ?_ | (refine DV (k := 5) (b := by first | exact U2 nx | ((with_reducible apply v_str_bothE i nx hext); exact rfl; exact rfl; exact rfl; (first | rfl | omega); exact rfl; (first | rfl | omega); omega; (rw [ofB_size]; omega))) (c := ?_)) | refine DD 5 ?_ | fail)
      all_goals (first | refine D1 6 ?_ | (refine DV (k := 6) (b := by first | exact U2 nx | ((with_reducible apply v_str_bothE i nx hext); exact rfl; exact rfl; exact rfl; (first | rfl | omega); exact rfl; (first | rfl | omega); omega; (rw [ofB_size]; omega))) (c := ?_)) | (refine D3 6 (DW (b := by first | exact U2 nx | ((with_reducible apply v_str_bothE i nx hext); exact rfl; exact rfl; exact rfl; (first | rfl | omega); exact rfl; (first | rfl | omega); omega; (rw [ofB_size]; omega))) (c := ?_))) | refine DD 6 ?_ | fail)
      all_goals (first | refine D1 7 ?_ | (refine DV (k := 7) (b := by first | exact U2 nx | ((with_reducible apply v_str_bothE i nx hext); exact rfl; exact rfl; exact rfl; (first | rfl | omega); exact rfl; (first | rfl | omega); omega; (rw [ofB_size]; omega))) (c := ?_)) | refine DD 7 ?_ | fail)
      all_goals (first | refine D1 8 ?_ | (refine DV (k := 8) (b := by first | exact U2 nx | ((with_reducible apply v_str_bothE i nx hext); exact rfl; exact rfl; exact rfl; (first | rfl | omega); exact rfl; (first | rfl | omega); omega; (rw [ofB_size]; omega))) (c := ?_)) | refine DD 8 ?_ | fail)
      all_goals refine DD 9 ?_
      all_goals refine DD 10 ?_
      all_goals (try (refine D7 11 ?_; (repeat' (first | refine KO ?_ | (refine KB ?_ ?_ <;> intro hp)))))
      all_goals refine DD 11 ?_
      all_goals (first | refine D1 13 ?_ | (refine DV (k := 13) (b := by first | exact U2 nx | ((with_reducible apply v_str_bothE i nx hext); exact rfl; exact rfl; exact rfl; (first | rfl | omega); exact rfl; (first | rfl | omega); omega; (rw [ofB_size]; omega))) (c := ?_)) | refine DD 13 ?_ | fail)
      all_goals (first | refine D1 14 ?_ | (refine DV (k := 14) (b := by first | exact U2 nx | ((with_reducible apply v_str_bothE i nx hext); exact rfl; exact rfl; exact rfl; (first | rfl | omega); exact rfl; (first | rfl | omega); omega; (rw [ofB_size]; omega))) (c := ?_)) | (refine D3 14 (DW (b := by first | exact U2 nx | ((with_reducible apply v_str_bothE i nx hext); exact rfl; exact rfl; exact rfl; (first | rfl | omega); exact rfl; (first | rfl | omega); omega; (rw [ofB_size]; omega))) (c := ?_))) | refine DD 14 ?_ | fail)
      all_goals (first | refine D1 15 ?_ | (refine DV (k := 15) (b := by first | exact U2 nx | ((with_reducible apply v_str_bothE i nx hext); exact rfl; exact rfl; exact rfl; (first | rfl | omega); exact rfl; (first | rfl | omega); omega; (rw [ofB_size]; omega))) (c := ?_)) | refine DD 15 ?_ | fail)
      all_goals (first | refine D1 16 ?_ | (refine DV (k := 16) (b := by first | exact U2 nx | ((with_reducible apply v_str_bothE i nx hext); exact rfl; exact rfl; exact rfl; (first | rfl | omega); exact rfl; (first | rfl | omega); omega; (rw [ofB_size]; omega))) (c := ?_)) | (refine D3 16 (DW (b := by first | exact U2 nx | ((with_reducible apply v_str_bothE i nx hext); exact rfl; exact rfl; exact rfl; (first | rfl | omega); exact rfl; (first | rfl | omega); omega; (rw [ofB_size]; omega))) (c := ?_))) | refine DD 16 ?_ | fail)
      all_goals refine DD 17 ?_
      all_goals (first | refine D1 18 ?_ | (refine DV (k := 18) (b := by first | exact U2 nx | ((with_reducible apply v_str_bothE i nx hext); exact rfl; exact rfl; exact rfl; (first | rfl | omega); exact rfl; (first | rfl | omega); omega; (rw [ofB_size]; omega))) (c := ?_)) | refine DD 18 ?_ | fail)
      all_goals (first | (refine D3 12 ?_; refine D5 ?_; (with_reducible apply F1 54); exact rfl; exact EN; (exact fun w μc hw hse => hqt w μc hw); refine D9 ?_) | refine D3 12 (D6 ?_))
      all_goals (first | refine D1 19 ?_ | (refine DV (k := 19) (b := by first | exact U2 nx | ((with_reducible apply v_str_bothE i nx hext); exact rfl; exact rfl; exact rfl; (first | rfl | omega); exact rfl; (first | rfl | omega); omega; (rw [ofB_size]; omega))) (c := ?_)) | refine DD 19 ?_ | fail)
      all_goals refine DD 20 ?_
      all_goals refine DD 21 ?_
      all_goals (try (refine D7 22 ?_; (repeat' (first | refine KO ?_ | (refine KB ?_ ?_ <;> intro hp)))))
      all_goals refine DD 22 ?_
      all_goals (first | refine D1 23 ?_ | (refine DV (k := 23) (b := by first | exact U2 nx | ((with_reducible apply v_str_bothE i nx hext); exact rfl; exact rfl; exact rfl; (first | rfl | omega); exact rfl; (first | rfl | omega); omega; (rw [ofB_size]; omega))) (c := ?_)) | refine DD 23 ?_ | fail)
      all_goals (first | refine D1 24 ?_ | (refine DV (k := 24) (b := by first | exact U2 nx | ((with_reducible apply v_str_bothE i nx hext); exact rfl; exact rfl; exact rfl; (first | rfl | omega); exact rfl; (first | rfl | omega); omega; (rw [ofB_size]; omega))) (c := ?_)) | (refine D3 24 (DW (b := by first | exact U2 nx | ((with_reducible apply v_str_bothE i nx hext); exact rfl; exact rfl; exact rfl; (first | rfl | omega); exact rfl; (first | rfl | omega); omega; (rw [ofB_size]; omega))) (c := ?_))) | refine DD 24 ?_ | fail)
      all_goals (first | refine D1 25 ?_ | (refine DV (k := 25) (b := by first | exact U2 nx | ((with_reducible apply v_str_bothE i nx hext); exact rfl; exact rfl; exact rfl; (first | rfl | omega); exact rfl; (first | rfl | omega); omega; (rw [ofB_size]; omega))) (c := ?_)) | refine DD 25 ?_ | fail)
      all_goals (first | refine D1 26 ?_ | (refine DV (k := 26) (b := by first | exact U2 nx | ((with_reducible apply v_str_bothE i nx hext); exact rfl; exact rfl; exact rfl; (first | rfl | omega); exact rfl; (first | rfl | omega); omega; (rw [ofB_size]; omega))) (c := ?_)) | refine DD 26 ?_ | fail)
      all_goals refine DD 27 ?_
      all_goals (try (refine D7 28 ?_; (repeat' (first | refine KO ?_ | (refine KB ?_ ?_ <;> intro hp)))))
      all_goals (first | refine D1 28 ?_ | (refine DV (k := 28) (b := by first | exact U2 nx | ((with_reducible apply v_str_bothE i nx hext); exact rfl; exact rfl; exact rfl; (first | rfl | omega); exact rfl; (first | rfl | omega); omega; (rw [ofB_size]; omega))) (c := ?_)) | refine DD 28 ?_ | fail)
      all_goals (first | refine D1 29 ?_ | (refine DV (k := 29) (b := by first | exact U2 nx | ((with_reducible apply v_str_bothE i nx hext); exact rfl; exact rfl; exact rfl; (first | rfl | omega); exact rfl; (first | rfl | omega); omega; (rw [ofB_size]; omega))) (c := ?_)) | (refine D3 29 (DW (b := by first | exact U2 nx | ((with_reducible apply v_str_bothE i nx hext); exact rfl; exact rfl; exact rfl; (first | rfl | omega); exact rfl; (first | rfl | omega); omega; (rw [ofB_size]; omega))) (c := ?_))) | refine DD 29 ?_ | fail)
      all_goals refine DD 30 ?_
      all_goals (first | refine D1 31 ?_ | (refine DV (k := 31) (b := by first | exact U2 nx | ((with_reducible apply v_str_bothE i nx hext); exact rfl; exact rfl; exact rfl; (first | rfl | omega); exact rfl; (first | rfl | omega); omega; (rw [ofB_size]; omega))) (c := ?_)) | refine DD 31 ?_ | fail)
      all_goals (first | refine D1 32 ?_ | (refine DV (k := 32) (b := by first | exact U2 nx | ((with_reducible apply v_str_bothE i nx hext); exact rfl; exact rfl; exact rfl; (first | rfl | omega); exact rfl; (first | rfl | omega); omega; (rw [ofB_size]; omega))) (c := ?_)) | refine DD 32 ?_ | fail)
      all_goals refine DD 33 ?_
      all_goals refine DD 34 ?_
      all_goals refine D8 ?_
      repeat' (first | refine KK ?_ | refine NB fun b => ?_ | ((refine KB ?_ ?_ <;> intro hp)) | refine KG ?_ | fail)
      all_goals first | (exfalso; first | omega | contradiction | (exact absurd ‹_› ‹¬ _›)) | skip
      refine gc_draw 3 _ (by kernel_rfl) rfl (List.Sublist.cons _ (List.Sublist.cons_cons _ (List.nil_sublist _))) ?_
      all_goals refine DD 0 ?_
      all_goals refine DD 1 ?_
      all_goals (first | (refine D3 2 ?_; refine D5 ?_; refine Y0 ?_; refine D9 ?_))
      all_goals refine D8 ?_
      repeat' (first | refine KK ?_ | refine NB fun b => ?_ | ((refine KB ?_ ?_ <;> intro hp)) | refine KG ?_ | fail)
      exact ret_v2 rfl (rv_tmp rfl) (rv_agg (vs := curV l i true) 0 rfl rfl rfl rfl rfl (by repeat first | exact lc_nil | refine lc_cons rfl ?_)) rfl rfl
    have hgg := hqg.2 hc1
    by_cases hnx2 : nx < l.length
    · obtain ⟨c, hb1, hb2⟩ := bl_at (s := ofB l) (i := nx) (by omega)
      rw [bl_ofB] at hb1
      have hhd : u.head? = some c := by rw [hul, List.head?_drop, hb1]
      have hun : ¬ u = [] := fun h => by rw [h] at hhd; cases hhd
      by_cases hc : c = 32
      · have hb3 : bAt (ofB l) nx = 32 := by rw [hb2, hc]; rfl
        rw [if_pos ⟨hc1, .inr (by rw [hhd, hc])⟩]
        repeat' (first | refine KO ?_ | ((with_reducible apply F1 53); exact rfl; exact EN; (exact fun w μc hw hse => hrd w μc hw)) | refine KI ?_ | refine NB fun b => ?_ | ((refine KB ?_ ?_ <;> intro hp)) | refine KG ?_ | fail)
        refine gc_draw 35 _ (by kernel_rfl) rfl (List.Sublist.cons _ (List.Sublist.cons_cons _ (List.nil_sublist _))) ?_
        all_goals refine DD 0 ?_
        all_goals (first | refine D1 1 ?_ | (refine DV (k := 1) (b := by first | exact U2 nx | ((with_reducible apply v_str_bothE i nx hext); exact rfl; exact rfl; exact rfl; (first | rfl | omega); exact rfl; (first | rfl | omega); omega; (rw [ofB_size]; omega))) (c := ?_)) | refine DD 1 ?_ | fail)
        all_goals refine DD 2 ?_
        all_goals (try (refine D7 3 ?_; (repeat' (first | refine KO ?_ | (refine KB ?_ ?_ <;> intro hp)))))
        all_goals (first | refine D1 3 ?_ | (refine DV (k := 3) (b := by first | exact U2 nx | ((with_reducible apply v_str_bothE i nx hext); exact rfl; exact rfl; exact rfl; (first | rfl | omega); exact rfl; (first | rfl | omega); omega; (rw [ofB_size]; omega))) (c := ?_)) | refine DD 3 ?_ | fail)
        all_goals (first | refine D1 4 ?_ | (refine DV (k := 4) (b := by first | exact U2 nx | ((with_reducible apply v_str_bothE i nx hext); exact rfl; exact rfl; exact rfl; (first | rfl | omega); exact rfl; (first | rfl | omega); omega; (rw [ofB_size]; omega))) (c := ?_)) | (refine D3 4 (DW (b := by first | exact U2 nx | ((with_reducible apply v_str_bothE i nx hext); exact rfl; exact rfl; exact rfl; (first | rfl | omega); exact rfl; (first | rfl | omega); omega; (rw [ofB_size]; omega))) (c := ?_))) | refine DD 4 ?_ | fail)
        all_goals (first | refine D1 5 ?_ | (refine DV (k := 5) (b := by first | exact U2 nx | ((with_reducible apply v_str_bothE i nx hext); exact rfl; exact rfl; exact rfl; (first | rfl | omega); exact rfl; (first | rfl | omega); omega; (rw [ofB_size]; omega))) (c := ?_)) | refine DD 5 ?_ | fail)
        all_goals (first | refine D1 6 ?_ | (refine DV (k := 6) (b := by first | exact U2 nx | ((with_reducible apply v_str_bothE i nx hext); exact rfl; exact rfl; exact rfl; (first | rfl | omega); exact rfl; (first | rfl | omega); omega; (rw [ofB_size]; omega))) (c := ?_)) | (refine D3 6 (DW (b := by first | exact U2 nx | ((with_reducible apply v_str_bothE i nx hext); exact rfl; exact rfl; exact rfl; (first | rfl | omega); exact rfl; (first | rfl | omega); omega; (rw [ofB_size]; omega))) (c := ?_))) | refine DD 6 ?_ | fail)
        all_goals (first | refine D1 7 ?_ | (refine DV (k := 7) (b := by first | exact U2 nx | ((with_reducible apply v_str_bothE i nx hext); exact rfl; exact rfl; exact rfl; (first | rfl | omega); exact rfl; (first | rfl | omega); omega; (rw [ofB_size]; omega))) (c := ?_)) | refine DD 7 ?_ | fail)
        all_goals (first | refine D1 8 ?_ | (refine DV (k := 8) (b := by first | exact U2 nx | ((with_reducible apply v_str_bothE i nx hext); exact rfl; exact rfl; exact rfl; (first | rfl | omega); exact rfl; (first | rfl | omega); omega; (rw [ofB_size]; omega))) (c := ?_)) | refine DD 8 ?_ | fail)
        all_goals refine DD 9 ?_
        all_goals refine DD 10 ?_
        all_goals (try (refine D7 11 ?_; (repeat' (first | refine KO ?_ | (refine KB ?_ ?_ <;> intro hp)))))
        all_goals refine DD 11 ?_
        all_goals (first | refine D1 13 ?_ | (refine DV (k := 13) (b := by first | exact U2 nx | ((with_reducible apply v_str_bothE i nx hext); exact rfl; exact rfl; exact rfl; (first | rfl | omega); exact rfl; (first | rfl | omega); omega; (rw [ofB_size]; omega))) (c := ?_)) | refine DD 13 ?_ | fail)
        all_goals (first | refine D1 14 ?_ | (refine DV (k := 14) (b := by first | exact U2 nx | ((with_reducible apply v_str_bothE i nx hext); exact rfl; exact rfl; exact rfl; (first | rfl | omega); exact rfl; (first | rfl | omega); omega; (rw [ofB_size]; omega))) (c := ?_)) | (refine D3 14 (DW (b := by first | exact U2 nx | ((with_reducible apply v_str_bothE i nx hext); exact rfl; exact rfl; exact rfl; (first | rfl | omega); exact rfl; (first | rfl | omega); omega; (rw [ofB_size]; omega))) (c := ?_))) | refine DD 14 ?_ | fail)
        all_goals (first | refine D1 15 ?_ | (refine DV (k := 15) (b := by first | exact U2 nx | ((with_reducible apply v_str_bothE i nx hext); exact rfl; exact rfl; exact rfl; (first | rfl | omega); exact rfl; (first | rfl | omega); omega; (rw [ofB_size]; omega))) (c := ?_)) | refine DD 15 ?_ | fail)
        all_goals (first | refine D1 16 ?_ | (refine DV (k := 16) (b := by first | exact U2 nx | ((with_reducible apply v_str_bothE i nx hext); exact rfl; exact rfl; exact rfl; (first | rfl | omega); exact rfl; (first | rfl | omega); omega; (rw [ofB_size]; omega))) (c := ?_)) | (refine D3 16 (DW (b := by first | exact U2 nx | ((with_reducible apply v_str_bothE i nx hext); exact rfl; exact rfl; exact rfl; (first | rfl | omega); exact rfl; (first | rfl | omega); omega; (rw [ofB_size]; omega))) (c := ?_))) | refine DD 16 ?_ | fail)
        all_goals refine DD 17 ?_
        all_goals (first | refine D1 18 ?_ | (refine DV (k := 18) (b := by first | exact U2 nx | ((with_reducible apply v_str_bothE i nx hext); exact rfl; exact rfl; exact rfl; (first | rfl | omega); exact rfl; (first | rfl | omega); omega; (rw [ofB_size]; omega))) (c := ?_)) | refine DD 18 ?_ | fail)
        all_goals (first | (refine D3 12 ?_; refine D5 ?_; (with_reducible apply F1 54); exact rfl; exact EN; (exact fun w μc hw hse => hqt w μc hw); refine D9 ?_) | refine D3 12 (D6 ?_))
        all_goals (first | refine D1 19 ?_ | (refine DV (k := 19) (b := by first | exact U2 nx | ((with_reducible apply v_str_bothE i nx hext); exact rfl; exact rfl; exact rfl; (first | rfl | omega); exact rfl; (first | rfl | omega); omega; (rw [ofB_size]; omega))) (c := ?_)) | refine DD 19 ?_ | fail)
        all_goals refine DD 20 ?_
        all_goals refine DD 21 ?_
        all_goals (try (refine D7 22 ?_; (repeat' (first | refine KO ?_ | (refine KB ?_ ?_ <;> intro hp)))))
        all_goals refine DD 22 ?_
        all_goals (first | refine D1 23 ?_ | (refine DV (k := 23) (b := by first | exact U2 nx | ((with_reducible apply v_str_bothE i nx hext); exact rfl; exact rfl; exact rfl; (first | rfl | omega); exact rfl; (first | rfl | omega); omega; (rw [ofB_size]; omega))) (c := ?_)) | refine DD 23 ?_ | fail)
        all_goals (first | refine D1 24 ?_ | (refine DV (k := 24) (b := by first | exact U2 nx | ((with_reducible apply v_str_bothE i nx hext); exact rfl; exact rfl; exact rfl; (first | rfl | omega); exact rfl; (first | rfl | omega); omega; (rw [ofB_size]; omega))) (c := ?_)) | (refine D3 24 (DW (b := by first | exact U2 nx | ((with_reducible apply v_str_bothE i nx hext); exact rfl; exact rfl; exact rfl; (first | rfl | omega); exact rfl; (first | rfl | omega); omega; (rw [ofB_size]; omega))) (c := ?_))) | refine DD 24 ?_ | fail)
        all_goals (first | refine D1 25 ?_ | (refine DV (k := 25) (b := by first | exact U2 nx | ((with_reducible apply v_str_bothE i nx hext); exact rfl; exact rfl; exact rfl; (first | rfl | omega); exact rfl; (first | rfl | omega); omega; (rw [ofB_size]; omega))) (c := ?_)) | refine DD 25 ?_ | fail)
        all_goals (first | refine D1 26 ?_ | (refine DV (k := 26) (b := by first | exact U2 nx | ((with_reducible apply v_str_bothE i nx hext); exact rfl; exact rfl; exact rfl; (first | rfl | omega); exact rfl; (first | rfl | omega); omega; (rw [ofB_size]; omega))) (c := ?_)) | refine DD 26 ?_ | fail)
        all_goals refine DD 27 ?_
        all_goals (try (refine D7 28 ?_; (repeat' (first | refine KO ?_ | (refine KB ?_ ?_ <;> intro hp)))))
        all_goals (first | refine D1 28 ?_ | (refine DV (k := 28) (b := by first | exact U2 nx | ((with_reducible apply v_str_bothE i nx hext); exact rfl; exact rfl; exact rfl; (first | rfl | omega); exact rfl; (first | rfl | omega); omega; (rw [ofB_size]; omega))) (c := ?_)) | refine DD 28 ?_ | fail)
        all_goals (first | refine D1 29 ?_ | (refine DV (k := 29) (b := by first | exact U2 nx | ((with_reducible apply v_str_bothE i nx hext); exact rfl; exact rfl; exact rfl; (first | rfl | omega); exact rfl; (first | rfl | omega); omega; (rw [ofB_size]; omega))) (c := ?_)) | (refine D3 29 (DW (b := by first | exact U2 nx | ((with_reducible apply v_str_bothE i nx hext); exact rfl; exact rfl; exact rfl; (first | rfl | omega); exact rfl; (first | rfl | omega); omega; (rw [ofB_size]; omega))) (c := ?_))) | refine DD 29 ?_ | fail)
        all_goals refine DD 30 ?_
        all_goals (first | refine D1 31 ?_ | (refine DV (k := 31) (b := by first | exact U2 nx | ((with_reducible apply v_str_bothE i nx hext); exact rfl; exact rfl; exact rfl; (first | rfl | omega); exact rfl; (first | rfl | omega); omega; (rw [ofB_size]; omega))) (c := ?_)) | refine DD 31 ?_ | fail)
        all_goals (first | refine D1 32 ?_ | (refine DV (k := 32) (b := by first | exact U2 nx | ((with_reducible apply v_str_bothE i nx hext); exact rfl; exact rfl; exact rfl; (first | rfl | omega); exact rfl; (first | rfl | omega); omega; (rw [ofB_size]; omega))) (c := ?_)) | refine DD 32 ?_ | fail)
        all_goals refine DD 33 ?_
        all_goals refine DD 34 ?_
        all_goals refine D8 ?_
        repeat' (first | refine KK ?_ | refine NB fun b => ?_ | ((refine KB ?_ ?_ <;> intro hp)) | refine KG ?_ | fail)
        all_goals first | (exfalso; first | omega | contradiction | (exact absurd ‹_› ‹¬ _›)) | skip
        refine gc_draw 4 _ (by kernel_rfl) rfl (List.Sublist.cons _ (List.Sublist.cons_cons _ (List.nil_sublist _))) ?_
        all_goals refine DD 0 ?_
        all_goals refine DD 1 ?_
        all_goals refine DD 2 ?_
        all_goals (first | (refine D3 3 ?_; refine D5 ?_; refine Y0 ?_; refine D9 ?_))
        all_goals refine D8 ?_
        repeat' (first | refine KK ?_ | refine NB fun b => ?_ | ((refine KB ?_ ?_ <;> intro hp)) | refine KG ?_ | fail)
        exact ret_v2 rfl (rv_tmp rfl) (rv_agg (vs := [.string (ofB l), .int .i64 ((nx : Int) + 1), .bool bad]) 0 rfl rfl rfl rfl rfl (by repeat first | exact lc_nil | refine lc_cons rfl ?_)) rfl rfl
      · have hb3 : ¬ bAt (ofB l) nx = 32 := by
          rw [hb2]
          intro h
          exact hc (UInt8.toNat_inj.1 (by have h2 : c.toNat = 32 := (by omega); exact h2))
        rw [if_neg (fun h => h.2.elim hun (fun h => hc (by rw [hhd] at h; exact Option.some.inj h)))]
        repeat' (first | refine KO ?_ | ((with_reducible apply F1 53); exact rfl; exact EN; (exact fun w μc hw hse => hrd w μc hw)) | refine KI ?_ | refine NB fun b => ?_ | ((refine KB ?_ ?_ <;> intro hp)) | refine KG ?_ | fail)
        refine gc_draw 35 _ (by kernel_rfl) rfl (List.Sublist.cons _ (List.Sublist.cons_cons _ (List.nil_sublist _))) ?_
        all_goals refine DD 0 ?_
        all_goals (first | refine D1 1 ?_ | (refine DV (k := 1) (b := by first | exact U2 nx | ((with_reducible apply v_str_bothE i nx hext); exact rfl; exact rfl; exact rfl; (first | rfl | omega); exact rfl; (first | rfl | omega); omega; (rw [ofB_size]; omega))) (c := ?_)) | refine DD 1 ?_ | fail)
        all_goals refine DD 2 ?_
        all_goals (try (refine D7 3 ?_; (repeat' (first | refine KO ?_ | (refine KB ?_ ?_ <;> intro hp)))))
        all_goals (first | refine D1 3 ?_ | (refine DV (k := 3) (b := by first | exact U2 nx | ((with_reducible apply v_str_bothE i nx hext); exact rfl; exact rfl; exact rfl; (first | rfl | omega); exact rfl; (first | rfl | omega); omega; (rw [ofB_size]; omega))) (c := ?_)) | refine DD 3 ?_ | fail)
        all_goals (first | refine D1 4 ?_ | (refine DV (k := 4) (b := by first | exact U2 nx | ((with_reducible apply v_str_bothE i nx hext); exact rfl; exact rfl; exact rfl; (first | rfl | omega); exact rfl; (first | rfl | omega); omega; (rw [ofB_size]; omega))) (c := ?_)) | (refine D3 4 (DW (b := by first | exact U2 nx | ((with_reducible apply v_str_bothE i nx hext); exact rfl; exact rfl; exact rfl; (first | rfl | omega); exact rfl; (first | rfl | omega); omega; (rw [ofB_size]; omega))) (c := ?_))) | refine DD 4 ?_ | fail)
        all_goals (first | refine D1 5 ?_ | (refine DV (k := 5) (b := by first | exact U2 nx | ((with_reducible apply v_str_bothE i nx hext); exact rfl; exact rfl; exact rfl; (first | rfl | omega); exact rfl; (first | rfl | omega); omega; (rw [ofB_size]; omega))) (c := ?_)) | refine DD 5 ?_ | fail)
        all_goals (first | refine D1 6 ?_ | (refine DV (k := 6) (b := by first | exact U2 nx | ((with_reducible apply v_str_bothE i nx hext); exact rfl; exact rfl; exact rfl; (first | rfl | omega); exact rfl; (first | rfl | omega); omega; (rw [ofB_size]; omega))) (c := ?_)) | (refine D3 6 (DW (b := by first | exact U2 nx | ((with_reducible apply v_str_bothE i nx hext); exact rfl; exact rfl; exact rfl; (first | rfl | omega); exact rfl; (first | rfl | omega); omega; (rw [ofB_size]; omega))) (c := ?_))) | refine DD 6 ?_ | fail)
        all_goals (first | refine D1 7 ?_ | (refine DV (k := 7) (b := by first | exact U2 nx | ((with_reducible apply v_str_bothE i nx hext); exact rfl; exact rfl; exact rfl; (first | rfl | omega); exact rfl; (first | rfl | omega); omega; (rw [ofB_size]; omega))) (c := ?_)) | refine DD 7 ?_ | fail)
        all_goals (first | refine D1 8 ?_ | (refine DV (k := 8) (b := by first | exact U2 nx | ((with_reducible apply v_str_bothE i nx hext); exact rfl; exact rfl; exact rfl; (first | rfl | omega); exact rfl; (first | rfl | omega); omega; (rw [ofB_size]; omega))) (c := ?_)) | refine DD 8 ?_ | fail)
        all_goals refine DD 9 ?_
        all_goals refine DD 10 ?_
        all_goals (try (refine D7 11 ?_; (repeat' (first | refine KO ?_ | (refine KB ?_ ?_ <;> intro hp)))))
        all_goals refine DD 11 ?_
        all_goals (first | refine D1 13 ?_ | (refine DV (k := 13) (b := by first | exact U2 nx | ((with_reducible apply v_str_bothE i nx hext); exact rfl; exact rfl; exact rfl; (first | rfl | omega); exact rfl; (first | rfl | omega); omega; (rw [ofB_size]; omega))) (c := ?_)) | refine DD 13 ?_ | fail)
        all_goals (first | refine D1 14 ?_ | (refine DV (k := 14) (b := by first | exact U2 nx | ((with_reducible apply v_str_bothE i nx hext); exact rfl; exact rfl; exact rfl; (first | rfl | omega); exact rfl; (first | rfl | omega); omega; (rw [ofB_size]; omega))) (c := ?_)) | (refine D3 14 (DW (b := by first | exact U2 nx | ((with_reducible apply v_str_bothE i nx hext); exact rfl; exact rfl; exact rfl; (first | rfl | omega); exact rfl; (first | rfl | omega); omega; (rw [ofB_size]; omega))) (c := ?_))) | refine DD 14 ?_ | fail)
        all_goals (first | refine D1 15 ?_ | (refine DV (k := 15) (b := by first | exact U2 nx | ((with_reducible apply v_str_bothE i nx hext); exact rfl; exact rfl; exact rfl; (first | rfl | omega); exact rfl; (first | rfl | omega); omega; (rw [ofB_size]; omega))) (c := ?_)) | refine DD 15 ?_ | fail)
        all_goals (first | refine D1 16 ?_ | (refine DV (k := 16) (b := by first | exact U2 nx | ((with_reducible apply v_str_bothE i nx hext); exact rfl; exact rfl; exact rfl; (first | rfl | omega); exact rfl; (first | rfl | omega); omega; (rw [ofB_size]; omega))) (c := ?_)) | (refine D3 16 (DW (b := by first | exact U2 nx | ((with_reducible apply v_str_bothE i nx hext); exact rfl; exact rfl; exact rfl; (first | rfl | omega); exact rfl; (first | rfl | omega); omega; (rw [ofB_size]; omega))) (c := ?_))) | refine DD 16 ?_ | fail)
        all_goals refine DD 17 ?_
        all_goals (first | refine D1 18 ?_ | (refine DV (k := 18) (b := by first | exact U2 nx | ((with_reducible apply v_str_bothE i nx hext); exact rfl; exact rfl; exact rfl; (first | rfl | omega); exact rfl; (first | rfl | omega); omega; (rw [ofB_size]; omega))) (c := ?_)) | refine DD 18 ?_ | fail)
        all_goals (first | (refine D3 12 ?_; refine D5 ?_; (with_reducible apply F1 54); exact rfl; exact EN; (exact fun w μc hw hse => hqt w μc hw); refine D9 ?_) | refine D3 12 (D6 ?_))
        all_goals (first | refine D1 19 ?_ | (refine DV (k := 19) (b := by first | exact U2 nx | ((with_reducible apply v_str_bothE i nx hext); exact rfl; exact rfl; exact rfl; (first | rfl | omega); exact rfl; (first | rfl | omega); omega; (rw [ofB_size]; omega))) (c := ?_)) | refine DD 19 ?_ | fail)
        all_goals refine DD 20 ?_
        all_goals refine DD 21 ?_
        all_goals (try (refine D7 22 ?_; (repeat' (first | refine KO ?_ | (refine KB ?_ ?_ <;> intro hp)))))
        all_goals refine DD 22 ?_
        all_goals (first | refine D1 23 ?_ | (refine DV (k := 23) (b := by first | exact U2 nx | ((with_reducible apply v_str_bothE i nx hext); exact rfl; exact rfl; exact rfl; (first | rfl | omega); exact rfl; (first | rfl | omega); omega; (rw [ofB_size]; omega))) (c := ?_)) | refine DD 23 ?_ | fail)
        all_goals (first | refine D1 24 ?_ | (refine DV (k := 24) (b := by first | exact U2 nx | ((with_reducible apply v_str_bothE i nx hext); exact rfl; exact rfl; exact rfl; (first | rfl | omega); exact rfl; (first | rfl | omega); omega; (rw [ofB_size]; omega))) (c := ?_)) | (refine D3 24 (DW (b := by first | exact U2 nx | ((with_reducible apply v_str_bothE i nx hext); exact rfl; exact rfl; exact rfl; (first | rfl | omega); exact rfl; (first | rfl | omega); omega; (rw [ofB_size]; omega))) (c := ?_))) | refine DD 24 ?_ | fail)
        all_goals (first | refine D1 25 ?_ | (refine DV (k := 25) (b := by first | exact U2 nx | ((with_reducible apply v_str_bothE i nx hext); exact rfl; exact rfl; exact rfl; (first | rfl | omega); exact rfl; (first | rfl | omega); omega; (rw [ofB_size]; omega))) (c := ?_)) | refine DD 25 ?_ | fail)
        all_goals (first | refine D1 26 ?_ | (refine DV (k := 26) (b := by first | exact U2 nx | ((with_reducible apply v_str_bothE i nx hext); exact rfl; exact rfl; exact rfl; (first | rfl | omega); exact rfl; (first | rfl | omega); omega; (rw [ofB_size]; omega))) (c := ?_)) | refine DD 26 ?_ | fail)
        all_goals refine DD 27 ?_
        all_goals (try (refine D7 28 ?_; (repeat' (first | refine KO ?_ | (refine KB ?_ ?_ <;> intro hp)))))
        all_goals (first | refine D1 28 ?_ | (refine DV (k := 28) (b := by first | exact U2 nx | ((with_reducible apply v_str_bothE i nx hext); exact rfl; exact rfl; exact rfl; (first | rfl | omega); exact rfl; (first | rfl | omega); omega; (rw [ofB_size]; omega))) (c := ?_)) | refine DD 28 ?_ | fail)
        all_goals (first | refine D1 29 ?_ | (refine DV (k := 29) (b := by first | exact U2 nx | ((with_reducible apply v_str_bothE i nx hext); exact rfl; exact rfl; exact rfl; (first | rfl | omega); exact rfl; (first | rfl | omega); omega; (rw [ofB_size]; omega))) (c := ?_)) | (refine D3 29 (DW (b := by first | exact U2 nx | ((with_reducible apply v_str_bothE i nx hext); exact rfl; exact rfl; exact rfl; (first | rfl | omega); exact rfl; (first | rfl | omega); omega; (rw [ofB_size]; omega))) (c := ?_))) | refine DD 29 ?_ | fail)
        all_goals refine DD 30 ?_
        all_goals (first | refine D1 31 ?_ | (refine DV (k := 31) (b := by first | exact U2 nx | ((with_reducible apply v_str_bothE i nx hext); exact rfl; exact rfl; exact rfl; (first | rfl | omega); exact rfl; (first | rfl | omega); omega; (rw [ofB_size]; omega))) (c := ?_)) | refine DD 31 ?_ | fail)
        all_goals (first | refine D1 32 ?_ | (refine DV (k := 32) (b := by first | exact U2 nx | ((with_reducible apply v_str_bothE i nx hext); exact rfl; exact rfl; exact rfl; (first | rfl | omega); exact rfl; (first | rfl | omega); omega; (rw [ofB_size]; omega))) (c := ?_)) | refine DD 32 ?_ | fail)
        all_goals refine DD 33 ?_
        all_goals refine DD 34 ?_
        all_goals refine D8 ?_
        repeat' (first | refine KK ?_ | refine NB fun b => ?_ | ((refine KB ?_ ?_ <;> intro hp)) | refine KG ?_ | fail)
        all_goals first | (exfalso; first | omega | contradiction | (exact absurd ‹_› ‹¬ _›)) | skip
        refine gc_draw 3 _ (by kernel_rfl) rfl (List.Sublist.cons _ (List.Sublist.cons_cons _ (List.nil_sublist _))) ?_
        all_goals refine DD 0 ?_
        all_goals refine DD 1 ?_
        all_goals (first | (refine D3 2 ?_; refine D5 ?_; refine Y0 ?_; refine D9 ?_))
        all_goals refine D8 ?_
        repeat' (first | refine KK ?_ | refine NB fun b => ?_ | ((refine KB ?_ ?_ <;> intro hp)) | refine KG ?_ | fail)
        exact ret_v2 rfl (rv_tmp rfl) (rv_agg (vs := curV l i true) 0 rfl rfl rfl rfl rfl (by repeat first | exact lc_nil | refine lc_cons rfl ?_)) rfl rfl
    · have hun : u = [] := by rw [hul]; exact List.drop_eq_nil_of_le (by omega)
      rw [if_pos ⟨hc1, .inl hun⟩]
      repeat' (first | refine KO ?_ | ((with_reducible apply F1 53); exact rfl; exact EN; (exact fun w μc hw hse => hrd w μc hw)) | refine KI ?_ | refine NB fun b => ?_ | ((refine KB ?_ ?_ <;> intro hp)) | refine KG ?_ | fail)
      refine gc_draw 35 _ (by kernel_rfl) rfl (List.Sublist.cons _ (List.Sublist.cons_cons _ (List.nil_sublist _))) ?_
      all_goals refine DD 0 ?_
      all_goals (first | refine D1 1 ?_ | (refine DV (k := 1) (b := by first | exact U2 nx | ((with_reducible apply v_str_bothE i nx hext); exact rfl; exact rfl; exact rfl; (first | rfl | omega); exact rfl; (first | rfl | omega); omega; (rw [ofB_size]; omega))) (c := ?_)) | refine DD 1 ?_ | fail)
      all_goals refine DD 2 ?_
      all_goals (try (refine D7 3 ?_; (repeat' (first | refine KO ?_ | (refine KB ?_ ?_ <;> intro hp)))))
      all_goals (first | refine D1 3 ?_ | (refine DV (k := 3) (b := by first | exact U2 nx | ((with_reducible apply v_str_bothE i nx hext); exact rfl; exact rfl; exact rfl; (first | rfl | omega); exact rfl; (first | rfl | omega); omega; (rw [ofB_size]; omega))) (c := ?_)) | refine DD 3 ?_ | fail)
      all_goals (first | refine D1 4 ?_ | (refine DV (k := 4) (b := by first | exact U2 nx | ((with_reducible apply v_str_bothE i nx hext); exact rfl; exact rfl; exact rfl; (first | rfl | omega); exact rfl; (first | rfl | omega); omega; (rw [ofB_size]; omega))) (c := ?_)) | (refine D3 4 (DW (b := by first | exact U2 nx | ((with_reducible apply v_str_bothE i nx hext); exact rfl; exact rfl; exact rfl; (first | rfl | omega); exact rfl; (first | rfl | omega); omega; (rw [ofB_size]; omega))) (c := ?_))) | refine DD 4 ?_ | fail)
      all_goals (first | refine D1 5 ?_ | (refine DV (k := 5) (b := by first | exact U2 nx | ((with_reducible apply v_str_bothE i nx hext); exact rfl; exact rfl; exact rfl; (first | rfl | omega); exact rfl; (first | rfl | omega); omega; (rw [ofB_size]; omega))) (c := ?_)) | refine DD 5 ?_ | fail)
      all_goals (first | refine D1 6 ?_ | (refine DV (k := 6) (b := by first | exact U2 nx | ((with_reducible apply v_str_bothE i nx hext); exact rfl; exact rfl; exact rfl; (first | rfl | omega); exact rfl; (first | rfl | omega); omega; (rw [ofB_size]; omega))) (c := ?_)) | (refine D3 6 (DW (b := by first | exact U2 nx | ((with_reducible apply v_str_bothE i nx hext); exact rfl; exact rfl; exact rfl; (first | rfl | omega); exact rfl; (first | rfl | omega); omega; (rw [ofB_size]; omega))) (c := ?_))) | refine DD 6 ?_ | fail)
      all_goals (first | refine D1 7 ?_ | (refine DV (k := 7) (b := by first | exact U2 nx | ((with_reducible apply v_str_bothE i nx hext); exact rfl; exact rfl; exact rfl; (first | rfl | omega); exact rfl; (first | rfl | omega); omega; (rw [ofB_size]; omega))) (c := ?_)) | refine DD 7 ?_ | fail)
      all_goals (first | refine D1 8 ?_ | (refine DV (k := 8) (b := by first | exact U2 nx | ((with_reducible apply v_str_bothE i nx hext); exact rfl; exact rfl; exact rfl; (first | rfl | omega); exact rfl; (first | rfl | omega); omega; (rw [ofB_size]; omega))) (c := ?_)) | refine DD 8 ?_ | fail)
      all_goals refine DD 9 ?_
      all_goals refine DD 10 ?_
      all_goals (try (refine D7 11 ?_; (repeat' (first | refine KO ?_ | (refine KB ?_ ?_ <;> intro hp)))))
      all_goals refine DD 11 ?_
      all_goals (first | refine D1 13 ?_ | (refine DV (k := 13) (b := by first | exact U2 nx | ((with_reducible apply v_str_bothE i nx hext); exact rfl; exact rfl; exact rfl; (first | rfl | omega); exact rfl; (first | rfl | omega); omega; (rw [ofB_size]; omega))) (c := ?_)) | refine DD 13 ?_ | fail)
      all_goals (first | refine D1 14 ?_ | (refine DV (k := 14) (b := by first | exact U2 nx | ((with_reducible apply v_str_bothE i nx hext); exact rfl; exact rfl; exact rfl; (first | rfl | omega); exact rfl; (first | rfl | omega); omega; (rw [ofB_size]; omega))) (c := ?_)) | (refine D3 14 (DW (b := by first | exact U2 nx | ((with_reducible apply v_str_bothE i nx hext); exact rfl; exact rfl; exact rfl; (first | rfl | omega); exact rfl; (first | rfl | omega); omega; (rw [ofB_size]; omega))) (c := ?_))) | refine DD 14 ?_ | fail)
      all_goals (first | refine D1 15 ?_ | (refine DV (k := 15) (b := by first | exact U2 nx | ((with_reducible apply v_str_bothE i nx hext); exact rfl; exact rfl; exact rfl; (first | rfl | omega); exact rfl; (first | rfl | omega); omega; (rw [ofB_size]; omega))) (c := ?_)) | refine DD 15 ?_ | fail)
      all_goals (first | refine D1 16 ?_ | (refine DV (k := 16) (b := by first | exact U2 nx | ((with_reducible apply v_str_bothE i nx hext); exact rfl; exact rfl; exact rfl; (first | rfl | omega); exact rfl; (first | rfl | omega); omega; (rw [ofB_size]; omega))) (c := ?_)) | (refine D3 16 (DW (b := by first | exact U2 nx | ((with_reducible apply v_str_bothE i nx hext); exact rfl; exact rfl; exact rfl; (first | rfl | omega); exact rfl; (first | rfl | omega); omega; (rw [ofB_size]; omega))) (c := ?_))) | refine DD 16 ?_ | fail)
      all_goals refine DD 17 ?_
      all_goals (first | refine D1 18 ?_ | (refine DV (k := 18) (b := by first | exact U2 nx | ((with_reducible apply v_str_bothE i nx hext); exact rfl; exact rfl; exact rfl; (first | rfl | omega); exact rfl; (first | rfl | omega); omega; (rw [ofB_size]; omega))) (c := ?_)) | refine DD 18 ?_ | fail)
      all_goals (first | (refine D3 12 ?_; refine D5 ?_; (with_reducible apply F1 54); exact rfl; exact EN; (exact fun w μc hw hse => hqt w μc hw); refine D9 ?_) | refine D3 12 (D6 ?_))
      all_goals (first | refine D1 19 ?_ | (refine DV (k := 19) (b := by first | exact U2 nx | ((with_reducible apply v_str_bothE i nx hext); exact rfl; exact rfl; exact rfl; (first | rfl | omega); exact rfl; (first | rfl | omega); omega; (rw [ofB_size]; omega))) (c := ?_)) | refine DD 19 ?_ | fail)
      all_goals refine DD 20 ?_
      all_goals refine DD 21 ?_
      all_goals (try (refine D7 22 ?_; (repeat' (first | refine KO ?_ | (refine KB ?_ ?_ <;> intro hp)))))
      all_goals refine DD 22 ?_
      all_goals (first | refine D1 23 ?_ | (refine DV (k := 23) (b := by first | exact U2 nx | ((with_reducible apply v_str_bothE i nx hext); exact rfl; exact rfl; exact rfl; (first | rfl | omega); exact rfl; (first | rfl | omega); omega; (rw [ofB_size]; omega))) (c := ?_)) | refine DD 23 ?_ | fail)
      all_goals (first | refine D1 24 ?_ | (refine DV (k := 24) (b := by first | exact U2 nx | ((with_reducible apply v_str_bothE i nx hext); exact rfl; exact rfl; exact rfl; (first | rfl | omega); exact rfl; (first | rfl | omega); omega; (rw [ofB_size]; omega))) (c := ?_)) | (refine D3 24 (DW (b := by first | exact U2 nx | ((with_reducible apply v_str_bothE i nx hext); exact rfl; exact rfl; exact rfl; (first | rfl | omega); exact rfl; (first | rfl | omega); omega; (rw [ofB_size]; omega))) (c := ?_))) | refine DD 24 ?_ | fail)
      all_goals (first | refine D1 25 ?_ | (refine DV (k := 25) (b := by first | exact U2 nx | ((with_reducible apply v_str_bothE i nx hext); exact rfl; exact rfl; exact rfl; (first | rfl | omega); exact rfl; (first | rfl | omega); omega; (rw [ofB_size]; omega))) (c := ?_)) | refine DD 25 ?_ | fail)
      all_goals (first | refine D1 26 ?_ | (refine DV (k := 26) (b := by first | exact U2 nx | ((with_reducible apply v_str_bothE i nx hext); exact rfl; exact rfl; exact rfl; (first | rfl | omega); exact rfl; (first | rfl | omega); omega; (rw [ofB_size]; omega))) (c := ?_)) | refine DD 26 ?_ | fail)
      all_goals refine DD 27 ?_
      all_goals (try (refine D7 28 ?_; (repeat' (first | refine KO ?_ | (refine KB ?_ ?_ <;> intro hp)))))
      all_goals (first | refine D1 28 ?_ | (refine DV (k := 28) (b := by first | exact U2 nx | ((with_reducible apply v_str_bothE i nx hext); exact rfl; exact rfl; exact rfl; (first | rfl | omega); exact rfl; (first | rfl | omega); omega; (rw [ofB_size]; omega))) (c := ?_)) | refine DD 28 ?_ | fail)
      all_goals (first | refine D1 29 ?_ | (refine DV (k := 29) (b := by first | exact U2 nx | ((with_reducible apply v_str_bothE i nx hext); exact rfl; exact rfl; exact rfl; (first | rfl | omega); exact rfl; (first | rfl | omega); omega; (rw [ofB_size]; omega))) (c := ?_)) | (refine D3 29 (DW (b := by first | exact U2 nx | ((with_reducible apply v_str_bothE i nx hext); exact rfl; exact rfl; exact rfl; (first | rfl | omega); exact rfl; (first | rfl | omega); omega; (rw [ofB_size]; omega))) (c := ?_))) | refine DD 29 ?_ | fail)
      all_goals refine DD 30 ?_
      all_goals (first | refine D1 31 ?_ | (refine DV (k := 31) (b := by first | exact U2 nx | ((with_reducible apply v_str_bothE i nx hext); exact rfl; exact rfl; exact rfl; (first | rfl | omega); exact rfl; (first | rfl | omega); omega; (rw [ofB_size]; omega))) (c := ?_)) | refine DD 31 ?_ | fail)
      all_goals (first | refine D1 32 ?_ | (refine DV (k := 32) (b := by first | exact U2 nx | ((with_reducible apply v_str_bothE i nx hext); exact rfl; exact rfl; exact rfl; (first | rfl | omega); exact rfl; (first | rfl | omega); omega; (rw [ofB_size]; omega))) (c := ?_)) | refine DD 32 ?_ | fail)
      all_goals refine DD 33 ?_
      all_goals refine DD 34 ?_
      all_goals refine D8 ?_
      repeat' (first | refine KK ?_ | refine NB fun b => ?_ | ((refine KB ?_ ?_ <;> intro hp)) | refine KG ?_ | fail)
      all_goals first | (exfalso; first | omega | contradiction | (exact absurd ‹_› ‹¬ _›)) | skip
      refine gc_draw 4 _ (by kernel_rfl) rfl (List.Sublist.cons _ (List.Sublist.cons_cons _ (List.nil_sublist _))) ?_
      all_goals refine DD 0 ?_
      all_goals refine DD 1 ?_
      all_goals refine DD 2 ?_
      all_goals (first | (refine D3 3 ?_; refine D5 ?_; refine Y0 ?_; refine D9 ?_))
      all_goals refine D8 ?_
      repeat' (first | refine KK ?_ | refine NB fun b => ?_ | ((refine KB ?_ ?_ <;> intro hp)) | refine KG ?_ | fail)
      exact ret_v2 rfl (rv_tmp rfl) (rv_agg (vs := [.string (ofB l), .int .i64 ((nx : Int) + 1), .bool bad]) 0 rfl rfl rfl rfl rfl (by repeat first | exact lc_nil | refine lc_cons rfl ?_)) rfl rfl
end Go.Proofs.YtmihpkdhfomcgaaGreatDoor
