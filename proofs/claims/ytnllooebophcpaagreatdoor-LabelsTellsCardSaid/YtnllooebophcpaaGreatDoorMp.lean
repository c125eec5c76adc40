/- Expressions hold no marks and no jumps of their function: a visit leaves all as it is. (and what leans on it). No statement of the seat is proved here. -/
import Derived.Test.YtnllooebophcpaaGreatDoorMn
import Derived.Test.YtnllooebophcpaaGreatDoorMh
import Derived.Test.YtnllooebophcpaaGreatDoorSt
set_option maxRecDepth 20000
set_option maxHeartbeats 2000000
namespace Go.Proofs.YtnllooebophcpaaGreatDoor
open Go.RowKit Go.Vcg
def Qc (op : Int) : Prop := op = 4 ∨ 30 ≤ op ∨ op = 2 ∨ op = 3 ∨ op = 7 ∨ op = 8
theorem eatF_spec (p : T → Bool) (m : Int) : ∀ (l : List T) (n : Nat), ∃ e, l = e ++ (eatF p m n l).2 ∧ ∀ k ∈ e, p k = true
  | [], n => ⟨[], rfl, by simp⟩
  | k :: r, n => by
    unfold eatF
    split
    · rename_i h
      obtain ⟨e, h1, h2⟩ := eatF_spec p m r (n + 1)
      refine ⟨k :: e, by rw [List.cons_append, ← h1], fun x hx => ?_⟩
      rcases List.mem_cons.1 hx with rfl | hx
      · exact h.1
      · exact h2 x hx
    · exact ⟨[], rfl, by simp⟩
theorem fitP_all : ∀ (rs : List ((T → Bool) × Int)) (l : List T), fitP rs l = true → ∀ k ∈ l, ∃ r ∈ rs, r.1 k = true
  | [], l, h, k, hk => by
    simp [fitP] at h
    subst h
    cases hk
  | (p, m) :: rs, l, h, k, hk => by
    unfold fitP at h
    split at h
    · cases h
    · obtain ⟨e, h1, h2⟩ := eatF_spec p m l 0
      rw [h1] at hk
      rcases List.mem_append.1 hk with hk | hk
      · exact ⟨(p, m), List.mem_cons_self .., h2 k hk⟩
      · obtain ⟨r, hr, hp⟩ := fitP_all rs _ h k hk
        exact ⟨r, List.mem_cons_of_mem _ hr, hp⟩
theorem fewP_all {p : T → Bool} {a b : Int} {l : List T} (h : fewP p a b l = true) : ∀ k ∈ l, p k = true := by
  unfold fewP at h
  simp only [Bool.and_eq_true, List.all_eq_true] at h
  exact h.2
theorem eachP_all {ps : List (T → Bool)} {l : List T} (h : fitP (eachP ps) l = true) : ∀ k ∈ l, ∃ p ∈ ps, p k = true := fun k hk => by
  obtain ⟨r, hr, hp⟩ := fitP_all _ _ h k hk
  obtain ⟨p, hp1, rfl⟩ := List.mem_map.1 hr
  exact ⟨p, hp1, hp⟩
theorem q_expr {k : T} (h : exprT k = true) : Qc k.op := by
  unfold exprT at h
  split at h
  · exact .inl (by assumption)
  · simp at h
    unfold Qc
    omega
theorem q_of {is : List Int} {k : T} (h : ofT is k = true) (hi : ∀ i ∈ is, Qc i) : Qc k.op := by
  unfold ofT at h
  exact hi _ (by simpa using h)
theorem q_target {k : T} (h : targetT k = true) : Qc k.op := by
  simp [targetT, simpleT] at h
  unfold Qc
  omega
theorem q_simple {k : T} (h : simpleT k = true) : Qc k.op := by
  simp [simpleT] at h
  unfold Qc
  omega
theorem q_has {k : T} {m : Int} (h : hasT k m = true) : Qc k.op := by
  unfold hasT at h
  simp at h
  exact .inl (by omega)
theorem q_item {k : T} (h : itemT k = true) : Qc k.op := by
  simp [itemT, eiT] at h
  rcases h with h | h
  · exact q_target h
  · exact q_of h (by simp [Qc])
theorem q_key {t k : T} (h : keyT t k = true) : Qc k.op := by
  unfold keyT at h
  split at h
  · exact q_expr h
  · exact q_of h (by simp [Qc])
theorem q_each {ps : List (T → Bool)} {l : List T} (h : fitP (eachP ps) l = true) (hq : ∀ p ∈ ps, ∀ k, p k = true → Qc k.op) : ∀ k ∈ l, Qc k.op := fun k hk => by
  obtain ⟨p, hp, hk2⟩ := eachP_all h k hk
  exact hq p hp k hk2
theorem q_fit {rs : List ((T → Bool) × Int)} {l : List T} (h : fitP rs l = true) (hq : ∀ r ∈ rs, ∀ k, r.1 k = true → Qc k.op) : ∀ k ∈ l, Qc k.op := fun k hk => by
  obtain ⟨r, hr, hk2⟩ := fitP_all _ _ h k hk
  exact hq r hr k hk2
theorem q_few {p : T → Bool} {a b : Int} {l : List T} (h : fewP p a b l = true) (hq : ∀ k, p k = true → Qc k.op) : ∀ k ∈ l, Qc k.op := fun k hk => hq k (fewP_all h k hk)
theorem q_none {l : List T} (h : decide (l.length = 0) = true) : ∀ k ∈ l, Qc k.op := fun k hk => by
  have : l = [] := List.eq_nil_of_length_eq_zero (by simpa using h)
  subst this
  cases hk
theorem q_ex {t : T} (h : exB t = true) : ∀ k ∈ t.kids, Qc k.op := by
  unfold exB at h
  by_cases hc0 : t.op = 30 ∨ t.op = 31 ∨ t.op = 32 ∨ t.op = 33 ∨ t.op = 34 ∨ t.op = 35 ∨ t.op = 40
  · rw [if_pos hc0] at h
    exact q_none h
  rw [if_neg hc0] at h
  by_cases hc1 : t.op = 36
  · rw [if_pos hc1] at h
    have hp := dB_true h
    intro k hk
    obtain ⟨i, hi⟩ := List.mem_iff_getElem?.1 hk
    have := hp.2 i k hi
    unfold tmOk at this
    split at this
    · unfold Qc; omega
    · exact q_expr this
  rw [if_neg hc1] at h
  by_cases hc2 : t.op = 37
  · rw [if_pos hc2] at h
    refine q_few h fun k hk => ?_
    simp [eiT] at hk
    rcases hk with hk | hk
    · exact q_expr hk
    · exact q_of hk (by simp [Qc])
  rw [if_neg hc2] at h
  by_cases hc3 : t.op = 38
  · rw [if_pos hc3] at h
    exact q_few h fun k hk => q_of hk (by simp [Qc])
  rw [if_neg hc3] at h
  by_cases hc4 : t.op = 39
  · rw [if_pos hc4] at h
    unfold propT at h
    have key : ∀ {q : T → Bool}, fitP (eachP [keyT t, q]) t.kids = true → (∀ k, q k = true → Qc k.op) → ∀ k ∈ t.kids, Qc k.op := fun h hq => q_each h (by
      intro p hp k hk
      simp at hp
      rcases hp with rfl | rfl
      · exact q_key hk
      · exact hq k hk)
    split at h
    · exact key h fun k hk => q_expr hk
    split at h
    · exact key h fun k hk => by
        simp [getT] at hk
        exact q_has hk.1
    split at h
    · exact key h fun k hk => by
        simp [setT] at hk
        exact q_has hk.1
    split at h
    · exact key h fun k hk => q_has hk
    split at h
    · refine q_each h fun p hp k hk => ?_
      simp at hp
      subst hp
      simp [namedT] at hk
      unfold Qc; omega
    · refine q_each h fun p hp k hk => ?_
      simp at hp
      subst hp
      exact q_expr hk
  rw [if_neg hc4] at h
  by_cases hc5 : t.op = 41 ∨ t.op = 42
  · rw [if_pos hc5] at h
    refine q_each h fun p hp k hk => ?_
    simp at hp
    subst hp
    exact q_expr hk
  rw [if_neg hc5] at h
  by_cases hc6 : t.op = 43
  · rw [if_pos hc6] at h
    refine q_each h fun p hp k hk => ?_
    simp at hp
    subst hp
    exact q_simple hk
  rw [if_neg hc6] at h
  by_cases hc7 : t.op = 44 ∨ t.op = 45 ∨ t.op = 52
  · rw [if_pos hc7] at h
    exact q_few h fun k hk => q_expr hk
  rw [if_neg hc7] at h
  by_cases hc8 : t.op = 46
  · rw [if_pos hc8] at h
    split at h
    · refine q_each h fun p hp k hk => ?_
      simp at hp
      rcases hp with rfl | rfl
      · exact q_target hk
      · exact q_expr hk
    · refine q_each h fun p hp k hk => ?_
      simp at hp
      rcases hp with rfl | rfl
      · exact q_simple hk
      · exact q_expr hk
  rw [if_neg hc8] at h
  by_cases hc9 : t.op = 47
  · rw [if_pos hc9] at h
    exact q_few h fun k hk => q_expr hk
  rw [if_neg hc9] at h
  by_cases hc10 : t.op = 48
  · rw [if_pos hc10] at h
    exact q_few h fun k hk => q_expr hk
  rw [if_neg hc10] at h
  by_cases hc11 : t.op = 49 ∨ t.op = 50
  · rw [if_pos hc11] at h
    refine q_fit h fun r hr k hk => ?_
    simp at hr
    rcases hr with rfl | rfl
    · exact q_expr hk
    · simp [argsT, eiT] at hk
      rcases hk with hk | hk
      · exact q_expr hk
      · exact q_of hk (by simp [Qc])
  rw [if_neg hc11] at h
  by_cases hc12 : t.op = 51
  · rw [if_pos hc12] at h
    exact q_few h fun k hk => q_expr hk
  rw [if_neg hc12] at h
  by_cases hc13 : t.op = 53
  · rw [if_pos hc13] at h
    unfold chainT at h
    split at h
    · rename_i k hks
      intro x hx
      rw [hks] at hx
      simp at hx
      subst hx
      have hc := dB_true h
      have hl : linkT x = true := by cases hc <;> assumption
      simp [linkT] at hl
      unfold Qc; omega
    · cases h
  rw [if_neg hc13] at h
  by_cases hc14 : t.op = 54
  · rw [if_pos hc14] at h
    exact q_few h fun k hk => q_expr hk
  rw [if_neg hc14] at h
  · unfold patternsT at h
    split at h
    · refine q_fit h fun r hr k hk => ?_
      simp at hr
      rcases hr with rfl | rfl
      · simp [eiT] at hk
        rcases hk with hk | hk
        · exact q_item hk
        · exact q_of hk (by simp [Qc])
      · exact q_of hk (by simp [Qc])
    split at h
    · refine q_fit h fun r hr k hk => ?_
      simp at hr
      rcases hr with rfl | rfl <;> exact q_of hk (by simp [Qc])
    split at h
    · refine q_each h fun p hp k hk => ?_
      simp at hp
      rcases hp with rfl | rfl
      · exact q_key hk
      · exact q_item hk
    split at h
    · refine q_each h fun p hp k hk => ?_
      simp at hp
      rcases hp with rfl | rfl
      · exact q_target hk
      · exact q_expr hk
    split at h
    · refine q_each h fun p hp k hk => ?_
      simp at hp
      subst hp
      exact q_target hk
    · cases h
theorem q_kids {t : T} (h : kidsB t = true) (hq : Qc t.op) (h4 : t.op ≠ 4) : ∀ k ∈ t.kids, Qc k.op := by
  unfold kidsB at h
  unfold Qc at hq
  by_cases h30 : 30 ≤ t.op
  · rw [if_neg (by omega)] at h
    exact q_ex h
  · rw [if_pos (by omega)] at h
    unfold stB at h
    rw [if_neg (by omega)] at h
    by_cases c2 : t.op = 2
    · rw [if_pos c2] at h
      exact q_few h fun k hk => q_of hk (by simp [Qc])
    rw [if_neg c2] at h
    by_cases c3 : t.op = 3
    · rw [if_pos c3] at h
      refine q_fit h fun r hr k hk => ?_
      simp at hr
      rcases hr with rfl | rfl
      · exact q_target hk
      · exact q_expr hk
    rw [if_neg c3, if_neg (by omega), if_neg (by omega)] at h
    by_cases c7 : t.op = 7 ∨ t.op = 15 ∨ t.op = 16
    · rw [if_pos c7] at h
      exact q_none h
    rw [if_neg c7, if_pos (by omega)] at h
    refine q_each h fun p hp k hk => ?_
    simp at hp
    subst hp
    exact q_expr hk
inductive Qt : T → Prop
  | fn {t : T} (h : t.op = 4) : Qt t
  | mk {t : T} (h : Qc t.op) (h4 : t.op ≠ 4) (hk : ∀ k ∈ t.kids, Qt k) : Qt t
theorem qt_of_rt {t : T} {d : Nat} {sp : Bool} (h : Rt t d sp) : Qc t.op → Qt t := by
  induction h with
  | @mk t d sp hd hn hk hr ih =>
    intro hq
    by_cases h4 : t.op = 4
    · exact .fn h4
    · refine .mk hq h4 fun k hkm => ?_
      obtain ⟨i, hi⟩ := List.mem_iff_getElem?.1 hkm
      exact ih i k hi (q_kids hk hq h4 k hkm)
theorem kidsF_same {f : T → LP → LS → LRes} {p : LP} : ∀ (ks : List T) (s : LS), (∀ k ∈ ks, ∀ s, f k p s = .ok s) → kidsF f ks p s = .ok s
  | [], s, _ => rfl
  | k :: r, s, h => by
    unfold kidsF
    rw [h k (List.mem_cons_self ..)]
    exact kidsF_same r s fun x hx => h x (List.mem_cons_of_mem _ hx)
theorem nodeF_quiet : ∀ (n : Nat) (t : T) (p : LP) (s : LS), Qt t → nodeF n t p s = .ok s
  | 0, t, p, s, _ => rfl
  | n + 1, t, p, s, h => by
    cases h with
    | fn h => unfold nodeF; rw [if_pos h]
    | mk h h4 hk =>
      unfold Qc at h
      unfold nodeF
      rw [if_neg h4, if_neg (by omega), if_neg (by omega), if_neg (by omega), if_neg (by simp [loopT]; omega)]
      exact kidsF_same _ _ fun k hkm s => nodeF_quiet n k p s (hk k hkm)
end Go.Proofs.YtnllooebophcpaaGreatDoor
namespace Go.Proofs.YtnllooebophcpaaGreatDoor
open Go.RowKit Go.Vcg
abbrev En := T × Int
def flatKs (f : T → Int → Nat → List En) : List T → Nat → Nat → List En
  | [], _, _ => []
  | k :: r, pa, i => f k pa i ++ flatKs f r pa (i + k.size)
def flatN : Nat → T → Int → Nat → List En
  | 0, _, _, _ => []
  | n + 1, t, up, i => (t, up) :: flatKs (flatN n) t.kids i (i + 1)
theorem flatKs_len {f : T → Int → Nat → List En} : ∀ (ks : List T) (pa i : Nat), (∀ k ∈ ks, ∀ up i, (f k up i).length = k.size) → (flatKs f ks pa i).length = szs ks
  | [], _, _, _ => rfl
  | k :: r, pa, i, h => by
    rw [flatKs, List.length_append, szs_cons, h k (List.mem_cons_self ..), flatKs_len r pa _ fun x hx => h x (List.mem_cons_of_mem _ hx)]
theorem size_kids_le {t k : T} {n : Nat} (h : t.size ≤ n + 1) (hk : k ∈ t.kids) : k.size ≤ n := by
  obtain ⟨j, hj⟩ := List.mem_iff_getElem?.1 hk
  have := T.size_kid hj
  omega
theorem flatN_len : ∀ (n : Nat) (t : T) (up : Int) (i : Nat), t.size ≤ n → (flatN n t up i).length = t.size
  | 0, t, _, _, h => by rw [T.size_eq] at h; omega
  | n + 1, t, up, i, h => by
    rw [flatN, List.length_cons, flatKs_len _ _ _ (fun k hk up i => flatN_len n k up i (size_kids_le h hk)), t.size_kids]
    omega
def eT (E : List En) (i : Nat) : T := ((E[i]?).getD (T.zero, 0)).1
def eU (E : List En) (i : Nat) : Nat := ((E[i]?).getD (T.zero, 0)).2.toNat
def marksT (t : T) : Bool := loopT t || decide (t.op = 21) || decide (t.op = 23)
def ownStep (E : List En) (acc : List Bool) (i : Nat) : Bool := if i = 0 then false else if eU E i = 0 then true else (acc[eU E i]?).getD false && decide ((eT E (eU E i)).op ≠ 4)
def ownA (E : List En) : Nat → List Bool
  | 0 => []
  | n + 1 => ownA E n ++ [ownStep E (ownA E n) n]
theorem ownA_len (E : List En) : ∀ n, (ownA E n).length = n
  | 0 => rfl
  | n + 1 => by rw [ownA, List.length_append, ownA_len E n]; rfl
def own (E : List En) (i : Nat) : Bool := ownStep E (ownA E i) i
theorem ownA_get (E : List En) : ∀ (n j : Nat), j < n → (ownA E n)[j]? = some (own E j)
  | n + 1, j, h => by
    rw [ownA]
    by_cases hj : j < n
    · rw [List.getElem?_append_left (by rw [ownA_len]; exact hj)]
      exact ownA_get E n j hj
    · have : j = n := by omega
      subst this
      rw [List.getElem?_append_right (by rw [ownA_len]; exact Nat.le_refl _), ownA_len, Nat.sub_self]
      rfl
theorem own_eq (E : List En) {i : Nat} (hi : 0 < i) (hu : eU E i < i) : own E i = (decide (eU E i = 0) || own E (eU E i) && decide ((eT E (eU E i)).op ≠ 4)) := by
  unfold own
  conv => lhs; unfold ownStep
  rw [if_neg (by omega), ownA_get E i _ hu]
  by_cases h : eU E i = 0
  · simp [h]
  · simp [h, own]
def wt (t : T) : Nat := if marksT t then (if loopT t then 2 else 1) else 0
def nextE (E : List En) : Nat → Nat
  | 0 => 0
  | i + 1 => nextE E i + (if own E i then wt (eT E i) else 0)
def numE (E : List En) (i : Nat) : Int := if own E i && marksT (eT E i) then (nextE E i : Int) else -1
def hitT (name : ByteArray) (again : Bool) (t : T) : Bool := decide (name.size ≠ 0) && decide (t.op = 23) && decide (t.s = name) || decide (name.size = 0) && (loopT t || decide (t.op = 21) && !again)
def aroundE (E : List En) (name : ByteArray) (again : Bool) : Nat → Nat → Nat
  | 0, _ => 0
  | f + 1, i => if i = 0 then 0 else if (eT E i).op = 4 then 0 else if hitT name again (eT E i) then i else aroundE E name again f (eU E i)
def targetE (E : List En) : Nat → Nat → Nat
  | 0, i => i
  | f + 1, i => if (eT E i).op = 23 then targetE E f (i + 1) else i
def leadsE (E : List En) (i : Nat) : Int × Int :=
  let k := aroundE E (eT E i).s (decide ((eT E i).op = 16)) E.length (eU E i)
  if k = 0 ∧ (eT E i).s.size ≠ 0 then (0, 31) else if k = 0 then (0, 32) else if (eT E i).op ≠ 16 then (numE E k, 0)
  else if loopT (eT E (targetE E E.length k)) then (numE E (targetE E E.length k) + 1, 0) else (0, 32)
abbrev RS := List (Int × Int × Int) × List (Int × Int)
def refStep (E : List En) (i : Nat) (s : RS) : Except (Int × Int) RS :=
  if own E i = false then .ok s
  else if (eT E i).op = 23 ∧ 0 < aroundE E (eT E i).s false E.length (eU E i) then .error ((eT E i).at', 31)
  else
    let ms := if 0 ≤ numE E i then s.1 ++ [((eT E i).at', numE E i, if loopT (eT E i) then numE E i + 1 else -1)] else s.1
    if (eT E i).op = 15 ∨ (eT E i).op = 16 then
      (if (leadsE E i).2 ≠ 0 then .error ((eT E i).at', (leadsE E i).2) else .ok (ms, s.2 ++ [((eT E i).at', (leadsE E i).1)]))
    else .ok (ms, s.2)
def refRun (E : List En) : Nat → Nat → RS → Except (Int × Int) RS
  | _, 0, s => .ok s
  | i, k + 1, s => match refStep E i s with
    | .ok s' => refRun E (i + 1) k s'
    | .error e => .error e
theorem refRun_add (E : List En) : ∀ (a i b : Nat) (s : RS), refRun E i (a + b) s = match refRun E i a s with | .ok s' => refRun E (i + a) b s' | .error e => .error e
  | 0, i, b, s => by simp [refRun]
  | a + 1, i, b, s => by
    rw [show a + 1 + b = (a + b) + 1 by omega, refRun, refRun]
    cases refStep E i s with
    | error e => rfl
    | ok s' =>
      have h := refRun_add E a (i + 1) b s'
      rw [show i + 1 + a = i + (a + 1) by omega] at h
      exact h
def AtE (E : List En) (n : Nat) (t : T) (up i : Nat) : Prop := ∀ j x, (flatN n t up i)[j]? = some x → E[i + j]? = some x
def AtK (E : List En) (n : Nat) (ks : List T) (pa i : Nat) : Prop := ∀ j x, (flatKs (flatN n) ks pa i)[j]? = some x → E[i + j]? = some x
theorem AtE.head {E : List En} {n : Nat} {t : T} {up i : Nat} (h : AtE E (n + 1) t up i) : E[i]? = some (t, (up : Int)) := h 0 _ rfl
theorem AtE.kids {E : List En} {n : Nat} {t : T} {up i : Nat} (h : AtE E (n + 1) t up i) : AtK E n t.kids i (i + 1) := fun j x hx => by
  have := h (j + 1) x (by rw [flatN]; simpa using hx)
  rw [show i + 1 + j = i + (j + 1) by omega]
  exact this
theorem AtK.head {E : List En} {n : Nat} {k : T} {r : List T} {pa i : Nat} (h : AtK E n (k :: r) pa i) (hk : k.size ≤ n) : AtE E n k pa i := fun j x hx => h j x (by
  rw [flatKs, List.getElem?_append_left (List.getElem?_eq_some_iff.1 hx).1]
  exact hx)
theorem AtK.tail {E : List En} {n : Nat} {k : T} {r : List T} {pa i : Nat} (h : AtK E n (k :: r) pa i) (hk : k.size ≤ n) : AtK E n r pa (i + k.size) := fun j x hx => by
  have := h (k.size + j) x (by
    rw [flatKs, List.getElem?_append_right (by rw [flatN_len n k _ _ hk]; omega), flatN_len n k _ _ hk, Nat.add_sub_cancel_left]
    exact hx)
  rw [show i + k.size + j = i + (k.size + j) by omega]
  exact this
theorem AtE.eT {E : List En} {n : Nat} {t : T} {up i : Nat} (h : AtE E (n + 1) t up i) : eT E i = t := by unfold Go.Proofs.YtnllooebophcpaaGreatDoor.eT; rw [h.head]; rfl
theorem AtE.eU {E : List En} {n : Nat} {t : T} {up i : Nat} (h : AtE E (n + 1) t up i) : eU E i = up := by unfold Go.Proofs.YtnllooebophcpaaGreatDoor.eU; rw [h.head]; simp
end Go.Proofs.YtnllooebophcpaaGreatDoor
namespace Go.Vcg
open Go.RowKit
section
variable {P : Program} {X : Ctx} {ops : Array Oper} {Q : Exit → Act → World → Prop} {rest : List Oper} {μ : Mem} {l : Slots} {L : List Bk}
variable {ty : TypeId} {pos : String} {af : Array Edge} {gd : Option (Nat × Bool)} {ds : Option Nat}
theorem g_store_rowF {x q : Operand} {t : TypeId} {o1 o2 n g cap m e s : Nat} {xs : List Value} {v : Value} (i : Nat) (hw : wants ops l ⟨none, .store t q x, ty, pos, af, gd⟩ = some true) (hsz : sizeT P t = some n)
    (hi : nthB L i = some (.inr ⟨.slice (some ⟨g, 0, none⟩) m cap, e, s, m, xs⟩)) (hq : ev l q = some (.pointer (some ((Addr.add ⟨g, 0, none⟩ o1).add o2)))) (hx : ev l x = some v) (hlen : v.cells.toList.length = n) (hone : v.cells.toList.all (·.oneCell') = true)
    (hfit : o1 + o2 + n ≤ xs.length)
    (h : G P X ops Q rest μ l (updB L i (.inr ⟨.slice (some ⟨g, 0, none⟩) m cap, e, s, m, xs.take (o1 + o2) ++ v.cells.toList ++ xs.drop (o1 + o2 + n)⟩))) : G P X ops Q (⟨none, .store t q x, ty, pos, af, gd⟩ :: rest) μ l L :=
  g_store_row i hw hsz hi (hq.trans (by rw [add_add'])) hx hlen hone hfit h
theorem v_load_rowF1 {x : Operand} {v : Value} {t : TypeId} {g n cap o1 o2 : Nat} {e s : TypeId} {xs : List Value} (i : Nat) (hag : aggOf P t = some false)
    (hi : nthB L i = some (.inr ⟨.slice (some ⟨g, 0, none⟩) n cap, e, s, n, xs⟩)) (hx : ev l x = some (.pointer (some ((Addr.add ⟨g, 0, none⟩ o1).add o2)))) (hv : xs[o1 + o2]? = some v) : Val P μ l L ⟨ds, .load t x, ty, pos, af, gd⟩ v :=
  v_load_row i hag hi (hx.trans (by rw [add_add'])) hv
theorem v_load_rowF2 {x : Operand} {v : Value} {t : TypeId} {g n cap o1 o2 o3 : Nat} {e s : TypeId} {xs : List Value} (i : Nat) (hag : aggOf P t = some false)
    (hi : nthB L i = some (.inr ⟨.slice (some ⟨g, 0, none⟩) n cap, e, s, n, xs⟩)) (hx : ev l x = some (.pointer (some (((Addr.add ⟨g, 0, none⟩ o1).add o2).add o3)))) (hv : xs[o1 + (o2 + o3)]? = some v) : Val P μ l L ⟨ds, .load t x, ty, pos, af, gd⟩ v :=
  v_load_row i hag hi (hx.trans (by rw [add_add', add_add'])) hv
end
end Go.Vcg
namespace Go.Proofs.YtnllooebophcpaaGreatDoor
open Go.RowKit Go.Vcg
theorem flat_len {α : Type} {enc : α → List Value} {s : Nat} (he : ∀ x, (enc x).length = s) : ∀ xs : List α, (xs.flatMap enc).length = xs.length * s
  | [] => by simp
  | x :: r => by rw [List.flatMap_cons, List.length_append, he, flat_len he r, List.length_cons, Nat.add_mul]; omega
theorem flat_get {α : Type} {enc : α → List Value} {s : Nat} (he : ∀ x, (enc x).length = s) : ∀ (xs : List α) (i k : Nat) (x : α), xs[i]? = some x → k < s → (xs.flatMap enc)[i * s + k]? = (enc x)[k]?
  | [], i, k, x, h, _ => by simp at h
  | y :: r, 0, k, x, h, hk => by
    cases h
    rw [List.flatMap_cons, List.getElem?_append_left (by rw [he]; omega)]
    congr 1
    omega
  | y :: r, i + 1, k, x, h, hk => by
    rw [List.flatMap_cons, List.getElem?_append_right (by rw [he, Nat.add_mul]; omega), he, ← flat_get he r i k x h hk]
    congr 1
    rw [Nat.add_mul]
    omega
theorem flat_set {α : Type} {enc : α → List Value} {s : Nat} (he : ∀ x, (enc x).length = s) {vs : List Value} {k n : Nat} (hk : k + n ≤ s) {y : α} : ∀ (xs : List α) (i : Nat) (x : α), xs[i]? = some x → enc y = (enc x).take k ++ vs ++ (enc x).drop (k + n) →
    (xs.flatMap enc).take (i * s + k) ++ vs ++ (xs.flatMap enc).drop (i * s + k + n) = (xs.set i y).flatMap enc
  | [], i, x, h, _ => by simp at h
  | z :: r, 0, x, h, hy => by
    cases h
    rw [List.set_cons_zero, List.flatMap_cons, List.flatMap_cons, Nat.zero_mul, Nat.zero_add, List.take_append_of_le_length (by rw [he]; omega), List.drop_append_of_le_length (by rw [he]; omega), hy]
    simp
  | z :: r, i + 1, x, h, hy => by
    have ih := flat_set he (vs := vs) hk r i x h hy
    rw [List.set_cons_succ, List.flatMap_cons, List.flatMap_cons, ← ih, Nat.add_mul, Nat.one_mul, show i * s + s + k = (enc z).length + (i * s + k) by rw [he]; omega, List.take_length_add_append, show (enc z).length + (i * s + k) + n = (enc z).length + (i * s + k + n) by omega, List.drop_length_add_append]
    simp
structure FE where
  t : T
  u : Value
  up : Int
  kid : Int
  fn : Int
  num : Int
  last : Int
def FE.key (e : FE) : En := (e.t, e.up)
def encF (e : FE) : List Value := encT e.t e.u ++ [.int .i64 e.up, .int .i64 e.kid, .int .i64 e.fn, .int .i64 e.num, .int .i64 e.last]
theorem encF_len (e : FE) : (encF e).length = 11 := rfl
theorem row_ld {es : List FE} {i k : Nat} {e : FE} {v : Value} (he : es[i]? = some e) (hk : k < 11) (hv : (encF e)[k]? = some v) : (es.flatMap encF)[i * 11 + k]? = some v := by rw [flat_get encF_len es i k e he hk, hv]
theorem row_lds {es : List FE} {i : Nat} {e : FE} (he : es[i]? = some e) (j : Nat) (v : Value) (hv : (encF e)[j]? = some v) : (es.flatMap encF)[i * 11 + j]? = some v := row_ld he (List.getElem?_eq_some_iff.1 hv).1 hv
def KF (μ : Mem) (es : List FE) : Prop := ∀ e ∈ es, KR μ e.t.kids e.u
theorem KF.mono {μ μ' : Mem} {es : List FE} (h : KF μ es) (hle : MLe μ μ') : KF μ' es := fun e he => (h e he).mono hle
theorem KF.app {μ : Mem} {es fs : List FE} (h : KF μ es) (h' : KF μ fs) : KF μ (es ++ fs) := fun e he => (List.mem_append.1 he).elim (h e) (h' e)
def rowF (i : Value × List FE) : List Bk := [.inr ⟨i.1, 63, 11, i.2.length, i.2.flatMap encF⟩]
section
variable {P : Program} {X : Ctx} {ops : Array Oper} {Q : Exit → Act → World → Prop} {rest : List Oper} {μ : Mem} {l : Slots} {L : List Bk}
variable {ty : TypeId} {pos : String} {af : Array Edge} {gd : Option (Nat × Bool)} {ds : Option Nat}
theorem v_load_FE {x : Operand} {t : TypeId} {j g cap m e0 : Nat} {es : List FE} (i : Nat) {e : FE} (he : es[j]? = some e) (hag : aggOf P t = some true) (hsz : sizeT P t = some 11)
    (hi : nthB L i = some (.inr ⟨.slice (some ⟨g, 0, none⟩) m cap, e0, 11, m, es.flatMap encF⟩)) (hx : ev l x = some (.pointer (some (Addr.add ⟨g, 0, none⟩ (j * 11))))) :
    Val P μ l L ⟨ds, .load t x, ty, pos, af, gd⟩ (.agg #[.int .i64 e.t.op, .int .i64 e.t.at', .int .i64 e.t.n, .int .i64 e.t.m, .string e.t.s, e.u, .int .i64 e.up, .int .i64 e.kid, .int .i64 e.fn, .int .i64 e.num, .int .i64 e.last]) :=
  v_load_rows (vs := encF e) i hag hsz hi hx rfl (row_lds he)
theorem g_setF {x q : Operand} {t : TypeId} {j g cap m e0 : Nat} {es : List FE} {y : Int} (i k : Nat) {e e' : FE} (he : es[j]? = some e) (hk : k < 11) (hy : encF e' = (encF e).take k ++ [.int .i64 y] ++ (encF e).drop (k + 1)) (hw : wants ops l ⟨none, .store t q x, ty, pos, af, gd⟩ = some true) (hsz : sizeT P t = some 1)
    (hi : nthB L i = some (.inr ⟨.slice (some ⟨g, 0, none⟩) m cap, e0, 11, m, es.flatMap encF⟩)) (hq : ev l q = some (.pointer (some ((Addr.add ⟨g, 0, none⟩ (j * 11)).add k)))) (hx : ev l x = some (.int .i64 y))
    (h : G P X ops Q rest μ l (updB L i (.inr ⟨.slice (some ⟨g, 0, none⟩) m cap, e0, 11, m, (es.set j e').flatMap encF⟩))) : G P X ops Q (⟨none, .store t q x, ty, pos, af, gd⟩ :: rest) μ l L := by
  refine g_store_rowF i hw hsz hi hq hx rfl rfl ?_ ?_
  · rw [flat_len encF_len]
    have := (List.getElem?_eq_some_iff.1 he).1
    omega
  · rw [show (Value.int .i64 y).cells.toList = [.int .i64 y] from rfl, flat_set encF_len (vs := [.int .i64 y]) (k := k) (n := 1) (by omega) es j e he hy]
    exact h
theorem g_setNum {x q : Operand} {t : TypeId} {j g cap m e0 : Nat} {es : List FE} {y : Int} (i : Nat) {e : FE} (he : es[j]? = some e) (hw : wants ops l ⟨none, .store t q x, ty, pos, af, gd⟩ = some true) (hsz : sizeT P t = some 1)
    (hi : nthB L i = some (.inr ⟨.slice (some ⟨g, 0, none⟩) m cap, e0, 11, m, es.flatMap encF⟩)) (hq : ev l q = some (.pointer (some ((Addr.add ⟨g, 0, none⟩ (j * 11)).add 9)))) (hx : ev l x = some (.int .i64 y))
    (h : G P X ops Q rest μ l (updB L i (.inr ⟨.slice (some ⟨g, 0, none⟩) m cap, e0, 11, m, (es.set j { e with num := y }).flatMap encF⟩))) : G P X ops Q (⟨none, .store t q x, ty, pos, af, gd⟩ :: rest) μ l L := g_setF (y := y) (e' := { e with num := y }) i 9 he (by omega) rfl hw hsz hi hq hx h
theorem g_setFn {x q : Operand} {t : TypeId} {j g cap m e0 : Nat} {es : List FE} {y : Int} (i : Nat) {e : FE} (he : es[j]? = some e) (hw : wants ops l ⟨none, .store t q x, ty, pos, af, gd⟩ = some true) (hsz : sizeT P t = some 1)
    (hi : nthB L i = some (.inr ⟨.slice (some ⟨g, 0, none⟩) m cap, e0, 11, m, es.flatMap encF⟩)) (hq : ev l q = some (.pointer (some ((Addr.add ⟨g, 0, none⟩ (j * 11)).add 8)))) (hx : ev l x = some (.int .i64 y))
    (h : G P X ops Q rest μ l (updB L i (.inr ⟨.slice (some ⟨g, 0, none⟩) m cap, e0, 11, m, (es.set j { e with fn := y }).flatMap encF⟩))) : G P X ops Q (⟨none, .store t q x, ty, pos, af, gd⟩ :: rest) μ l L := g_setF (y := y) (e' := { e with fn := y }) i 8 he (by omega) rfl hw hsz hi hq hx h
end
theorem keys_set {es : List FE} {i : Nat} {e e' : FE} (h : es[i]? = some e) (hk : e'.key = e.key) : (es.set i e').map FE.key = es.map FE.key := by
  rw [List.map_set, hk]
  obtain ⟨h1, h2⟩ := List.getElem?_eq_some_iff.1 h
  rw [← h2]
  apply List.ext_getElem?
  intro j
  rw [List.getElem?_set]
  split
  · rename_i hj
    subst hj
    split
    · simp [h1]
    · rename_i h3; simp at h3; omega
  · rfl
theorem set_at {es : List FE} {i : Nat} {e e' : FE} (h : es[i]? = some e) : (es.set i e')[i]? = some e' := by
  rw [List.getElem?_set_self (List.getElem?_eq_some_iff.1 h).1]
theorem KF.set {μ : Mem} {es : List FE} {i : Nat} {e' : FE} (h : KF μ es) (hk : KR μ e'.t.kids e'.u) : KF μ (es.set i e') := fun x hx => by
  rcases List.mem_or_eq_of_mem_set hx with hx | rfl
  · exact h x hx
  · exact hk
end Go.Proofs.YtnllooebophcpaaGreatDoor
namespace Go.Proofs.YtnllooebophcpaaGreatDoor
open Go.RowKit Go.Vcg
theorem flatKs_snoc (f : T → Int → Nat → List En) (k : T) (pa : Nat) : ∀ (ks : List T) (i : Nat), flatKs f (ks ++ [k]) pa i = flatKs f ks pa i ++ f k pa (i + szs ks)
  | [], i => by simp [flatKs, szs]
  | x :: r, i => by
    rw [List.cons_append, flatKs, flatKs, flatKs_snoc f k pa r, szs_cons, List.append_assoc, Nat.add_assoc]
def LayPost (n : Nat) (t : T) (up : Int) (es : List FE) (μ : Mem) (v : Value) (i : Value × List FE) : Prop := v = i.1 ∧ i.2.map FE.key = es.map FE.key ++ flatN n t up es.length ∧ KF μ i.2
theorem szs_take_succ {ks : List T} {j : Nat} {k : T} (h : ks[j]? = some k) : szs (ks.take (j + 1)) = szs (ks.take j) + k.size := by
  rw [List.take_add_one, h]
  simp [szs]
theorem szs_take_le (ks : List T) (j : Nat) : szs (ks.take j) ≤ szs ks := by
  have := szs_take_drop ks j
  omega
attribute [local irreducible] flatN G GC GQ GA GAop GI GCI Calls IntKind.wrap Int.decLt Int.decLe
theorem lay_spec : ∀ (n : Nat), n ≤ 100001 → ∀ (t : T) (u : Value) (up kid : Int) (v0 : Value) (es : List FE) (w : World) (μ : Mem), MOk μ w → Go.Vcg.Own μ (rowF (v0, es)) w → t.size ≤ n → KR μ t.kids u → KF μ es → es.length + t.size ≤ 200002 →
    Calls Tryz.prog 25 #[v0, .agg (encT t u).toArray, .int .i64 up, .int .i64 kid] w fun e w' => ∃ (v : Value) (μ' : Mem) (i : Value × List FE), e = .returned v ∧ BackM (idsOf (rowF (v0, es))) w w' μ (rowF i) μ' ∧ LayPost n t up es μ' v i := by
  intro n
  induction n with
  | zero => intro _ t u up kid v0 es w μ _ _ hn; exact absurd hn (by rw [T.size_eq]; omega)
  | succ n ih =>
    intro hnb t u up kid v0 es w μ hμ hO hn hk hkf hes
    have hsz := t.size_kids
    have hcnt := ids_count hO.diff
    have hlen := T.len_size t
    obtain ⟨A, c, rfl, hlc, hkid⟩ := hk.form
    refine call_introM (args := [v0, .agg (encT t (.slice A t.kids.length c)).toArray, .int .i64 up, .int .i64 kid]) Tryz.func25 rfl Tryz.ntmps25 (by simp) hμ hO ?_
    unfold rowF
    dsimp only
    refine gc_rowOk 0 rfl ?_
    rintro A0 c0 rfl hok0
    repeat' (first | refine KO ?_ | (first | ((with_reducible apply g_ap); exact rfl; exact rfl; exact rfl; (repeat first | with_reducible exact rowup_hd | with_reducible apply rowup_tl); (iterate 6 exact rfl); (first | ((with_reducible apply src_in); exact rfl; (repeat first | with_reducible exact inb_hd | with_reducible apply inb_tl); exact rfl)); (first | exact rfl | omega | simp); (first | assumption | (exact ones_mem (by (repeat first | with_reducible exact ones_nil | ((with_reducible apply ones_cons); (first | exact rfl | assumption))))) | simp [Value.oneCell']); omega; omega; intro v) | ((with_reducible apply g_append0); (iterate 9 exact rfl); (first | ((with_reducible apply src_in); exact rfl; (repeat first | with_reducible exact inb_hd | with_reducible apply inb_tl); exact rfl)); (first | exact rfl | omega | simp); (first | assumption | (exact ones_mem (by (repeat first | with_reducible exact ones_nil | ((with_reducible apply ones_cons); (first | exact rfl | assumption))))) | simp [Value.oneCell']); omega; omega; intro v)) | refine KI ?_ | refine NB fun b => ?_ | ((refine KB ?_ ?_ <;> intro hp)) | refine KG ?_ | fail)
    rename_i bp
    refine gc_loop (ι := Value × List FE × Nat × Mem) (fun j => j.2.2.1 ≤ t.kids.length ∧ MLe μ j.2.2.2 ∧ KF j.2.2.2 j.2.1 ∧ j.2.1.map FE.key = es.map FE.key ++ (t, up) :: flatKs (flatN n) (t.kids.take j.2.2.1) es.length (es.length + 1)) (fun j => t.kids.length - j.2.2.1) (fun j => j.2.2.2)
      (fun j => [(0, j.1), (5, .pointer (some ⟨bp, 0, none⟩)), (9, .int .i64 es.length), (10, .int .i64 j.2.2.1)]) (fun j => rowF (j.1, j.2.1) ++ [.inl ⟨bp, 24, 6, idx 0 (encT t (.slice A t.kids.length c))⟩])
      (v, es ++ [⟨t, .slice A t.kids.length c, up, kid, 0, 0, 0⟩], 0, μ) ⟨Nat.zero_le _, MLe.refl _, hkf.app fun e he => by rw [List.mem_singleton.1 he]; exact hk, by simp [FE.key, flatKs]⟩ (fun a w hs => (hs.rowEq (n' := (es ++ [(⟨t, .slice A t.kids.length c, up, kid, 0, 0, 0⟩ : FE)]).length) (xs' := (es ++ [(⟨t, .slice A t.kids.length c, up, kid, 0, 0, 0⟩ : FE)]).flatMap encF) (i := 2) rfl (by simp) (by rw [List.flatMap_append]; rfl)).sel PU PS) ?_
    rintro ⟨v1, es1, i, μ1⟩ ⟨hil, hle1, hkf1, hkeys⟩
    dsimp only at hil hle1 hkf1 hkeys ⊢
    unfold rowF
    dsimp only [List.cons_append, List.nil_append]
    have hl1 : es1.length = es.length + 1 + szs (t.kids.take i) := by
      have h := congrArg List.length hkeys
      rw [List.length_map, List.length_append, List.length_map, List.length_cons, flatKs_len _ _ _ (fun k hk up i => flatN_len n k up i (size_kids_le hn (List.mem_of_mem_take hk)))] at h
      omega
    have hszl := szs_take_le t.kids i
    refine gc_rowOk 0 rfl ?_
    rintro A1 c1 rfl hok1
    obtain ⟨g, rfl⟩ : ∃ g, A1 = some ⟨g, 0, none⟩ := by
      rcases hok1.form with ⟨_, h, _⟩ | h
      · omega
      · exact h
    by_cases hlt : i < t.kids.length
    · have hkk : t.kids[i]? = some t.kids[i] := List.getElem?_eq_getElem hlt
      have hks := T.size_kid hkk
      obtain ⟨ad, x, rfl, hm0, hox, hkx⟩ := hkid i _ hkk
      have hm := hm0.mono hle1
      have hts := szs_take_succ hkk
      have hszl2 := szs_take_le t.kids (i + 1)
      have htk : t.kids.take (i + 1) = t.kids.take i ++ [t.kids[i]] := by rw [List.take_succ_eq_append_getElem hlt]
      generalize t.kids[i] = k at hkk hks hm0 hm hkx hts htk
      have hcall := fun (w2 : World) (hw2 : MOk μ1 w2) (hO2 : Go.Vcg.Own μ1 (rowF (.slice (some ⟨g, 0, none⟩) es1.length c1, es1)) w2) => ih (by omega) k x es.length i (.slice (some ⟨g, 0, none⟩) es1.length c1) es1 w2 μ1 hw2 hO2 (by omega) (hkx.mono hle1) hkf1 (by omega)
      repeat' (first | refine KO ?_ | ((with_reducible apply g_enter_bor 1); exact rfl; exact rfl; exact rfl; ((with_reducible apply e_call4); kernel_rfl; exact rfl; exact rfl; exact rfl; exact rfl); exact rfl; (exact hcall); (rintro v2 μ2 ⟨v2', es2⟩ hle2 ⟨rfl, hkeys2, hkf2⟩); (unfold rowF); (dsimp only [List.cons_append, List.nil_append])) | (refine KV (b := by first | exact U1 i | exact U4 hm) (c := ?_)) | refine KI ?_ | refine NB fun b => ?_ | ((refine KB ?_ ?_ <;> intro hp)) | refine KG ?_ | fail)
      exact gq_backS (v2, es2, i + 1, μ2) ⟨by dsimp only; omega, hle1.trans hle2, hkf2, by
        dsimp only at hkeys2 ⊢
        rw [hkeys2, hkeys, htk, flatKs_snoc, hl1]
        simp⟩ (by dsimp only; omega) rfl PU PS
    · have hi : i = t.kids.length := by omega
      subst hi
      rw [List.take_length] at hkeys hl1
      have hat : ∃ e, es1[es.length]? = some e := by
        have : es.length < es1.length := by omega
        exact ⟨_, List.getElem?_eq_getElem this⟩
      obtain ⟨e, he⟩ := hat
      have hfs := flat_set encF_len (vs := [.int .i64 ((es1.length : Int) - 1)]) (k := 10) (n := 1) (by omega) (y := { e with last := (es1.length : Int) - 1 }) es1 es.length e he rfl
      have hk2 := keys_set (e' := { e with last := (es1.length : Int) - 1 }) he rfl
      have hkf2 := hkf1.set (i := es.length) (e' := { e with last := (es1.length : Int) - 1 }) (hkf1 e (List.mem_of_getElem? he))
      have hfl := flat_len encF_len es1
      repeat' (first | refine KO ?_ | ((with_reducible apply g_store_rowF 0); exact rfl; exact rfl; exact rfl; exact rfl; exact rfl; exact rfl; exact rfl; (rw [hfl]; omega)) | (refine KV (b := by first | exact U1 es.length) (c := ?_)) | refine KI ?_ | refine NB fun b => ?_ | ((refine KB ?_ ?_ <;> intro hp)) | refine KG ?_ | fail)
      refine gq_rowEq (n' := (es1.set es.length { e with last := (es1.length : Int) - 1 }).length) 0 rfl (by rw [List.length_set]) hfs ?_
      exact ret_bor (Ls := rowF) 1 (.slice (some ⟨g, 0, none⟩) es1.length c1, es1.set es.length { e with last := (es1.length : Int) - 1 }) hcnt rfl (rv_tmp rfl) rfl rfl (fun μ' hle' => ⟨rfl, by
        dsimp only
        rw [hk2, hkeys]
        congr 1
        unfold flatN
        rfl, hkf2.mono hle'⟩)
end Go.Proofs.YtnllooebophcpaaGreatDoor
namespace Go.Proofs.YtnllooebophcpaaGreatDoor
open Go.RowKit Go.Vcg
theorem form_ne {s : ByteArray} (h : formB s = true) : s.size ≠ 0 := fun h0 => by
  have h2 := str0.1 h0
  subst h2
  unfold formB at h
  exact (dB_true h).1 rfl
theorem numE_own {E : List En} {i : Nat} (ho : own E i = true) : numE E i = if marksT (eT E i) then (nextE E i : Int) else -1 := by
  unfold numE
  rw [ho, Bool.true_and]
theorem numE_ge (E : List En) (i : Nat) : -1 ≤ numE E i := by
  unfold numE
  split <;> omega
theorem skip_run (E : List En) : ∀ (n : Nat) (t : T) (up i : Nat) (s : RS), t.size ≤ n → AtE E n t up i → 0 < i → own E i = false → refRun E i t.size s = .ok s ∧ nextE E (i + t.size) = nextE E i
  | 0, t, _, _, _, h, _, _, _ => by rw [T.size_eq] at h; omega
  | n + 1, t, up, i, s, h, hat, hi, ho => by
    have key : ∀ (ks : List T) (j : Nat), (∀ k ∈ ks, k.size ≤ n) → AtK E n ks i j → i < j → refRun E j (szs ks) s = .ok s ∧ nextE E (j + szs ks) = nextE E j := by
      intro ks
      induction ks with
      | nil => intro j _ _ _; exact ⟨rfl, rfl⟩
      | cons k r ihr =>
        intro j hk ha hij
        have hks := hk k (List.mem_cons_self ..)
        have hh := ha.head hks
        have hoj : own E j = false := by
          cases n with
          | zero => rw [T.size_eq] at hks; omega
          | succ m => rw [own_eq E (by omega) (by rw [hh.eU]; omega), hh.eU, ho]; simp; omega
        obtain ⟨h1, h2⟩ := skip_run E n k i j s hks hh (by omega) hoj
        have hkp : 0 < k.size := by rw [T.size_eq]; omega
        obtain ⟨h3, h4⟩ := ihr (j + k.size) (fun x hx => hk x (List.mem_cons_of_mem _ hx)) (ha.tail hks) (by omega)
        rw [szs_cons, refRun_add, h1]
        refine ⟨h3, ?_⟩
        rw [← Nat.add_assoc, h4, h2]
    obtain ⟨h1, h2⟩ := key t.kids (i + 1) (fun k hk => size_kids_le h hk) hat.kids (by omega)
    have hs : refStep E i s = .ok s := by unfold refStep; rw [if_pos ho]
    have hn : nextE E (i + 1) = nextE E i := by rw [nextE, if_neg (by simp [ho])]; omega
    rw [t.size_kids, Nat.add_comm 1, refRun, hs]
    refine ⟨h1, ?_⟩
    rw [show i + (szs t.kids + 1) = i + 1 + szs t.kids by omega, h2, hn]
def agE (E : List En) (k : Nat) : Int := if loopT (eT E (targetE E E.length k)) then numE E (targetE E E.length k) + 1 else -1
theorem hit0 (ag : Bool) (t : T) : hitT ⟨#[]⟩ ag t = (loopT t || decide (t.op = 21) && !ag) := by
  have h : (⟨#[]⟩ : ByteArray).size = 0 := rfl
  unfold hitT
  rw [h]
  simp
structure CtxOk (E : List En) (up : Nat) (p : LP) : Prop where
  brk : ∃ k, (∀ F, up < F → aroundE E ⟨#[]⟩ false F up = k) ∧ (k = 0 → p.brk = -1) ∧ (k ≠ 0 → p.brk = numE E k ∧ 0 ≤ numE E k)
  again : ∃ k, (∀ F, up < F → aroundE E ⟨#[]⟩ true F up = k) ∧ (k = 0 → p.again = -1) ∧ (k ≠ 0 → p.again = numE E k + 1 ∧ (eT E k).op ≠ 23 ∧ loopT (eT E k) = true)
  ls : ∀ (name : ByteArray) (ag : Bool), name.size ≠ 0 → ∃ k, (∀ F, up < F → aroundE E name ag F up = k) ∧ (k = 0 → findL p.ls name = none) ∧ (k ≠ 0 → ∃ l, findL p.ls name = some l ∧ l.brk = numE E k ∧ 0 ≤ numE E k ∧ l.again = agE E k)
theorem around_0 (E : List En) (name : ByteArray) (ag : Bool) : ∀ F, aroundE E name ag F 0 = 0
  | 0 => rfl
  | F + 1 => by rw [aroundE, if_pos rfl]
theorem ctx_root (E : List En) : CtxOk E 0 P0 :=
  ⟨⟨0, fun F _ => around_0 E _ _ F, fun _ => rfl, fun h => absurd rfl h⟩, ⟨0, fun F _ => around_0 E _ _ F, fun _ => rfl, fun h => absurd rfl h⟩, fun name ag _ => ⟨0, fun F _ => around_0 E _ _ F, fun _ => rfl, fun h => absurd rfl h⟩⟩
section
variable {E : List En} {i up : Nat} {t : T} (hi : 0 < i) (hE : eT E i = t) (hU : eU E i = up) (hup : up < i) (h4 : t.op ≠ 4)
include hi hE hU hup h4
theorem around_up (name : ByteArray) (ag : Bool) {k : Nat} (hk : ∀ F, up < F → aroundE E name ag F up = k) (F : Nat) (hF : i < F) : aroundE E name ag F i = if hitT name ag t then i else k := by
  cases F with
  | zero => omega
  | succ F =>
    rw [aroundE, if_neg (by omega), hE, if_neg h4, hU, hk F (by omega)]
theorem ctx_plain {p : LP} (hp : CtxOk E up p) (hh : ∀ name ag, hitT name ag t = false) : CtxOk E i p := by
  refine ⟨?_, ?_, fun name ag hn => ?_⟩
  · obtain ⟨k, h1, h2⟩ := hp.brk
    exact ⟨k, fun F hF => by rw [around_up hi hE hU hup h4 _ _ h1 F hF, if_neg (by simp [hh])], h2⟩
  · obtain ⟨k, h1, h2⟩ := hp.again
    exact ⟨k, fun F hF => by rw [around_up hi hE hU hup h4 _ _ h1 F hF, if_neg (by simp [hh])], h2⟩
  · obtain ⟨k, h1, h2⟩ := hp.ls name ag hn
    exact ⟨k, fun F hF => by rw [around_up hi hE hU hup h4 _ _ h1 F hF, if_neg (by simp [hh])], h2⟩
theorem ctx_loop {p : LP} (hp : CtxOk E up p) (hl : loopT t = true) (hn : 0 ≤ numE E i) : CtxOk E i ⟨numE E i, numE E i + 1, p.ls⟩ := by
  have h23 : t.op ≠ 23 := by simp [loopT] at hl; omega
  have hh0 : ∀ ag, hitT ⟨#[]⟩ ag t = true := fun ag => by rw [hit0]; simp [hl]
  refine ⟨⟨i, fun F hF => ?_, fun h => by omega, fun _ => ⟨rfl, hn⟩⟩, ⟨i, fun F hF => ?_, fun h => by omega, fun _ => ⟨rfl, by rw [hE]; exact h23, by rw [hE]; exact hl⟩⟩, fun name ag hnm => ?_⟩
  · obtain ⟨k, h1, h2⟩ := hp.brk
    rw [around_up hi hE hU hup h4 _ _ h1 F hF, if_pos (hh0 _)]
  · obtain ⟨k, h1, h2⟩ := hp.again
    rw [around_up hi hE hU hup h4 _ _ h1 F hF, if_pos (hh0 _)]
  · obtain ⟨k, h1, h2⟩ := hp.ls name ag hnm
    exact ⟨k, fun F hF => by rw [around_up hi hE hU hup h4 _ _ h1 F hF, if_neg (by simp [hitT, hnm, h23])], h2⟩
theorem ctx_switch {p : LP} (hp : CtxOk E up p) (ho : t.op = 21) (hn : 0 ≤ numE E i) : CtxOk E i ⟨numE E i, p.again, p.ls⟩ := by
  have hl : loopT t = false := by simp [loopT, ho]
  refine ⟨⟨i, fun F hF => ?_, fun h => by omega, fun _ => ⟨rfl, hn⟩⟩, ?_, fun name ag hnm => ?_⟩
  · obtain ⟨k, h1, h2⟩ := hp.brk
    rw [around_up hi hE hU hup h4 _ _ h1 F hF, if_pos (by rw [hit0]; simp [ho])]
  · obtain ⟨k, h1, h2⟩ := hp.again
    exact ⟨k, fun F hF => by rw [around_up hi hE hU hup h4 _ _ h1 F hF, if_neg (by rw [hit0]; simp [hl])], h2⟩
  · obtain ⟨k, h1, h2⟩ := hp.ls name ag hnm
    exact ⟨k, fun F hF => by rw [around_up hi hE hU hup h4 _ _ h1 F hF, if_neg (by simp [hitT, hnm, ho])], h2⟩
theorem ctx_label {p : LP} (hp : CtxOk E up p) (ho : t.op = 23) (hn : 0 ≤ numE E i) {a : Int} (ha : a = agE E i) : CtxOk E i ⟨p.brk, p.again, p.ls ++ [⟨t.s, numE E i, a⟩]⟩ := by
  have hl : loopT t = false := by simp [loopT, ho]
  refine ⟨?_, ?_, fun name ag hnm => ?_⟩
  · obtain ⟨k, h1, h2⟩ := hp.brk
    exact ⟨k, fun F hF => by rw [around_up hi hE hU hup h4 _ _ h1 F hF, if_neg (by rw [hit0]; simp [hl, ho])], h2⟩
  · obtain ⟨k, h1, h2⟩ := hp.again
    exact ⟨k, fun F hF => by rw [around_up hi hE hU hup h4 _ _ h1 F hF, if_neg (by rw [hit0]; simp [hl])], h2⟩
  · obtain ⟨k, h1, h2, h3⟩ := hp.ls name ag hnm
    have hfl : findL (p.ls ++ [⟨t.s, numE E i, a⟩]) name = if t.s = name then some ⟨t.s, numE E i, a⟩ else findL p.ls name := by
      unfold findL
      rw [List.reverse_append]
      show List.find? _ (_ :: p.ls.reverse) = _
      rw [List.find?_cons]
      by_cases h : t.s = name <;> simp [h]
    by_cases h : t.s = name
    · refine ⟨i, fun F hF => ?_, fun h => by omega, fun _ => ⟨_, by rw [hfl, if_pos h], rfl, hn, ha⟩⟩
      rw [around_up hi hE hU hup h4 _ _ h1 F hF, if_pos (by simp [hitT, hnm, ho, h])]
    · refine ⟨k, fun F hF => ?_, fun hk => by rw [hfl, if_neg h]; exact h2 hk, fun hk => ?_⟩
      · rw [around_up hi hE hU hup h4 _ _ h1 F hF, if_neg (by simp [hitT, hnm, h])]
      · rw [hfl, if_neg h]; exact h3 hk
end
theorem chain_target (E : List En) : ∀ (n : Nat) (t : T) (up i F : Nat), t.size ≤ n → AtE E n t up i → up < i → own E i = true → (∀ t' d sp, Rt t' d sp → t'.op = 23 → t'.kids.length = 1) → (∃ d sp, Rt t d sp) → t.size ≤ F →
    ∃ j, targetE E F i = j ∧ loopT (eT E j) = loopsF n t ∧ (loopsF n t = true → numE E j = nextE E i + chainN n t)
  | 0, t, _, _, _, h, _, _, _, _, _, _ => by rw [T.size_eq] at h; omega
  | n + 1, t, up, i, F, h, hat, hup, ho, h1k, ⟨d, sp, hrt⟩, hF => by
    have hsk := t.size_kids
    cases F with
    | zero => omega
    | succ F =>
      rw [targetE, hat.eT]
      by_cases h23 : t.op = 23
      · rw [if_pos h23]
        have hkl := h1k t d sp hrt h23
        have hk0 : t.kids[0]? = some t.kids[0] := List.getElem?_eq_getElem (by omega)
        have hkm := List.mem_of_getElem? hk0
        have hks : t.kids = [t.kids[0]] := by
          have h9 := List.take_succ_eq_append_getElem (l := t.kids) (i := 0) (by omega)
          rw [List.take_of_length_le (by omega)] at h9
          simpa using h9
        generalize t.kids[0] = k at hk0 hkm hks
        have hak := hat.kids
        rw [hks] at hak
        have hkz := size_kids_le h hkm
        have hh := hak.head hkz
        have hrk : ∃ d sp, Rt k d sp := by
          cases hrt with
          | mk _ _ _ hr => exact ⟨_, _, hr 0 k hk0⟩
        have hok : own E (i + 1) = true := by
          cases n with
          | zero => rw [T.size_eq] at hkz; omega
          | succ m =>
            rw [own_eq E (by omega) (by rw [hh.eU]; omega), hh.eU, ho, hat.eT, h23]
            simp
        obtain ⟨j, hj1, hj2, hj3⟩ := chain_target E n k i (i + 1) F hkz hh (by omega) hok h1k hrk (by have := T.size_kid hk0; omega)
        refine ⟨j, hj1, by rw [loopsF_step h23 hk0]; exact hj2, fun hl => ?_⟩
        rw [loopsF_step h23 hk0] at hl
        rw [hj3 hl, chainN_step h23 hk0, nextE, if_pos (by rw [ho]), hat.eT]
        have : wt t = 1 := by simp [wt, marksT, loopT, h23]
        rw [this]
        omega
      · rw [if_neg h23]
        refine ⟨i, rfl, ?_, fun hl => ?_⟩
        · rw [hat.eT, loopsF, if_neg h23]
        · rw [loopsF, if_neg h23] at hl
          rw [numE_own ho, hat.eT, if_pos (by simp [marksT, hl]), chainN, if_neg h23]
          simp
end Go.Proofs.YtnllooebophcpaaGreatDoor
namespace Go.Proofs.YtnllooebophcpaaGreatDoor
open Go.RowKit Go.Vcg
theorem eachAll : ∀ (ps : List (T → Bool)) (ks : List T), fitP (eachP ps) ks = true → ks.length = ps.length ∧ ∀ (j : Nat) (p : T → Bool) (k : T), ps[j]? = some p → ks[j]? = some k → p k = true
  | [], ks, h => by
    simp [eachP, fitP] at h
    subst h
    exact ⟨rfl, fun j p k hp => by simp at hp⟩
  | p :: ps, ks, h => by
    have h2 : fitP ((p, 0) :: eachP ps) ks = true := h
    rw [fitP_0] at h2
    cases ks with
    | nil => cases h2
    | cons k r =>
      dsimp only at h2
      split at h2
      · rename_i hp
        obtain ⟨h3, h4⟩ := eachAll ps r h2
        refine ⟨by simp [h3], fun j p' k' hp' hk' => ?_⟩
        cases j with
        | zero => simp at hp' hk'; subst hp'; subst hk'; exact hp
        | succ j => exact h4 j p' k' (by simpa using hp') (by simpa using hk')
      · cases h2
theorem aroundK_quiet {n a : Nat} {p q : LP} : ∀ (ks : List T) (i : Nat) (s : LS), (∀ (j : Nat) (k : T), ks[j]? = some k → i + j ≠ a → Qt k) → aroundK (nodeF n) a p q i ks s = kidsF (nodeF n) ks q s
  | [], i, s, _ => rfl
  | k :: r, i, s, h => by
    unfold aroundK kidsF
    have hr : ∀ s, aroundK (nodeF n) a p q (i + 1) r s = kidsF (nodeF n) r q s := fun s => aroundK_quiet r (i + 1) s fun j x hx hj => h (j + 1) x (by simpa using hx) (by omega)
    by_cases hi : i = a
    · rw [show partK i a p q = q from if_pos hi]
      cases nodeF n k q s with
      | ok s1 => exact hr s1
      | error e => rfl
    · rw [show partK i a p q = p from if_neg hi]
      have hk := h 0 k rfl (by omega)
      rw [nodeF_quiet n k p s hk, nodeF_quiet n k q s hk]
      exact hr s
def Agree (E : List En) (i k : Nat) (s : LS) : LRes → Prop
  | .ok s' => refRun E i k (s.marks, s.jumps) = .ok (s'.marks, s'.jumps) ∧ nextE E (i + k) = s'.next
  | .error x => refRun E i k (s.marks, s.jumps) = .error x
theorem agree_step {E : List En} {i k : Nat} {s s1 : LS} {r : LRes} (h : refStep E i (s.marks, s.jumps) = .ok (s1.marks, s1.jumps)) (ha : Agree E (i + 1) k s1 r) : Agree E i (k + 1) s r := by
  cases r with
  | ok s' =>
    obtain ⟨h1, h2⟩ := ha
    refine ⟨by rw [refRun, h]; exact h1, ?_⟩
    rw [show i + (k + 1) = i + 1 + k by omega]
    exact h2
  | error x =>
    show refRun E i (k + 1) _ = _
    rw [refRun, h]
    exact ha
theorem agree_err {E : List En} {i k : Nat} {s : LS} {x : Int × Int} (h : refStep E i (s.marks, s.jumps) = .error x) : Agree E i (k + 1) s (.error x) := by
  show refRun E i (k + 1) _ = _
  rw [refRun, h]
def NodeRef (E : List En) (n : Nat) : Prop := ∀ (t : T) (up i : Nat) (p : LP) (s : LS) (d : Nat) (sp : Bool), t.size ≤ n → Rt t d sp → AtE E n t up i → up < i → own E i = true → CtxOk E up p → nextE E i = s.next → i + t.size ≤ E.length → n ≤ 100000 → Agree E i t.size s (nodeF n t p s)
theorem kids_ref {E : List En} {n : Nat} (ih : NodeRef E n) (hn : n ≤ 100000) : ∀ (ks : List T) (pa i : Nat) (p : LP) (s : LS), (∀ k ∈ ks, k.size ≤ n ∧ ∃ d sp, Rt k d sp) → AtK E n ks pa i → pa < i → (pa = 0 ∨ own E pa = true ∧ (eT E pa).op ≠ 4) → CtxOk E pa p → nextE E i = s.next → i + szs ks ≤ E.length → Agree E i (szs ks) s (kidsF (nodeF n) ks p s)
  | [], pa, i, p, s, _, _, _, _, _, hnx, _ => ⟨rfl, hnx⟩
  | k :: r, pa, i, p, s, hk, ha, hpa, hown, hc, hnx, hlen => by
    obtain ⟨hkz, d, sp, hrt⟩ := hk k (List.mem_cons_self ..)
    have hh := ha.head hkz
    rw [szs_cons] at hlen ⊢
    have ho : own E i = true := by
      cases n with
      | zero => rw [T.size_eq] at hkz; omega
      | succ m =>
        rw [own_eq E (by omega) (by rw [hh.eU]; omega), hh.eU]
        rcases hown with h | ⟨h1, h2⟩
        · simp [h]
        · simp [h1, h2]
    have h1 := ih k pa i p s d sp hkz hrt hh hpa ho hc hnx (by omega) hn
    unfold kidsF
    cases hq : nodeF n k p s with
    | error e =>
      rw [hq] at h1
      show refRun E i (k.size + szs r) _ = _
      have h2 : refRun E i k.size (s.marks, s.jumps) = .error e := h1
      rw [refRun_add, h2]
    | ok s1 =>
      rw [hq] at h1
      obtain ⟨h2, h3⟩ := h1
      have h4 := kids_ref ih hn r pa (i + k.size) p s1 (fun x hx => hk x (List.mem_cons_of_mem _ hx)) (ha.tail hkz) (by omega) hown hc h3 (by omega)
      dsimp only
      cases hq2 : kidsF (nodeF n) r p s1 with
      | error e =>
        rw [hq2] at h4
        show refRun E i (k.size + szs r) _ = _
        rw [refRun_add, h2]
        exact h4
      | ok s2 =>
        rw [hq2] at h4
        refine ⟨by rw [refRun_add, h2]; exact h4.1, ?_⟩
        rw [← Nat.add_assoc]
        exact h4.2
theorem stw_kids {t : T} (h : kidsB t = true) (ho : t.op ≤ 23) : stB t = true := by
  unfold kidsB at h
  rwa [if_pos ho] at h
theorem stw_jump {t : T} (h : kidsB t = true) (ho : t.op = 15 ∨ t.op = 16) : szs t.kids = 0 := by
  have h2 := stw_kids h (by omega)
  unfold stB at h2
  rw [if_neg (by omega), if_neg (by omega), if_neg (by omega), if_neg (by omega), if_neg (by omega), if_pos (by omega)] at h2
  have : t.kids = [] := List.eq_nil_of_length_eq_zero (by simpa using h2)
  rw [this]
  rfl
theorem stw_label {t : T} (h : kidsB t = true) (ho : t.op = 23) : t.kids.length = 1 := by
  have h2 := stw_kids h (by omega)
  unfold stB at h2
  rw [if_neg (by omega), if_neg (by omega), if_neg (by omega), if_neg (by omega), if_neg (by omega), if_neg (by omega), if_neg (by omega), if_neg (by omega), if_neg (by omega), if_neg (by omega), if_neg (by omega), if_neg (by omega), if_neg (by omega), if_neg (by omega), if_neg (by omega), if_neg (by omega), if_neg (by omega)] at h2
  exact (eachAll _ _ h2).1
theorem stw_switch {t k : T} (h : kidsB t = true) (ho : t.op = 21) (hk : t.kids[0]? = some k) : Qc k.op := by
  have h2 := stw_kids h (by omega)
  unfold stB at h2
  rw [if_neg (by omega), if_neg (by omega), if_neg (by omega), if_neg (by omega), if_neg (by omega), if_neg (by omega), if_neg (by omega), if_neg (by omega), if_neg (by omega), if_neg (by omega), if_neg (by omega), if_neg (by omega), if_neg (by omega), if_neg (by omega), if_pos ho] at h2
  rw [fitP_0] at h2
  cases hks : t.kids with
  | nil => rw [hks] at hk; simp at hk
  | cons x r =>
    rw [hks] at hk h2
    simp at hk
    subst hk
    dsimp only at h2
    split at h2
    · rename_i he; exact q_expr he
    · cases h2
theorem q_left {k : T} (h : leftT k = true) : Qc k.op := by
  simp [leftT] at h
  rcases h with h | h
  · exact q_target h
  · unfold Qc; omega
theorem q_ei7 {k : T} (h : eiT [exprT, ofT [7]] k = true) : Qc k.op := by
  simp [eiT] at h
  rcases h with h | h
  · exact q_expr h
  · exact q_of h (by simp [Qc])
theorem stw_loop {t k : T} {j : Nat} (h : kidsB t = true) (hl : loopT t = true) (hk : t.kids[j]? = some k) (hj : j ≠ bodyAt t) : Qc k.op := by
  simp [loopT] at hl
  have h2 := stw_kids h (by omega)
  unfold stB at h2
  rw [if_neg (by omega), if_neg (by omega), if_neg (by omega), if_neg (by omega), if_neg (by omega), if_neg (by omega), if_neg (by omega), if_neg (by omega)] at h2
  have hjl := (List.getElem?_eq_some_iff.1 hk).1
  unfold bodyAt at hj
  by_cases h10 : t.op = 10
  · rw [if_pos h10] at h2
    rw [if_neg (by omega)] at hj
    obtain ⟨h3, h4⟩ := eachAll _ _ h2
    simp at h3
    match j, hj, hjl, hk with
    | 0, _, _, hk => exact q_of (h4 0 _ k rfl hk) (by simp [Qc])
    | 1, _, _, hk => exact q_ei7 (h4 1 _ k rfl hk)
    | 2, _, _, hk => exact q_ei7 (h4 2 _ k rfl hk)
    | j + 3, hj, hjl, _ => omega
  rw [if_neg h10] at h2
  by_cases h11 : t.op = 11 ∨ t.op = 12
  · rw [if_pos h11] at h2
    rw [if_neg (by omega)] at hj
    obtain ⟨h3, h4⟩ := eachAll _ _ h2
    simp at h3
    match j, hj, hjl, hk with
    | 0, _, _, hk => exact q_left (h4 0 _ k rfl hk)
    | 1, _, _, hk => exact q_expr (h4 1 _ k rfl hk)
    | j + 2, hj, hjl, _ => omega
  rw [if_neg h11] at h2
  by_cases h13 : t.op = 13
  · rw [if_pos h13] at h2
    rw [if_neg (by omega)] at hj
    obtain ⟨h3, h4⟩ := eachAll _ _ h2
    simp at h3
    match j, hj, hjl, hk with
    | 0, _, _, hk => exact q_expr (h4 0 _ k rfl hk)
    | j + 1, hj, hjl, _ => omega
  rw [if_neg h13] at h2
  have h14 : t.op = 14 := by omega
  rw [if_pos h14] at h2
  rw [if_pos h14] at hj
  obtain ⟨h3, h4⟩ := eachAll _ _ h2
  simp at h3
  match j, hj, hjl, hk with
  | 0, hj, _, _ => omega
  | 1, _, _, hk => exact q_expr (h4 1 _ k rfl hk)
  | j + 2, _, hjl, _ => omega
theorem stw_form {t : T} (h : fieldsT t = true) (ho : t.op = 23) : t.s.size ≠ 0 := by
  unfold fieldsT at h
  split at h
  · cases h
  · rw [if_neg (by omega)] at h
    simp only [Bool.and_eq_true] at h
    have hw := h.2
    unfold wordT at hw
    rw [if_neg (by omega), if_pos (.inl ho)] at hw
    exact form_ne hw
end Go.Proofs.YtnllooebophcpaaGreatDoor
namespace Go.Proofs.YtnllooebophcpaaGreatDoor
open Go.RowKit Go.Vcg
theorem step_plain {E : List En} {i : Nat} {t : T} (s : RS) (ho : own E i = true) (hE : eT E i = t) (hm : marksT t = false) (h15 : ¬ (t.op = 15 ∨ t.op = 16)) : refStep E i s = .ok s ∧ nextE E (i + 1) = nextE E i := by
  have h23 : t.op ≠ 23 := by
    intro h
    simp [marksT, h] at hm
  constructor
  · unfold refStep
    rw [if_neg (by simp [ho]), hE, if_neg (fun h => h23 h.1)]
    dsimp only
    rw [if_neg h15, numE_own ho, hE, hm]
    simp
  · rw [nextE, if_pos ho, hE]
    simp [wt, hm]
theorem step_mark {E : List En} {i : Nat} {t : T} (s : RS) (ho : own E i = true) (hE : eT E i = t) (hm : marksT t = true) (h23 : ¬ (t.op = 23 ∧ 0 < aroundE E t.s false E.length (eU E i))) :
    refStep E i s = .ok (s.1 ++ [(t.at', (nextE E i : Int), if loopT t then (nextE E i : Int) + 1 else -1)], s.2) ∧ nextE E (i + 1) = nextE E i + (if loopT t then 2 else 1) ∧ numE E i = nextE E i := by
  have h15 : ¬ (t.op = 15 ∨ t.op = 16) := by
    intro h
    simp [marksT, loopT] at hm
    omega
  have hnum : numE E i = nextE E i := by rw [numE_own ho, hE, if_pos hm]
  refine ⟨?_, ?_, hnum⟩
  · unfold refStep
    rw [if_neg (by simp [ho]), hE, if_neg h23]
    dsimp only
    rw [if_neg h15, hnum, if_pos (by omega)]
  · rw [nextE, if_pos ho, hE]
    simp [wt, hm]
def JRef (E : List En) (i : Nat) (s : LS) : LRes → Prop
  | .ok s' => refStep E i (s.marks, s.jumps) = .ok (s'.marks, s'.jumps) ∧ s'.next = s.next
  | .error x => refStep E i (s.marks, s.jumps) = .error x
theorem jump_ref {E : List En} {i up : Nat} {t : T} {p : LP} {s : LS} (ho : own E i = true) (hE : eT E i = t) (hU : eU E i = up) (hup : up < i) (hlen : i < E.length) (hc : CtxOk E up p) (h15 : t.op = 15 ∨ t.op = 16) : JRef E i s (jumpF t p s) := by
  have hm : marksT t = false := by simp [marksT, loopT]; omega
  have hstep : refStep E i (s.marks, s.jumps) = if (leadsE E i).2 ≠ 0 then .error (t.at', (leadsE E i).2) else .ok (s.marks, s.jumps ++ [(t.at', (leadsE E i).1)]) := by
    unfold refStep
    rw [if_neg (by simp [ho]), hE, if_neg (fun h => by omega)]
    dsimp only
    rw [if_pos h15, numE_own ho, hE, hm]
    simp
  have hlead : leadsE E i = (if aroundE E t.s (decide (t.op = 16)) E.length up = 0 ∧ t.s.size ≠ 0 then (0, 31) else if aroundE E t.s (decide (t.op = 16)) E.length up = 0 then (0, 32) else if t.op ≠ 16 then (numE E (aroundE E t.s (decide (t.op = 16)) E.length up), 0)
    else if loopT (eT E (targetE E E.length (aroundE E t.s (decide (t.op = 16)) E.length up))) then (numE E (targetE E E.length (aroundE E t.s (decide (t.op = 16)) E.length up)) + 1, 0) else (0, 32)) := by
    unfold leadsE
    rw [hE, hU]
  have err : ∀ c : Int, c ≠ 0 → leadsE E i = (0, c) → JRef E i s (.error (t.at', c)) := fun c hc h => by
    show refStep E i _ = _
    rw [hstep, h, if_pos hc]
  have fine : ∀ z : Int, leadsE E i = (z, 0) → JRef E i s (.ok (s.jump t.at' z)) := fun z h => by
    refine ⟨?_, rfl⟩
    rw [hstep, h, if_neg (by simp)]
    rfl
  unfold jumpF
  by_cases hs : t.s.size = 0
  · rw [if_pos hs]
    have hs0 := str0.1 hs
    rw [hs0] at hlead
    by_cases h16 : t.op = 16
    · obtain ⟨k, h1, h2, h3⟩ := hc.again
      have hk : aroundE E ⟨#[]⟩ (decide (t.op = 16)) E.length up = k := by
        rw [h16]
        exact h1 _ (by omega)
      rw [hk] at hlead
      have htf : toF t p.brk p.again = p.again := by unfold toF; rw [if_pos h16]
      rw [htf]
      by_cases hk0 : k = 0
      · rw [if_pos (by have := h2 hk0; omega)]
        refine err 32 (by decide) ?_
        rw [hlead, if_neg (fun h => h.2 rfl), if_pos hk0]
      · obtain ⟨h4, h5, h6⟩ := h3 hk0
        have hge := numE_ge E k
        rw [if_neg (by omega)]
        refine fine _ ?_
        have htg : targetE E E.length k = k := by
          cases hE : E.length with
          | zero => rfl
          | succ F => rw [targetE, if_neg h5]
        rw [hlead, if_neg (fun h => h.2 rfl), if_neg hk0, if_neg (fun h => h h16), htg, h6, h4]
        rfl
    · obtain ⟨k, h1, h2, h3⟩ := hc.brk
      have hk : aroundE E ⟨#[]⟩ (decide (t.op = 16)) E.length up = k := by
        rw [show decide (t.op = 16) = false by simp [h16]]
        exact h1 _ (by omega)
      rw [hk] at hlead
      have htf : toF t p.brk p.again = p.brk := by unfold toF; rw [if_neg h16]
      rw [htf]
      by_cases hk0 : k = 0
      · rw [if_pos (by have := h2 hk0; omega)]
        refine err 32 (by decide) ?_
        rw [hlead, if_neg (fun h => h.2 rfl), if_pos hk0]
      · obtain ⟨h4, h5⟩ := h3 hk0
        rw [if_neg (by omega)]
        refine fine _ ?_
        rw [hlead, if_neg (fun h => h.2 rfl), if_neg hk0, if_pos h16, h4]
  · rw [if_neg hs]
    obtain ⟨k, h1, h2, h3⟩ := hc.ls t.s (decide (t.op = 16)) hs
    have hk := h1 E.length (by omega)
    rw [hk] at hlead
    by_cases hk0 : k = 0
    · rw [h2 hk0]
      refine err 31 (by decide) ?_
      rw [hlead, if_pos ⟨hk0, hs⟩]
    · obtain ⟨l, hl, h4, h5, h6⟩ := h3 hk0
      rw [hl]
      dsimp only
      by_cases h16 : t.op = 16
      · have htf : toF t l.brk l.again = l.again := by unfold toF; rw [if_pos h16]
        rw [htf, h6]
        unfold agE
        have hge := numE_ge E (targetE E E.length k)
        cases hlt : loopT (eT E (targetE E E.length k)) with
        | true =>
          rw [if_pos (show true = true from rfl), if_neg (by omega)]
          refine fine _ ?_
          rw [hlead, if_neg (fun h => hk0 h.1), if_neg hk0, if_neg (fun h => h h16), hlt]
          rfl
        | false =>
          rw [if_neg (show ¬ (false = true) by simp), if_pos (by decide)]
          refine err 32 (by decide) ?_
          rw [hlead, if_neg (fun h => hk0 h.1), if_neg hk0, if_neg (fun h => h h16), hlt]
          rfl
      · have htf : toF t l.brk l.again = l.brk := by unfold toF; rw [if_neg h16]
        rw [htf, h4, if_neg (by omega)]
        refine fine _ ?_
        rw [hlead, if_neg (fun h => hk0 h.1), if_neg hk0, if_pos h16]
theorem node_ref (E : List En) : ∀ n, NodeRef E n
  | 0 => fun t up i p s d sp h => by rw [T.size_eq] at h; omega
  | n + 1 => fun t up i p s d sp hsz hrt hat hup ho hc hnx hlen hn => by
    have ihn := node_ref E n
    have hE := hat.eT
    have hU := hat.eU
    have hkr : ∀ k ∈ t.kids, k.size ≤ n ∧ ∃ d sp, Rt k d sp := fun k hk => by
      refine ⟨size_kids_le hsz hk, ?_⟩
      obtain ⟨j, hj⟩ := List.mem_iff_getElem?.1 hk
      cases hrt with
      | mk _ _ _ hr => exact ⟨_, _, hr j k hj⟩
    have hkb : kidsB t = true := by cases hrt; assumption
    have hfd : fieldsT t = true := by cases hrt with | mk _ h _ _ => exact h.2.1
    have hqk : ∀ (j : Nat) (k : T), t.kids[j]? = some k → Qc k.op → Qt k := fun j k hk hq => by
      cases hrt with
      | mk _ _ _ hr => exact qt_of_rt (hr j k hk) hq
    have hkids := kids_ref ihn (by omega) t.kids i (i + 1)
    have hak := hat.kids
    have hi0 : 0 < i := by omega
    rw [t.size_kids, Nat.add_comm 1] at hlen ⊢
    unfold nodeF
    by_cases h4 : t.op = 4
    · rw [if_pos h4]
      obtain ⟨h1, h2⟩ := step_plain (s.marks, s.jumps) ho hE (by simp [marksT, loopT, h4]) (by omega)
      refine agree_step h1 ?_
      have key : ∀ (ks : List T) (j : Nat), (∀ k ∈ ks, k.size ≤ n) → AtK E n ks i j → i < j → refRun E j (szs ks) (s.marks, s.jumps) = .ok (s.marks, s.jumps) ∧ nextE E (j + szs ks) = nextE E j := by
        intro ks
        induction ks with
        | nil => intro j _ _ _; exact ⟨rfl, rfl⟩
        | cons k r ihr =>
          intro j hk ha hij
          have hkz := hk k (List.mem_cons_self ..)
          have hh := ha.head hkz
          have hoj : own E j = false := by
            cases n with
            | zero => rw [T.size_eq] at hkz; omega
            | succ m => rw [own_eq E (by omega) (by rw [hh.eU]; omega), hh.eU, ho, hE, h4]; simp; omega
          obtain ⟨h3, h4⟩ := skip_run E n k i j (s.marks, s.jumps) hkz hh (by omega) hoj
          obtain ⟨h5, h6⟩ := ihr (j + k.size) (fun x hx => hk x (List.mem_cons_of_mem _ hx)) (ha.tail hkz) (by omega)
          rw [szs_cons, refRun_add, h3]
          refine ⟨h5, ?_⟩
          rw [← Nat.add_assoc, h6, h4]
      obtain ⟨h3, h5⟩ := key t.kids (i + 1) (fun k hk => size_kids_le hsz hk) hak (by omega)
      exact ⟨h3, by rw [h5, h2]; exact hnx⟩
    rw [if_neg h4]
    have hown : i = 0 ∨ own E i = true ∧ (eT E i).op ≠ 4 := .inr ⟨ho, by rw [hE]; exact h4⟩
    by_cases h15 : t.op = 15 ∨ t.op = 16
    · rw [if_pos h15, stw_jump hkb h15]
      have hj := jump_ref (s := s) ho hE hU hup (by omega) hc h15
      have hn1 : nextE E (i + 1) = s.next := by
        rw [nextE, if_pos ho, hE, hnx]
        have : marksT t = false := by simp [marksT, loopT]; omega
        simp [wt, this]
      cases hq : jumpF t p s with
      | ok s' =>
        rw [hq] at hj
        exact agree_step (s1 := s') hj.1 ⟨rfl, by rw [Nat.add_zero, hn1]; exact hj.2.symm⟩
      | error x =>
        rw [hq] at hj
        exact agree_err hj
    rw [if_neg h15]
    by_cases h23 : t.op = 23
    · rw [if_pos h23]
      have hns := stw_form hfd h23
      obtain ⟨k, hk1, hk2, hk3⟩ := hc.ls t.s false hns
      have hkl := stw_label hkb h23
      have hka : aroundE E t.s false E.length (eU E i) = k := by rw [hU]; exact hk1 _ (by omega)
      by_cases hk0 : k = 0
      · rw [hk2 hk0]
        dsimp only
        obtain ⟨h1, h2, h3⟩ := step_mark (s.marks, s.jumps) ho hE (by simp [marksT, h23]) (by rw [hka]; omega)
        have hlf : loopT t = false := by simp [loopT, h23]
        rw [hlf] at h1 h2
        obtain ⟨j, hj1, hj2, hj3⟩ := chain_target E (n + 1) t up i E.length hsz hat hup ho (fun t' d sp hr h => by cases hr with | mk _ _ hk _ => exact stw_label hk h) ⟨d, sp, hrt⟩ (by rw [t.size_kids]; omega)
        have hag : (labOf n t s).again = agE E i := by
          unfold agE labOf
          dsimp only
          rw [hj1, hj2]
          cases hl : loopsF (n + 1) t with
          | false => simp
          | true =>
            rw [hj3 hl, hnx]
            simp
            omega
        refine agree_step (s1 := s.mark t.at') (by rw [h1, hnx]; rfl) ?_
        rw [List.take_of_length_le (by omega)]
        have hlab : labOf n t s = ⟨t.s, numE E i, (labOf n t s).again⟩ := by rw [h3, hnx]; rfl
        rw [hlab]
        exact hkids _ (s.mark t.at') hkr hak (by omega) hown (ctx_label hi0 hE hU hup h4 hc h23 (by omega) hag) (by rw [h2, hnx]; rfl) (by omega)
      · obtain ⟨l, hl, -⟩ := hk3 hk0
        rw [hl]
        refine agree_err ?_
        unfold refStep
        rw [if_neg (by simp [ho]), hE, if_pos ⟨h23, by rw [hka]; omega⟩]
    rw [if_neg h23]
    by_cases h21 : t.op = 21
    · rw [if_pos h21]
      have hlf : loopT t = false := by simp [loopT, h21]
      obtain ⟨h1, h2, h3⟩ := step_mark (s.marks, s.jumps) ho hE (by simp [marksT, h21]) (by omega)
      rw [hlf] at h1 h2
      have hh := hkids ⟨numE E i, p.again, p.ls⟩ (s.mark t.at') hkr hak (by omega) hown (ctx_switch hi0 hE hU hup h4 hc h21 (by omega)) (by rw [h2, hnx]; rfl) (by omega)
      have hq : ∀ (p : LP) (s : LS), kidsF (nodeF n) (t.kids.take 1) p s = .ok s := fun p s => kidsF_same _ _ fun k hk s => by
        obtain ⟨j, hj⟩ := List.mem_iff_getElem?.1 hk
        have hj0 : j = 0 := by
          have h9 := (List.getElem?_eq_some_iff.1 hj).1
          rw [List.length_take] at h9
          omega
        subst hj0
        have hk0 : t.kids[0]? = some k := by
          rw [List.getElem?_take] at hj
          simpa using hj
        exact nodeF_quiet n k p s (hqk 0 k hk0 (stw_switch hkb h21 hk0))
      rw [hq p s]
      show Agree E i _ s (kidsF (nodeF n) (t.kids.drop 1) ⟨s.next, p.again, p.ls⟩ (s.mark t.at'))
      have he : kidsF (nodeF n) (t.kids.drop 1) ⟨s.next, p.again, p.ls⟩ (s.mark t.at') = kidsF (nodeF n) t.kids ⟨numE E i, p.again, p.ls⟩ (s.mark t.at') := by
        rw [h3, hnx]
        conv => rhs; rw [← List.take_append_drop 1 t.kids]
        rw [kidsF_append, hq]
      rw [he]
      exact agree_step (s1 := s.mark t.at') (by rw [h1, hnx]; rfl) hh
    rw [if_neg h21]
    cases hl : loopT t with
    | true =>
      rw [if_pos rfl]
      obtain ⟨h1, h2, h3⟩ := step_mark (s.marks, s.jumps) ho hE (by simp [marksT, hl]) (by omega)
      rw [hl] at h1 h2
      unfold aroundF
      rw [aroundK_quiet _ _ _ fun j k hk hj => hqk j k hk (stw_loop hkb hl hk (by omega))]
      have hh := hkids ⟨numE E i, numE E i + 1, p.ls⟩ ⟨s.next + 2, s.marks ++ [(t.at', (s.next : Int), (s.next : Int) + 1)], s.jumps⟩ hkr hak (by omega) hown (ctx_loop hi0 hE hU hup h4 hc hl (by omega)) (by rw [h2, hnx]; rfl) (by omega)
      rw [h3, hnx] at hh
      exact agree_step (s1 := ⟨s.next + 2, s.marks ++ [(t.at', (s.next : Int), (s.next : Int) + 1)], s.jumps⟩) (by rw [h1, hnx]; rfl) hh
    | false =>
      rw [if_neg (by simp)]
      have hm : marksT t = false := by simp [marksT, hl, h21, h23]
      obtain ⟨h1, h2⟩ := step_plain (s.marks, s.jumps) ho hE hm h15
      refine agree_step h1 ?_
      refine hkids p s hkr hak (by omega) hown (ctx_plain hi0 hE hU hup h4 hc fun name ag => ?_) (by rw [h2, hnx]) (by omega)
      simp [hitT, hl, h21, h23]
end Go.Proofs.YtnllooebophcpaaGreatDoor
namespace Go.Proofs.YtnllooebophcpaaGreatDoor
open Go.RowKit Go.Vcg
def flatT (t : T) : List En := flatN 100001 t (-1) 0
theorem flatT_len {t : T} (h : t.size ≤ 100000) : (flatT t).length = t.size := flatN_len 100001 t (-1) 0 (by omega)
theorem flat0 (t : T) : (flatT t)[0]? = some (t, (-1 : Int)) := rfl
noncomputable def refF (t : T) : Except (Int × Int) RS := if rtB t 1 false = true ∧ (t.op = 4 ∨ t.op = 1) then refRun (flatT t) 0 (flatT t).length ([], []) else .error (0, 1)
def Tells : LRes → Except (Int × Int) RS → Prop
  | .ok s, r => r = .ok (s.marks, s.jumps)
  | .error x, r => r = .error x
theorem of_ref {t : T} (hs : t.size ≤ 100000) (hrt : rtB t 1 false = true) : Tells (ofF 100000 t) (refRun (flatT t) 0 (flatT t).length ([], [])) := by
  have hts := t.size_kids
  have hR := rtB_true hrt
  have hkr : ∀ k ∈ t.kids, k.size ≤ 100000 ∧ ∃ d sp, Rt k d sp := fun k hk => by
    refine ⟨size_kids_le (by omega) hk, ?_⟩
    obtain ⟨j, hj⟩ := List.mem_iff_getElem?.1 hk
    cases hR with
    | mk _ _ _ hr => exact ⟨_, _, hr j k hj⟩
  have hE : flatT t = (t, (-1 : Int)) :: flatKs (flatN 100000) t.kids 0 1 := rfl
  have hak : AtK (flatT t) 100000 t.kids 0 1 := fun j x hx => by
    rw [hE, Nat.add_comm 1 j, List.getElem?_cons_succ]
    exact hx
  have ho0 : own (flatT t) 0 = false := rfl
  have hn1 : nextE (flatT t) 1 = S0.next := by
    rw [nextE, ho0]
    rfl
  have h := kids_ref (node_ref (flatT t) 100000) (by omega) t.kids 0 1 P0 S0 hkr hak (by omega) (.inl rfl) (ctx_root _) hn1 (by rw [flatT_len hs]; omega)
  have hl : (flatT t).length = szs t.kids + 1 := by rw [flatT_len hs]; omega
  have h0 : refStep (flatT t) 0 ([], []) = .ok ([], []) := by unfold refStep; rw [if_pos ho0]
  rw [hl, refRun, h0]
  show Tells (kidsF (nodeF 100000) t.kids P0 S0) (refRun (flatT t) 1 (szs t.kids) ([], []))
  generalize kidsF (nodeF 100000) t.kids P0 S0 = r at h
  cases r with
  | ok s => exact h.1
  | error x => exact h
theorem tells {t : T} (hs : t.size ≤ 100000) : Tells (lofR t) (refF t) := by
  unfold lofR refF
  by_cases h : rtB t 1 false = true ∧ (t.op = 4 ∨ t.op = 1)
  · rw [if_pos h, if_pos h]
    exact of_ref hs h.1
  · rw [if_neg h, if_neg h]
    rfl
theorem eT_get {E : List En} {i : Nat} {x : En} (h : E[i]? = some x) : eT E i = x.1 := by unfold eT; rw [h]; rfl
def UpOk (E : List En) : Prop := ∀ (i : Nat) (x : En), E[i]? = some x → i ≠ 0 → 0 ≤ x.2 ∧ x.2 < (i : Int)
theorem flat_up : ∀ (n : Nat) (t : T) (up : Int) (i : Nat), t.size ≤ n → ∀ (j : Nat) (x : En), (flatN n t up i)[j]? = some x → j = 0 ∧ x.2 = up ∨ (i : Int) ≤ x.2 ∧ x.2 < ((i + j : Nat) : Int)
  | 0, t, _, _, h => by rw [T.size_eq] at h; omega
  | n + 1, t, up, i, h => by
    have key : ∀ (ks : List T) (pa : Nat) (i : Nat), pa < i → (∀ k ∈ ks, k.size ≤ n) → ∀ (j : Nat) (x : En), (flatKs (flatN n) ks pa i)[j]? = some x → (pa : Int) ≤ x.2 ∧ x.2 < ((i + j : Nat) : Int) := by
      intro ks
      induction ks with
      | nil => intro pa i _ _ j x hx; simp [flatKs] at hx
      | cons k r ihr =>
        intro pa i hpi hk j x hx
        rw [flatKs] at hx
        have hl := flatN_len n k pa i (hk k (List.mem_cons_self ..))
        by_cases hj : j < k.size
        · rw [List.getElem?_append_left (by omega)] at hx
          rcases flat_up n k pa i (hk k (List.mem_cons_self ..)) j x hx with ⟨h1, h2⟩ | ⟨h1, h2⟩
          · omega
          · omega
        · rw [List.getElem?_append_right (by omega), hl] at hx
          have := ihr pa (i + k.size) (by omega) (fun y hy => hk y (List.mem_cons_of_mem _ hy)) _ x hx
          omega
    intro j x hx
    cases j with
    | zero =>
      rw [flatN] at hx
      cases hx
      exact .inl ⟨rfl, rfl⟩
    | succ j =>
      rw [flatN, List.getElem?_cons_succ] at hx
      have := key t.kids i (i + 1) (by omega) (fun k hk => size_kids_le h hk) j x hx
      omega
theorem flatT_up {t : T} (h : t.size ≤ 100000) : UpOk (flatT t) := fun i x hx hi => by
  rcases flat_up 100001 t (-1) 0 (by omega) i x hx with h | h
  · omega
  · omega
end Go.Proofs.YtnllooebophcpaaGreatDoor
namespace Go.Proofs.YtnllooebophcpaaGreatDoor
open Go.RowKit Go.Vcg
structure FL (μ : Mem) (E : List En) (v : Value) (es : List FE) : Prop where
  sl : ∃ A c, v = .slice A es.length c ∧ Sl encF 11 μ A es.length es
  keys : es.map FE.key = E
  kf : KF μ es
theorem FL.mono {μ μ' : Mem} {E : List En} {v : Value} {es : List FE} (h : FL μ E v es) (hle : MLe μ μ') : FL μ' E v es := by
  obtain ⟨⟨A, c, h1, h2⟩, h3, h4⟩ := h
  exact ⟨⟨A, c, h1, h2.mono hle⟩, h3, h4.mono hle⟩
attribute [local irreducible] flatN G GC GQ GA GAop GI GCI Calls IntKind.wrap Int.decLt Int.decLe
theorem list_spec (t : T) (u : Value) (w : World) (μ : Mem) (hμ : MOk μ w) (hs : t.size ≤ 100000) (hk : KR μ t.kids u) :
    Calls Tryz.prog 14 #[.agg (encT t u).toArray] w fun e w' => ∃ v μ', e = .returned v ∧ Grow w w' μ μ' ∧ ∃ es, FL μ' (flatT t) v es := by
  have ho := hk.one
  have hEl := flatT_len hs
  have hup := flatT_up hs
  have hE : flatN 100001 t (-1) 0 = flatT t := rfl
  obtain ⟨E, hEE⟩ : ∃ E, flatT t = E := ⟨_, rfl⟩
  rw [hEE] at hEl hup hE ⊢
  refine call_intro (args := [.agg (encT t u).toArray]) Tryz.func14 rfl Tryz.ntmps14 (by simp) hμ ?_
  repeat' (first | ((with_reducible show GC _ _ (Code.seq (Code.region 1 _ _) _) _ _ _ _); (apply gc_stop)) | refine KK ?_ | refine NB fun b => ?_ | ((refine KB ?_ ?_ <;> intro hp)) | refine KG ?_ | fail)
  refine gcs (gc_nilR 63 11 ?_)
  have hcall := fun (w2 : World) (hw2 : MOk μ w2) (hO2 : Go.Vcg.Own μ (rowF (.slice none 0 0, [])) w2) => lay_spec 100001 (Nat.le_refl _) t u (-1) 0 (.slice none 0 0) [] w2 μ hw2 hO2 (by omega) hk (fun e he => by cases he) (by simp; omega)
  repeat' (first | ((with_reducible show GC _ _ (Code.loop _ _ _) _ _ _ _); (apply gc_stop)) | refine KO ?_ | ((with_reducible apply g_enter_bor 1); exact rfl; exact rfl; exact rfl; ((with_reducible apply e_call4); kernel_rfl; exact rfl; exact rfl; exact rfl; exact rfl); exact rfl; (exact hcall); (rintro v1 μ1 ⟨v1', es1⟩ hle1 ⟨rfl, hkeys1, hkf1⟩); (unfold rowF); (dsimp only [List.cons_append, List.nil_append])) | refine KI ?_ | refine NB fun b => ?_ | ((refine KB ?_ ?_ <;> intro hp)) | refine KG ?_ | fail)
  have hk1 : es1.map FE.key = E := by rw [← hE]; exact hkeys1
  have hl1 : es1.length = t.size := by rw [← hEl, ← hk1, List.length_map]
  obtain ⟨bp, hbp⟩ : ∃ x, x = b := ⟨_, rfl⟩
  rw [← hbp]
  clear hbp
  have hpos := t.size_kids
  refine gcs (gc_rowOk 0 rfl ?_)
  rintro A1 c1 rfl hok1
  obtain ⟨g, rfl⟩ : ∃ g, A1 = some ⟨g, 0, none⟩ := by
    rcases hok1.form with ⟨_, h, _⟩ | h
    · omega
    · exact h
  refine gc_loop (ι := Nat × List FE × Nat) (fun j => j.1 ≤ es1.length ∧ KF μ1 j.2.1 ∧ j.2.1.map FE.key = E ∧ j.2.2 ≤ j.1) (fun j => es1.length - j.1) (fun _ => μ1) (fun j => [(3, .slice (some ⟨g, 0, none⟩) es1.length c1), (4, .int .i64 j.2.2), (5, .int .i64 j.1)])
    (fun j => [.inr ⟨.slice (some ⟨g, 0, none⟩) es1.length c1, 63, 11, es1.length, j.2.1.flatMap encF⟩]) (0, es1, 0) ⟨Nat.zero_le _, hkf1, hk1, Nat.le_refl _⟩ (fun a w hs => J5 hs) ?_
  rintro ⟨i, es2, n⟩ ⟨hil, hkf2, hk2, hn⟩
  dsimp only at hil hkf2 hk2 hn ⊢
  have hl2 : es2.length = es1.length := by rw [hl1, ← hEl, ← hk2, List.length_map]
  by_cases hlt : i < es1.length
  · obtain ⟨e, he⟩ : ∃ e, es2[i]? = some e := ⟨_, List.getElem?_eq_getElem (by omega)⟩
    repeat' (first | ((with_reducible show GC _ _ (Code.seq (Code.seq (Code.region 6 _ _) _) _) _ _ _ _); (apply gc_stop)) | refine KK ?_ | refine NB fun b => ?_ | ((refine KB ?_ ?_ <;> intro hp)) | refine KG ?_ | fail)
    refine gcs (gc_join (ι := List FE × Nat) (fun j => KF μ1 j.1 ∧ j.1.map FE.key = E ∧ j.2 ≤ i + 1) (fun _ => μ1) (fun j => [(3, .slice (some ⟨g, 0, none⟩) es1.length c1), (4, .int .i64 j.2), (5, .int .i64 i)])
      (fun j => [.inr ⟨.slice (some ⟨g, 0, none⟩) es1.length c1, 63, 11, es1.length, j.1.flatMap encF⟩]) ?_ ?_)
    · repeat' (first | refine KO ?_ | ((with_reducible apply g_setNum 0 he); exact rfl; exact rfl; exact rfl; exact rfl; exact rfl; (dsimp only [updB])) | (refine KV (b := by first | exact U1 i | ((with_reducible apply v_load_rowF2 0); exact rfl; exact rfl; exact rfl; exact (row_ld he (by omega) rfl))) (c := ?_)) | refine KI ?_ | refine NB fun b => ?_ | ((refine KB ?_ ?_ <;> intro hp)) | refine KG ?_ | fail)
      · exact J1 (es2.set i { e with num := (n : Int) + 1 }, n + 1) ⟨hkf2.set (e' := { e with num := (n : Int) + 1 }) (hkf2 e (List.mem_of_getElem? he)), by dsimp only; rw [← hk2]; exact keys_set he rfl, by dsimp only; omega⟩
      · exact J1 (es2, n) ⟨hkf2, hk2, by dsimp only; omega⟩
    · rintro ⟨es3, n3⟩ ⟨hkf3, hk3, hn3⟩
      dsimp only at hkf3 hk3 hn3 ⊢
      have hl3 : es3.length = es1.length := by rw [hl1, ← hEl, ← hk3, List.length_map]
      obtain ⟨e3, he3⟩ : ∃ e, es3[i]? = some e := ⟨_, List.getElem?_eq_getElem (by omega)⟩
      by_cases h0 : 0 ≤ e3.up
      · obtain ⟨k, hk⟩ : ∃ k : Nat, e3.up = k := ⟨e3.up.toNat, by omega⟩
        have hE3 : E[i]? = some e3.key := by rw [← hk3, List.getElem?_map, he3]; rfl
        have hki : k < es1.length := by
          by_cases hi0 : i = 0
          · subst hi0
            have h9 : E[0]? = some (t, (-1 : Int)) := by rw [← hEE]; exact flat0 t
            rw [h9] at hE3
            have := congrArg (fun x : Option En => x.map (·.2)) hE3
            simp [FE.key] at this
            omega
          · have := hup i _ hE3 hi0
            simp [FE.key] at this
            omega
        obtain ⟨e4, he4⟩ : ∃ e, es3[k]? = some e := ⟨_, List.getElem?_eq_getElem (by omega)⟩
        have ho4 := (hkf3 e4 (List.mem_of_getElem? he4)).one
        repeat' (first | refine KO ?_ | ((with_reducible apply g_setFn 1 he3); exact rfl; exact rfl; exact rfl; exact rfl; exact rfl; (dsimp only [updB])) | ((with_reducible apply g_setFn 1 (set_at he3)); exact rfl; exact rfl; exact rfl; exact rfl; exact rfl; (dsimp only [updB])) | (refine KV (b := by first | exact U1 i | exact U1 k | ((with_reducible apply v_load_rowF1 0); exact rfl; exact rfl; exact rfl; exact (row_ld he3 (by omega) rfl)) | ((with_reducible apply v_load_FE 0 he4); exact rfl; exact rfl; exact rfl; exact rfl)) (c := ?_)) | refine KI ?_ | refine NB fun b => ?_ | ((refine KB ?_ ?_ <;> intro hp)) | refine KG ?_ | fail)
        · rw [List.set_set]
          exact J2 (i + 1, es3.set i { e3 with fn := e4.num }, n3) ⟨by dsimp only; omega, hkf3.set (e' := { e3 with fn := e4.num }) (hkf3 e3 (List.mem_of_getElem? he3)), by dsimp only; rw [← hk3]; exact keys_set he3 rfl, hn3⟩ (by dsimp only; omega)
        · exact J2 (i + 1, es3.set i { e3 with fn := e4.fn }, n3) ⟨by dsimp only; omega, hkf3.set (e' := { e3 with fn := e4.fn }) (hkf3 e3 (List.mem_of_getElem? he3)), by dsimp only; rw [← hk3]; exact keys_set he3 rfl, hn3⟩ (by dsimp only; omega)
      · repeat' (first | refine KO ?_ | (refine KV (b := by first | exact U1 i | ((with_reducible apply v_load_rowF1 0); exact rfl; exact rfl; exact rfl; exact (row_ld he3 (by omega) rfl))) (c := ?_)) | refine KI ?_ | refine NB fun b => ?_ | ((refine KB ?_ ?_ <;> intro hp)) | refine KG ?_ | fail)
        exact J2 (i + 1, es3, n3) ⟨by dsimp only; omega, hkf3, hk3, hn3⟩ (by dsimp only; omega)
  · have hi : i = es1.length := by omega
    subst hi
    repeat' (first | refine KK ?_ | refine NB fun b => ?_ | ((refine KB ?_ ?_ <;> intro hp)) | refine KG ?_ | fail)
    refine ret_m1 rfl (rv_tmp rfl) (fun μ' hle' hsh => ⟨es2, ?_⟩)
    have h9 := hsh _ (List.mem_cons_self ..)
    rw [← hl2] at h9 ⊢
    obtain ⟨A', c', h1, h2⟩ := row_sl (enc := encF) h9 rfl (fun _ _ => rfl) rfl
    exact ⟨⟨A', c', h1, h2⟩, hk2, hkf2.mono hle'⟩
end Go.Proofs.YtnllooebophcpaaGreatDoor
