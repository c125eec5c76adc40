/- Outcomes and their texts, plainly: the text of a valid outcome has a line for each part, and tells outcomes apart. (and what leans on it). No statement of the seat is proved here. -/
import Derived.Lib.ItoaNum
import Derived.Lib.Join
import Derived.Lib.ItoaLen
set_option maxRecDepth 20000
namespace Go.Proofs.YtmihpkdhfomcgaaDoor.Ou
open Go
def byS (s : ByteArray) : List UInt8 := s.data.toList
theorem byS_inj {s t : ByteArray} (h : byS s = byS t) : s = t := by
  cases s; cases t
  simp only [byS, Array.toList_inj] at h
  rw [h]
structure KeyP where
  (kind n : Int) (s : ByteArray)
structure EvP where
  (kind : Int) (key : KeyP) (s : ByteArray)
structure OutP where
  (e at_ fin : Int) (text : ByteArray) (out : List ByteArray) (log : List EvP) (steps made : Int)
def hexT : List UInt8 := [48, 49, 50, 51, 52, 53, 54, 55, 56, 57, 97, 98, 99, 100, 101, 102]
def q1 (c : UInt8) : List UInt8 :=
  if c = 10 then [92, 110] else if c = 9 then [92, 116] else if c = 13 then [92, 114] else if c = 0 then [92, 48]
  else if c = 34 ∨ c = 92 then [92, c] else if c.toNat < 32 ∨ 126 < c.toNat then [92, 120, hexT.getD (c.toNat / 16) 0, hexT.getD (c.toNat % 16) 0] else [c]
def quoteB (l : List UInt8) : List UInt8 := 34 :: (l.flatMap q1 ++ [34])
def errT : List (Int × List UInt8) := [(0, [111, 107]), (1, [97, 114, 103]), (2, [114, 97, 110, 103, 101]), (3, [110, 111, 110, 101]), (4, [116, 119, 105, 99, 101]), (5, [102, 117, 108, 108]), (6, [115, 116, 97, 116, 101]), (7, [102, 111, 114, 109]), (8, [101, 110, 100]), (9, [108, 111, 110, 103]), (10, [100, 101, 101, 112]), (20, [99, 104, 97, 114]), (21, [101, 115, 99, 97, 112, 101]), (22, [116, 111, 107, 101, 110]), (23, [115, 121, 110, 116, 97, 120]), (24, [116, 97, 114, 103, 101, 116]), (30, [97, 103, 97, 105, 110]), (31, [108, 97, 98, 101, 108]), (32, [98, 114, 101, 97, 107]), (33, [114, 101, 116, 117, 114, 110]), (34, [121, 105, 101, 108, 100]), (35, [115, 116, 114, 105, 99, 116]), (36, [99, 111, 110, 115, 116]), (40, [111, 112]), (41, [114, 101, 103]), (42, [106, 117, 109, 112]), (43, [112, 111, 111, 108]), (44, [103, 117, 97, 114, 100]), (50, [114, 101, 102]), (51, [107, 105, 110, 100])]
def endT : List (Int × List UInt8) := [(0, [110, 111, 114, 109, 97, 108]), (1, [116, 104, 114, 111, 119]), (6, [115, 116, 111, 112])]
def evT : List (List UInt8) := [[112, 114, 105, 110, 116], [103, 101, 116], [115, 101, 116], [104, 97, 115], [100, 101, 108, 101, 116, 101], [100, 101, 102, 105, 110, 101], [107, 101, 121, 115], [99, 97, 108, 108], [110, 101, 119], [116, 104, 114, 111, 119], [121, 105, 101, 108, 100], [106, 111, 98], [102, 105, 110, 97, 108]]
def tabB : List (Int × List UInt8) → Int → List UInt8
  | [], _ => []
  | (k, v) :: r, n => if n = k then v else tabB r n
def errB (e : Int) : List UInt8 := tabB errT e
def endB (e : Int) : List UInt8 := tabB endT e
def evB (k : Int) : List UInt8 := evT.getD (k - 1).toNat []
def inB (n : Int) : Prop := 0 ≤ n ∧ n ≤ 9007199254740992
def KeyOk (k : KeyP) : Prop := inB k.n ∧ (k.kind = 0 ∧ k.s = ⟨#[]⟩ ∨ k.kind = 1 ∧ k.n = 0 ∨ k.kind = 2 ∧ k.s = ⟨#[]⟩)
def keyB (k : KeyP) : List UInt8 := if k.kind = 0 then [105, 110, 100, 101, 120, 32] ++ Lib.itoa k.n else if k.kind = 1 then [116, 101, 120, 116, 32] ++ quoteB (byS k.s) else [115, 121, 109, 98, 111, 108, 32] ++ Lib.itoa k.n
def EvOk (e : EvP) : Prop := (1 ≤ e.kind ∧ e.kind ≤ 13) ∧ KeyOk e.key
def evLine (e : EvP) : List UInt8 := [101, 118, 101, 110, 116, 32] ++ (evB e.kind ++ 32 :: (keyB e.key ++ 32 :: quoteB (byS e.s)))
def outLine (s : ByteArray) : List UInt8 := [111, 117, 116, 32] ++ quoteB (byS s)
def OutOk (o : OutP) : Prop :=
  if o.e ≠ 0 then errB o.e ≠ [] ∧ inB o.at_ ∧ o.fin = 0 ∧ o.text = ⟨#[]⟩ ∧ o.out = [] ∧ o.log = [] ∧ o.steps = 0 ∧ o.made = 0
  else o.at_ = 0 ∧ endB o.fin ≠ [] ∧ inB o.steps ∧ inB o.made ∧ ∀ e ∈ o.log, EvOk e
def linesB (o : OutP) : List (List UInt8) :=
  if o.e ≠ 0 then [[101, 114, 114, 111, 114, 32] ++ (errB o.e ++ 32 :: Lib.itoa o.at_)]
  else ([101, 110, 100, 115, 32] ++ (endB o.fin ++ 32 :: quoteB (byS o.text))) :: ([115, 116, 101, 112, 115, 32] ++ Lib.itoa o.steps) :: ([109, 97, 100, 101, 32] ++ Lib.itoa o.made) :: (o.out.map outLine ++ o.log.map evLine)
def textB (o : OutP) : List UInt8 := (linesB o).flatMap (· ++ [10])
def Fr (c : UInt8) (l : List UInt8) : Prop := c ∉ l
theorem fr_app {c : UInt8} {a b : List UInt8} (ha : Fr c a) (hb : Fr c b) : Fr c (a ++ b) := fun h => (List.mem_append.1 h).elim ha hb
theorem fr_cons {c x : UInt8} {b : List UInt8} (hx : c ≠ x) (hb : Fr c b) : Fr c (x :: b) := fun h => (List.mem_cons.1 h).elim hx hb
theorem cut_inj {c : UInt8} : ∀ {x y u v : List UInt8}, Fr c x → Fr c y → x ++ c :: u = y ++ c :: v → x = y ∧ u = v
  | [], [], u, v, _, _, h => ⟨rfl, (List.cons.inj h).2⟩
  | [], b :: y, u, v, _, hy, h => absurd (List.mem_cons.2 (.inl (List.cons.inj h).1)) hy
  | a :: x, [], u, v, hx, _, h => absurd (List.mem_cons.2 (.inl (List.cons.inj h).1.symm)) hx
  | a :: x, b :: y, u, v, hx, hy, h => by
    obtain ⟨h1, h2⟩ := List.cons.inj h
    obtain ⟨h3, h4⟩ := cut_inj (fun hh => hx (List.mem_cons_of_mem _ hh)) (fun hh => hy (List.mem_cons_of_mem _ hh)) h2
    exact ⟨by rw [h1, h3], h4⟩
theorem lines_inj {c : UInt8} : ∀ {xs ys : List (List UInt8)}, (∀ x ∈ xs, Fr c x) → (∀ y ∈ ys, Fr c y) → xs.flatMap (· ++ [c]) = ys.flatMap (· ++ [c]) → xs = ys
  | [], [], _, _, _ => rfl
  | [], y :: ys, _, _, h => by simp at h
  | x :: xs, [], _, _, h => by simp at h
  | x :: xs, y :: ys, hx, hy, h => by
    simp only [List.flatMap_cons, List.append_assoc, List.cons_append, List.nil_append] at h
    obtain ⟨h1, h2⟩ := cut_inj (hx x (List.mem_cons_self ..)) (hy y (List.mem_cons_self ..)) h
    rw [h1, lines_inj (fun z hz => hx z (List.mem_cons_of_mem _ hz)) (fun z hz => hy z (List.mem_cons_of_mem _ hz)) h2]
theorem lines_count {c : UInt8} : ∀ {xs : List (List UInt8)}, (∀ x ∈ xs, Fr c x) → (xs.flatMap (· ++ [c])).count c = xs.length
  | [], _ => rfl
  | x :: xs, hx => by
    rw [List.flatMap_cons, List.count_append, List.count_append, List.count_eq_zero.2 (hx x (List.mem_cons_self ..)), lines_count (fun z hz => hx z (List.mem_cons_of_mem _ hz))]
    simp
    omega
theorem dec_dig : ∀ (n : Nat), ∀ c ∈ Lib.decDigits n, 48 ≤ c.toNat ∧ c.toNat ≤ 57 := by
  intro n
  induction n using Nat.strongRecOn with
  | _ n ih =>
    rw [Lib.decDigits]
    intro c hc
    have hd : ∀ d, d < 10 → (UInt8.ofNat (48 + d)).toNat = 48 + d := fun d hd => by
      rw [UInt8.toNat_ofNat']
      omega
    by_cases h : n < 10
    · rw [dif_pos h, List.mem_singleton] at hc
      rw [hc, hd _ h]
      omega
    · rw [dif_neg h, List.mem_append, List.mem_singleton] at hc
      rcases hc with hc | hc
      · exact ih (n / 10) (by omega) c hc
      · rw [hc, hd _ (by omega)]
        omega
theorem itoa_dig (n : Int) : ∀ c ∈ Lib.itoa n, c.toNat = 45 ∨ 48 ≤ c.toNat ∧ c.toNat ≤ 57 := by
  intro c hc
  unfold Lib.itoa at hc
  split at hc
  · rcases List.mem_cons.1 hc with rfl | hc
    · exact .inl rfl
    · exact .inr (dec_dig _ _ hc)
  · exact .inr (dec_dig _ _ hc)
theorem itoa_fr (n : Int) {c : UInt8} (h : c.toNat < 45) : Fr c (Lib.itoa n) := fun hc => by
  have := itoa_dig n c hc
  omega
def dvalB (l : List UInt8) : Nat := l.foldl (fun a c => 10 * a + (c.toNat - 48)) 0
theorem dval_dec : ∀ n : Nat, dvalB (Lib.decDigits n) = n := by
  intro n
  induction n using Nat.strongRecOn with
  | _ n ih =>
    rw [Lib.decDigits]
    have hd : ∀ d, d < 10 → (UInt8.ofNat (48 + d)).toNat = 48 + d := fun d hd => by
      rw [UInt8.toNat_ofNat']
      omega
    by_cases h : n < 10
    · rw [dif_pos h]
      simp only [dvalB, List.foldl_cons, List.foldl_nil]
      rw [hd _ h]
      omega
    · rw [dif_neg h]
      have := ih (n / 10) (by omega)
      unfold dvalB at this ⊢
      rw [List.foldl_append, this]
      simp only [List.foldl_cons, List.foldl_nil]
      rw [hd _ (by omega)]
      omega
theorem itoa_inj0 {a b : Int} (ha : 0 ≤ a) (hb : 0 ≤ b) (h : Lib.itoa a = Lib.itoa b) : a = b := by
  unfold Lib.itoa at h
  rw [if_neg (by omega), if_neg (by omega)] at h
  have := congrArg dvalB h
  rw [dval_dec, dval_dec] at this
  omega
theorem all256 {p : UInt8 → Bool} (h : (List.range 256).all (fun n => p (UInt8.ofNat n)) = true) (c : UInt8) : p c = true := by
  have h1 := List.all_eq_true.1 h c.toNat (List.mem_range.2 c.toNat_lt)
  have h2 : UInt8.ofNat c.toNat = c := UInt8.toNat_inj.1 (by rw [UInt8.toNat_ofNat']; exact Nat.mod_eq_of_lt c.toNat_lt)
  rwa [h2] at h1
theorem q1_clean (c : UInt8) : (q1 c).all (fun x => decide (32 ≤ x.toNat)) = true := all256 (p := fun c => (q1 c).all (fun x => decide (32 ≤ x.toNat))) (by decide +kernel) c
def unhex (c : UInt8) : Nat := if c.toNat < 58 then c.toNat - 48 else c.toNat - 87
def un1 : List UInt8 → Option (UInt8 × List UInt8)
  | 34 :: _ => none
  | 92 :: 110 :: r => some (10, r)
  | 92 :: 116 :: r => some (9, r)
  | 92 :: 114 :: r => some (13, r)
  | 92 :: 48 :: r => some (0, r)
  | 92 :: 120 :: a :: b :: r => some (UInt8.ofNat (16 * unhex a + unhex b), r)
  | 92 :: c :: r => some (c, r)
  | c :: r => some (c, r)
  | [] => none
theorem un1_q1 (c : UInt8) (r : List UInt8) : un1 (q1 c ++ r) = some (c, r) := by
  have hh : ∀ d, d < 16 → unhex (hexT.getD d 0) = d := by decide +kernel
  unfold q1
  split
  · rename_i h; subst h; rfl
  split
  · rename_i h; subst h; rfl
  split
  · rename_i h; subst h; rfl
  split
  · rename_i h; subst h; rfl
  split
  · rename_i h; rcases h with h | h <;> subst h <;> rfl
  split
  · have := c.toNat_lt
    show un1 (92 :: 120 :: _ :: _ :: r) = _
    simp only [un1]
    rw [hh _ (by omega), hh _ (by omega)]
    congr 2
    rw [← UInt8.toNat_inj, UInt8.toNat_ofNat']
    omega
  · rename_i h1 h2 h3 h4 h5 h6
    show un1 (c :: r) = _
    rw [not_or] at h5
    unfold un1
    split <;> simp_all
theorem q1_ne (c : UInt8) : q1 c ≠ [] := by
  intro h
  have := un1_q1 c []
  rw [h] at this
  cases this
theorem q1_head (c : UInt8) : (q1 c).head? ≠ some 34 := by
  have := all256 (p := fun c => decide ((q1 c).head? ≠ some 34)) (by decide +kernel) c
  exact of_decide_eq_true this
theorem qs_inj : ∀ {a b u v : List UInt8}, a.flatMap q1 ++ 34 :: u = b.flatMap q1 ++ 34 :: v → a = b ∧ u = v
  | [], [], u, v, h => ⟨rfl, (List.cons.inj h).2⟩
  | [], b :: y, u, v, h => by
    have h1 := q1_head b
    have h2 := q1_ne b
    rw [List.flatMap_cons, List.append_assoc] at h
    cases hq : q1 b with
    | nil => exact absurd hq h2
    | cons x r =>
      rw [hq] at h h1
      exact absurd (by rw [← (List.cons.inj h).1]; rfl) h1
  | a :: x, [], u, v, h => by
    have h1 := q1_head a
    have h2 := q1_ne a
    rw [List.flatMap_cons, List.append_assoc] at h
    cases hq : q1 a with
    | nil => exact absurd hq h2
    | cons x r =>
      rw [hq] at h h1
      exact absurd (by rw [(List.cons.inj h).1]; rfl) h1
  | a :: x, b :: y, u, v, h => by
    rw [List.flatMap_cons, List.flatMap_cons, List.append_assoc, List.append_assoc] at h
    have h1 := congrArg un1 h
    rw [un1_q1, un1_q1] at h1
    obtain ⟨rfl, h3⟩ := Prod.mk.inj (Option.some.inj h1)
    obtain ⟨h4, h5⟩ := qs_inj h3
    exact ⟨by rw [h4], h5⟩
theorem quote_inj {a b u v : List UInt8} (h : quoteB a ++ u = quoteB b ++ v) : a = b ∧ u = v := by
  unfold quoteB at h
  rw [List.cons_append, List.cons_append, List.append_assoc, List.append_assoc] at h
  exact qs_inj (List.cons.inj h).2
theorem quote_inj0 {a b : List UInt8} (h : quoteB a = quoteB b) : a = b := (quote_inj (u := []) (v := []) (by rw [h])).1
theorem quote_fr {c : UInt8} (h : c.toNat < 32) (l : List UInt8) : Fr c (quoteB l) := by
  have h34 : c ≠ 34 := fun e => by rw [e] at h; exact absurd h (by decide)
  refine fr_cons h34 (fr_app (fun hc => ?_) (fr_cons h34 (List.not_mem_nil)))
  obtain ⟨x, _, hx⟩ := List.mem_flatMap.1 hc
  have := of_decide_eq_true (List.all_eq_true.1 (q1_clean x) c hx)
  omega
theorem errB_fr (e : Int) {c : UInt8} (h : c.toNat ≤ 32) : Fr c (errB e) := by
  have key : ∀ (l : List (Int × List UInt8)), (∀ x ∈ l, ∀ y ∈ x.2, 32 < y.toNat) → Fr c (tabB l e) := by
    intro l
    induction l with
    | nil => intro _ hc; cases hc
    | cons x r ih =>
      intro hx
      obtain ⟨k, v⟩ := x
      unfold tabB
      split
      · intro hc
        have := hx _ (List.mem_cons_self ..) c hc
        omega
      · exact ih (fun y hy => hx y (List.mem_cons_of_mem _ hy))
  exact key errT (by decide +kernel)
theorem tab_inj {e f : Int} : ∀ {l : List (Int × List UInt8)}, (l.map (·.2)).Nodup → tabB l e ≠ [] → tabB l e = tabB l f → e = f
  | [], _, h, _ => absurd rfl h
  | (k, v) :: r, hd, hn, h => by
    have hm : ∀ (e : Int) (l : List (Int × List UInt8)), tabB l e ≠ [] → tabB l e ∈ l.map (·.2) := by
      intro e l
      induction l with
      | nil => intro h; exact absurd rfl h
      | cons x r ih =>
        obtain ⟨k, v⟩ := x
        intro h
        unfold tabB at h ⊢
        split
        · exact List.mem_cons_self ..
        · rename_i hk
          rw [if_neg hk] at h
          exact List.mem_cons_of_mem _ (ih h)
    rw [List.map_cons, List.nodup_cons] at hd
    unfold tabB at h hn
    by_cases h1 : e = k <;> by_cases h2 : f = k
    · omega
    · rw [if_pos h1, if_neg h2] at h
      rw [if_pos h1] at hn
      exact absurd (by rw [h]; exact hm f r (by rw [← h]; exact hn)) hd.1
    · rw [if_neg h1, if_pos h2] at h
      rw [if_neg h1] at hn
      exact absurd (by rw [← h]; exact hm e r hn) hd.1
    · rw [if_neg h1, if_neg h2] at h
      rw [if_neg h1] at hn
      exact tab_inj hd.2 hn h
theorem errB_inj {e f : Int} (h : errB e ≠ []) (hef : errB e = errB f) : e = f := tab_inj (l := errT) (by decide +kernel) h hef
theorem endB_inj {e f : Int} (h : endB e ≠ []) (hef : endB e = endB f) : e = f := tab_inj (l := endT) (by decide +kernel) h hef
theorem endB_fr (e : Int) {c : UInt8} (h : c.toNat ≤ 32) : Fr c (endB e) := by
  unfold endB endT tabB tabB tabB tabB
  have hb : ∀ l : List UInt8, (∀ y ∈ l, 32 < y.toNat) → Fr c l := fun l hl hc => by
    have := hl c hc
    omega
  repeat' split
  all_goals exact hb _ (by decide +kernel)
theorem evB_get {k : Int} (h : 1 ≤ k ∧ k ≤ 13) : ∃ i : Nat, i < 13 ∧ k = (i : Int) + 1 ∧ evB k = evT.getD i [] := by
  refine ⟨(k - 1).toNat, by omega, by omega, rfl⟩
theorem evB_inj {j k : Int} (hj : 1 ≤ j ∧ j ≤ 13) (hk : 1 ≤ k ∧ k ≤ 13) (h : evB j = evB k) : j = k := by
  obtain ⟨a, ha, rfl, h1⟩ := evB_get hj
  obtain ⟨b, hb, rfl, h2⟩ := evB_get hk
  rw [h1, h2] at h
  have key : ∀ a, a < 13 → ∀ b, b < 13 → evT.getD a [] = evT.getD b [] → a = b := by decide +kernel
  rw [key a ha b hb h]
theorem evB_fr {k : Int} (hk : 1 ≤ k ∧ k ≤ 13) {c : UInt8} (h : c.toNat ≤ 32) : Fr c (evB k) := by
  obtain ⟨b, hb, rfl, h2⟩ := evB_get hk
  rw [h2]
  intro hc
  have key : ∀ b, b < 13 → ∀ y ∈ evT.getD b [], 32 < y.toNat := by decide +kernel
  have := key b hb c hc
  omega
theorem app_left {a x y : List UInt8} (h : a ++ x = a ++ y) : x = y := List.append_cancel_left h
theorem keyB_inj {j k : KeyP} {u v : List UInt8} (hj : KeyOk j) (hk : KeyOk k) (h : keyB j ++ 32 :: u = keyB k ++ 32 :: v) : j = k ∧ u = v := by
  obtain ⟨jk, jn, js⟩ := j
  obtain ⟨kk, kn, ks⟩ := k
  obtain ⟨hj0, hj⟩ := hj
  obtain ⟨hk0, hk⟩ := hk
  dsimp only at hj0 hj hk0 hk
  have h32 : (32 : UInt8).toNat < 45 := by decide
  rcases hj with ⟨rfl, rfl⟩ | ⟨rfl, rfl⟩ | ⟨rfl, rfl⟩ <;> rcases hk with ⟨rfl, rfl⟩ | ⟨rfl, rfl⟩ | ⟨rfl, rfl⟩
  all_goals simp [keyB] at h
  · obtain ⟨h1, h2⟩ := cut_inj (itoa_fr jn h32) (itoa_fr kn h32) h
    exact ⟨by rw [itoa_inj0 hj0.1 hk0.1 h1], h2⟩
  · obtain ⟨h1, h2⟩ := quote_inj h
    exact ⟨by rw [byS_inj h1], (List.cons.inj h2).2⟩
  · obtain ⟨h1, h2⟩ := cut_inj (itoa_fr jn h32) (itoa_fr kn h32) h
    exact ⟨by rw [itoa_inj0 hj0.1 hk0.1 h1], h2⟩
theorem keyB_fr (k : KeyP) {c : UInt8} (h : c.toNat < 32) : Fr c (keyB k) := by
  have hb : ∀ l : List UInt8, (∀ y ∈ l, 31 < y.toNat) → Fr c l := fun l hl hc => by
    have := hl c hc
    omega
  unfold keyB
  split
  · exact fr_app (hb _ (by decide +kernel)) (itoa_fr _ (by omega))
  split
  · exact fr_app (hb _ (by decide +kernel)) (quote_fr h _)
  · exact fr_app (hb _ (by decide +kernel)) (itoa_fr _ (by omega))
theorem evLine_inj {a b : EvP} (ha : EvOk a) (hb : EvOk b) (h : evLine a = evLine b) : a = b := by
  have h1 := app_left h
  obtain ⟨h2, h3⟩ := cut_inj (evB_fr ha.1 (by decide)) (evB_fr hb.1 (by decide)) h1
  obtain ⟨h4, h5⟩ := keyB_inj ha.2 hb.2 h3
  obtain ⟨ak, akey, as⟩ := a
  obtain ⟨bk, bkey, bs⟩ := b
  rw [show ak = bk from evB_inj ha.1 hb.1 h2, show akey = bkey from h4, show as = bs from byS_inj (quote_inj0 h5)]
theorem outLine_inj {a b : ByteArray} (h : outLine a = outLine b) : a = b := byS_inj (quote_inj0 (app_left h))
theorem rest_inj : ∀ {o p : List ByteArray} {l m : List EvP}, (∀ e ∈ l, EvOk e) → (∀ e ∈ m, EvOk e) → o.map outLine ++ l.map evLine = p.map outLine ++ m.map evLine → o = p ∧ l = m
  | a :: o, b :: p, l, m, hl, hm, h => by
    obtain ⟨h1, h2⟩ := List.cons.inj h
    obtain ⟨h3, h4⟩ := rest_inj hl hm h2
    exact ⟨by rw [outLine_inj h1, h3], h4⟩
  | [], b :: p, [], m, hl, hm, h => by cases h
  | [], b :: p, e :: l, m, hl, hm, h => by
    obtain ⟨h1, h2⟩ := List.cons.inj h
    simp [evLine, outLine] at h1
  | a :: o, [], l, [], hl, hm, h => by cases h
  | a :: o, [], l, e :: m, hl, hm, h => by
    obtain ⟨h1, h2⟩ := List.cons.inj h
    simp [evLine, outLine] at h1
  | [], [], [], [], hl, hm, h => ⟨rfl, rfl⟩
  | [], [], e :: l, [], hl, hm, h => by cases h
  | [], [], [], e :: m, hl, hm, h => by cases h
  | [], [], a :: l, b :: m, hl, hm, h => by
    obtain ⟨h1, h2⟩ := List.cons.inj h
    obtain ⟨_, h4⟩ := rest_inj (o := []) (p := []) (fun e he => hl e (List.mem_cons_of_mem _ he)) (fun e he => hm e (List.mem_cons_of_mem _ he)) h2
    exact ⟨rfl, by rw [evLine_inj (hl a (List.mem_cons_self ..)) (hm b (List.mem_cons_self ..)) h1, h4]⟩
theorem lines_fr {o : OutP} (h : OutOk o) : ∀ x ∈ linesB o, Fr 10 x := by
  have h10 : (10 : UInt8).toNat < 32 := by decide
  have h10' : (10 : UInt8).toNat ≤ 32 := by decide
  have h10'' : (10 : UInt8).toNat < 45 := by decide
  unfold linesB
  unfold OutOk at h
  split
  · intro x hx
    rw [List.mem_singleton.1 hx]
    exact fr_app (by unfold Fr; decide +kernel) (fr_app (errB_fr _ h10') (fr_cons (by decide) (itoa_fr _ h10'')))
  · rename_i he
    rw [if_neg he] at h
    intro x hx
    rcases List.mem_cons.1 hx with rfl | hx
    · exact fr_app (by unfold Fr; decide +kernel) (fr_app (endB_fr _ h10') (fr_cons (by decide) (quote_fr h10 _)))
    rcases List.mem_cons.1 hx with rfl | hx
    · exact fr_app (by unfold Fr; decide +kernel) (itoa_fr _ h10'')
    rcases List.mem_cons.1 hx with rfl | hx
    · exact fr_app (by unfold Fr; decide +kernel) (itoa_fr _ h10'')
    rcases List.mem_append.1 hx with hx | hx
    · obtain ⟨s, _, rfl⟩ := List.mem_map.1 hx
      exact fr_app (by unfold Fr; decide +kernel) (quote_fr h10 _)
    · obtain ⟨e, hm, rfl⟩ := List.mem_map.1 hx
      exact fr_app (by unfold Fr; decide +kernel) (fr_app (evB_fr (h.2.2.2.2 e hm).1 h10') (fr_cons (by decide) (fr_app (keyB_fr _ h10) (fr_cons (by decide) (quote_fr h10 _)))))
theorem text_count {o : OutP} (h : OutOk o) : (textB o).count 10 = if o.e ≠ 0 then 1 else 3 + o.out.length + o.log.length := by
  unfold textB
  rw [lines_count (lines_fr h)]
  unfold linesB
  split <;> simp
  omega
theorem text_ne {o : OutP} : textB o ≠ [] := by
  unfold textB linesB
  split <;> simp
theorem text_inj {a b : OutP} (ha : OutOk a) (hb : OutOk b) (h : textB a = textB b) : a = b := by
  have hl := lines_inj (lines_fr ha) (lines_fr hb) h
  obtain ⟨ae, aat, af, atx, ao, al, as, am⟩ := a
  obtain ⟨be, bat, bf, btx, bo, bl, bs, bm⟩ := b
  unfold OutOk at ha hb
  unfold linesB at hl
  dsimp only at ha hb hl
  have h32 : (32 : UInt8).toNat ≤ 32 := by decide
  by_cases h1 : ae ≠ 0 <;> by_cases h2 : be ≠ 0
  · rw [if_pos h1] at ha hl
    rw [if_pos h2] at hb hl
    obtain ⟨a1, a2, a3, a4, a5, a6, a7, a8⟩ := ha
    obtain ⟨b1, b2, b3, b4, b5, b6, b7, b8⟩ := hb
    obtain ⟨h3, h4⟩ := cut_inj (errB_fr _ h32) (errB_fr _ h32) (app_left (List.cons.inj hl).1)
    rw [errB_inj a1 h3, itoa_inj0 a2.1 b2.1 h4, a3, a4, a5, a6, a7, a8, b3, b4, b5, b6, b7, b8]
  · rw [if_pos h1, if_neg h2] at hl
    simp at hl
  · rw [if_neg h1, if_pos h2] at hl
    simp at hl
  · rw [if_neg h1] at ha hl
    rw [if_neg h2] at hb hl
    obtain ⟨a1, a2, a3, a4, a5⟩ := ha
    obtain ⟨b1, b2, b3, b4, b5⟩ := hb
    obtain ⟨hl1, hl2⟩ := List.cons.inj hl
    obtain ⟨hl3, hl4⟩ := List.cons.inj hl2
    obtain ⟨hl5, hl6⟩ := List.cons.inj hl4
    obtain ⟨h3, h4⟩ := cut_inj (endB_fr _ h32) (endB_fr _ h32) (app_left hl1)
    obtain ⟨h5, h6⟩ := rest_inj a5 b5 hl6
    rw [show ae = be by omega, a1, b1, endB_inj a2 h3, byS_inj (quote_inj0 h4), itoa_inj0 a3.1 b3.1 (app_left hl3), itoa_inj0 a4.1 b4.1 (app_left hl5), h5, h6]
end Go.Proofs.YtmihpkdhfomcgaaDoor.Ou
set_option maxRecDepth 20000
namespace Go.Proofs.YtmihpkdhfomcgaaDoor.Ou
open Go
def ofB (l : List UInt8) : ByteArray := ⟨l.toArray⟩
theorem byS_ofB (l : List UInt8) : byS (ofB l) = l := by simp [byS, ofB]
theorem ofB_byS (s : ByteArray) : ofB (byS s) = s := byS_inj (byS_ofB _)
def cutB (c : UInt8) : List UInt8 → Option (List UInt8 × List UInt8)
  | [] => none
  | x :: r => if x = c then some ([], r) else (cutB c r).map fun p => (x :: p.1, p.2)
theorem cutB_some {c : UInt8} : ∀ {l a b : List UInt8}, cutB c l = some (a, b) → l = a ++ c :: b ∧ Fr c a
  | [], a, b, h => by cases h
  | x :: r, a, b, h => by
    unfold cutB at h
    split at h
    · rename_i hx
      cases h
      rw [hx]
      exact ⟨rfl, List.not_mem_nil⟩
    · rename_i hx
      cases hc : cutB c r with
      | none => rw [hc] at h; cases h
      | some p =>
        obtain ⟨p1, p2⟩ := p
        rw [hc] at h
        cases h
        obtain ⟨h1, h2⟩ := cutB_some hc
        exact ⟨by rw [h1]; rfl, fr_cons (fun e => hx e.symm) h2⟩
theorem cutB_app {c : UInt8} : ∀ {a b : List UInt8}, Fr c a → cutB c (a ++ c :: b) = some (a, b)
  | [], b, _ => by rw [List.nil_append, cutB, if_pos rfl]
  | x :: a, b, h => by
    rw [List.cons_append, cutB, if_neg (fun e => h (by rw [e]; exact List.mem_cons_self ..)), cutB_app (fun hh => h (List.mem_cons_of_mem _ hh))]
    rfl
theorem cutB_none {c : UInt8} : ∀ {l : List UInt8}, cutB c l = none → Fr c l
  | [], _ => List.not_mem_nil
  | x :: r, h => by
    unfold cutB at h
    split at h
    · cases h
    · rename_i hx
      cases hc : cutB c r with
      | none => exact fr_cons (fun e => hx e.symm) (cutB_none hc)
      | some p => rw [hc] at h; cases h
def numB (l : List UInt8) : Option Int := if ((dvalB l : Nat) : Int) ≤ 9007199254740992 ∧ Lib.itoa (dvalB l) = l then some (dvalB l) else none
theorem numB_some {l : List UInt8} {n : Int} (h : numB l = some n) : inB n ∧ Lib.itoa n = l := by
  unfold numB at h
  split at h
  · rename_i hc
    cases h
    exact ⟨⟨by omega, hc.1⟩, hc.2⟩
  · cases h
theorem numB_itoa {n : Int} (h : inB n) : numB (Lib.itoa n) = some n := by
  have hd : ((dvalB (Lib.itoa n) : Nat) : Int) = n := by
    unfold Lib.itoa
    rw [if_neg (by have := h.1; omega), dval_dec]
    have := h.1
    omega
  unfold numB
  rw [hd, if_pos ⟨h.2, rfl⟩]
def hexV (c : UInt8) : Option Nat := if 48 ≤ c.toNat ∧ c.toNat ≤ 57 then some (c.toNat - 48) else if 97 ≤ c.toNat ∧ c.toNat ≤ 102 then some (c.toNat - 87) else if 65 ≤ c.toNat ∧ c.toNat ≤ 70 then some (c.toNat - 55) else none
def hex2 : List UInt8 → Except Int (UInt8 × List UInt8)
  | [] => .error 8
  | a :: r => match hexV a with
    | none => .error 21
    | some x => match r with
      | [] => .error 8
      | b :: r => match hexV b with
        | none => .error 21
        | some y => .ok (UInt8.ofNat (16 * x + y), r)
def escB : List UInt8 → Except Int (UInt8 × List UInt8)
  | [] => .error 8
  | c :: r => if c = 110 then .ok (10, r) else if c = 116 then .ok (9, r) else if c = 114 then .ok (13, r) else if c = 48 then .ok (0, r)
    else if c = 92 ∨ c = 39 ∨ c = 34 ∨ c = 96 ∨ c = 36 then .ok (c, r) else if c = 120 then hex2 r else .error 21
def oneB (c : UInt8) (r : List UInt8) : Except Int (UInt8 × List UInt8) := if c = 92 then escB r else .ok (c, r)
def litB (q : UInt8) : Nat → List UInt8 → List UInt8 → Except Int (List UInt8 × List UInt8)
  | 0, _, _ => .error 8
  | _ + 1, [], _ => .error 8
  | f + 1, c :: r, out => if c = q then .ok (out, r) else if c = 10 ∨ c = 13 then .error 22 else match oneB c r with
    | .error e => .error e
    | .ok (b, r') => if 65536 < out.length + 1 then .error 9 else litB q f r' (out ++ [b])
def readL (l : List UInt8) : Except Int (List UInt8 × List UInt8) := match l with
  | [] => .error 1
  | q :: r => if q = 34 ∨ q = 39 then litB q (r.length + 1) r [] else .error 1
theorem oneB_q1 (c : UInt8) (r : List UInt8) : ∃ x y, q1 c ++ r = x :: y ∧ x ≠ 34 ∧ x ≠ 10 ∧ x ≠ 13 ∧ oneB x y = .ok (c, r) ∧ r.length ≤ y.length := by
  have hh : ∀ d, d < 16 → hexV (hexT.getD d 0) = some d := by decide +kernel
  unfold q1
  split
  · rename_i h; subst h; exact ⟨92, 110 :: r, rfl, by decide, by decide, by decide, rfl, by simp⟩
  split
  · rename_i h; subst h; exact ⟨92, 116 :: r, rfl, by decide, by decide, by decide, rfl, by simp⟩
  split
  · rename_i h; subst h; exact ⟨92, 114 :: r, rfl, by decide, by decide, by decide, rfl, by simp⟩
  split
  · rename_i h; subst h; exact ⟨92, 48 :: r, rfl, by decide, by decide, by decide, rfl, by simp⟩
  split
  · rename_i h
    refine ⟨92, c :: r, rfl, by decide, by decide, by decide, ?_, by simp⟩
    rcases h with h | h <;> subst h <;> rfl
  split
  · have := c.toNat_lt
    refine ⟨92, 120 :: hexT.getD (c.toNat / 16) 0 :: hexT.getD (c.toNat % 16) 0 :: r, rfl, by decide, by decide, by decide, ?_, by simp; omega⟩
    show hex2 (hexT.getD (c.toNat / 16) 0 :: hexT.getD (c.toNat % 16) 0 :: r) = _
    unfold hex2
    dsimp only
    rw [hh _ (by omega)]
    dsimp only
    rw [hh _ (by omega)]
    dsimp only
    congr 2
    rw [← UInt8.toNat_inj, UInt8.toNat_ofNat']
    omega
  · rename_i h1 h2 h3 h4 h5 h6
    rw [not_or] at h5
    exact ⟨c, r, rfl, h5.1, h1, h3, by unfold oneB; rw [if_neg h5.2], Nat.le_refl _⟩
theorem litB_quote : ∀ (t u out : List UInt8) (f : Nat), (t.flatMap q1 ++ 34 :: u).length < f → out.length + t.length ≤ 65536 → litB 34 f (t.flatMap q1 ++ 34 :: u) out = .ok (out ++ t, u)
  | [], u, out, f, hf, _ => by
    cases f with
    | zero => omega
    | succ f => rw [List.flatMap_nil, List.nil_append, litB, if_pos rfl, List.append_nil]
  | c :: t, u, out, f, hf, hl => by
    cases f with
    | zero => omega
    | succ f =>
      obtain ⟨x, y, h1, h2, h3, h4, h5, h6⟩ := oneB_q1 c (t.flatMap q1 ++ 34 :: u)
      rw [List.length_cons] at hl
      rw [List.flatMap_cons, List.append_assoc, h1] at hf ⊢
      rw [List.length_cons] at hf
      rw [litB, if_neg h2, if_neg (by rintro (h | h); exact h3 h; exact h4 h), h5]
      dsimp only
      rw [if_neg (by omega), litB_quote t u (out ++ [c]) f (by omega) (by simp; omega), List.append_assoc]
      rfl
theorem readL_quote (t u : List UInt8) (h : t.length ≤ 65536) : readL (quoteB t ++ u) = .ok (t, u) := by
  unfold quoteB
  rw [List.cons_append, List.append_assoc]
  unfold readL
  dsimp only
  rw [if_pos (.inl rfl)]
  exact (litB_quote t u [] _ (by simp) (by simpa using h))
theorem litB_len {q : UInt8} : ∀ (f : Nat) (l out t u : List UInt8), out.length ≤ 65536 → litB q f l out = .ok (t, u) → t.length ≤ 65536
  | 0, _, _, _, _, _, h => by cases h
  | _ + 1, [], _, _, _, _, h => by cases h
  | f + 1, c :: r, out, t, u, ho, h => by
    unfold litB at h
    split at h
    · cases h; exact ho
    split at h
    · cases h
    split at h
    · cases h
    · split at h
      · cases h
      · exact litB_len f _ _ t u (by simp; omega) h
def quotedB (l : List UInt8) : Option (List UInt8 × List UInt8) := match readL l with
  | .error _ => none
  | .ok (t, u) => if quoteB t ++ u = l then some (t, u) else none
theorem quotedB_some {l t u : List UInt8} (h : quotedB l = some (t, u)) : quoteB t ++ u = l ∧ t.length ≤ 65536 := by
  unfold quotedB at h
  split at h
  · cases h
  · rename_i t' u' hr
    split at h
    · rename_i hq
      cases h
      refine ⟨hq, ?_⟩
      unfold readL at hr
      split at hr
      · cases hr
      · split at hr
        · exact litB_len _ _ _ _ _ (by simp) hr
        · cases hr
    · cases h
theorem quotedB_quote (t u : List UInt8) (h : t.length ≤ 65536) : quotedB (quoteB t ++ u) = some (t, u) := by
  unfold quotedB
  rw [readL_quote t u h]
  dsimp only
  rw [if_pos rfl]
def lastB (l : List UInt8) : Option (List UInt8) := match quotedB l with
  | some (t, []) => some t
  | _ => none
theorem lastB_some {l t : List UInt8} (h : lastB l = some t) : l = quoteB t := by
  unfold lastB at h
  split at h
  · rename_i t' hq
    cases h
    rw [← (quotedB_some hq).1, List.append_nil]
  · cases h
def findB : List (Int × List UInt8) → List UInt8 → Option Int
  | [], _ => none
  | (k, v) :: r, l => if v = l then some k else findB r l
theorem findB_some : ∀ {t : List (Int × List UInt8)} {l : List UInt8} {k : Int}, findB t l = some k → (k, l) ∈ t
  | (k', v) :: r, l, k, h => by
    unfold findB at h
    split at h
    · rename_i hv
      cases h
      rw [hv]
      exact List.mem_cons_self ..
    · exact List.mem_cons_of_mem _ (findB_some h)
def errT' : List (Int × List UInt8) := errT.tail
def evT' : List (Int × List UInt8) := (List.range 13).map fun (i : Nat) => ((i : Int) + 1, evT.getD i [])
theorem err_of {l : List UInt8} {k : Int} (h : findB errT' l = some k) : errB k = l ∧ k ≠ 0 ∧ l ≠ [] := by
  have hm := findB_some h
  have key : ∀ x ∈ errT', errB x.1 = x.2 ∧ x.1 ≠ 0 ∧ x.2 ≠ [] := by decide +kernel
  exact key _ hm
theorem end_of {l : List UInt8} {k : Int} (h : findB endT l = some k) : endB k = l ∧ l ≠ [] := by
  have hm := findB_some h
  have key : ∀ x ∈ endT, endB x.1 = x.2 ∧ x.2 ≠ [] := by decide +kernel
  exact key _ hm
theorem ev_of {l : List UInt8} {k : Int} (h : findB evT' l = some k) : evB k = l ∧ 1 ≤ k ∧ k ≤ 13 := by
  have hm := findB_some h
  have key : ∀ x ∈ evT', evB x.1 = x.2 ∧ 1 ≤ x.1 ∧ x.1 ≤ 13 := by decide +kernel
  exact key _ hm
section
variable (R : KeyP → Bool)
def keyOf (w l : List UInt8) : Option (KeyP × List UInt8) :=
  if w = [105, 110, 100, 101, 120] then match cutB 32 l with
    | none => none
    | some (d, u) => (numB d).map fun n => (⟨0, n, ⟨#[]⟩⟩, u)
  else if w = [116, 101, 120, 116] then match quotedB l with
    | some (t, c :: u) => if c = 32 then some (⟨1, 0, ofB t⟩, u) else none
    | _ => none
  else if w = [115, 121, 109, 98, 111, 108] then match cutB 32 l with
    | none => none
    | some (d, u) => (numB d).map fun n => (⟨2, n, ⟨#[]⟩⟩, u)
  else none
def keyRd (l : List UInt8) : Option (KeyP × List UInt8) := match cutB 32 l with
  | none => none
  | some (w, u) => match keyOf w u with
    | some (k, v) => if R k = true then some (k, v) else none
    | none => none
def evRd (l : List UInt8) : Option EvP := match cutB 32 l with
  | none => none
  | some (w, u) => match findB evT' w with
    | none => none
    | some kind => match keyRd R u with
      | none => none
      | some (k, v) => (lastB v).map fun s => ⟨kind, k, ofB s⟩
def lineRd (l : List UInt8) (hasLog : Bool) : Option (ByteArray ⊕ EvP) := match cutB 32 l with
  | none => none
  | some (w, u) => if w = [111, 117, 116] then (if hasLog = true then none else (lastB u).map fun s => .inl (ofB s))
    else if w = [101, 118, 101, 110, 116] then (evRd R u).map .inr else none
def restRd : Nat → Int → List UInt8 → OutP → Except (Int × Int) OutP
  | 0, k, _, _ => .error (k, 8)
  | _ + 1, _, [], o => .ok o
  | f + 1, k, c :: r, o => match cutB 10 (c :: r) with
    | none => .error (k + 1, 8)
    | some (l, s) => match lineRd R l (!o.log.isEmpty) with
      | none => .error (k + 1, 7)
      | some (.inl x) => restRd f (k + 1) s { o with out := o.out ++ [x] }
      | some (.inr x) => restRd f (k + 1) s { o with log := o.log ++ [x] }
def countRd (w l : List UInt8) : Option Int := match cutB 32 l with
  | none => none
  | some (v, u) => if v = w then numB u else none
def zeroO : OutP := ⟨0, 0, 0, ⟨#[]⟩, [], [], 0, 0⟩
def wrongRd (l s : List UInt8) : Except (Int × Int) OutP := match cutB 32 l with
  | none => .error (1, 7)
  | some (w, u) => match numB u with
    | none => .error (1, 7)
    | some n => match findB errT' w with
      | none => .error (1, 7)
      | some e => match s with
        | [] => .ok { zeroO with e := e, at_ := n }
        | c :: r => match cutB 10 (c :: r) with
          | none => .error (2, 8)
          | some _ => .error (2, 7)
def endsRd (l : List UInt8) : Option (Int × List UInt8) := match cutB 32 l with
  | none => none
  | some (w, u) => match findB endT w with
    | none => none
    | some k => (lastB u).map fun t => (k, t)
def bodyRd (fin : Int) (t s : List UInt8) : Except (Int × Int) OutP := match cutB 10 s with
  | none => .error (2, 8)
  | some (l2, s2) => match countRd [115, 116, 101, 112, 115] l2 with
    | none => .error (2, 7)
    | some n => match cutB 10 s2 with
      | none => .error (3, 8)
      | some (l3, s3) => match countRd [109, 97, 100, 101] l3 with
        | none => .error (3, 7)
        | some m => restRd R (s3.length + 1) 3 s3 { zeroO with fin := fin, text := ofB t, steps := n, made := m }
def readO (s : List UInt8) : Except (Int × Int) OutP := match cutB 10 s with
  | none => .error (1, 8)
  | some (l, s1) => match cutB 32 l with
    | none => .error (1, 7)
    | some (w, u) => if w = [101, 114, 114, 111, 114] then wrongRd u s1
      else if w = [101, 110, 100, 115] then match endsRd u with
        | none => .error (1, 7)
        | some (k, t) => bodyRd R k t s1
      else .error (1, 7)
def Shaped : Prop := ∀ k : KeyP, R k = true → (k.kind = 0 ∧ k.s = ⟨#[]⟩ ∨ k.kind = 1 ∧ k.n = 0 ∨ k.kind = 2 ∧ k.s = ⟨#[]⟩)
def EvR (e : EvP) : Prop := (1 ≤ e.kind ∧ e.kind ≤ 13) ∧ R e.key = true ∧ inB e.key.n
def MayO (o : OutP) : Prop :=
  if o.e ≠ 0 then errB o.e ≠ [] ∧ inB o.at_ ∧ o.fin = 0 ∧ o.text = ⟨#[]⟩ ∧ o.out = [] ∧ o.log = [] ∧ o.steps = 0 ∧ o.made = 0
  else o.at_ = 0 ∧ endB o.fin ≠ [] ∧ inB o.steps ∧ inB o.made ∧ ∀ e ∈ o.log, EvR R e
variable {R}
theorem may_ok (hR : Shaped R) {o : OutP} (h : MayO R o) : OutOk o := by
  unfold MayO at h
  unfold OutOk
  split
  · rename_i he; rw [if_pos he] at h; exact h
  · rename_i he
    rw [if_neg he] at h
    exact ⟨h.1, h.2.1, h.2.2.1, h.2.2.2.1, fun e hm => ⟨(h.2.2.2.2 e hm).1, (h.2.2.2.2 e hm).2.2, hR _ (h.2.2.2.2 e hm).2.1⟩⟩
theorem keyOf_some {w l u : List UInt8} {k : KeyP} (h : keyOf w l = some (k, u)) : w ++ 32 :: l = keyB k ++ 32 :: u ∧ inB k.n := by
  unfold keyOf at h
  split at h
  · rename_i hw
    split at h
    · cases h
    · rename_i d v hc
      cases hn : numB d with
      | none => rw [hn] at h; cases h
      | some n =>
        rw [hn] at h
        cases h
        obtain ⟨h1, h2⟩ := numB_some hn
        refine ⟨?_, h1⟩
        rw [hw, (cutB_some hc).1]
        unfold keyB
        rw [if_pos rfl, h2]
        simp
  split at h
  · rename_i hw
    split at h
    · rename_i t c v hq
      split at h
      · rename_i hc
        cases h
        refine ⟨?_, Int.le_refl _, (by decide : (0 : Int) ≤ 9007199254740992)⟩
        rw [hw, ← (quotedB_some hq).1, hc]
        unfold keyB
        rw [if_neg (by simp), if_pos rfl, byS_ofB]
        simp
      · cases h
    · cases h
  split at h
  · rename_i hw
    split at h
    · cases h
    · rename_i d v hc
      cases hn : numB d with
      | none => rw [hn] at h; cases h
      | some n =>
        rw [hn] at h
        cases h
        obtain ⟨h1, h2⟩ := numB_some hn
        refine ⟨?_, h1⟩
        rw [hw, (cutB_some hc).1]
        unfold keyB
        rw [if_neg (by simp), if_neg (by simp), h2]
        simp
  · cases h
theorem evRd_some {l : List UInt8} {e : EvP} (h : evRd R l = some e) : [101, 118, 101, 110, 116, 32] ++ l = evLine e ∧ EvR R e := by
  unfold evRd at h
  split at h
  · cases h
  rename_i w u hc
  split at h
  · cases h
  rename_i kind hf
  split at h
  · cases h
  rename_i k v hk
  cases hl : lastB v with
  | none => rw [hl] at h; cases h
  | some s =>
    rw [hl] at h
    cases h
    unfold keyRd at hk
    split at hk
    · cases hk
    rename_i w2 u2 hc2
    split at hk
    · rename_i k' v' hko
      split at hk
      · rename_i hr
        cases hk
        obtain ⟨h1, h2⟩ := keyOf_some hko
        obtain ⟨h3, h4⟩ := ev_of hf
        refine ⟨?_, h4, hr, h2⟩
        unfold evLine
        rw [(cutB_some hc).1, (cutB_some hc2).1, h1, h3, lastB_some hl, byS_ofB]
      · cases hk
    · cases hk
theorem lineRd_some {l : List UInt8} {b : Bool} {x : ByteArray ⊕ EvP} (h : lineRd R l b = some x) : match x with | .inl s => l = outLine s ∧ b = false | .inr e => l = evLine e ∧ EvR R e := by
  unfold lineRd at h
  split at h
  · cases h
  rename_i w u hc
  split at h
  · rename_i hw
    split at h
    · cases h
    · rename_i hb
      cases hl : lastB u with
      | none => rw [hl] at h; cases h
      | some s =>
        rw [hl] at h
        cases h
        refine ⟨?_, by simpa using hb⟩
        unfold outLine
        rw [(cutB_some hc).1, hw, lastB_some hl, byS_ofB]
        rfl
  split at h
  · rename_i hw
    cases he : evRd R u with
    | none => rw [he] at h; cases h
    | some e =>
      rw [he] at h
      cases h
      obtain ⟨h1, h2⟩ := evRd_some he
      refine ⟨?_, h2⟩
      rw [(cutB_some hc).1, hw, ← h1]
      rfl
  · cases h
def tailB (o : OutP) : List UInt8 := (o.out.map outLine ++ o.log.map evLine).flatMap (· ++ [10])
theorem restRd_ok : ∀ (f : Nat) (k : Int) (s : List UInt8) (o o' : OutP), restRd R f k s o = .ok o' → (∀ e ∈ o.log, EvR R e) →
    tailB o ++ s = tailB o' ∧ (∀ e ∈ o'.log, EvR R e) ∧ o'.e = o.e ∧ o'.at_ = o.at_ ∧ o'.fin = o.fin ∧ o'.text = o.text ∧ o'.steps = o.steps ∧ o'.made = o.made
  | 0, _, _, _, _, h, _ => by cases h
  | _ + 1, _, [], o, o', h, hl => by cases h; exact ⟨List.append_nil _, hl, rfl, rfl, rfl, rfl, rfl, rfl⟩
  | f + 1, k, c :: r, o, o', h, hl => by
    unfold restRd at h
    split at h
    · cases h
    rename_i l s hc
    have hcs := (cutB_some hc).1
    split at h
    · cases h
    · rename_i x hx
      obtain ⟨h1, h2⟩ := lineRd_some hx
      have hlog : o.log = [] := by simpa using h2
      obtain ⟨h3, h4⟩ := restRd_ok f (k + 1) s _ o' h hl
      refine ⟨?_, h4⟩
      rw [← h3, hcs, h1]
      simp [tailB, hlog]
    · rename_i x hx
      obtain ⟨h1, h2⟩ := lineRd_some hx
      obtain ⟨h3, h4⟩ := restRd_ok f (k + 1) s _ o' h (fun e he => (List.mem_append.1 he).elim (hl e) (fun h => by rw [List.mem_singleton.1 h]; exact h2))
      refine ⟨?_, h4⟩
      rw [← h3, hcs, h1]
      simp [tailB]
theorem countRd_some {w l : List UInt8} {n : Int} (h : countRd w l = some n) : l = w ++ 32 :: Lib.itoa n ∧ inB n := by
  unfold countRd at h
  split at h
  · cases h
  rename_i v u hc
  split at h
  · rename_i hv
    obtain ⟨h1, h2⟩ := numB_some h
    rw [(cutB_some hc).1, hv, h2]
    exact ⟨rfl, h1⟩
  · cases h
theorem endsRd_some {l t : List UInt8} {k : Int} (h : endsRd l = some (k, t)) : l = endB k ++ 32 :: quoteB t ∧ endB k ≠ [] := by
  unfold endsRd at h
  split at h
  · cases h
  rename_i w u hc
  split at h
  · cases h
  rename_i k' hf
  cases hl : lastB u with
  | none => rw [hl] at h; cases h
  | some t' =>
    rw [hl] at h
    cases h
    obtain ⟨h1, h2⟩ := end_of hf
    rw [(cutB_some hc).1, h1, lastB_some hl]
    exact ⟨rfl, h2⟩
theorem readO_ok {s : List UInt8} {o : OutP} (h : readO R s = .ok o) : textB o = s ∧ MayO R o := by
  unfold readO at h
  split at h
  · cases h
  rename_i l s1 hc1
  split at h
  · cases h
  rename_i w u hc2
  rw [(cutB_some hc1).1, (cutB_some hc2).1]
  split at h
  · rename_i hw
    unfold wrongRd at h
    split at h
    · cases h
    rename_i w2 u2 hc3
    split at h
    · cases h
    rename_i n hn
    split at h
    · cases h
    rename_i e he
    split at h
    · cases h
      obtain ⟨h1, h2, h3⟩ := err_of he
      obtain ⟨h4, h5⟩ := numB_some hn
      refine ⟨?_, ?_⟩
      · unfold textB linesB
        rw [if_pos h2]
        rw [hw, (cutB_some hc3).1]
        dsimp only
        rw [h1, h5]
        simp
      · unfold MayO
        rw [if_pos h2]
        exact ⟨by dsimp only; rw [h1]; exact h3, h4, rfl, rfl, rfl, rfl, rfl, rfl⟩
    · split at h <;> cases h
  split at h
  · rename_i hw
    split at h
    · cases h
    rename_i k t he
    unfold bodyRd at h
    split at h
    · cases h
    rename_i l2 s2 hc3
    split at h
    · cases h
    rename_i n hn
    split at h
    · cases h
    rename_i l3 s3 hc4
    split at h
    · cases h
    rename_i m hm
    obtain ⟨h1, h2, h3, h4, h5, h6, h7, h8⟩ := restRd_ok _ _ _ _ _ h (by intro e he; cases he)
    obtain ⟨h9, h10⟩ := endsRd_some he
    obtain ⟨h11, h12⟩ := countRd_some hn
    obtain ⟨h13, h14⟩ := countRd_some hm
    obtain ⟨oe, oat, of, otx, oo, ol, os, om⟩ := o
    dsimp only at h2 h3 h4 h5 h6 h7 h8
    rw [show oe = 0 from h3, show oat = 0 from h4, h5, h6, h7, h8] at *
    refine ⟨?_, ?_⟩
    · unfold textB linesB
      rw [if_neg (by simp)]
      have h1' : s3 = tailB ⟨oe, oat, of, otx, oo, ol, os, om⟩ := h1
      simp only [List.flatMap_cons]
      rw [hw, (cutB_some hc3).1, (cutB_some hc4).1, h9, h11, h13, h1']
      unfold tailB
      simp [byS_ofB]
    · unfold MayO
      rw [if_neg (by simp)]
      exact ⟨rfl, h10, h12, h14, h2⟩
  · cases h
theorem cut_count {s l u : List UInt8} (h : cutB 10 s = some (l, u)) : s.count 10 = u.count 10 + 1 := by
  obtain ⟨h1, h2⟩ := cutB_some h
  rw [h1, List.count_append, List.count_eq_zero.2 h2]
  simp
theorem restRd_err : ∀ (f : Nat) (k : Int) (s : List UInt8) (o : OutP) (x : Int × Int), s.length < f → restRd R f k s o = .error x → (x.2 = 7 ∨ x.2 = 8) ∧ k + 1 ≤ x.1 ∧ x.1 ≤ k + 1 + s.count 10
  | 0, _, _, _, _, hf, h => by omega
  | _ + 1, _, [], o, x, _, h => by cases h
  | f + 1, k, c :: r, o, x, hf, h => by
    unfold restRd at h
    split at h
    · cases h
      exact ⟨.inr rfl, Int.le_refl _, by dsimp only; omega⟩
    rename_i l s hc
    have hcc := cut_count hc
    have hlen : s.length < f := by
      have := congrArg List.length (cutB_some hc).1
      rw [List.length_append, List.length_cons, List.length_cons] at this
      rw [List.length_cons] at hf
      omega
    split at h
    · cases h
      exact ⟨.inl rfl, Int.le_refl _, by dsimp only; omega⟩
    · obtain ⟨h1, h2, h3⟩ := restRd_err f (k + 1) s _ x hlen h
      exact ⟨h1, by omega, by omega⟩
    · obtain ⟨h1, h2, h3⟩ := restRd_err f (k + 1) s _ x hlen h
      exact ⟨h1, by omega, by omega⟩
theorem readO_err {s : List UInt8} {x : Int × Int} (h : readO R s = .error x) : (x.2 = 7 ∨ x.2 = 8) ∧ 1 ≤ x.1 ∧ x.1 ≤ 1 + s.count 10 := by
  unfold readO at h
  split at h
  · cases h; exact ⟨.inr rfl, by decide, by dsimp only; omega⟩
  rename_i l s1 hc1
  have h1 := cut_count hc1
  split at h
  · cases h; exact ⟨.inl rfl, by decide, by dsimp only; omega⟩
  split at h
  · unfold wrongRd at h
    split at h
    · cases h; exact ⟨.inl rfl, by decide, by dsimp only; omega⟩
    split at h
    · cases h; exact ⟨.inl rfl, by decide, by dsimp only; omega⟩
    split at h
    · cases h; exact ⟨.inl rfl, by decide, by dsimp only; omega⟩
    split at h
    · cases h
    · split at h
      · cases h; exact ⟨.inr rfl, by decide, by dsimp only; omega⟩
      · cases h; exact ⟨.inl rfl, by decide, by dsimp only; omega⟩
  split at h
  · split at h
    · cases h; exact ⟨.inl rfl, by decide, by dsimp only; omega⟩
    unfold bodyRd at h
    split at h
    · cases h; exact ⟨.inr rfl, by decide, by dsimp only; omega⟩
    rename_i l2 s2 hc2
    have h2 := cut_count hc2
    split at h
    · cases h; exact ⟨.inl rfl, by decide, by dsimp only; omega⟩
    split at h
    · cases h; exact ⟨.inr rfl, by decide, by dsimp only; omega⟩
    rename_i l3 s3 hc3
    have h3 := cut_count hc3
    split at h
    · cases h; exact ⟨.inl rfl, by decide, by dsimp only; omega⟩
    · obtain ⟨g1, g2, g3⟩ := restRd_err _ _ _ _ _ (Nat.lt_succ_self _) h
      exact ⟨g1, by omega, by omega⟩
  · cases h; exact ⟨.inl rfl, by decide, by dsimp only; omega⟩
end
end Go.Proofs.YtmihpkdhfomcgaaDoor.Ou
set_option maxRecDepth 20000
namespace Go.Proofs.YtmihpkdhfomcgaaDoor.Ou
open Go
theorem q1_len (c : UInt8) : (q1 c).length ≤ 4 := of_decide_eq_true (all256 (p := fun c => decide ((q1 c).length ≤ 4)) (by decide +kernel) c)
theorem qs_len : ∀ l : List UInt8, (l.flatMap q1).length ≤ 4 * l.length
  | [] => by simp
  | c :: r => by
    have h1 := qs_len r
    have h2 := q1_len c
    rw [List.flatMap_cons, List.length_append, List.length_cons]
    omega
theorem quote_len (l : List UInt8) : (quoteB l).length ≤ 4 * l.length + 2 := by
  have := qs_len l
  unfold quoteB
  simp only [List.length_cons, List.length_append, List.length_nil]
  omega
theorem byS_len (s : ByteArray) : (byS s).length = s.size := rfl
theorem itoa_len {n : Int} (h : inB n) : (Lib.itoa n).length ≤ 21 := Lib.itoa_length_le n (by have := h.1; omega) (by have := h.2; omega)
theorem tab_len {M : Nat} {n : Int} : ∀ l : List (Int × List UInt8), (∀ x ∈ l, x.2.length ≤ M) → (tabB l n).length ≤ M
  | [], _ => by simp [tabB]
  | (k, v) :: r, h => by
    unfold tabB
    split
    · exact h _ (List.mem_cons_self ..)
    · exact tab_len r (fun x hx => h x (List.mem_cons_of_mem _ hx))
theorem errB_len (e : Int) : (errB e).length ≤ 8 := tab_len errT (by decide +kernel)
theorem endB_len (e : Int) : (endB e).length ≤ 8 := tab_len endT (by decide +kernel)
theorem evB_len {k : Int} (h : 1 ≤ k ∧ k ≤ 13) : (evB k).length ≤ 8 := by
  obtain ⟨i, hi, _, he⟩ := evB_get h
  rw [he]
  have key : ∀ i, i < 13 → (evT.getD i []).length ≤ 8 := by decide +kernel
  exact key i hi
theorem keyB_len {k : KeyP} (h : KeyOk k) : (keyB k).length ≤ 4 * k.s.size + 30 := by
  have h1 := itoa_len h.1
  have h2 := quote_len (byS k.s)
  rw [byS_len] at h2
  unfold keyB
  split
  · simp only [List.length_append, List.length_cons, List.length_nil]; omega
  split
  · simp only [List.length_append, List.length_cons, List.length_nil]; omega
  · simp only [List.length_append, List.length_cons, List.length_nil]; omega
theorem evLine_len {e : EvP} (h : EvOk e) : (evLine e).length ≤ 4 * e.key.s.size + 4 * e.s.size + 60 := by
  have h1 := evB_len h.1
  have h2 := keyB_len h.2
  have h3 := quote_len (byS e.s)
  rw [byS_len] at h3
  unfold evLine
  simp only [List.length_append, List.length_cons, List.length_nil]
  omega
theorem outLine_len (s : ByteArray) : (outLine s).length ≤ 4 * s.size + 8 := by
  have h3 := quote_len (byS s)
  rw [byS_len] at h3
  unfold outLine
  simp only [List.length_append, List.length_cons, List.length_nil]
  omega
theorem flat_len {M : Nat} : ∀ ls : List (List UInt8), (∀ l ∈ ls, l.length ≤ M) → (ls.flatMap (· ++ [10])).length ≤ ls.length * (M + 1)
  | [], _ => by simp
  | l :: r, h => by
    have h1 := flat_len r (fun x hx => h x (List.mem_cons_of_mem _ hx))
    have h2 := h l (List.mem_cons_self ..)
    rw [List.flatMap_cons, List.length_append, List.length_append]
    simp only [List.length_cons, List.length_nil]
    rw [Nat.add_mul, Nat.one_mul]
    omega
theorem text_len {o : OutP} (h : OutOk o) (ht : o.text.size ≤ 1048576) (ho : ∀ s ∈ o.out, s.size ≤ 1048576) (hl : ∀ e ∈ o.log, e.key.s.size ≤ 1048576 ∧ e.s.size ≤ 1048576) (h1 : o.out.length ≤ 40) (h2 : o.log.length ≤ 40) :
    (textB o).length ≤ 1000000000 ∧ (linesB o).length ≤ 83 := by
  have key : (∀ l ∈ linesB o, l.length ≤ 8389000) ∧ (linesB o).length ≤ 83 := by
    unfold linesB
    unfold OutOk at h
    split
    · rename_i he
      rw [if_pos he] at h
      have e1 := errB_len o.e
      have e2 := itoa_len h.2.1
      refine ⟨fun l hm => ?_, by simp⟩
      rw [List.mem_singleton.1 hm]
      simp only [List.length_append, List.length_cons, List.length_nil]
      omega
    · rename_i he
      rw [if_neg he] at h
      have e1 := endB_len o.fin
      have e2 := itoa_len h.2.2.1
      have e3 := itoa_len h.2.2.2.1
      have e4 := quote_len (byS o.text)
      rw [byS_len] at e4
      refine ⟨fun l hm => ?_, by simp; omega⟩
      rcases List.mem_cons.1 hm with rfl | hm
      · simp only [List.length_append, List.length_cons, List.length_nil]; omega
      rcases List.mem_cons.1 hm with rfl | hm
      · simp only [List.length_append, List.length_cons, List.length_nil]; omega
      rcases List.mem_cons.1 hm with rfl | hm
      · simp only [List.length_append, List.length_cons, List.length_nil]; omega
      rcases List.mem_append.1 hm with hm | hm
      · obtain ⟨s, hs, rfl⟩ := List.mem_map.1 hm
        have := outLine_len s
        have := ho s hs
        omega
      · obtain ⟨e, hs, rfl⟩ := List.mem_map.1 hm
        have := evLine_len (h.2.2.2.2 e hs)
        have := hl e hs
        omega
  refine ⟨?_, key.2⟩
  have h3 := flat_len (linesB o) key.1
  have h4 : (linesB o).length * (8389000 + 1) ≤ 83 * (8389000 + 1) := Nat.mul_le_mul_right _ key.2
  unfold textB
  omega
def fewO (o : OutP) : OutP := { o with out := o.out.take 40, log := o.log.take 40 }
end Go.Proofs.YtmihpkdhfomcgaaDoor.Ou
