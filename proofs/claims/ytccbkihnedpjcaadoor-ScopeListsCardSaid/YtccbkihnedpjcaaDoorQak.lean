/- Package scope: scopes as plain data; Slots, Locals and Find of both sides. -/
import Derived.Test.YtccbkihnedpjcaaDoorQaj
set_option maxRecDepth 20000
set_option maxHeartbeats 2000000
namespace Go.Proofs.YtccbkihnedpjcaaDoor
section
open Go.RowKit Go.Vcg
structure Bd where
  (name : ByteArray) (kind : Int) (held : Bool) (slot : Int)
abbrev encBd (b : Bd) : List Value := [.string b.name, .int .i64 b.kind, .bool b.held, .int .i64 b.slot]
structure Sc where
  (up fn kind at' : Int) (names : List Bd)
abbrev encSc (p : Sc × Value) : List Value := [.int .i64 p.1.up, .int .i64 p.1.fn, .int .i64 p.1.kind, .int .i64 p.1.at', p.2]
def BdV (μ : Mem) (l : List Bd) (v : Value) : Prop := ∃ A c, v = .slice A l.length c ∧ Sl encBd 4 μ A l.length l ∧ l.length ≤ 200 ∧ l.length ≤ c
theorem BdV.mono {μ μ' : Mem} {l : List Bd} {v : Value} (h : BdV μ l v) (hle : MLe μ μ') : BdV μ' l v := by
  obtain ⟨A, c, e, h1, h2⟩ := h
  exact ⟨A, c, e, h1.mono hle, h2⟩
theorem BdV.one {μ : Mem} {l : List Bd} {v : Value} (h : BdV μ l v) : v.oneCell' = true := by
  obtain ⟨A, c, rfl, -⟩ := h; rfl
def ScR (μ : Mem) (A : Option Addr) (ps : List (Sc × Value)) : Prop := Sl encSc 5 μ A ps.length ps ∧ ps.length ≤ 200 ∧ ∀ p ∈ ps, BdV μ p.1.names p.2
theorem ScR.mono {μ μ' : Mem} {A : Option Addr} {ps : List (Sc × Value)} (h : ScR μ A ps) (hle : MLe μ μ') : ScR μ' A ps := ⟨h.1.mono hle, h.2.1, fun p hp => (h.2.2 p hp).mono hle⟩
def heldN (l : List Bd) : Nat := l.countP (fun b => b.held)
theorem heldN_le (l : List Bd) : heldN l ≤ l.length := List.countP_le_length
theorem heldN_zero (l : List Bd) : heldN (l.take 0) = 0 := by simp [heldN]
theorem heldN_succ {l : List Bd} {k : Nat} {b : Bd} (h : l[k]? = some b) : heldN (l.take (k + 1)) = heldN (l.take k) + if b.held = true then 1 else 0 := by
  unfold heldN
  rw [List.take_add_one, h, List.countP_append]
  simp [List.countP_cons]
theorem heldN_all {l : List Bd} {k : Nat} (h : l.length ≤ k) : heldN (l.take k) = heldN l := by rw [List.take_of_length_le h]
theorem heldN_take (l : List Bd) (k : Nat) : heldN (l.take k) ≤ k := Nat.le_trans (heldN_le _) (by rw [List.length_take]; omega)
def locN (fn : Int) : List Sc → Nat
  | [] => 0
  | s :: r => (if s.fn = fn then s.names.length - heldN s.names else 0) + locN fn r
theorem locN_append (fn : Int) : ∀ a b : List Sc, locN fn (a ++ b) = locN fn a + locN fn b
  | [], b => by simp [locN]
  | s :: r, b => by
    have := locN_append fn r b
    simp only [List.cons_append, locN, this]
    omega
theorem locN_succ {fn : Int} {l : List Sc} {k : Nat} {s : Sc} (h : l[k]? = some s) : locN fn (l.take (k + 1)) = locN fn (l.take k) + if s.fn = fn then s.names.length - heldN s.names else 0 := by
  rw [List.take_add_one, h, locN_append]
  simp [locN]
theorem locN_le (fn : Int) : ∀ l : List Sc, (∀ s ∈ l, s.names.length ≤ 200) → locN fn l ≤ 200 * l.length
  | [], _ => by simp [locN]
  | s :: r, h => by
    have h1 := locN_le fn r (fun x hx => h x (List.mem_cons_of_mem _ hx))
    have h2 := h s (List.mem_cons_self ..)
    have h3 := heldN_le s.names
    simp only [locN, List.length_cons]
    split <;> omega
def placeF (x : ByteArray) : List Bd → Nat → Option Nat
  | [], _ => none
  | b :: r, k => if b.name = x then some k else placeF x r (k + 1)
theorem placeF_drop {x : ByteArray} {l : List Bd} {k : Nat} {b : Bd} (h : l[k]? = some b) : placeF x (l.drop k) k = if b.name = x then some k else placeF x (l.drop (k + 1)) (k + 1) := by
  have hlt := (List.getElem?_eq_some_iff.1 h)
  obtain ⟨h1, h2⟩ := hlt
  rw [List.drop_eq_getElem_cons h1, h2]
  rfl
def findF (l : List Sc) (x : ByteArray) : Nat → Int → Option (Nat × Nat)
  | 0, _ => none
  | f + 1, at' => if 0 ≤ at' ∧ at' < l.length then match l[at'.toNat]? with
      | none => none
      | some s => match placeF x s.names 0 with
        | some k => some (at'.toNat, k)
        | none => if s.up ≥ at' then none else findF l x f s.up
    else none
theorem findF_out {l : List Sc} {x : ByteArray} {f : Nat} {at' : Int} (h : ¬ (0 ≤ at' ∧ at' < l.length)) : findF l x f at' = none := by
  cases f with
  | zero => rfl
  | succ f => unfold findF; rw [if_neg h]
theorem findF_in {l : List Sc} {x : ByteArray} {f k : Nat} {s : Sc} (h : l[k]? = some s) : findF l x (f + 1) (k : Int) = match placeF x s.names 0 with
    | some j => some (k, j)
    | none => if s.up ≥ (k : Int) then none else findF l x f s.up := by
  have hlt := (List.getElem?_eq_some_iff.1 h).1
  rw [findF, if_pos ⟨by omega, by omega⟩]
  simp only [Int.toNat_natCast, h]
abbrev findV (r : Option (Nat × Nat)) : Value := match r with
  | some (s, k) => .tuple #[.int .i64 (s : Int), .int .i64 (k : Int), .bool true]
  | none => .tuple #[.int .i64 0, .int .i64 0, .bool false]
attribute [local irreducible] heldN locN placeF findF G GC GQ GA GAop Calls IntKind.wrap Int.decLt Int.decLe
section
variable (w : World) (μ : Mem) (hμ : MOk μ w)
include hμ
theorem pslots_spec (s : Sc) (v : Value) (hv : BdV μ s.names v) : Calls Tryd.prog 11 #[.agg (encSc (s, v)).toArray] w fun e w' => e = .returned (.int .i64 (heldN s.names)) ∧ Below w.heap.size w w' := by
  obtain ⟨A, c, rfl, hS, hl⟩ := hv
  refine call_intro (args := [.agg #[.int .i64 s.up, .int .i64 s.fn, .int .i64 s.kind, .int .i64 s.at', .slice A s.names.length c]]) Tryd.func11 rfl Tryd.ntmps11 (by simp) hμ ?_
  repeat' (first | refine KK ?_ | refine NB fun b => ?_ | (refine KB ?_ ?_ <;> intro hp) | refine KG ?_ | fail)
  refine gc_loop (ι := Nat × Nat) (fun i => i.1 ≤ s.names.length ∧ i.2 = heldN (s.names.take i.1)) (fun i => s.names.length - i.1) (fun _ => μ) (fun i => [(9, .int .i64 (i.1 : Int)), (8, .int .i64 (s.names.length : Int)), (7, .slice A s.names.length c), (3, .int .i64 (i.2 : Int))]) (fun _ => []) (0, 0) ⟨Nat.zero_le _, (heldN_zero _).symm⟩ (fun a w hs => J5 hs) ?_
  rintro ⟨k, n⟩ ⟨hk, hn⟩
  dsimp only at hk hn ⊢
  have hb := heldN_take s.names k
  by_cases hlt : k < s.names.length
  · obtain ⟨ad, y, rfl, hy, hm⟩ := hS.get hlt
    have hn2 := heldN_succ hy
    rw [← hn] at hn2 hb
    obtain ⟨nm, kd, hd, sl⟩ := y
    cases hd
    · rw [if_neg (by simp)] at hn2
      repeat' (first | refine KO ?_ | (refine KV (b := by first | exact U1 k | exact U4 hm) (c := ?_)) | refine KI ?_ | refine NB fun b => ?_ | (refine KB ?_ ?_ <;> intro hp) | refine KG ?_ | fail)
      all_goals try (exfalso; first | omega | contradiction)
      all_goals exact J2 (k + 1, n) ⟨by dsimp only; omega, hn2.symm⟩ (by dsimp only; omega)
    · rw [if_pos rfl] at hn2
      repeat' (first | refine KO ?_ | (refine KV (b := by first | exact U1 k | exact U4 hm) (c := ?_)) | refine KI ?_ | refine NB fun b => ?_ | (refine KB ?_ ?_ <;> intro hp) | refine KG ?_ | fail)
      all_goals try (exfalso; first | omega | contradiction)
      all_goals exact J2 (k + 1, n + 1) ⟨by dsimp only; omega, hn2.symm⟩ (by dsimp only; omega)
  · obtain rfl : k = s.names.length := by omega
    rw [heldN_all (Nat.le_refl _)] at hn
    subst hn
    repeat' (first | refine KK ?_ | refine NB fun b => ?_ | (refine KB ?_ ?_ <;> intro hp) | refine KG ?_ | fail)
    all_goals try (exfalso; first | omega | contradiction)
    exact ret_s rfl rfl rfl
theorem rslots_spec (s : Sc) (v : Value) (hv : BdV μ s.names v) : Calls Tryd.prog 12 #[.agg (encSc (s, v)).toArray] w fun e w' => e = .returned (.int .i64 (heldN s.names)) ∧ Below w.heap.size w w' := by
  obtain ⟨A, c, rfl, hS, hl⟩ := hv
  refine call_intro (args := [.agg #[.int .i64 s.up, .int .i64 s.fn, .int .i64 s.kind, .int .i64 s.at', .slice A s.names.length c]]) Tryd.func12 rfl Tryd.ntmps12 (by simp) hμ ?_
  repeat' (first | refine KK ?_ | refine NB fun b => ?_ | (refine KB ?_ ?_ <;> intro hp) | refine KG ?_ | fail)
  refine gc_loop (ι := Nat × Nat) (fun i => i.1 ≤ s.names.length ∧ i.2 = heldN (s.names.take i.1)) (fun i => s.names.length - i.1) (fun _ => μ) (fun i => [(4, .int .i64 (i.1 : Int)), (1, .pointer (some ⟨b, 0, none⟩)), (3, .int .i64 (i.2 : Int))]) (fun _ => [.inl ⟨b, 26, 5, idx 0 [.int .i64 s.up, .int .i64 s.fn, .int .i64 s.kind, .int .i64 s.at', .slice A s.names.length c]⟩]) (0, 0) ⟨Nat.zero_le _, (heldN_zero _).symm⟩ (fun a w hs => J5 hs) ?_
  rintro ⟨k, n⟩ ⟨hk, hn⟩
  dsimp only at hk hn ⊢
  have hb := heldN_take s.names k
  by_cases hlt : k < s.names.length
  · obtain ⟨ad, y, rfl, hy, hm⟩ := hS.get hlt
    have hn2 := heldN_succ hy
    rw [← hn] at hn2 hb
    obtain ⟨nm, kd, hd, sl⟩ := y
    cases hd
    · rw [if_neg (by simp)] at hn2
      repeat' (first | refine KO ?_ | (refine KV (b := by first | exact U1 k | exact U4 hm) (c := ?_)) | refine KI ?_ | refine NB fun b => ?_ | (refine KB ?_ ?_ <;> intro hp) | refine KG ?_ | fail)
      all_goals try (exfalso; first | omega | contradiction)
      all_goals exact J2 (k + 1, n) ⟨by dsimp only; omega, hn2.symm⟩ (by dsimp only; omega)
    · rw [if_pos rfl] at hn2
      repeat' (first | refine KO ?_ | (refine KV (b := by first | exact U1 k | exact U4 hm) (c := ?_)) | refine KI ?_ | refine NB fun b => ?_ | (refine KB ?_ ?_ <;> intro hp) | refine KG ?_ | fail)
      all_goals try (exfalso; first | omega | contradiction)
      all_goals exact J2 (k + 1, n + 1) ⟨by dsimp only; omega, hn2.symm⟩ (by dsimp only; omega)
  · obtain rfl : k = s.names.length := by omega
    rw [heldN_all (Nat.le_refl _)] at hn
    subst hn
    repeat' (first | refine KK ?_ | refine NB fun b => ?_ | (refine KB ?_ ?_ <;> intro hp) | refine KG ?_ | fail)
    all_goals try (exfalso; first | omega | contradiction)
    exact ret_s rfl rfl rfl
end
end
section
open Go.RowKit Go.Vcg
theorem locN_zero (fn : Int) (l : List Sc) : locN fn (l.take 0) = 0 := by simp [locN]
theorem locN_take_le (fn : Int) (l : List Sc) (h : ∀ s ∈ l, s.names.length ≤ 200) (k : Nat) (hl : l.length ≤ 200) : locN fn (l.take k) ≤ 40000 := by
  have h1 := locN_le fn (l.take k) (fun s hs => h s (List.mem_of_mem_take hs))
  rw [List.length_take] at h1
  omega
abbrev scs (ps : List (Sc × Value)) : List Sc := ps.map (·.1)
theorem scs_get {ps : List (Sc × Value)} {k : Nat} {y : Sc × Value} (h : ps[k]? = some y) : (scs ps)[k]? = some y.1 := by rw [List.getElem?_map, h]; rfl
attribute [local irreducible] heldN locN placeF findF G GC GQ GA GAop Calls IntKind.wrap Int.decLt Int.decLe
section
variable (w : World) (μ : Mem) (hμ : MOk μ w)
include hμ
theorem plocals_spec (ps : List (Sc × Value)) (A : Option Addr) (c : Nat) (hps : ScR μ A ps) (fn : Int) : Calls Tryd.prog 7 #[.slice A ps.length c, .int .i64 fn] w fun e w' => e = .returned (.int .i64 (((if fn = 0 then 1 else 0) + locN fn (scs ps) : Nat) : Int)) ∧ Below w.heap.size w w' := by
  obtain ⟨hS, hl, hall⟩ := hps
  have hnl : ∀ s ∈ scs ps, s.names.length ≤ 200 := fun s hs => by
    obtain ⟨p, hp, rfl⟩ := List.mem_map.1 hs
    obtain ⟨_, _, _, _, h⟩ := hall p hp
    exact h.1
  have hsl : (scs ps).length = ps.length := List.length_map ..
  refine call_intro (args := [.slice A ps.length c, .int .i64 fn]) Tryd.func7 rfl Tryd.ntmps7 (by simp) hμ ?_
  obtain ⟨n0, hn0, hn1⟩ : ∃ n0 : Nat, (if fn = 0 then 1 else 0 : Nat) = n0 ∧ n0 ≤ 1 := ⟨_, rfl, by split <;> omega⟩
  rw [hn0]
  repeat' (first | ((with_reducible show GC _ _ (Code.seq (Code.seq (Code.region 2 _ _) _) _) _ _ _ _); (apply gc_stop)) | refine KK ?_ | refine NB fun b => ?_ | (refine KB ?_ ?_ <;> intro hp) | refine KG ?_ | fail)
  refine gcs ?_
  refine gc_join (ι := Unit) (fun _ => True) (fun _ => μ) (fun _ => [(5, .int .i64 (n0 : Int)), (1, .int .i64 fn), (0, .slice A ps.length c)]) (fun _ => []) ?_ ?_
  · by_cases h0 : fn = 0
    · rw [if_pos h0] at hn0
      subst hn0
      repeat' (first | refine KK ?_ | refine NB fun b => ?_ | (refine KB ?_ ?_ <;> intro hp) | refine KG ?_ | fail)
      all_goals try (exfalso; first | omega | contradiction)
      all_goals exact J1 () trivial
    · rw [if_neg h0] at hn0
      subst hn0
      repeat' (first | refine KK ?_ | refine NB fun b => ?_ | (refine KB ?_ ?_ <;> intro hp) | refine KG ?_ | fail)
      all_goals try (exfalso; first | omega | contradiction)
      all_goals exact J1 () trivial
  rintro ⟨⟩ -
  repeat' (first | refine KK ?_ | refine NB fun b => ?_ | (refine KB ?_ ?_ <;> intro hp) | refine KG ?_ | fail)
  refine gc_loop (ι := Nat × Nat) (fun i => i.1 ≤ ps.length ∧ i.2 = locN fn ((scs ps).take i.1)) (fun i => ps.length - i.1) (fun _ => μ) (fun i => [(12, .int .i64 (i.1 : Int)), (11, .int .i64 (ps.length : Int)), (10, .slice A ps.length c), (5, .int .i64 ((n0 + i.2 : Nat) : Int)), (1, .int .i64 fn)]) (fun _ => []) (0, 0) ⟨Nat.zero_le _, (locN_zero _ _).symm⟩ (fun a w hs => J5 hs) ?_
  rintro ⟨k, n⟩ ⟨hk, hn⟩
  dsimp only at hk hn ⊢
  have hb := locN_take_le fn (scs ps) hnl k (by omega)
  by_cases hlt : k < ps.length
  · obtain ⟨ad, y, rfl, hy, hm⟩ := hS.get hlt
    have hn2 := locN_succ (fn := fn) (scs_get hy)
    rw [← hn] at hn2 hb
    obtain ⟨s, v⟩ := y
    have hbv := hall _ (List.mem_of_getElem? hy)
    dsimp only at hn2 hbv
    have hsp := fun (w : World) (μc : Mem) (hw : MOk μc w) (hle : MLe μ μc) => pslots_spec w μc hw s v (hbv.mono hle)
    obtain ⟨A2, c2, rfl, hS2, hl2⟩ := hbv
    have hhl := heldN_le s.names
    by_cases hfn : s.fn = fn
    · rw [if_pos hfn] at hn2
      repeat' (first | refine KO ?_ | (refine KV (b := by first | exact U1 k | exact U4 hm) (c := ?_)) | refine KI ?_ | refine NB fun b => ?_ | (refine KB ?_ ?_ <;> intro hp) | refine KG ?_ | fail)
      all_goals try (exfalso; first | omega | contradiction)
      all_goals refine gc_draw 9 _ (by kernel_rfl) rfl (List.Sublist.cons_cons _ (List.nil_sublist _)) ?_
                all_goals refine DD 0 ?_
                all_goals (first | refine D1 1 ?_ | (refine DV (k := 1) (b := by first | ((with_reducible apply v_sub_i); exact rfl; exact rfl; omega)) (c := ?_)) | refine DD 1 ?_ | fail)
                all_goals (first | refine D1 2 ?_ | (refine DV (k := 2) (b := by first | ((with_reducible apply v_sub_i); exact rfl; exact rfl; omega)) (c := ?_)) | (refine D3 2 (DW (b := by first | ((with_reducible apply v_sub_i); exact rfl; exact rfl; omega)) (c := ?_))) | refine DD 2 ?_ | fail)
                all_goals (first | refine D1 3 ?_ | (refine DV (k := 3) (b := by first | ((with_reducible apply v_sub_i); exact rfl; exact rfl; omega)) (c := ?_)) | refine DD 3 ?_ | fail)
                all_goals (first | refine D1 4 ?_ | (refine DV (k := 4) (b := by first | ((with_reducible apply v_sub_i); exact rfl; exact rfl; omega)) (c := ?_)) | (refine D3 4 (DW (b := by first | ((with_reducible apply v_sub_i); exact rfl; exact rfl; omega)) (c := ?_))) | refine DD 4 ?_ | fail)
                all_goals (first | (refine D3 5 ?_; refine D5 ?_; (with_reducible apply F1 11); exact rfl; exact EN; exact fun w μc hw hse => hsp w μc hw hse.le; refine D9 ?_))
                all_goals (first | refine D1 6 ?_ | (refine DV (k := 6) (b := by first | ((with_reducible apply v_sub_i); exact rfl; exact rfl; omega)) (c := ?_)) | refine DD 6 ?_ | fail)
                all_goals (first | refine D1 7 ?_ | (refine DV (k := 7) (b := by first | ((with_reducible apply v_sub_i); exact rfl; exact rfl; omega)) (c := ?_)) | refine DD 7 ?_ | fail)
                all_goals refine DD 8 ?_
                all_goals refine D8 ?_
      all_goals repeat' (first | refine KK ?_ | refine NB fun b => ?_ | (refine KB ?_ ?_ <;> intro hp) | refine KG ?_ | fail)
      all_goals rw [show ((n0 + n : Nat) : Int) + ((s.names.length : Int) - (heldN s.names : Int)) = ((n0 + (n + (s.names.length - heldN s.names)) : Nat) : Int) by omega]
      all_goals exact J2 (k + 1, n + (s.names.length - heldN s.names)) ⟨by dsimp only; omega, hn2.symm⟩ (by dsimp only; omega)
    · rw [if_neg hfn] at hn2
      repeat' (first | refine KO ?_ | (refine KV (b := by first | exact U1 k | exact U4 hm) (c := ?_)) | refine KI ?_ | refine NB fun b => ?_ | (refine KB ?_ ?_ <;> intro hp) | refine KG ?_ | fail)
      all_goals try (exfalso; first | omega | contradiction)
      all_goals exact J2 (k + 1, n) ⟨by dsimp only; omega, hn2.symm⟩ (by dsimp only; omega)
  · obtain rfl : k = ps.length := by omega
    rw [List.take_of_length_le (by omega)] at hn
    subst hn
    repeat' (first | refine KK ?_ | refine NB fun b => ?_ | (refine KB ?_ ?_ <;> intro hp) | refine KG ?_ | fail)
    all_goals try (exfalso; first | omega | contradiction)
    exact ret_s rfl rfl rfl
theorem rlocals_spec (ps : List (Sc × Value)) (A : Option Addr) (c : Nat) (hps : ScR μ A ps) (fn : Int) : Calls Tryd.prog 8 #[.slice A ps.length c, .int .i64 fn] w fun e w' => e = .returned (.int .i64 (((if fn = 0 then 1 else 0) + locN fn (scs ps) : Nat) : Int)) ∧ Below w.heap.size w w' := by
  obtain ⟨hS, hl, hall⟩ := hps
  have hnl : ∀ s ∈ scs ps, s.names.length ≤ 200 := fun s hs => by
    obtain ⟨p, hp, rfl⟩ := List.mem_map.1 hs
    obtain ⟨_, _, _, _, h⟩ := hall p hp
    exact h.1
  have hsl : (scs ps).length = ps.length := List.length_map ..
  refine call_intro (args := [.slice A ps.length c, .int .i64 fn]) Tryd.func8 rfl Tryd.ntmps8 (by simp) hμ ?_
  obtain ⟨n0, hn0, hn1⟩ : ∃ n0 : Nat, (if fn = 0 then 1 else 0 : Nat) = n0 ∧ n0 ≤ 1 := ⟨_, rfl, by split <;> omega⟩
  rw [hn0]
  repeat' (first | ((with_reducible show GC _ _ (Code.seq (Code.seq (Code.region 2 _ _) _) _) _ _ _ _); (apply gc_stop)) | refine KK ?_ | (refine KB ?_ ?_ <;> intro hp) | refine KG ?_ | fail)
  refine gcs ?_
  refine gc_join (ι := Unit) (fun _ => True) (fun _ => μ) (fun _ => [(5, .int .i64 (n0 : Int)), (1, .int .i64 fn), (0, .slice A ps.length c)]) (fun _ => []) ?_ ?_
  · by_cases h0 : fn = 0
    · rw [if_pos h0] at hn0
      subst hn0
      repeat' (first | refine KK ?_ | (refine KB ?_ ?_ <;> intro hp) | refine KG ?_ | fail)
      all_goals try (exfalso; first | omega | contradiction)
      all_goals exact J1 () trivial
    · rw [if_neg h0] at hn0
      subst hn0
      repeat' (first | refine KK ?_ | (refine KB ?_ ?_ <;> intro hp) | refine KG ?_ | fail)
      all_goals try (exfalso; first | omega | contradiction)
      all_goals exact J1 () trivial
  rintro ⟨⟩ -
  repeat' (first | refine KK ?_ | (refine KB ?_ ?_ <;> intro hp) | refine KG ?_ | fail)
  refine gc_loop (ι := Nat × Nat) (fun i => i.1 ≤ ps.length ∧ i.2 = locN fn ((scs ps).take i.1)) (fun i => ps.length - i.1) (fun _ => μ) (fun i => [(6, .int .i64 (i.1 : Int)), (0, .slice A ps.length c), (5, .int .i64 ((n0 + i.2 : Nat) : Int)), (1, .int .i64 fn)]) (fun _ => []) (0, 0) ⟨Nat.zero_le _, (locN_zero _ _).symm⟩ (fun a w hs => J5 hs) ?_
  rintro ⟨k, n⟩ ⟨hk, hn⟩
  dsimp only at hk hn ⊢
  have hb := locN_take_le fn (scs ps) hnl k (by omega)
  by_cases hlt : k < ps.length
  · obtain ⟨ad, y, rfl, hy, hm⟩ := hS.get hlt
    have hn2 := locN_succ (fn := fn) (scs_get hy)
    rw [← hn] at hn2 hb
    obtain ⟨s, v⟩ := y
    have hbv := hall _ (List.mem_of_getElem? hy)
    dsimp only at hn2 hbv
    have hsp := fun (w : World) (μc : Mem) (hw : MOk μc w) (hle : MLe μ μc) => rslots_spec w μc hw s v (hbv.mono hle)
    obtain ⟨A2, c2, rfl, hS2, hl2⟩ := hbv
    have hhl := heldN_le s.names
    by_cases hfn : s.fn = fn
    · rw [if_pos hfn] at hn2
      repeat' (first | refine KO ?_ | (refine KV (b := by first | exact U1 k | exact U4 hm) (c := ?_)) | refine KI ?_ | (refine KB ?_ ?_ <;> intro hp) | refine KG ?_ | fail)
      all_goals try (exfalso; first | omega | contradiction)
      all_goals refine gc_draw 15 ([]) (by kernel_rfl) rfl (by first | exact List.Sublist.refl _ | simp) ?_
                all_goals refine DD 0 ?_
                all_goals refine DD 1 ?_
                all_goals refine DD 2 ?_
                all_goals (first | refine D1 3 ?_ | (refine DV (k := 3) (b := by first | exact U1 k | exact U4 hm | ((with_reducible apply v_sub_i); exact rfl; exact rfl; omega)) (c := ?_)) | refine DD 3 ?_ | fail)
                all_goals (first | refine D1 4 ?_ | (refine DV (k := 4) (b := by first | exact U1 k | exact U4 hm | ((with_reducible apply v_sub_i); exact rfl; exact rfl; omega)) (c := ?_)) | refine DD 4 ?_ | fail)
                all_goals (first | refine D1 5 ?_ | (refine DV (k := 5) (b := by first | exact U1 k | exact U4 hm | ((with_reducible apply v_sub_i); exact rfl; exact rfl; omega)) (c := ?_)) | (refine D3 5 (DW (b := by first | exact U1 k | exact U4 hm | ((with_reducible apply v_sub_i); exact rfl; exact rfl; omega)) (c := ?_))) | refine DD 5 ?_ | fail)
                all_goals (first | refine D1 6 ?_ | (refine DV (k := 6) (b := by first | exact U1 k | exact U4 hm | ((with_reducible apply v_sub_i); exact rfl; exact rfl; omega)) (c := ?_)) | refine DD 6 ?_ | fail)
                all_goals (first | refine D1 7 ?_ | (refine DV (k := 7) (b := by first | exact U1 k | exact U4 hm | ((with_reducible apply v_sub_i); exact rfl; exact rfl; omega)) (c := ?_)) | refine DD 7 ?_ | fail)
                all_goals refine DD 8 ?_
                all_goals refine DD 9 ?_
                all_goals (first | refine D1 10 ?_ | (refine DV (k := 10) (b := by first | exact U1 k | exact U4 hm | ((with_reducible apply v_sub_i); exact rfl; exact rfl; omega)) (c := ?_)) | refine DD 10 ?_ | fail)
                all_goals (first | refine D1 11 ?_ | (refine DV (k := 11) (b := by first | exact U1 k | exact U4 hm | ((with_reducible apply v_sub_i); exact rfl; exact rfl; omega)) (c := ?_)) | (refine D3 11 (DW (b := by first | exact U1 k | exact U4 hm | ((with_reducible apply v_sub_i); exact rfl; exact rfl; omega)) (c := ?_))) | refine DD 11 ?_ | fail)
                all_goals (first | (refine D3 12 ?_; refine D5 ?_; (with_reducible apply F1 12); exact rfl; exact EN; exact fun w μc hw hse => hsp w μc hw hse.le; refine D9 ?_))
                all_goals (first | refine D1 13 ?_ | (refine DV (k := 13) (b := by first | exact U1 k | exact U4 hm | ((with_reducible apply v_sub_i); exact rfl; exact rfl; omega)) (c := ?_)) | refine DD 13 ?_ | fail)
                all_goals refine DD 14 ?_
                all_goals refine D8 ?_
      all_goals repeat' (first | refine KK ?_ | (refine KB ?_ ?_ <;> intro hp) | refine KG ?_ | fail)
      all_goals rw [show ((n0 + n : Nat) : Int) + (s.names.length : Int) - (heldN s.names : Int) = ((n0 + (n + (s.names.length - heldN s.names)) : Nat) : Int) by omega]
      all_goals exact J2 (k + 1, n + (s.names.length - heldN s.names)) ⟨by dsimp only; omega, hn2.symm⟩ (by dsimp only; omega)
    · rw [if_neg hfn] at hn2
      repeat' (first | refine KO ?_ | (refine KV (b := by first | exact U1 k | exact U4 hm) (c := ?_)) | refine KI ?_ | (refine KB ?_ ?_ <;> intro hp) | refine KG ?_ | fail)
      all_goals try (exfalso; first | omega | contradiction)
      all_goals exact J2 (k + 1, n) ⟨by dsimp only; omega, hn2.symm⟩ (by dsimp only; omega)
  · obtain rfl : k = ps.length := by omega
    rw [List.take_of_length_le (by omega)] at hn
    subst hn
    repeat' (first | refine KK ?_ | (refine KB ?_ ?_ <;> intro hp) | refine KG ?_ | fail)
    all_goals try (exfalso; first | omega | contradiction)
    exact ret_s rfl rfl rfl
theorem place_spec (x : ByteArray) (l : List Bd) (v : Value) (hv : BdV μ l v) : Calls Tryd.prog 16 #[v, .string x] w fun e w' => e = .returned (.int .i64 (match placeF x l 0 with | some k => (k : Int) | none => -1)) ∧ Below w.heap.size w w' := by
  obtain ⟨A, c, rfl, hS, hl⟩ := hv
  generalize hR : placeF x l 0 = R
  refine call_intro (args := [.slice A l.length c, .string x]) Tryd.func16 rfl Tryd.ntmps16 (by simp) hμ ?_
  repeat' (first | refine KK ?_ | (refine KB ?_ ?_ <;> intro hp) | refine KG ?_ | fail)
  refine gc_loop (ι := Nat) (fun k => k ≤ l.length ∧ placeF x (l.drop k) k = R) (fun k => l.length - k) (fun _ => μ) (fun k => [(5, .int .i64 (k : Int)), (0, .slice A l.length c), (1, .string x)]) (fun _ => []) 0 ⟨Nat.zero_le _, hR⟩ (fun a w hs => J5 hs) ?_
  rintro k ⟨hk, hRk⟩
  by_cases hlt : k < l.length
  · obtain ⟨ad, y, rfl, hy, hm⟩ := hS.get hlt
    rw [placeF_drop hy] at hRk
    by_cases hn : y.name = x
    · rw [if_pos hn] at hRk
      subst hRk
      repeat' (first | refine KO ?_ | (refine KV (b := by first | exact U1 k | exact U4 hm) (c := ?_)) | refine KI ?_ | (refine KB ?_ ?_ <;> intro hp) | refine KG ?_ | fail)
      all_goals try (exfalso; first | omega | contradiction)
      all_goals exact ret_s rfl rfl rfl
    · rw [if_neg hn] at hRk
      repeat' (first | refine KO ?_ | (refine KV (b := by first | exact U1 k | exact U4 hm) (c := ?_)) | refine KI ?_ | (refine KB ?_ ?_ <;> intro hp) | refine KG ?_ | fail)
      all_goals try (exfalso; first | omega | contradiction)
      all_goals exact J2 (k + 1) ⟨by omega, hRk⟩ (by omega)
  · rw [List.drop_of_length_le (by omega)] at hRk
    have hRn : R = none := by rw [← hRk]; unfold placeF; rfl
    subst hRn
    repeat' (first | refine KK ?_ | (refine KB ?_ ?_ <;> intro hp) | refine KG ?_ | fail)
    all_goals try (exfalso; first | omega | contradiction)
    all_goals exact ret_s rfl rfl rfl
end
end
section
open Go.RowKit Go.Vcg
attribute [local irreducible] heldN locN placeF findF G GC GQ GA GAop Calls IntKind.wrap Int.decLt Int.decLe
section
variable (w : World) (μ : Mem) (hμ : MOk μ w)
include hμ
theorem pfind_spec (ps : List (Sc × Value)) (A : Option Addr) (c : Nat) (hps : ScR μ A ps) (at' : Int) (x : ByteArray) : Calls Tryd.prog 5 #[.slice A ps.length c, .int .i64 at', .string x] w fun e w' => e = .returned (findV (findF (scs ps) x (at'.toNat + 1) at')) ∧ Below w.heap.size w w' := by
  obtain ⟨hS, hl, hall⟩ := hps
  have hsl : (scs ps).length = ps.length := List.length_map ..
  generalize hR : findF (scs ps) x (at'.toNat + 1) at' = R
  refine call_intro (args := [.slice A ps.length c, .int .i64 at', .string x]) Tryd.func5 rfl Tryd.ntmps5 (by simp) hμ ?_
  repeat' (first | refine KK ?_ | refine NB fun b => ?_ | (refine KB ?_ ?_ <;> intro hp) | refine KG ?_ | fail)
  refine gc_loop (ι := Nat × Int) (fun i => findF (scs ps) x i.1 i.2 = R ∧ (i.2 < 0 ∨ i.2.toNat < i.1)) (fun i => i.1) (fun _ => μ) (fun i => [(0, .slice A ps.length c), (1, .int .i64 i.2), (2, .string x)]) (fun _ => []) (at'.toNat + 1, at') ⟨hR, .inr (by dsimp only; omega)⟩ (fun a w hs => J5 hs) ?_
  rintro ⟨f, a⟩ ⟨hRk, hf⟩
  dsimp only at hRk hf ⊢
  by_cases hin : 0 ≤ a ∧ a < ps.length
  · obtain ⟨k, rfl⟩ : ∃ k : Nat, a = k := ⟨a.toNat, by omega⟩
    have hlt : k < ps.length := by omega
    obtain ⟨f, rfl⟩ : ∃ g, f = g + 1 := ⟨f - 1, by omega⟩
    obtain ⟨ad, y, rfl, hy, hm⟩ := hS.get hlt
    obtain ⟨s, v⟩ := y
    obtain ⟨A2, c2, hv, hS2, hl2⟩ := hall _ (List.mem_of_getElem? hy)
    dsimp only at hv hS2 hl2 hm
    subst hv
    rw [findF_in (scs_get hy)] at hRk
    dsimp only at hRk
    generalize hP : placeF x s.names 0 = P at hRk
    repeat' (first | refine KO ?_ | (refine KV (b := by first | exact U1 k | exact U4 hm) (c := ?_)) | refine KI ?_ | refine NB fun b => ?_ | (refine KB ?_ ?_ <;> intro hp) | refine KG ?_ | fail)
    all_goals try (exfalso; first | omega | contradiction)
    refine gc_loop (ι := Nat) (fun j => j ≤ s.names.length ∧ placeF x (s.names.drop j) j = P) (fun j => s.names.length - j) (fun _ => μ) (fun j => [(25, .int .i64 (j : Int)), (24, .int .i64 (s.names.length : Int)), (23, .slice A2 s.names.length c2), (0, .slice (some ad) ps.length c), (1, .int .i64 (k : Int)), (2, .string x)]) (fun _ => []) 0 ⟨Nat.zero_le _, hP⟩ (fun a w hs => J5 hs) ?_
    rintro j ⟨hj, hPj⟩
    by_cases hjl : j < s.names.length
    · obtain ⟨ad2, z, rfl, hz, hm2⟩ := hS2.get hjl
      rw [placeF_drop hz] at hPj
      by_cases hn : z.name = x
      · rw [if_pos hn] at hPj
        subst hPj
        subst hRk
        repeat' (first | refine KO ?_ | (refine KV (b := by first | exact U1 j | exact U4 hm2) (c := ?_)) | refine KI ?_ | refine NB fun b => ?_ | (refine KB ?_ ?_ <;> intro hp) | refine KG ?_ | fail)
        all_goals try (exfalso; first | omega | contradiction)
        all_goals exact ret_vn rfl (by repeat first | exact rvs_nil | refine rvs_cons (by first | exact rv_tmp rfl | exact (RG 0 rfl rfl rfl rfl rfl) | exact (RG 1 rfl rfl rfl rfl rfl) | exact (RG 2 rfl rfl rfl rfl rfl) | exact (RG 3 rfl rfl rfl rfl rfl)) ?_) rfl rfl
      · rw [if_neg hn] at hPj
        repeat' (first | refine KO ?_ | (refine KV (b := by first | exact U1 j | exact U4 hm2) (c := ?_)) | refine KI ?_ | refine NB fun b => ?_ | (refine KB ?_ ?_ <;> intro hp) | refine KG ?_ | fail)
        all_goals try (exfalso; first | omega | contradiction)
        all_goals exact J2 (j + 1) ⟨by omega, hPj⟩ (by omega)
    · rw [List.drop_of_length_le (by omega)] at hPj
      have hPn : P = none := by rw [← hPj]; unfold placeF; rfl
      subst hPn
      dsimp only at hRk
      by_cases hup : s.up ≥ (k : Int)
      · rw [if_pos hup] at hRk
        subst hRk
        repeat' (first | refine KO ?_ | (refine KV (b := by first | exact U1 k | exact U4 hm) (c := ?_)) | refine KI ?_ | refine NB fun b => ?_ | (refine KB ?_ ?_ <;> intro hp) | refine KG ?_ | fail)
        all_goals try (exfalso; first | omega | contradiction)
        all_goals exact ret_vn rfl (by repeat first | exact rvs_nil | refine rvs_cons (by first | exact rv_tmp rfl | exact (RG 0 rfl rfl rfl rfl rfl) | exact (RG 1 rfl rfl rfl rfl rfl) | exact (RG 2 rfl rfl rfl rfl rfl) | exact (RG 3 rfl rfl rfl rfl rfl)) ?_) rfl rfl
      · rw [if_neg hup] at hRk
        repeat' (first | refine KO ?_ | (refine KV (b := by first | exact U1 k | exact U4 hm) (c := ?_)) | refine KI ?_ | refine NB fun b => ?_ | (refine KB ?_ ?_ <;> intro hp) | refine KG ?_ | fail)
        all_goals try (exfalso; first | omega | contradiction)
        all_goals exact J2 (f, s.up) ⟨hRk, by dsimp only; omega⟩ (by dsimp only; omega)
  · have hRn : R = none := by rw [← hRk]; exact findF_out (by rw [hsl]; exact hin)
    subst hRn
    by_cases h0 : 0 ≤ a
    all_goals repeat' (first | refine KK ?_ | refine NB fun b => ?_ | (refine KB ?_ ?_ <;> intro hp) | refine KG ?_ | fail)
    all_goals try (exfalso; first | omega | contradiction)
    all_goals exact ret_vn rfl (by repeat first | exact rvs_nil | refine rvs_cons (by first | exact rv_tmp rfl | exact (RG 0 rfl rfl rfl rfl rfl) | exact (RG 1 rfl rfl rfl rfl rfl) | exact (RG 2 rfl rfl rfl rfl rfl) | exact (RG 3 rfl rfl rfl rfl rfl)) ?_) rfl rfl
theorem rfind_spec (ps : List (Sc × Value)) (A : Option Addr) (c : Nat) (hps : ScR μ A ps) (at' : Int) (x : ByteArray) : Calls Tryd.prog 6 #[.slice A ps.length c, .int .i64 at', .string x] w fun e w' => e = .returned (findV (findF (scs ps) x (at'.toNat + 1) at')) ∧ Below w.heap.size w w' := by
  obtain ⟨hS, hl, hall⟩ := hps
  have hsl : (scs ps).length = ps.length := List.length_map ..
  generalize hR : findF (scs ps) x (at'.toNat + 1) at' = R
  refine call_intro (args := [.slice A ps.length c, .int .i64 at', .string x]) Tryd.func6 rfl Tryd.ntmps6 (by simp) hμ ?_
  repeat' (first | refine KK ?_ | (refine KB ?_ ?_ <;> intro hp) | refine KG ?_ | fail)
  refine gc_loop (ι := Nat × Int) (fun i => findF (scs ps) x i.1 i.2 = R ∧ (i.2 < 0 ∨ i.2.toNat < i.1)) (fun i => i.1) (fun _ => μ) (fun i => [(0, .slice A ps.length c), (1, .int .i64 i.2), (2, .string x)]) (fun _ => []) (at'.toNat + 1, at') ⟨hR, .inr (by dsimp only; omega)⟩ (fun a w hs => J5 hs) ?_
  rintro ⟨f, a⟩ ⟨hRk, hf⟩
  dsimp only at hRk hf ⊢
  by_cases hin : 0 ≤ a ∧ a < ps.length
  · obtain ⟨k, rfl⟩ : ∃ k : Nat, a = k := ⟨a.toNat, by omega⟩
    have hlt : k < ps.length := by omega
    obtain ⟨f, rfl⟩ : ∃ g, f = g + 1 := ⟨f - 1, by omega⟩
    obtain ⟨ad, y, rfl, hy, hm⟩ := hS.get hlt
    obtain ⟨s, v⟩ := y
    have hbv := hall _ (List.mem_of_getElem? hy)
    have hpl := fun (w : World) (μc : Mem) (hw : MOk μc w) (hle : MLe μ μc) => place_spec w μc hw x s.names v (hbv.mono hle)
    have hvo := hbv.one
    dsimp only at hm hvo
    rw [findF_in (scs_get hy)] at hRk
    dsimp only at hRk
    generalize placeF x s.names 0 = P at hRk hpl
    cases P with
    | some j =>
      dsimp only at hRk hpl
      subst hRk
      repeat' (first | refine KO ?_ | ((with_reducible apply F1 16); exact rfl; exact EN; exact fun w μc hw hse => hpl w μc hw hse.le) | (refine KV (b := by first | exact U1 k | exact U4 hm) (c := ?_)) | refine KI ?_ | (refine KB ?_ ?_ <;> intro hp) | refine KG ?_ | fail)
      all_goals try (exfalso; first | omega | contradiction)
      all_goals exact ret_vn rfl (by repeat first | exact rvs_nil | refine rvs_cons (by first | exact rv_tmp rfl | exact (RG 0 rfl rfl rfl rfl rfl) | exact (RG 1 rfl rfl rfl rfl rfl) | exact (RG 2 rfl rfl rfl rfl rfl) | exact (RG 3 rfl rfl rfl rfl rfl)) ?_) rfl rfl
    | none =>
      dsimp only at hRk hpl
      by_cases hup : s.up ≥ (k : Int)
      · rw [if_pos hup] at hRk
        subst hRk
        repeat' (first | refine KO ?_ | ((with_reducible apply F1 16); exact rfl; exact EN; exact fun w μc hw hse => hpl w μc hw hse.le) | (refine KV (b := by first | exact U1 k | exact U4 hm) (c := ?_)) | refine KI ?_ | (refine KB ?_ ?_ <;> intro hp) | refine KG ?_ | fail)
        all_goals try (exfalso; first | omega | contradiction)
        all_goals exact ret_vn rfl (by repeat first | exact rvs_nil | refine rvs_cons (by first | exact rv_tmp rfl | exact (RG 0 rfl rfl rfl rfl rfl) | exact (RG 1 rfl rfl rfl rfl rfl) | exact (RG 2 rfl rfl rfl rfl rfl) | exact (RG 3 rfl rfl rfl rfl rfl)) ?_) rfl rfl
      · rw [if_neg hup] at hRk
        repeat' (first | refine KO ?_ | ((with_reducible apply F1 16); exact rfl; exact EN; exact fun w μc hw hse => hpl w μc hw hse.le) | (refine KV (b := by first | exact U1 k | exact U4 hm) (c := ?_)) | refine KI ?_ | (refine KB ?_ ?_ <;> intro hp) | refine KG ?_ | fail)
        all_goals try (exfalso; first | omega | contradiction)
        all_goals exact J2 (f, s.up) ⟨hRk, by dsimp only; omega⟩ (by dsimp only; omega)
  · have hRn : R = none := by rw [← hRk]; exact findF_out (by rw [hsl]; exact hin)
    subst hRn
    by_cases h0 : 0 ≤ a
    all_goals repeat' (first | refine KK ?_ | (refine KB ?_ ?_ <;> intro hp) | refine KG ?_ | fail)
    all_goals try (exfalso; first | omega | contradiction)
    all_goals exact ret_vn rfl (by repeat first | exact rvs_nil | refine rvs_cons (by first | exact rv_tmp rfl | exact (RG 0 rfl rfl rfl rfl rfl) | exact (RG 1 rfl rfl rfl rfl rfl) | exact (RG 2 rfl rfl rfl rfl rfl) | exact (RG 3 rfl rfl rfl rfl rfl)) ?_) rfl rfl
end
end
section
open Go.RowKit Go.Vcg
def numBd (h c : Nat) : List Bd → List Bd
  | [] => []
  | b :: r => if b.held = true then { b with slot := (h : Int) } :: numBd (h + 1) c r else { b with slot := (c : Int) } :: numBd h (c + 1) r
theorem heldN_cons (b : Bd) (r : List Bd) : heldN (b :: r) = heldN r + if b.held = true then 1 else 0 := by
  unfold heldN
  rw [List.countP_cons]
theorem numBd_append : ∀ (a b : List Bd) (h c : Nat), numBd h c (a ++ b) = numBd h c a ++ numBd (h + heldN a) (c + (a.length - heldN a)) b
  | [], b, h, c => by simp [numBd, heldN]
  | x :: a, b, h, c => by
    have hl := heldN_le a
    rw [List.cons_append, numBd, numBd, heldN_cons, List.length_cons]
    by_cases hx : x.held = true
    · rw [if_pos hx, if_pos hx, if_pos hx, numBd_append a b, List.cons_append]
      congr 3
      · omega
      · omega
    · rw [if_neg hx, if_neg hx, if_neg hx, numBd_append a b, List.cons_append]
      congr 3
      omega
theorem numBd_length : ∀ (l : List Bd) (h c : Nat), (numBd h c l).length = l.length
  | [], _, _ => rfl
  | b :: r, h, c => by
    unfold numBd
    split <;> simp [numBd_length r]
theorem numBd_succ {l : List Bd} {k : Nat} {b : Bd} (h : l[k]? = some b) (c : Nat) : numBd 0 c (l.take (k + 1)) = numBd 0 c (l.take k) ++ [{ b with slot := if b.held = true then (heldN (l.take k) : Int) else ((c + (k - heldN (l.take k)) : Nat) : Int) }] := by
  have hlt := (List.getElem?_eq_some_iff.1 h).1
  rw [List.take_add_one, h, numBd_append]
  congr 1
  have : (l.take k).length = k := by rw [List.length_take]; omega
  rw [this, Option.toList_some, numBd]
  split
  · rename_i hb; simp [numBd, hb]
  · rename_i hb; simp [numBd, hb]
def oneS (pre : List Sc) (s : Sc) : Sc := { s with names := numBd 0 ((if s.fn = 0 then 1 else 0) + locN s.fn pre) s.names }
def numS (pre : List Sc) : List Sc → List Sc
  | [] => []
  | s :: r => oneS pre s :: numS (pre ++ [s]) r
theorem numS_append : ∀ (a b pre : List Sc), numS pre (a ++ b) = numS pre a ++ numS (pre ++ a) b
  | [], b, pre => by simp [numS]
  | s :: a, b, pre => by
    rw [List.cons_append, numS, numS, numS_append a b, List.cons_append]
    simp
theorem numS_succ {l : List Sc} {k : Nat} {s : Sc} (h : l[k]? = some s) : numS [] (l.take (k + 1)) = numS [] (l.take k) ++ [oneS (l.take k) s] := by
  rw [List.take_add_one, h, numS_append]
  simp [numS]
attribute [local irreducible] heldN locN placeF findF numBd numS oneS G GC GQ GA GAop Calls IntKind.wrap Int.decLt Int.decLe
def NumP (ps : List (Sc × Value)) (μ : Mem) (v : Value) : Prop := ∃ A c qs, v = .slice A qs.length c ∧ ScR μ A qs ∧ scs qs = numS [] (scs ps)
end
section
open Go.RowKit Go.Vcg
theorem oneS_eq (pre : List Sc) (s : Sc) : oneS pre s = ⟨s.up, s.fn, s.kind, s.at', numBd 0 ((if s.fn = 0 then 1 else 0) + locN s.fn pre) s.names⟩ := rfl
theorem numBd_zero (h c : Nat) (l : List Bd) : numBd h c (l.take 0) = [] := rfl
theorem numS_zero (l : List Sc) : numS [] (l.take 0) = [] := rfl
attribute [local irreducible] heldN locN placeF findF numBd numS oneS G GC GQ GA GAop Calls IntKind.wrap Int.decLt Int.decLe
theorem numbered_spec (w : World) (μ : Mem) (hμ : MOk μ w) (ps : List (Sc × Value)) (A : Option Addr) (c : Nat) (hps : ScR μ A ps) : Calls Tryd.prog 22 #[.slice A ps.length c] w fun e w' => ∃ v μ', e = .returned v ∧ Grow w w' μ μ' ∧ NumP ps μ' v := by
  obtain ⟨hS, hl, hall⟩ := hps
  have hsl : (scs ps).length = ps.length := List.length_map ..
  have hnl : ∀ s ∈ scs ps, s.names.length ≤ 200 := fun s hs => by
    obtain ⟨p, hp, rfl⟩ := List.mem_map.1 hs
    obtain ⟨_, _, _, _, h⟩ := hall p hp
    exact h.1
  refine call_intro (args := [.slice A ps.length c]) Tryd.func22 rfl Tryd.ntmps22 (by simp) hμ ?_
  repeat' (first | refine KK ?_ | refine NB fun b => ?_ | (refine KB ?_ ?_ <;> intro hp) | refine KG ?_ | fail)
  refine gc_nilR 26 5 ?_
  refine gc_loop (ι := Nat × List (Sc × Value) × Mem × Value) (fun i => i.1 ≤ ps.length ∧ MLe μ i.2.2.1 ∧ scs i.2.1 = numS [] ((scs ps).take i.1) ∧ i.2.1.length = i.1 ∧ ∀ q ∈ i.2.1, BdV i.2.2.1 q.1.names q.2) (fun i => ps.length - i.1) (fun i => i.2.2.1) (fun i => [(4, .int .i64 (i.1 : Int)), (3, i.2.2.2), (0, .slice A ps.length c)]) (fun i => [.inr ⟨i.2.2.2, 26, 5, i.2.1.length, i.2.1.flatMap encSc⟩]) (0, [], μ, .slice none 0 0) ⟨Nat.zero_le _, MLe.refl _, (numS_zero _).symm, rfl, fun q hq => (by cases hq)⟩ (fun a w hs => J5 hs) ?_
  rintro ⟨i, qs, μ1, vo⟩ ⟨hi, hle, hqs, hql, hq⟩
  dsimp only at hi hle hqs hql hq ⊢
  refine gc_rowOk 0 rfl ?_
  rintro A1 c1 rfl hok1
  by_cases hlt : i < ps.length
  · obtain ⟨ad, y, rfl, hy, hm0⟩ := hS.get hlt
    have hm := hm0.mono hle
    have hS1 := hS.mono hle
    have hsu := numS_succ (scs_get hy)
    rw [← hqs] at hsu
    obtain ⟨s, v⟩ := y
    obtain ⟨A2, c2, hv, hB0, hbl⟩ := hall _ (List.mem_of_getElem? hy)
    dsimp only at hv hB0 hbl hm hsu
    subst hv
    have hB := hB0.mono hle
    obtain ⟨n0, hn0, hn1⟩ : ∃ n0 : Nat, (if s.fn = 0 then 1 else 0 : Nat) = n0 ∧ n0 ≤ 1 := ⟨_, rfl, by split <;> omega⟩
    rw [oneS_eq, hn0] at hsu
    repeat' (first | ((with_reducible show GC _ _ (Code.seq (Code.seq (Code.region 7 _ _) _) _) _ _ _ _); (apply gc_stop)) | refine KO ?_ | (refine KV (b := by first | exact U1 i | exact U4 hm) (c := ?_)) | refine KI ?_ | refine NB fun b => ?_ | (refine KB ?_ ?_ <;> intro hp) | refine KG ?_ | fail)
    all_goals try (exfalso; first | omega | contradiction)
    obtain ⟨bs, hbs⟩ : ∃ y, y = b := ⟨_, rfl⟩
    rw [← hbs]
    clear hbs
    refine gcs ?_
    refine gc_join (ι := Unit) (fun _ => True) (fun _ => μ1) (fun _ => [(6, .int .i64 (n0 : Int)), (5, .pointer (some ⟨bs, 0, none⟩)), (4, .int .i64 (i : Int)), (3, .slice A1 qs.length c1), (0, .slice (some ad) ps.length c)]) (fun _ => [.inl ⟨bs, 26, 5, idx 0 [.int .i64 s.up, .int .i64 s.fn, .int .i64 s.kind, .int .i64 s.at', .slice A2 s.names.length c2]⟩, .inr ⟨.slice A1 qs.length c1, 26, 5, qs.length, qs.flatMap encSc⟩]) ?_ ?_
    · by_cases h0 : s.fn = 0
      · rw [if_pos h0] at hn0
        subst hn0
        repeat' (first | refine KK ?_ | refine NB fun b => ?_ | (refine KB ?_ ?_ <;> intro hp) | refine KG ?_ | fail)
        all_goals try (exfalso; first | omega | contradiction)
        all_goals exact J1 () trivial
      · rw [if_neg h0] at hn0
        subst hn0
        repeat' (first | refine KK ?_ | refine NB fun b => ?_ | (refine KB ?_ ?_ <;> intro hp) | refine KG ?_ | fail)
        all_goals try (exfalso; first | omega | contradiction)
        all_goals exact J1 () trivial
    rintro ⟨⟩ -
    repeat' (first | refine KK ?_ | refine NB fun b => ?_ | (refine KB ?_ ?_ <;> intro hp) | refine KG ?_ | fail)
    refine gc_loop (ι := Nat × Nat) (fun q => q.1 ≤ i ∧ q.2 = locN s.fn ((scs ps).take q.1)) (fun q => i - q.1) (fun _ => μ1) (fun q => [(7, .int .i64 (q.1 : Int)), (6, .int .i64 ((n0 + q.2 : Nat) : Int)), (5, .pointer (some ⟨bs, 0, none⟩)), (4, .int .i64 (i : Int)), (3, .slice A1 qs.length c1), (0, .slice (some ad) ps.length c)]) (fun _ => [.inl ⟨bs, 26, 5, idx 0 [.int .i64 s.up, .int .i64 s.fn, .int .i64 s.kind, .int .i64 s.at', .slice A2 s.names.length c2]⟩, .inr ⟨.slice A1 qs.length c1, 26, 5, qs.length, qs.flatMap encSc⟩]) (0, 0) ⟨Nat.zero_le _, (locN_zero _ _).symm⟩ (fun a w hs => J5 hs) ?_
    rintro ⟨k, n⟩ ⟨hk, hn⟩
    dsimp only at hk hn ⊢
    have hb := locN_take_le s.fn (scs ps) hnl k (by omega)
    rw [← hn] at hb
    by_cases hki : k < i
    · obtain ⟨adz, z, e0, hz, hmz⟩ := hS1.get (show k < ps.length by omega)
      cases e0
      have hn2 := locN_succ (fn := s.fn) (scs_get hz)
      rw [← hn] at hn2
      obtain ⟨zs, zv⟩ := z
      have hbv := (hall _ (List.mem_of_getElem? hz)).mono hle
      dsimp only at hn2 hbv
      have hsp := fun (w : World) (μc : Mem) (hw : MOk μc w) (hle : MLe μ1 μc) => rslots_spec w μc hw zs zv (hbv.mono hle)
      obtain ⟨A3, c3, e3, hS3, hl3⟩ := hbv
      subst e3
      have hhl := heldN_le zs.names
      repeat' (first | refine KK ?_ | refine NB fun b => ?_ | (refine KB ?_ ?_ <;> intro hp) | refine KG ?_ | fail)
      all_goals try (exfalso; first | omega | contradiction)
      by_cases hf : zs.fn = s.fn
      · rw [if_pos hf] at hn2
        refine gc_draw 8 _ (by kernel_rfl) rfl (List.Sublist.cons_cons _ (List.Sublist.cons_cons _ (List.nil_sublist _))) ?_
        all_goals refine DD 0 ?_
        all_goals refine DD 1 ?_
        all_goals (first | refine D1 2 ?_ | (refine DV (k := 2) (b := by first | exact U1 k | exact U4 hmz) (c := ?_)) | refine DD 2 ?_ | fail)
        all_goals (first | refine D1 3 ?_ | (refine DV (k := 3) (b := by first | exact U1 k | exact U4 hmz) (c := ?_)) | refine DD 3 ?_ | fail)
        all_goals (first | refine D1 4 ?_ | (refine DV (k := 4) (b := by first | exact U1 k | exact U4 hmz) (c := ?_)) | (refine D3 4 (DW (b := by first | exact U1 k | exact U4 hmz) (c := ?_))) | refine DD 4 ?_ | fail)
        all_goals (first | refine D1 5 ?_ | (refine DV (k := 5) (b := by first | exact U1 k | exact U4 hmz) (c := ?_)) | refine DD 5 ?_ | fail)
        all_goals (first | refine D1 6 ?_ | (refine DV (k := 6) (b := by first | exact U1 k | exact U4 hmz) (c := ?_)) | (refine D3 6 (DW (b := by first | exact U1 k | exact U4 hmz) (c := ?_))) | refine DD 6 ?_ | fail)
        all_goals (first | refine D1 7 ?_ | (refine DV (k := 7) (b := by first | exact U1 k | exact U4 hmz) (c := ?_)) | refine DD 7 ?_ | fail)
        all_goals refine D8 ?_
        all_goals repeat' (first | refine KK ?_ | refine NB fun b => ?_ | (refine KB ?_ ?_ <;> intro hp) | refine KG ?_ | fail)
        all_goals try (exfalso; first | omega | contradiction)
        all_goals refine gc_draw 15 _ (by kernel_rfl) rfl (List.Sublist.cons_cons _ (List.Sublist.cons_cons _ (List.nil_sublist _))) ?_
                  all_goals refine DD 0 ?_
                  all_goals refine DD 1 ?_
                  all_goals refine DD 2 ?_
                  all_goals (first | refine D1 3 ?_ | (refine DV (k := 3) (b := by first | exact U1 k | exact U4 hmz) (c := ?_)) | refine DD 3 ?_ | fail)
                  all_goals (first | refine D1 4 ?_ | (refine DV (k := 4) (b := by first | exact U1 k | exact U4 hmz) (c := ?_)) | refine DD 4 ?_ | fail)
                  all_goals (first | refine D1 5 ?_ | (refine DV (k := 5) (b := by first | exact U1 k | exact U4 hmz) (c := ?_)) | (refine D3 5 (DW (b := by first | exact U1 k | exact U4 hmz) (c := ?_))) | refine DD 5 ?_ | fail)
                  all_goals (first | refine D1 6 ?_ | (refine DV (k := 6) (b := by first | exact U1 k | exact U4 hmz) (c := ?_)) | refine DD 6 ?_ | fail)
                  all_goals (first | refine D1 7 ?_ | (refine DV (k := 7) (b := by first | exact U1 k | exact U4 hmz) (c := ?_)) | refine DD 7 ?_ | fail)
                  all_goals refine DD 8 ?_
                  all_goals refine DD 9 ?_
                  all_goals (first | refine D1 10 ?_ | (refine DV (k := 10) (b := by first | exact U1 k | exact U4 hmz) (c := ?_)) | refine DD 10 ?_ | fail)
                  all_goals (first | refine D1 11 ?_ | (refine DV (k := 11) (b := by first | exact U1 k | exact U4 hmz) (c := ?_)) | (refine D3 11 (DW (b := by first | exact U1 k | exact U4 hmz) (c := ?_))) | refine DD 11 ?_ | fail)
                  all_goals (first | (refine D3 12 ?_; refine D5 ?_; (with_reducible apply F1 12); exact rfl; exact EN; exact fun w μc hw hse => hsp w μc hw hse.le; refine D9 ?_))
                  all_goals (first | refine D1 13 ?_ | (refine DV (k := 13) (b := by first | exact U1 k | exact U4 hmz) (c := ?_)) | refine DD 13 ?_ | fail)
                  all_goals refine DD 14 ?_
                  all_goals refine D8 ?_
        all_goals repeat' (first | refine KK ?_ | refine NB fun b => ?_ | (refine KB ?_ ?_ <;> intro hp) | refine KG ?_ | fail)
        all_goals rw [show ((n0 + n : Nat) : Int) + (zs.names.length : Int) - (heldN zs.names : Int) = ((n0 + (n + (zs.names.length - heldN zs.names)) : Nat) : Int) by omega]
        all_goals exact J2 (k + 1, n + (zs.names.length - heldN zs.names)) ⟨by dsimp only; omega, hn2.symm⟩ (by dsimp only; omega)
      · rw [if_neg hf] at hn2
        refine gc_draw 8 _ (by kernel_rfl) rfl (List.Sublist.cons_cons _ (List.Sublist.cons_cons _ (List.nil_sublist _))) ?_
        all_goals refine DD 0 ?_
        all_goals refine DD 1 ?_
        all_goals (first | refine D1 2 ?_ | (refine DV (k := 2) (b := by first | exact U1 k | exact U4 hmz) (c := ?_)) | refine DD 2 ?_ | fail)
        all_goals (first | refine D1 3 ?_ | (refine DV (k := 3) (b := by first | exact U1 k | exact U4 hmz) (c := ?_)) | refine DD 3 ?_ | fail)
        all_goals (first | refine D1 4 ?_ | (refine DV (k := 4) (b := by first | exact U1 k | exact U4 hmz) (c := ?_)) | (refine D3 4 (DW (b := by first | exact U1 k | exact U4 hmz) (c := ?_))) | refine DD 4 ?_ | fail)
        all_goals (first | refine D1 5 ?_ | (refine DV (k := 5) (b := by first | exact U1 k | exact U4 hmz) (c := ?_)) | refine DD 5 ?_ | fail)
        all_goals (first | refine D1 6 ?_ | (refine DV (k := 6) (b := by first | exact U1 k | exact U4 hmz) (c := ?_)) | (refine D3 6 (DW (b := by first | exact U1 k | exact U4 hmz) (c := ?_))) | refine DD 6 ?_ | fail)
        all_goals (first | refine D1 7 ?_ | (refine DV (k := 7) (b := by first | exact U1 k | exact U4 hmz) (c := ?_)) | refine DD 7 ?_ | fail)
        all_goals refine D8 ?_
        all_goals repeat' (first | refine KK ?_ | refine NB fun b => ?_ | (refine KB ?_ ?_ <;> intro hp) | refine KG ?_ | fail)
        all_goals try (exfalso; first | omega | contradiction)
        all_goals exact J2 (k + 1, n) ⟨by dsimp only; omega, hn2.symm⟩ (by dsimp only; omega)
    have hki2 : k = i := by omega
    subst hki2
    rw [← hn] at hsu
    repeat' (first | refine KK ?_ | refine NB fun b => ?_ | (refine KB ?_ ?_ <;> intro hp) | refine KG ?_ | fail)
    all_goals try (exfalso; first | omega | contradiction)
    refine gc_nilR 44 4 ?_
    refine gc_loop (ι := Nat × Nat × List Bd × Value) (fun q => q.1 ≤ s.names.length ∧ q.2.1 = heldN (s.names.take q.1) ∧ q.2.2.1 = numBd 0 (n0 + n) (s.names.take q.1) ∧ q.2.2.1.length = q.1) (fun q => s.names.length - q.1) (fun _ => μ1) (fun q => [(10, .int .i64 (q.1 : Int)), (9, .int .i64 (q.2.1 : Int)), (8, q.2.2.2), (6, .int .i64 ((n0 + n + (q.1 - q.2.1) : Nat) : Int)), (5, .pointer (some ⟨bs, 0, none⟩)), (4, .int .i64 (k : Int)), (3, .slice A1 qs.length c1), (0, .slice (some ad) ps.length c)]) (fun q => .inr ⟨q.2.2.2, 44, 4, q.2.2.1.length, q.2.2.1.flatMap encBd⟩ :: [.inl ⟨bs, 26, 5, idx 0 [.int .i64 s.up, .int .i64 s.fn, .int .i64 s.kind, .int .i64 s.at', .slice A2 s.names.length c2]⟩, .inr ⟨.slice A1 qs.length c1, 26, 5, qs.length, qs.flatMap encSc⟩]) (0, 0, [], .slice none 0 0) ⟨Nat.zero_le _, (heldN_zero _).symm, (numBd_zero _ _ _).symm, rfl⟩ (fun a w hs => J5 hs) ?_
    rintro ⟨j, h, bl, vb⟩ ⟨hj, hh, hbl2, hbn⟩
    dsimp only at hj hh hbl2 hbn ⊢
    have hhj := heldN_take s.names j
    rw [← hh] at hhj
    refine gc_rowOk 0 rfl ?_
    rintro A4 c4 rfl hok4
    by_cases hjl : j < s.names.length
    · obtain ⟨adx, x, rfl, hx, hmx⟩ := hB.get hjl
      have hx2 := numBd_succ hx (n0 + n)
      have hh2 := heldN_succ hx
      rw [← hh, ← hbl2] at hx2
      rw [← hh] at hh2
      obtain ⟨nm, kd, hd, sl⟩ := x
      have hmx2 : MCells μ1 (adx.add (j * 4)) [.string nm, .int .i64 kd, .bool hd, .int .i64 sl] := hmx
      dsimp only at hx2 hh2
      cases hd
      · rw [if_neg (by simp)] at hh2
        rw [if_neg (by simp)] at hx2
        repeat' (first | refine KO ?_ | (first | ((with_reducible apply g_ap); exact rfl; exact rfl; exact rfl; (repeat first | with_reducible exact rowup_hd | with_reducible apply rowup_tl); (iterate 6 exact rfl); (first | ((with_reducible apply src_in); exact rfl; (repeat first | with_reducible exact inb_hd | with_reducible apply inb_tl); exact rfl)); (first | exact rfl | omega | simp); (first | assumption | (exact ones_mem (by (repeat first | with_reducible exact ones_nil | ((with_reducible apply ones_cons); (first | exact rfl | assumption))))) | simp [Value.oneCell']); omega; omega; intro v) | ((with_reducible apply g_append0); (iterate 9 exact rfl); (first | ((with_reducible apply src_in); exact rfl; (repeat first | with_reducible exact inb_hd | with_reducible apply inb_tl); exact rfl)); (first | exact rfl | omega | simp); (first | assumption | (exact ones_mem (by (repeat first | with_reducible exact ones_nil | ((with_reducible apply ones_cons); (first | exact rfl | assumption))))) | simp [Value.oneCell']); omega; omega; intro v)) | (refine KV (b := by first | exact U1 j | exact U4 hmx2) (c := ?_)) | refine KI ?_ | refine NB fun b => ?_ | (refine KB ?_ ?_ <;> intro hp) | refine KG ?_ | fail)
        all_goals try (exfalso; first | omega | contradiction)
        all_goals rw [show ((n0 + n + (j - h) : Nat) : Int) + 1 = ((n0 + n + (j + 1 - h) : Nat) : Int) by omega]
        all_goals refine gq_rowEq (n' := (bl ++ [(⟨nm, kd, false, ((n0 + n + (j - h) : Nat) : Int)⟩ : Bd)]).length) (xs' := (bl ++ [(⟨nm, kd, false, ((n0 + n + (j - h) : Nat) : Int)⟩ : Bd)]).flatMap encBd) 2 rfl (by simp) (by simp) ?_
        all_goals exact J2 (j + 1, h, bl ++ [(⟨nm, kd, false, ((n0 + n + (j - h) : Nat) : Int)⟩ : Bd)], v) ⟨by dsimp only; omega, hh2.symm, hx2.symm, by simp; omega⟩ (by dsimp only; omega)
      · rw [if_pos rfl] at hh2
        rw [if_pos rfl] at hx2
        repeat' (first | refine KO ?_ | (first | ((with_reducible apply g_ap); exact rfl; exact rfl; exact rfl; (repeat first | with_reducible exact rowup_hd | with_reducible apply rowup_tl); (iterate 6 exact rfl); (first | ((with_reducible apply src_in); exact rfl; (repeat first | with_reducible exact inb_hd | with_reducible apply inb_tl); exact rfl)); (first | exact rfl | omega | simp); (first | assumption | (exact ones_mem (by (repeat first | with_reducible exact ones_nil | ((with_reducible apply ones_cons); (first | exact rfl | assumption))))) | simp [Value.oneCell']); omega; omega; intro v) | ((with_reducible apply g_append0); (iterate 9 exact rfl); (first | ((with_reducible apply src_in); exact rfl; (repeat first | with_reducible exact inb_hd | with_reducible apply inb_tl); exact rfl)); (first | exact rfl | omega | simp); (first | assumption | (exact ones_mem (by (repeat first | with_reducible exact ones_nil | ((with_reducible apply ones_cons); (first | exact rfl | assumption))))) | simp [Value.oneCell']); omega; omega; intro v)) | (refine KV (b := by first | exact U1 j | exact U4 hmx2) (c := ?_)) | refine KI ?_ | refine NB fun b => ?_ | (refine KB ?_ ?_ <;> intro hp) | refine KG ?_ | fail)
        all_goals try (exfalso; first | omega | contradiction)
        all_goals rw [show n0 + n + (j - h) = n0 + n + (j + 1 - (h + 1)) by omega]
        all_goals refine gq_rowEq (n' := (bl ++ [(⟨nm, kd, true, (h : Int)⟩ : Bd)]).length) (xs' := (bl ++ [(⟨nm, kd, true, (h : Int)⟩ : Bd)]).flatMap encBd) 2 rfl (by simp) (by simp) ?_
        all_goals exact J2 (j + 1, h + 1, bl ++ [(⟨nm, kd, true, (h : Int)⟩ : Bd)], v) ⟨by dsimp only; omega, hh2.symm, hx2.symm, by simp; omega⟩ (by dsimp only; omega)
    · obtain rfl : j = s.names.length := by omega
      rw [List.take_of_length_le (Nat.le_refl _)] at hbl2
      refine gc_share_0 rfl ?_
      intro μ2 hle2 hsh2
      have hS4 := sl_of_row (enc := encBd) hsh2 rfl (by simp) rfl
      have hcap4 := Bk.cap hsh2
      repeat' (first | refine KO ?_ | (first | ((with_reducible apply g_ap); exact rfl; exact rfl; exact rfl; (repeat first | with_reducible exact rowup_hd | with_reducible apply rowup_tl); (iterate 6 exact rfl); (first | ((with_reducible apply src_in); exact rfl; (repeat first | with_reducible exact inb_hd | with_reducible apply inb_tl); exact rfl)); (first | exact rfl | omega | simp); (first | assumption | (exact ones_mem (by (repeat first | with_reducible exact ones_nil | ((with_reducible apply ones_cons); (first | exact rfl | assumption))))) | simp [Value.oneCell']); omega; omega; intro v) | ((with_reducible apply g_append0); (iterate 9 exact rfl); (first | ((with_reducible apply src_in); exact rfl; (repeat first | with_reducible exact inb_hd | with_reducible apply inb_tl); exact rfl)); (first | exact rfl | omega | simp); (first | assumption | (exact ones_mem (by (repeat first | with_reducible exact ones_nil | ((with_reducible apply ones_cons); (first | exact rfl | assumption))))) | simp [Value.oneCell']); omega; omega; intro v)) | refine KI ?_ | refine NB fun b => ?_ | (refine KB ?_ ?_ <;> intro hp) | refine KG ?_ | fail)
      all_goals try (exfalso; first | omega | contradiction)
      all_goals refine gq_rowEq (n' := (qs ++ [((⟨s.up, s.fn, s.kind, s.at', bl⟩ : Sc), Value.slice A4 bl.length c4)]).length) (xs' := (qs ++ [((⟨s.up, s.fn, s.kind, s.at', bl⟩ : Sc), Value.slice A4 bl.length c4)]).flatMap encSc) 2 rfl (by simp) (by simp) ?_
      all_goals refine J2 (k + 1, qs ++ [((⟨s.up, s.fn, s.kind, s.at', bl⟩ : Sc), Value.slice A4 bl.length c4)], μ2, v) ⟨by dsimp only; omega, hle.trans hle2, ?_, by simp; omega, fun q hq2 => ?_⟩ (by dsimp only; omega)
      · dsimp only
        rw [hsu, ← hbl2]
        simp [scs]
      · rcases List.mem_append.1 hq2 with hq2 | hq2
        · exact (hq q hq2).mono hle2
        · cases List.mem_singleton.1 hq2
          exact ⟨A4, c4, rfl, hS4, by dsimp only; omega⟩
  · obtain rfl : i = ps.length := by omega
    rw [List.take_of_length_le (by omega)] at hqs
    repeat' (first | refine KK ?_ | refine NB fun b => ?_ | (refine KB ?_ ?_ <;> intro hp) | refine KG ?_ | fail)
    all_goals try (exfalso; first | omega | contradiction)
    exact ret_m1 rfl (by first | exact rv_tmp rfl | exact (RG 0 rfl rfl rfl rfl rfl) | exact (RG 1 rfl rfl rfl rfl rfl) | exact (RG 2 rfl rfl rfl rfl rfl) | exact (RG 3 rfl rfl rfl rfl rfl)) (fun μ' hle' hL => ⟨A1, c1, qs, rfl, ⟨sl_of_row (enc := encSc) (hL _ (List.mem_cons_self ..)) rfl (by simp) rfl, by omega, fun q hqm => (hq q hqm).mono hle'⟩, hqs⟩)
end
end Go.Proofs.YtccbkihnedpjcaaDoor
