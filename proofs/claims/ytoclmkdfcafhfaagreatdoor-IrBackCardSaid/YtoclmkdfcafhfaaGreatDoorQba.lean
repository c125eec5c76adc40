/- strings.Split and SplitN at a space, plainly; a row that a library function makes becomes one's own. -/
import Derived.Test.YtoclmkdfcafhfaaGreatDoorQaz
import Derived.Lib.SplitLaws
import Derived.Lib.IndexBytes
import Derived.Lib.LastIndexByte
import Derived.Test.YtoclmkdfcafhfaaGreatDoorShelf2
import Derived.Shelf.Strings.Split
import Derived.Shelf.Small.Wraps
import Derived.Shelf.Strings.LastIndex
set_option maxRecDepth 20000
namespace Go.Vcg
open Go.RowKit
theorem alloc_back {w : World} {μ : Mem} (hμ : MOk μ w) (arr : Array Value) (t n : Nat) (xs : List Value) (hn : arr.size = n) (hxs : ∀ (i : Nat) (v : Value), xs[i]? = some v → arr[i]? = some v) :
    BackM [] w (w.alloc (.cells arr t)) μ [.inl ⟨w.heap.size, t, n, idx 0 xs⟩] μ := by
  have hlt : ∀ b o, μ b = some o → b < w.heap.size := fun b o h => (Array.getElem?_eq_some_iff.1 (hμ b o h)).1
  have hnew := (MapKept.heap_alloc w (.cells arr t)).1
  have hold := (MapKept.heap_alloc w (.cells arr t)).2
  refine ⟨⟨rfl, rfl, rfl, by simp, fun b hb _ => hold b hb, MLe.refl _, fun b o h => ?_, fun b _ _ h => h⟩, ⟨fun x hx => ?_, fun x hx b hb => ?_, List.pairwise_singleton _ _⟩, fun x hx b hb => ?_⟩
  · rw [hold b (hlt b o h)]
    exact hμ b o h
  · obtain rfl := List.mem_singleton.1 hx
    refine ⟨arr, hnew, hn, fun i v hv => hxs i v ?_⟩
    obtain ⟨_, h2⟩ := lk_idx _ _ _ _ hv
    simpa using h2
  · obtain rfl := List.mem_singleton.1 hx
    cases hb
    cases h : μ w.heap.size with
    | none => rfl
    | some o => exact absurd (hlt _ _ h) (Nat.lt_irrefl _)
  · obtain rfl := List.mem_singleton.1 hx
    cases hb
    exact .inr (Nat.le_refl _)
end Go.Vcg
namespace Go.Proofs.YtoclmkdfcafhfaaGreatDoor
section
open Go.RowKit Go.Vcg Ou
def splN : Nat → List UInt8 → List (List UInt8)
  | 0, l => [l]
  | k + 1, l => match Ou.cutB 32 l with
    | none => [l]
    | some (a, r) => a :: splN k r
theorem cut_len {c : UInt8} {l a r : List UInt8} (h : Ou.cutB c l = some (a, r)) : l = a ++ c :: r ∧ a.length + r.length + 1 = l.length := by
  have h1 := (cutB_some h).1
  refine ⟨h1, ?_⟩
  have := congrArg List.length h1
  rw [List.length_append, List.length_cons] at this
  omega
theorem index_cut : ∀ l : List UInt8, Lib.index l [32] = match Ou.cutB 32 l with | some (a, _) => (a.length : Int) | none => -1 := fun l => (Lib.index_one l 32).trans (idx_cut 32 l)
theorem splitK_one : ∀ (k : Nat) (l : List UInt8), Lib.splitK [32] 0 k l = splN k l
  | 0, l => rfl
  | k + 1, l => by
    have ih := splitK_one k
    unfold Lib.splitK splN
    rw [index_cut]
    cases h : Ou.cutB 32 l with
    | none => rfl
    | some p =>
      obtain ⟨a, r⟩ := p
      have hb : (((a.length : Int)) == -1) = false := by simp
      obtain ⟨h1, _⟩ := cut_len h
      dsimp only
      rw [hb, if_neg (by simp), ih, h1]
      simp
theorem splN_fuel : ∀ (k j : Nat) (l : List UInt8), l.length ≤ k → l.length ≤ j → splN k l = splN j l
  | 0, j, l, h, _ => by
    have : l = [] := List.length_eq_zero_iff.1 (by omega)
    subst this
    cases j <;> rfl
  | k + 1, 0, l, _, h => by
    have : l = [] := List.length_eq_zero_iff.1 (by omega)
    subst this
    rfl
  | k + 1, j + 1, l, h1, h2 => by
    unfold splN
    cases h : Ou.cutB 32 l with
    | none => rfl
    | some p =>
      obtain ⟨a, r⟩ := p
      have := (cut_len h).2
      dsimp only
      rw [splN_fuel k j r (by omega) (by omega)]
theorem splN_min (l : List UInt8) (n : Nat) : splN (min (n + 1) (l.length + 1) - 1) l = splN n l := by
  rcases Nat.le_total n l.length with h | h
  · rw [show min (n + 1) (l.length + 1) - 1 = n by omega]
  · rw [show min (n + 1) (l.length + 1) - 1 = l.length by omega]
    exact splN_fuel _ _ l (by omega) h
theorem splN_len : ∀ (k : Nat) (l : List UInt8), 1 ≤ (splN k l).length ∧ (splN k l).length ≤ k + 1 ∧ (splN k l).length ≤ l.length + 1
  | 0, l => by simp [splN]
  | k + 1, l => by
    unfold splN
    cases h : Ou.cutB 32 l with
    | none => simp
    | some p =>
      obtain ⟨a, r⟩ := p
      have := (cut_len h).2
      have ih := splN_len k r
      dsimp only
      rw [List.length_cons]
      omega
theorem splB (k : Nat) (l : List UInt8) : Lib.splitB ⟨#[32]⟩ 0 k (ofB l) = (splN k l).map ofB := by
  have h := Lib.splitB_data ⟨#[32]⟩ 0 k (ofB l)
  have h2 : Lib.splitK [32] 0 k l = splN k l := splitK_one k l
  have h3 : (Lib.splitB ⟨#[32]⟩ 0 k (ofB l)).map byS = splN k l := by rw [← h2]; exact h
  rw [← h3, List.map_map]
  exact (List.map_id'' (fun x => ofB_byS x) _).symm
end
section
open Go.RowKit Go.Vcg Ou
def numV (lo hi : Int) (x : List UInt8) : Int := (numIn lo hi x).getD 0
def quoV (x : List UInt8) : List UInt8 := (lastB x).getD []
def okS (ok : Bool) (e c : Int) : Int := if ok then e else bump e c
abbrev stS (S : RI5) (ok : Bool) (c : Int) : RI5 := (S.1, S.2.1, S.2.2.1, okS ok S.2.2.2.1 c, S.2.2.2.2)
theorem number_any (x : List UInt8) (lo hi : Int) (rb : Nat) (S : RI5) (hx : x.length ≤ 1000000) (w : World) (μ : Mem) (hμ : MOk μ w) (hT : TabOk μ) (hO : Go.Vcg.Own μ (rdI rb S) w) :
    Calls Tryz.prog 31 #[.pointer (some ⟨rb, 0, none⟩), .string (ofB x), .int .i64 lo, .int .i64 hi] w (RiK (idsOf (rdI rb S)) w μ rb (stS S (numIn lo hi x).isSome 7) fun r => r = .int .i64 (numV lo hi x)) := by
  unfold numV
  cases h : numIn lo hi x with
  | some n => exact number_iok rb S h hx w μ hμ hT hO
  | none => exact number_ino rb S h hx w μ hμ hT hO
theorem quoted_any (x : List UInt8) (rb : Nat) (S : RI5) (hx : x.length ≤ 1000000) (w : World) (μ : Mem) (hμ : MOk μ w) (hO : Go.Vcg.Own μ (rdI rb S) w) :
    Calls Tryz.prog 64 #[.pointer (some ⟨rb, 0, none⟩), .string (ofB x)] w (RiK (idsOf (rdI rb S)) w μ rb (stS S (lastB x).isSome 7) fun r => r = .string (ofB (quoV x))) := by
  unfold quoV
  cases h : lastB x with
  | some n => exact quoted_iok rb S h hx w μ hμ hO
  | none => exact quoted_ino rb S h hx w μ hμ hO
theorem numIn_z (x : List UInt8) : numIn (-9007199254740992) 9007199254740992 x = Iq.numZ x := by
  unfold numIn
  cases h : Iq.numZ x with
  | none => rfl
  | some n => exact if_pos (Iq.numZ_some h).1
theorem numIn_b (hi : Int) (x : List UInt8) : numIn 0 hi x = match numB x with | some k => if k ≤ hi then some k else none | none => none := by
  unfold numIn Iq.numZ
  cases h : numB x with
  | some n =>
    have := (numB_some h).1.1
    dsimp only
    by_cases h1 : n ≤ hi
    · rw [if_pos ⟨this, h1⟩, if_pos h1]
    · rw [if_neg (fun hh => h1 hh.2), if_neg h1]
  | none =>
    dsimp only
    split
    · rename_i n hn
      split at hn
      · split at hn
        · rename_i m hm
          split at hn
          · cases hn
          · rename_i h0
            cases hn
            have := (numB_some hm).1.1
            rw [if_neg (by omega)]
        · cases hn
      · cases hn
    · rfl
def lineM (w0 w1 w2 w3 r3 : List UInt8) : Option (Int × Int × Int × Nat × List UInt8) := match opOf w0, Iq.numZ w1, Iq.numZ w2, numIn 0 1048576 w3, lastB r3 with
  | some op, some n, some m, some k, some s => some (op, n, m, k.toNat, s)
  | _, _, _, _, _ => none
theorem line_cases (l : List UInt8) : (∃ w0 w1 w2 w3 r3, splN 4 l = [w0, w1, w2, w3, r3] ∧ Iq.lineN opOf l = lineM w0 w1 w2 w3 r3 ∧ w0.length ≤ l.length ∧ w1.length ≤ l.length ∧ w2.length ≤ l.length ∧ w3.length ≤ l.length ∧ r3.length ≤ l.length) ∨ ((splN 4 l).length < 5 ∧ Iq.lineN opOf l = none) := by
  unfold Iq.lineN splN
  cases h0 : Ou.cutB 32 l with
  | none => exact .inr ⟨by simp, rfl⟩
  | some p0 =>
    obtain ⟨w0, r0⟩ := p0
    have l0 := (cut_len h0).2
    unfold splN
    dsimp only
    cases h1 : Ou.cutB 32 r0 with
    | none => exact .inr ⟨by simp, rfl⟩
    | some p1 =>
      obtain ⟨w1, r1⟩ := p1
      have l1 := (cut_len h1).2
      unfold splN
      dsimp only
      cases h2 : Ou.cutB 32 r1 with
      | none => exact .inr ⟨by simp, rfl⟩
      | some p2 =>
        obtain ⟨w2, r2⟩ := p2
        have l2 := (cut_len h2).2
        unfold splN
        dsimp only
        cases h3 : Ou.cutB 32 r2 with
        | none => exact .inr ⟨by simp, rfl⟩
        | some p3 =>
          obtain ⟨w3, r3⟩ := p3
          have l3 := (cut_len h3).2
          unfold splN
          refine .inl ⟨w0, w1, w2, w3, r3, rfl, ?_, by omega, by omega, by omega, by omega, by omega⟩
          dsimp only
          unfold lineM
          rw [numIn_b]
          cases opOf w0 with
          | none => rfl
          | some op =>
            cases Iq.numZ w1 with
            | none => rfl
            | some n =>
              cases Iq.numZ w2 with
              | none => rfl
              | some m =>
                cases numB w3 with
                | none => rfl
                | some k =>
                  cases lastB r3 with
                  | none => dsimp only; by_cases hk : k ≤ 1048576 <;> simp [hk]
                  | some s => dsimp only; by_cases hk : k ≤ 1048576 <;> simp [hk]
def lineE (w0 w1 w2 w3 r3 : List UInt8) : Int := okS (lastB r3).isSome (okS (numIn 0 1048576 w3).isSome (okS (numIn (-9007199254740992) 9007199254740992 w2).isSome (okS (numIn (-9007199254740992) 9007199254740992 w1).isSome (okS (opOf w0).isSome 0 7) 7) 7) 7) 7
theorem lineE_some {w0 w1 w2 w3 r3 s : List UInt8} {op n m : Int} {k : Nat} (h : lineM w0 w1 w2 w3 r3 = some (op, n, m, k, s)) :
    lineE w0 w1 w2 w3 r3 = 0 ∧ (opOf w0).getD 0 = op ∧ numV (-9007199254740992) 9007199254740992 w1 = n ∧ numV (-9007199254740992) 9007199254740992 w2 = m ∧ numV 0 1048576 w3 = (k : Int) ∧ quoV r3 = s ∧ k ≤ 1048576 := by
  unfold lineM at h
  unfold lineE numV quoV
  rw [numIn_z, numIn_z]
  split at h
  · rename_i op' n' m' k' s' e0 e1 e2 e3 e4
    simp only [Option.some.injEq, Prod.mk.injEq] at h
    obtain ⟨rfl, rfl, rfl, rfl, rfl⟩ := h
    have hk : 0 ≤ k' ∧ k' ≤ 1048576 := by
      rw [numIn_b] at e3
      split at e3
      · rename_i k2 hk2
        have := (numB_some hk2).1.1
        split at e3
        · rename_i h; cases e3; exact ⟨this, h⟩
        · cases e3
      · cases e3
    rw [e0, e1, e2, e3, e4]
    refine ⟨rfl, rfl, rfl, rfl, ?_, rfl, by omega⟩
    show k' = _
    omega
  · cases h
theorem bump77 (ok : Bool) : okS ok 7 7 = 7 := by unfold okS bump; cases ok <;> simp
theorem lineE_none {w0 w1 w2 w3 r3 : List UInt8} (h : lineM w0 w1 w2 w3 r3 = none) : lineE w0 w1 w2 w3 r3 = 7 := by
  unfold lineM at h
  unfold lineE
  rw [numIn_z, numIn_z]
  cases h0 : opOf w0 with
  | none => simp only [Option.isSome_none, show okS false 0 7 = 7 from rfl, bump77]
  | some op =>
    cases h1 : Iq.numZ w1 with
    | none => simp only [Option.isSome_none, Option.isSome_some, show okS true 0 7 = 0 from rfl, show okS false 0 7 = 7 from rfl, bump77]
    | some n =>
      cases h2 : Iq.numZ w2 with
      | none => simp only [Option.isSome_none, Option.isSome_some, show okS true 0 7 = 0 from rfl, show okS false 0 7 = 7 from rfl, bump77]
      | some m =>
        cases h3 : numIn 0 1048576 w3 with
        | none => simp only [Option.isSome_none, Option.isSome_some, show okS true 0 7 = 0 from rfl, show okS false 0 7 = 7 from rfl, bump77]
        | some k =>
          cases h4 : lastB r3 with
          | none => simp only [Option.isSome_none, Option.isSome_some, show okS true 0 7 = 0 from rfl, show okS false 0 7 = 7 from rfl]
          | some s =>
            rw [h0, h1, h2, h3, h4] at h
            cases h
end
section
open Go.RowKit Go.Vcg Ou
theorem cut_none {c : UInt8} : ∀ {l : List UInt8}, Ou.cutB c l = none → l.count c = 0
  | [], _ => rfl
  | x :: r, h => by
    unfold Ou.cutB at h
    by_cases hx : x = c
    · rw [if_pos hx] at h; cases h
    · rw [if_neg hx] at h
      have h2 : Ou.cutB c r = none := by
        cases hr : Ou.cutB c r with
        | none => rfl
        | some p => rw [hr] at h; cases h
      rw [List.count_cons_of_ne (fun e => hx e), cut_none h2]
theorem cut_count {c : UInt8} {l a r : List UInt8} (h : Ou.cutB c l = some (a, r)) : l.count c = r.count c + 1 := by
  obtain ⟨h1, h2⟩ := cutB_some h
  rw [h1, List.count_append, List.count_cons_self, List.count_eq_zero.2 h2]
  omega
def splA (l : List UInt8) : List (List UInt8) := splN (l.count 32) l
theorem splA_none {l : List UInt8} (h : Ou.cutB 32 l = none) : splA l = [l] := by
  unfold splA
  rw [cut_none h]
  rfl
theorem splA_some {l a r : List UInt8} (h : Ou.cutB 32 l = some (a, r)) : splA l = a :: splA r := by
  unfold splA
  rw [cut_count h]
  conv => lhs; unfold splN
  rw [h]
theorem cut_fr {c : UInt8} {l : List UInt8} (h : Fr c l) : Ou.cutB c l = none := by
  cases hc : Ou.cutB c l with
  | none => rfl
  | some p =>
    obtain ⟨a, r⟩ := p
    have h1 := (cutB_some hc).1
    exact absurd (by rw [h1]; simp) h
theorem numZ_fr {w : List UInt8} {n : Int} (h : Iq.numZ w = some n) : Ou.cutB 32 w = none := cut_fr (by rw [← (Iq.numZ_some h).2]; exact Iq.itoa_fr32 n)
def funM (nm w1 w2 w3 : List UInt8) : Option (List UInt8 × Int × Int × Int) := match lastB nm, Iq.numZ w1, Iq.numZ w2, Iq.numZ w3 with
  | some n, some a, some b, some c => some (n, a, b, c)
  | _, _, _, _ => none
theorem pre_cut {d r : List UInt8} (h : Iq.pre [32] d = some r) : Ou.cutB 32 d = some ([], r) := by
  rw [Iq.pre_some h]
  rfl
theorem pre_no {d : List UInt8} (h : ∀ r, Ou.cutB 32 d ≠ some ([], r)) : Iq.pre [32] d = none := by
  cases hp : Iq.pre [32] d with
  | none => rfl
  | some r => exact absurd (pre_cut hp) (h r)
theorem fun_cases (l : List UInt8) : (∃ rest w1 w2 w3, Iq.pre Iq.funcP l = some rest ∧ splA (rest.drop (Iq.lastQ rest)) = [[], w1, w2, w3] ∧ Iq.funcN l = funM (rest.take (Iq.lastQ rest)) w1 w2 w3) ∨
    (Iq.funcN l = none ∧ ∀ rest, Iq.pre Iq.funcP l = some rest → ∀ w1 w2 w3, splA (rest.drop (Iq.lastQ rest)) ≠ [[], w1, w2, w3]) := by
  unfold Iq.funcN
  cases hp : Iq.pre Iq.funcP l with
  | none => exact .inr ⟨rfl, fun rest h => by cases h⟩
  | some rest =>
    dsimp only
    cases hc0 : Ou.cutB 32 (rest.drop (Iq.lastQ rest)) with
    | none =>
      have hpn := pre_no (d := rest.drop (Iq.lastQ rest)) (fun r h => by rw [hc0] at h; cases h)
      refine .inr ⟨by rw [hpn]; cases lastB (rest.take (Iq.lastQ rest)) <;> rfl, fun r hr => ?_⟩
      cases hr
      rw [splA_none hc0]
      simp
    | some p =>
      obtain ⟨a, r0⟩ := p
      by_cases ha : a = []
      · subst ha
        have hpre : Iq.pre [32] (rest.drop (Iq.lastQ rest)) = some r0 := by
          rw [(cut_len hc0).1]
          exact Iq.pre_app [32] r0
        have hs0 := splA_some hc0
        rw [hpre]
        cases hc1 : Ou.cutB 32 r0 with
        | none =>
          refine .inr ⟨by cases lastB (rest.take (Iq.lastQ rest)) with | none => rfl | some nm => simp only [hc1], fun r hr => ?_⟩
          cases hr
          rw [hs0, splA_none hc1]
          simp
        | some p1 =>
          obtain ⟨w1, r1⟩ := p1
          have hs1 := splA_some hc1
          cases hc2 : Ou.cutB 32 r1 with
          | none =>
            refine .inr ⟨by cases lastB (rest.take (Iq.lastQ rest)) with | none => rfl | some nm => simp only [hc1, hc2], fun r hr => ?_⟩
            cases hr
            rw [hs0, hs1, splA_none hc2]
            simp
          | some p2 =>
            obtain ⟨w2, w3⟩ := p2
            have hs2 := splA_some hc2
            cases hc3 : Ou.cutB 32 w3 with
            | none =>
              refine .inl ⟨rest, w1, w2, w3, rfl, by rw [hs0, hs1, hs2, splA_none hc3], ?_⟩
              unfold funM
              cases lastB (rest.take (Iq.lastQ rest)) with
              | none => rfl
              | some nm => simp only [hc1, hc2]; cases Iq.numZ w1 <;> cases Iq.numZ w2 <;> cases Iq.numZ w3 <;> rfl
            | some p3 =>
              obtain ⟨x3, y3⟩ := p3
              have hz : Iq.numZ w3 = none := by
                cases hz : Iq.numZ w3 with
                | none => rfl
                | some n => rw [numZ_fr hz] at hc3; cases hc3
              refine .inr ⟨?_, fun r hr => ?_⟩
              · cases lastB (rest.take (Iq.lastQ rest)) with
                | none => rfl
                | some nm => simp only [hc1, hc2, hz]; cases Iq.numZ w1 <;> cases Iq.numZ w2 <;> rfl
              · cases hr
                rw [hs0, hs1, hs2, splA_some hc3]
                intro w1 w2 w3 h
                have h5 := congrArg List.length h
                have h6 := (splN_len (y3.count 32) y3).1
                simp only [List.length_cons, List.length_nil] at h5
                unfold splA at h5
                omega
      · have hpn := pre_no (d := rest.drop (Iq.lastQ rest)) (fun r h => by rw [hc0] at h; cases h; exact ha rfl)
        refine .inr ⟨by rw [hpn]; cases lastB (rest.take (Iq.lastQ rest)) <;> rfl, fun r hr => ?_⟩
        cases hr
        rw [splA_some hc0]
        intro w1 w2 w3 h
        exact ha (List.cons.inj h).1
theorem lastIdx_q (l : List UInt8) : ∀ k : Nat, k ≤ l.length → Lib.lastIdx (ofB l) 34 k + 1 = ((k - ((l.take k).reverse.takeWhile (fun c => decide (c ≠ 34))).length : Nat) : Int)
  | 0, _ => rfl
  | k + 1, h => by
    have ih := lastIdx_q l k (by omega)
    have hlt : k < l.length := by omega
    have hb : (ofB l).data[k]! = l[k] := by
      show l.toArray[k]! = l[k]
      rw [getElem!_pos l.toArray k (by simpa using hlt)]
      simp
    have ht : (l.take (k + 1)).reverse = l[k] :: (l.take k).reverse := by
      rw [List.take_add_one, List.getElem?_eq_getElem hlt]
      simp
    have hle : ((l.take k).reverse.takeWhile (fun c => decide (c ≠ 34))).length ≤ k := by
      have := (List.takeWhile_prefix (fun c : UInt8 => decide (c ≠ 34)) (l := (l.take k).reverse)).length_le
      rw [List.length_reverse, List.length_take] at this
      omega
    unfold Lib.lastIdx
    rw [hb, ht, List.takeWhile_cons]
    by_cases hc : l[k] = 34
    · rw [hc]
      simp
    · have hn : ¬ ((l[k].toNat : Nat) : Int) = 34 := fun e => hc (UInt8.toNat_inj.1 (by show l[k].toNat = 34; omega))
      rw [if_neg hn, ih]
      simp only [hc, ne_eq, not_false_eq_true, decide_true, if_true, List.length_cons]
      omega
theorem last_q (l : List UInt8) : Lib.lastIndexByte (ofB l) 34 + 1 = ((Iq.lastQ l : Nat) : Int) := by
  have h := lastIdx_q l l.length (Nat.le_refl _)
  rw [List.take_length] at h
  unfold Lib.lastIndexByte Iq.lastQ
  rw [ofB_size]
  exact h
theorem lastQ_le (l : List UInt8) : Iq.lastQ l ≤ l.length := by unfold Iq.lastQ; omega
end
section
open Go.RowKit Go.Vcg Ou
abbrev strsV (ps : List (List UInt8)) : List Value := ps.map fun x => .string (ofB x)
theorem max_cell {μ : Mem} {w : World} (hμ : MOk μ w) (hm : MaxQ μ) : ∃ m : Int, w.cell? ⟨0, 0, none⟩ = some (.int .i64 m) := by
  obtain ⟨m, a, t, f, h1, h2, h3⟩ := hm
  refine ⟨m, ?_⟩
  have hw := hμ _ _ h1
  simp only at hw
  simp [World.cell?, hw, h3]
theorem cells_at (ps : List (List UInt8)) (N i : Nat) (v : Value) (h : (strsV ps)[i]? = some v) : (Lib.cellsOf (ps.map ofB) N)[i]? = some v := by
  have hi : i < (strsV ps).length := (List.getElem?_eq_some_iff.1 h).1
  have e : strsV ps = (ps.map ofB).map Value.string := by rw [List.map_map]; rfl
  unfold Lib.cellsOf
  rw [List.getElem?_toArray, List.getElem?_append_left (by rw [← e]; exact hi), ← e]
  exact h
theorem splitn_spec (l : List UInt8) (hl : l.length ≤ 1000000) (w : World) (μ : Mem) (hμ : MOk μ w) (hm : MaxQ μ) : Calls Tryz.prog 95 #[.string (ofB l), .string ⟨#[32]⟩, .int .i64 5] w fun e w' => ∃ (v : Value) (μ' : Mem) (i : Nat), e = .returned v ∧ BackM [] w w' μ [.inl ⟨i, 9, min 5 (l.length + 1), idx 0 (strsV (splN 4 l))⟩] μ' ∧ v = .slice (some ⟨i, 0, none⟩) (splN 4 l).length (min 5 (l.length + 1)) := by
  obtain ⟨m, hc⟩ := max_cell hμ hm
  have hsz := ofB_size l
  have h := Any.strings_SplitN Tryz.lays147 (by kernel_rfl) (ofB l) ⟨#[32]⟩ 5 m w (by omega) hc (by decide) (by decide) (by decide)
  have e1 : Lib.splitB ⟨#[32]⟩ 0 (min 5 ((ofB l).size + 1) - 1) (ofB l) = (splN 4 l).map ofB := by rw [splB, hsz, splN_min l 4]
  have hlen := splN_len 4 l
  rw [e1] at h
  refine h.mono fun e w' ⟨he, hw⟩ => ?_
  subst hw
  refine ⟨_, μ, w.heap.size, he, ?_, by rw [List.length_map, hsz]⟩
  exact alloc_back hμ _ _ _ _ (by rw [Lib.cellsOf_size (by rw [List.length_map, hsz]; omega), hsz]) (fun i v hv => cells_at _ _ i v hv)
theorem split_spec (l : List UInt8) (hl : l.length ≤ 1000000) (w : World) (μ : Mem) (hμ : MOk μ w) (hm : MaxQ μ) : Calls Tryz.prog 63 #[.string (ofB l), .string ⟨#[32]⟩] w fun e w' => ∃ (v : Value) (μ' : Mem) (i : Nat), e = .returned v ∧ BackM [] w w' μ [.inl ⟨i, 9, (splA l).length, idx 0 (strsV (splA l))⟩] μ' ∧ v = .slice (some ⟨i, 0, none⟩) (splA l).length (splA l).length := by
  obtain ⟨m, hc⟩ := max_cell hμ hm
  have hsz := ofB_size l
  have h := Any.strings_Split Tryz.lays146 (by kernel_rfl) (ofB l) ⟨#[32]⟩ m w (by omega) hc (by decide)
  have ec : Lib.countB (ofB l) ⟨#[32]⟩ = l.count 32 := Lib.count_one 32 l
  have e1 : Lib.splitB ⟨#[32]⟩ 0 (Lib.countB (ofB l) ⟨#[32]⟩) (ofB l) = (splA l).map ofB := by rw [splB, ec]; rfl
  have el : Lib.countB (ofB l) ⟨#[32]⟩ + 1 = (splA l).length := by
    have := Lib.splitB_all ⟨#[32]⟩ (by decide) 0 _ (ofB l) rfl
    rw [e1, List.length_map] at this
    exact this.symm
  rw [e1, el] at h
  refine h.mono fun e w' ⟨he, hw⟩ => ?_
  subst hw
  refine ⟨_, μ, w.heap.size, he, ?_, rfl⟩
  exact alloc_back hμ _ _ _ _ (by simp) (fun i v hv => by rw [List.map_map, List.getElem?_toArray]; exact hv)
theorem cutpre_spec (l : List UInt8) (w : World) (μ : Mem) (hμ : MOk μ w) : Calls Tryz.prog 28 #[.string (ofB l), .string ⟨#[102, 117, 110, 99, 32]⟩] w fun e w' => e = .returned (.tuple #[.string (ofB ((Iq.pre Iq.funcP l).getD l)), .bool (Iq.pre Iq.funcP l).isSome]) ∧ Below w.heap.size w w' := by
  refine (Any.strings_CutPrefix Tryz.lays103 (ofB l) ⟨#[102, 117, 110, 99, 32]⟩ w).mono fun e w' ⟨he, hw⟩ => ⟨?_, hw ▸ Below.refl _ _⟩
  rw [he]
  have e1 : (ofB l).data.toList = l := byS_ofB l
  rw [e1]
  unfold Iq.pre Lib.trimPrefix Lib.hasPrefix
  by_cases hp : Iq.funcP <+: l
  · have hb : ([102, 117, 110, 99, 32] : List UInt8).isPrefixOf l = true := List.isPrefixOf_iff_prefix.2 hp
    rw [if_pos hp]
    show _ = Ending.returned (Value.tuple #[.string (ofB (l.drop 5)), .bool true])
    simp [hb]
    rfl
  · have hb : ([102, 117, 110, 99, 32] : List UInt8).isPrefixOf l = false := Bool.eq_false_iff.2 fun h => hp (List.isPrefixOf_iff_prefix.1 h)
    rw [if_neg hp]
    show _ = Ending.returned (Value.tuple #[.string (ofB l), .bool false])
    simp [hb]
    rfl
theorem lastq_spec (l : List UInt8) (hl : l.length ≤ 1000000) (w : World) (μ : Mem) (hμ : MOk μ w) : Calls Tryz.prog 62 #[.string (ofB l), .int .u8 34] w fun e w' => e = .returned (.int .i64 ((Iq.lastQ l : Nat) - 1 : Int)) ∧ Below w.heap.size w w' := by
  have hsz := ofB_size l
  refine (Any.strings_LastIndexByte Tryz.lays149 (ofB l) 34 (by omega) w).mono fun e w' ⟨he, hw⟩ => ⟨?_, hw ▸ Below.refl _ _⟩
  rw [he]
  have := last_q l
  rw [show Lib.lastIndexByte (ofB l) 34 = ((Iq.lastQ l : Nat) : Int) - 1 by omega]
end
end Go.Proofs.YtoclmkdfcafhfaaGreatDoor
