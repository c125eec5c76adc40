/- Closed runs of the document's row, at some kinds. -/
import Derived.Test.YtoclmkdfcafhfaaGreatDoorZaq
set_option maxRecDepth 20000
namespace Go.Proofs.YtoclmkdfcafhfaaGreatDoor
section
open Go.Rex
theorem NJ : runs 26 (fun x => qS (x.1 ++ 32 :: x.2)) wX := by
  unfold wX
  repeat (first | exact trivial | refine ⟨by kernel_rfl, ?_⟩)
end
section
open Go.Rex
theorem NI : runs 26 (fun x => qS (x.1 ++ 32 :: x.2)) wW := by
  unfold wW
  repeat (first | exact trivial | refine ⟨by kernel_rfl, ?_⟩)
end
section
open Go.Rex Go.RowKit Go.Vcg Go.Shelf
theorem VB : runs 26 (fun x => qS (x.1 ++ 32 :: x.2)) uV := fA NM (fA NL (fA NK (fA NJ NI)))
theorem CL : uV.all (fun x => !x.2.1.isEmpty && (x.2.1.all (fun c => decide (c ≠ 32)) && Nat.ble (x.2.1.length + x.2.2.length) 100)) = true := by kernel_rfl
theorem zE {k : Nat} {x : List UInt8 × List UInt8} : ∀ {l : List Row}, lU k l = some x → ∃ j, (j, x) ∈ l
  | [], h => by cases h
  | (j, y) :: r, h => by
    unfold lU at h
    split at h
    · cases h
      exact ⟨j, List.mem_cons_self ..⟩
    · obtain ⟨i, hi⟩ := zE h
      exact ⟨i, List.mem_cons_of_mem _ hi⟩
def EL (op : Int) : List UInt8 := if (aH op).1 = [] then [] else (aH op).1 ++ 32 :: (aH op).2
theorem BW (op : Int) : (∀ c ∈ (aH op).1, c ≠ 32) ∧ ((aH op).1.length + (aH op).2.length ≤ 100) ∧ ((aH op).1 = [] → (aH op).2 = []) := by
  rcases kinds op with ⟨k, x, rfl, h1, h2⟩ | ⟨h1, h2⟩
  · rw [h2]
    obtain ⟨j, hj⟩ := zE h1
    have := List.all_eq_true.1 CL _ hj
    simp only [Bool.and_eq_true, List.all_eq_true, decide_eq_true_eq, Nat.ble_eq] at this
    refine ⟨this.2.1, this.2.2, fun h => ?_⟩
    rw [h] at this
    exact absurd this.1 (by simp)
  · rw [h2]
    exact ⟨by simp, by simp, fun _ => rfl⟩
attribute [local irreducible] aH G GC GQ GA bO Calls IntKind.wrap Int.decLt Int.decLe
theorem YL (w : World) (μ : Mem) (hμ : MOk μ w) (hm : rP μ) (op : Int) :
    Calls Tryz.prog 26 #[.int .i64 op] w fun e w' => e = .returned (qS (EL op)) ∧ Below w.heap.size w w' := by
  unfold EL
  rcases kinds op with ⟨k, x, rfl, h1, h2⟩ | ⟨h1, h2⟩
  · rw [h2]
    obtain ⟨j, hj⟩ := zE h1
    have := List.all_eq_true.1 CL _ hj
    simp only [Bool.and_eq_true] at this
    rw [if_neg (fun h => by rw [h] at this; exact absurd this.1 (by simp))]
    exact kX mixed noQ (FM (hm w hμ)) (by decide) (fun g cs h => by cases h) (pQ VB h1)
  · rw [h2, if_pos rfl]
    exact BT w μ hμ op h1
end
section
open Go.RowKit Go.Vcg Ou
theorem aBo : (∀ y ∈ Iq.unW, y ≠ [] ∧ ∀ c ∈ y, c ≠ 32) ∧ (dM Iq.unW).length ≤ 1000000 := by decide +kernel
theorem aA5 : (∀ y ∈ Iq.rM, y ≠ [] ∧ ∀ c ∈ y, c ≠ 32) ∧ (dM Iq.rM).length ≤ 1000000 := by decide +kernel
theorem ZT : (∀ y ∈ Iq.rF, y ≠ [] ∧ ∀ c ∈ y, c ≠ 32) ∧ (dM Iq.rF).length ≤ 1000000 := by decide +kernel
attribute [local irreducible] G GC GQ GA bO Calls IntKind.wrap Int.decLt Int.decLe
theorem SE (s : ByteArray) (b : Bool) (hb : Iq.oB s.data.toList = b) (hs : s.size ≤ 1000000) (w : World) (μ : Mem) (hμ : MOk μ w) : Calls Tryz.prog 140 #[.string s] w fun e w' => e = .returned (.bool b) ∧ Below w.heap.size w w' := by
  subst hb
  have h := OC s.data.toList (by rw [mZ]; exact hs) w μ hμ
  rw [lP] at h
  exact h
theorem OH (s : ByteArray) (b : Bool) (hb : Iq.unW.contains s.data.toList = b) (w : World) (μ : Mem) (hμ : MOk μ w) : Calls Tryz.prog 141 #[.string s, .string ⟨#[45, 32, 43, 32, 33, 32, 126, 32, 118, 111, 105, 100]⟩] w fun e w' => e = .returned (.bool b) ∧ Below w.heap.size w w' := by
  subst hb
  obtain ⟨h1, h2⟩ := aBo
  have h := oR s.data.toList Iq.unW h1 h2 w μ hμ
  rw [lP, HJ] at h
  exact h
theorem IP (s : ByteArray) (b : Bool) (hb : Iq.rM.contains s.data.toList = b) (w : World) (μ : Mem) (hμ : MOk μ w) : Calls Tryz.prog 141 #[.string s, .string ⟨#[124, 32, 94, 32, 38, 32, 61, 61, 32, 33, 61, 32, 61, 61, 61, 32, 33, 61, 61, 32, 60, 32, 62, 32, 60, 61, 32, 62, 61, 32, 105, 110, 115, 116, 97, 110, 99, 101, 111, 102, 32, 105, 110, 32, 60, 60, 32, 62, 62, 32, 43, 32, 45, 32, 42, 32, 47, 32, 37]⟩] w fun e w' => e = .returned (.bool b) ∧ Below w.heap.size w w' := by
  subst hb
  obtain ⟨h1, h2⟩ := aA5
  have h := oR s.data.toList Iq.rM h1 h2 w μ hμ
  rw [lP, DT] at h
  exact h
theorem IN (s : ByteArray) (b : Bool) (hb : Iq.rF.contains s.data.toList = b) (w : World) (μ : Mem) (hμ : MOk μ w) : Calls Tryz.prog 141 #[.string s, .string ⟨#[38, 38, 32, 124, 124, 32, 63, 63]⟩] w fun e w' => e = .returned (.bool b) ∧ Below w.heap.size w w' := by
  subst hb
  obtain ⟨h1, h2⟩ := ZT
  have h := oR s.data.toList Iq.rF h1 h2 w μ hμ
  rw [lP, CP] at h
  exact h
theorem SD (n lo hi : Int) (b : Bool) (hb : Iq.inI n lo hi = b) (w : World) (μ : Mem) (hμ : MOk μ w) : Calls Tryz.prog 49 #[.int .i64 n, .int .i64 lo, .int .i64 hi] w fun e w' => e = .returned (.bool b) ∧ Below w.heap.size w w' := by
  subst hb
  exact fD n lo hi w μ hμ
end
end Go.Proofs.YtoclmkdfcafhfaaGreatDoor
