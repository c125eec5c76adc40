/- Package ir: the reader of units: fail, take, number, quoted. -/
import Derived.Test.YtoclmkdfcafhfaaGreatDoorZaz
import Derived.Shelf.Small.Strs
import Derived.Lib.SplitLaws
import Derived.Lib.IndexBytes
import Derived.Lib.LastIndexByte
import Derived.Test.YtoclmkdfcafhfaaGreatDoorShelf2
import Derived.Shelf.Strings.Split
import Derived.Shelf.Small.Wraps
import Derived.Shelf.Strings.LastIndex
set_option maxRecDepth 20000
set_option maxHeartbeats 2000000
namespace Go.Vcg
theorem nC {P : Program} {X : Ctx} {ops : Array Oper} {Q : Exit → Act → World → Prop} {rest : List Oper} {μ : Mem} {l l' : aF} {L L' : List Bk} (hl : lH l' l) (hL : Sel L' L) (h : G P X ops Q rest μ l' L') : G P X ops Q rest μ l L := fun a w hs => h a w (hs.sel hl hL)
theorem aGf : ∀ L : List Bk, Sel L L
  | [] => .nil _
  | x :: r => rU (eV.refl x) (aGf r)
theorem dR {P : Program} {X : Ctx} {ops : Array Oper} {Q : Exit → Act → World → Prop} {rest : List Oper} {μ : Mem} {l : aF} {x y : Bk} {L : List Bk} (h : G P X ops Q rest μ l (y :: x :: L)) : G P X ops Q rest μ l (x :: y :: L) := fun a w hs => h a w (hs.sel (fun _ _ h => h) (RR (eV.refl y) (rU (eV.refl x) (aGf L))))
end Go.Vcg
namespace Go.Proofs.YtoclmkdfcafhfaaGreatDoor
section
open Go.RowKit Go.Vcg Ou
abbrev RI5 := List UInt8 × Int × Int × Int × Nat
abbrev rdI (rb : Nat) (S : RI5) : List Bk := [.inl ⟨rb, 55, 5, [(0, .string (ofB S.1)), (1, .int .i64 S.2.1), (2, .int .i64 S.2.2.1), (3, .int .i64 S.2.2.2.1), (4, .map (some S.2.2.2.2))]⟩]
abbrev RiK (M : List Nat) (w : World) (μ : Mem) (rb : Nat) (S : RI5) (P : Value → Prop) (en : Ending) (w' : World) : Prop := ∃ (r : Value) (μ' : Mem) (i : Unit), en = .returned r ∧ fH M w w' μ (rdI rb S) μ' ∧ P r
def bump (e c : Int) : Int := if e = 0 then c else e
abbrev jF (S : RI5) (c : Int) : RI5 := (S.1, S.2.1, S.2.2.1, bump S.2.2.2.1 c, S.2.2.2.2)
def aV (lo hi : Int) (s : List UInt8) : Option Int := match Iq.cU s with
  | some n => if lo ≤ n ∧ n ≤ hi then some n else none
  | none => none
theorem RN {n : Int} (h : -9007199254740992 ≤ n ∧ n ≤ 9007199254740992) : jE (ofF n) = ofB (Lib.itoa n) := by
  have hi : inF n = true := by unfold inF; obtain ⟨h1, h2⟩ := h; simp; omega
  unfold jE ofF
  rw [if_pos hi, if_pos (by unfold iB; simp [hi, noS])]
  rfl
theorem vL (s : ByteArray) : (∃ n, Iq.cU (byS s) = some n ∧ jZ (bl s) = ⟨3, n, noS⟩ ∧ jE (jZ (bl s)) = s) ∨
    (Iq.cU (byS s) = none ∧ ((jZ (bl s)).k ≠ 3 ∨ jE (jZ (bl s)) ≠ s)) := by
  have hor : ∀ (r : Int × Bool) (g : Int), (∃ n, lQ r g = ofF n) ∨ lQ r g = yE := fun r g => by
    unfold lQ
    split
    · exact .inl ⟨_, rfl⟩
    · exact .inr rfl
  have hform : (∃ n, jZ (bl s) = ofF n) ∨ jZ (bl s) = yE := by
    unfold jZ oA
    split
    · exact .inl ⟨_, rfl⟩
    split
    · exact hor _ _
    · exact hor _ _
  cases hn : Iq.cU (byS s) with
  | some n =>
    obtain ⟨h1, h2⟩ := Iq.iK hn
    have h3 : jZ (bl s) = ofF n := by
      have := VT n h1
      rw [← this, h2]
      rfl
    have hi : inF n = true := by unfold inF; obtain ⟨h1, h2⟩ := h1; simp; omega
    have h4 : ofF n = ⟨3, n, noS⟩ := by unfold ofF; rw [if_pos hi]
    refine .inl ⟨n, rfl, by rw [h3, h4], ?_⟩
    rw [h3, RN h1, h2]
    exact vK s
  | none =>
    refine .inr ⟨rfl, ?_⟩
    by_cases hk : (jZ (bl s)).k = 3
    · refine .inr fun ht => ?_
      rcases hform with ⟨n, h⟩ | h
      · rw [h] at hk ht
        have hi : inF n = true := by
          unfold ofF at hk
          split at hk
          · rename_i h; exact h
          · exact absurd hk (by decide)
        have hb : -9007199254740992 ≤ n ∧ n ≤ 9007199254740992 := by unfold inF at hi; simp at hi; exact hi
        rw [RN hb] at ht
        have h6 : byS s = Lib.itoa n := by rw [← ht]; exact dG _
        rw [h6, Iq.VW hb] at hn
        cases hn
      · rw [h] at hk
        exact absurd hk (by decide)
    · exact .inl hk
attribute [local irreducible] G GC GQ GA bO Calls IntKind.wrap Int.decLt Int.decLe
theorem dA (rb : Nat) (S : RI5) (c : Int) (w : World) (μ : Mem) (hμ : MOk μ w) (hO : Go.Vcg.Own μ (rdI rb S) w) :
    Calls Tryz.prog 30 #[.pointer (some ⟨rb, 0, none⟩), .int .i64 c] w (RiK (bS (rdI rb S)) w μ rb (jF S c) fun _ => True) := by
  have hcnt := bE hO.diff
  obtain ⟨s, p, line, e, m⟩ := S
  refine aQ (args := [.pointer (some ⟨rb, 0, none⟩), .int .i64 c]) Tryz.func30 rfl Tryz.ntmps30 (by simp) hμ hO ?_
  show GC _ _ _ _ _ _ [.inl ⟨rb, 55, 5, [(0, .string (ofB s)), (1, .int .i64 p), (2, .int .i64 line), (3, .int .i64 e), (4, .map (some m))]⟩]
  by_cases he : e = 0
  · subst he
    repeat' (first | refine KK ?_ | fail)
    all_goals first | skip
    refine aM (l' := []) (L' := rdI rb (s, p, line, c, m)) PU PS ?_
    exact fE (Post := fun _ _ _ => True) (Ls := fun _ : Unit => rdI rb (s, p, line, c, m)) 1 () (.inr rfl) hcnt rfl rfl rfl (fun _ _ _ => trivial)
  · have hb : bump e c = e := if_neg he
    show GC _ _ _ (bodyPost _ _ fun en w' => RiK _ _ _ _ (s, p, line, bump e c, m) _ en w') _ _ _
    rw [hb]
    repeat' (first | refine KK ?_ | fail)
    all_goals first | skip
    refine aM (l' := []) (L' := rdI rb (s, p, line, e, m)) PU PS ?_
    exact fE (Post := fun _ _ _ => True) (Ls := fun _ : Unit => rdI rb (s, p, line, e, m)) 1 () (.inr rfl) hcnt rfl rfl rfl (fun _ _ _ => trivial)
theorem vN (c : UInt8) : ∀ l : List UInt8, Lib.indexByte l c = match Ou.aO c l with | some (a, _) => (a.length : Int) | none => -1
  | [] => rfl
  | x :: r => by
    have ih := vN c r
    unfold Lib.indexByte Ou.aO
    by_cases h : x = c
    · subst h
      simp
    · have hb : (x == c) = false := by simpa using h
      rw [hb, if_neg h, ih]
      cases hc : Ou.aO c r with
      | none => simp
      | some p =>
        obtain ⟨a, b⟩ := p
        have : ((a.length : Int) == -1) = false := by simp
        simp [this]
theorem TG (x : ByteArray) (w : World) (μ : Mem) (hμ : MOk μ w) : Calls Tryz.prog 59 #[.string x, .int .u8 10] w fun e w' => e = .returned (.int .i64 (Lib.indexByte (byS x) 10)) ∧ Below w.heap.size w w' :=
  (Any.strings_IndexByte Tryz.lays137 x 10 w).mono fun e w' ⟨h1, h2⟩ => ⟨h1, h2 ▸ Below.refl _ _⟩
theorem ED {l r : List UInt8} (rb : Nat) (s : List UInt8) (k : Nat) (line e : Int) (m : Nat) (h : Ou.aO 10 (s.drop k) = some (l, r)) (hk : k ≤ s.length) (hs : s.length ≤ 2000000) (hl : 0 ≤ line ∧ line ≤ 2000000) (w : World) (μ : Mem) (hμ : MOk μ w) (hO : Go.Vcg.Own μ (rdI rb (s, (k : Int), line, e, m)) w) :
    Calls Tryz.prog 29 #[.pointer (some ⟨rb, 0, none⟩)] w (RiK (bS (rdI rb (s, (k : Int), line, e, m))) w μ rb (s, ((k + l.length + 1 : Nat) : Int), line + 1, e, m) fun r => r = .string (ofB l)) := by
  have hcnt := bE hO.diff
  refine aQ (args := [.pointer (some ⟨rb, 0, none⟩)]) Tryz.func29 rfl Tryz.ntmps29 (by simp) hμ hO ?_
  show GC _ _ _ _ _ _ [.inl ⟨rb, 55, 5, [(0, .string (ofB s)), (1, .int .i64 (k : Int)), (2, .int .i64 line), (3, .int .i64 e), (4, .map (some m))]⟩]
  have hi : Lib.indexByte (byS ((ofB s).extract k (ofB s).size)) 10 = (l.length : Int) := by rw [sQ, dG, vN, h]
  have hsz := bF s
  have hlen : l.length + r.length + 1 + k = s.length := by
    have h1 := congrArg List.length (cD h).1
    rw [List.length_drop, List.length_append, List.length_cons] at h1
    omega
  have hx : (ofB s).extract k (k + l.length) = ofB l := lF (by
    rw [bX, fV, fV, (cD h).1, show k + l.length - k = l.length by omega, List.take_left])
  repeat' (first | refine KK ?_ | fail)
  refine aN 11 _ (by kernel_rfl) rfl (List.Sublist.cons_cons _ (List.nil_sublist _)) ?_
  all_goals refine DD 0 ?_
  all_goals refine DD 1 ?_
  all_goals (first | refine D1 2 ?_ | fail)
  all_goals (first | refine DD 3 ?_ | fail)
  all_goals refine DD 4 ?_
  all_goals refine DD 5 ?_
  all_goals (first | refine D1 6 ?_ | fail)
  all_goals (first | refine DD 7 ?_ | fail)
  all_goals (first | (refine DV (k := 8) (b := by ((with_reducible apply iP k); (iterate 4 exact rfl); omega)) (c := ?_)) | fail)
  all_goals ((refine D3 9 ?_; refine D5 ?_; (with_reducible apply F1 59); exact rfl; exact EN; (exact fun w μc hw hse => TG _ w μc hw); refine D9 ?_))
  all_goals refine DD 10 ?_
  all_goals refine D8 ?_
  rw [hi]
  repeat' (first | refine KK ?_ | fail)
  all_goals first | skip
  refine aN 16 _ (by kernel_rfl) rfl (List.Sublist.cons_cons _ (List.nil_sublist _)) ?_
  all_goals refine DD 0 ?_
  all_goals refine DD 1 ?_
  all_goals (first | refine D1 2 ?_ | fail)
  all_goals (first | refine DD 3 ?_ | fail)
  all_goals refine DD 4 ?_
  all_goals refine DD 5 ?_
  all_goals (first | refine D1 6 ?_ | fail)
  all_goals (first | refine DD 7 ?_ | fail)
  all_goals refine DD 8 ?_
  all_goals refine DD 9 ?_
  all_goals (first | refine D1 10 ?_ | fail)
  all_goals (first | refine DD 11 ?_ | fail)
  all_goals refine DD 12 ?_
  all_goals (first | refine DD 13 ?_ | fail)
  all_goals (first | (refine DV (k := 14) (b := by ((with_reducible apply jH k (k + l.length)); (iterate 5 exact rfl); omega; omega; omega)) (c := ?_)) | fail)
  all_goals refine DD 15 ?_
  all_goals refine D8 ?_
  rw [hx]
  repeat' (first | refine KK ?_ | fail)
  all_goals first | skip
  refine aM (l' := [(2, .string (ofB l))]) (L' := rdI rb (s, ((k + l.length + 1 : Nat) : Int), line + 1, e, m)) PU PS ?_
  exact aS (Post := fun _ r _ => r = .string (ofB l)) (Ls := fun _ : Unit => rdI rb (s, ((k + l.length + 1 : Nat) : Int), line + 1, e, m)) 1 () hcnt rfl (aB rfl) rfl rfl (fun _ _ => rfl)
theorem EE (rb : Nat) (s : List UInt8) (k : Nat) (line e : Int) (m : Nat) (h : Ou.aO 10 (s.drop k) = none) (hk : k ≤ s.length) (hs : s.length ≤ 2000000) (hl : 0 ≤ line ∧ line ≤ 2000000) (w : World) (μ : Mem) (hμ : MOk μ w) (hO : Go.Vcg.Own μ (rdI rb (s, (k : Int), line, e, m)) w) :
    Calls Tryz.prog 29 #[.pointer (some ⟨rb, 0, none⟩)] w (RiK (bS (rdI rb (s, (k : Int), line, e, m))) w μ rb (jF (s, (k : Int), line + 1, e, m) 8) fun r => r = .string (ofB [])) := by
  have hcnt := bE hO.diff
  refine aQ (args := [.pointer (some ⟨rb, 0, none⟩)]) Tryz.func29 rfl Tryz.ntmps29 (by simp) hμ hO ?_
  show GC _ _ _ _ _ _ [.inl ⟨rb, 55, 5, [(0, .string (ofB s)), (1, .int .i64 (k : Int)), (2, .int .i64 line), (3, .int .i64 e), (4, .map (some m))]⟩]
  have hi : Lib.indexByte (byS ((ofB s).extract k (ofB s).size)) 10 = -1 := by rw [sQ, dG, vN, h]
  have hsz := bF s
  repeat' (first | refine KK ?_ | fail)
  refine aN 11 _ (by kernel_rfl) rfl (List.Sublist.cons_cons _ (List.nil_sublist _)) ?_
  all_goals refine DD 0 ?_
  all_goals refine DD 1 ?_
  all_goals (first | refine D1 2 ?_ | fail)
  all_goals (first | refine DD 3 ?_ | fail)
  all_goals refine DD 4 ?_
  all_goals refine DD 5 ?_
  all_goals (first | refine D1 6 ?_ | fail)
  all_goals (first | refine DD 7 ?_ | fail)
  all_goals (first | (refine DV (k := 8) (b := by ((with_reducible apply iP k); (iterate 4 exact rfl); omega)) (c := ?_)) | fail)
  all_goals ((refine D3 9 ?_; refine D5 ?_; (with_reducible apply F1 59); exact rfl; exact EN; (exact fun w μc hw hse => TG _ w μc hw); refine D9 ?_))
  all_goals refine DD 10 ?_
  all_goals refine D8 ?_
  rw [hi]
  refine aM (l' := [(3, .int .i64 (-1)), (0, .pointer (some ⟨rb, 0, none⟩))]) (L' := rdI rb (s, (k : Int), line + 1, e, m)) PU PS ?_
  repeat' (first | refine KO ?_ | (refine CF 30 ?_; (with_reducible apply aA 1); (iterate 3 exact rfl); ((with_reducible apply aL); kernel_rfl; exact rfl; exact rfl); exact rfl; (exact fun w hw hO => dA rb (s, (k : Int), line + 1, e, m) 8 w _ hw hO); (rintro v2 μ2 ⟨⟩ hle2 hv); (dsimp only [List.cons_append, List.nil_append])) | fail)
  all_goals first | skip
  refine aM (l' := [(2, .string (ofB []))]) (L' := rdI rb (jF (s, (k : Int), line + 1, e, m) 8)) PU PS ?_
  exact aS (Post := fun _ r _ => r = .string (ofB [])) (Ls := fun _ : Unit => rdI rb (jF (s, (k : Int), line + 1, e, m) 8)) 1 () hcnt rfl (aB rfl) rfl rfl (fun _ _ => rfl)
end
section
open Go.RowKit Go.Vcg Ou
theorem aAa {n lo hi : Int} (h : lo ≤ n ∧ n ≤ hi) : Iq.inI n lo hi = true := by unfold Iq.inI; simp; omega
theorem aAb {n lo hi : Int} (h : ¬ (lo ≤ n ∧ n ≤ hi)) : Iq.inI n lo hi = false := by unfold Iq.inI; simp; omega
attribute [local irreducible] G GC GQ GA bO Calls IntKind.wrap Int.decLt Int.decLe
theorem PI {x : List UInt8} {lo hi n : Int} (rb : Nat) (S : RI5) (h : aV lo hi x = some n) (hx : x.length ≤ 1000000) (w : World) (μ : Mem) (hμ : MOk μ w) (hT : kN μ) (hO : Go.Vcg.Own μ (rdI rb S) w) :
    Calls Tryz.prog 31 #[.pointer (some ⟨rb, 0, none⟩), .string (ofB x), .int .i64 lo, .int .i64 hi] w (RiK (bS (rdI rb S)) w μ rb S fun r => r = .int .i64 n) := by
  have hcnt := bE hO.diff
  obtain ⟨s, p, line, e, m⟩ := S
  refine aQ (args := [.pointer (some ⟨rb, 0, none⟩), .string (ofB x), .int .i64 lo, .int .i64 hi]) Tryz.func31 rfl Tryz.ntmps31 (by simp) hμ hO ?_
  show GC _ _ _ _ _ _ [.inl ⟨rb, 55, 5, [(0, .string (ofB s)), (1, .int .i64 p), (2, .int .i64 line), (3, .int .i64 e), (4, .map (some m))]⟩]
  have hsz := bF x
  rcases vL (ofB x) with ⟨k, h1, h2, h3⟩ | ⟨h1, _⟩
  · rw [dG] at h1
    unfold aV at h
    rw [h1] at h
    dsimp only at h
    have hin : lo ≤ k ∧ k ≤ hi := by
      by_cases hc : lo ≤ k ∧ k ≤ hi
      · exact hc
      · rw [if_neg hc] at h; cases h
    rw [if_pos hin] at h
    cases h
    have hrd := fun (w : World) (μ : Mem) (hμ : MOk μ w) => CE (ofB x) (by omega) w μ hμ
    rw [h2] at h3 hrd
    have hb := aAa hin
    repeat' (first | refine KO ?_ | ((with_reducible apply F1 60); exact rfl; exact EN; (exact fun w μc hw hse => hrd w μc hw)) | ((with_reducible apply F1 61); exact rfl; exact EN; (exact fun w μc hw hse => tI w μc hw (hT.mono hse.le) _)) | ((with_reducible apply F1 47); exact rfl; exact EN; (exact fun w μc hw hse => fF _ _ _ w μc hw)) | refine KI ?_ | refine NB fun b => ?_ | (refine KB ?_ ?_ <;> intro hp) | refine KG ?_ | fail)
    all_goals first | (exfalso; first | contradiction | (rw [hb] at *; contradiction)) | skip
    refine aM (l' := [(8, .int .i64 n)]) (L' := rdI rb (s, p, line, e, m)) PU PS ?_
    exact aS (Post := fun _ r _ => r = .int .i64 n) (Ls := fun _ : Unit => rdI rb (s, p, line, e, m)) 1 () hcnt rfl (aB rfl) rfl rfl (fun _ _ => rfl)
  · rw [dG] at h1
    unfold aV at h
    rw [h1] at h
    cases h
theorem PJ {x : List UInt8} {lo hi : Int} (rb : Nat) (S : RI5) (h : aV lo hi x = none) (hx : x.length ≤ 1000000) (w : World) (μ : Mem) (hμ : MOk μ w) (hT : kN μ) (hO : Go.Vcg.Own μ (rdI rb S) w) :
    Calls Tryz.prog 31 #[.pointer (some ⟨rb, 0, none⟩), .string (ofB x), .int .i64 lo, .int .i64 hi] w (RiK (bS (rdI rb S)) w μ rb (jF S 7) fun r => r = .int .i64 0) := by
  have hcnt := bE hO.diff
  obtain ⟨s, p, line, e, m⟩ := S
  refine aQ (args := [.pointer (some ⟨rb, 0, none⟩), .string (ofB x), .int .i64 lo, .int .i64 hi]) Tryz.func31 rfl Tryz.ntmps31 (by simp) hμ hO ?_
  show GC _ _ _ _ _ _ [.inl ⟨rb, 55, 5, [(0, .string (ofB s)), (1, .int .i64 p), (2, .int .i64 line), (3, .int .i64 e), (4, .map (some m))]⟩]
  have hsz := bF x
  have hrd := fun (w : World) (μ : Mem) (hμ : MOk μ w) => CE (ofB x) (by omega) w μ hμ
  rcases vL (ofB x) with ⟨k, h1, h2, h3⟩ | ⟨h1, h2⟩
  · rw [dG] at h1
    unfold aV at h
    rw [h1] at h
    dsimp only at h
    have hin : ¬ (lo ≤ k ∧ k ≤ hi) := fun hc => by rw [if_pos hc] at h; cases h
    rw [h2] at h3 hrd
    have hb := aAb hin
    repeat' (first | refine KO ?_ | ((with_reducible apply F1 60); exact rfl; exact EN; (exact fun w μc hw hse => hrd w μc hw)) | ((with_reducible apply F1 61); exact rfl; exact EN; (exact fun w μc hw hse => tI w μc hw (hT.mono hse.le) _)) | ((with_reducible apply F1 47); exact rfl; exact EN; (exact fun w μc hw hse => fF _ _ _ w μc hw)) | refine KI ?_ | refine NB fun b => ?_ | (refine KB ?_ ?_ <;> intro hp) | refine KG ?_ | fail)
    all_goals first | (exfalso; first | contradiction | (rw [hb] at *; contradiction)) | skip
    refine nC (l' := [(29, .pointer (some ⟨rb, 0, none⟩))]) (L' := rdI rb (s, p, line, e, m)) PU PS ?_
    repeat' (first | refine KO ?_ | (refine CF 30 ?_; (with_reducible apply aA 1); (iterate 3 exact rfl); ((with_reducible apply aL); kernel_rfl; exact rfl; exact rfl); exact rfl; (exact fun w hw hO => dA rb (s, p, line, e, m) 7 w _ hw hO); (rintro v2 μ2 ⟨⟩ hle2 hv); (dsimp only [List.cons_append, List.nil_append])) | fail)
    refine aM (l' := [(8, .int .i64 0)]) (L' := rdI rb (jF (s, p, line, e, m) 7)) PU PS ?_
    exact aS (Post := fun _ r _ => r = .int .i64 0) (Ls := fun _ : Unit => rdI rb (jF (s, p, line, e, m) 7)) 1 () hcnt rfl (aB rfl) rfl rfl (fun _ _ => rfl)
  · generalize jZ (bl (ofB x)) = v at h2 hrd
    by_cases h3 : v.k = 3
    · have h4 : jE v ≠ ofB x := by rcases h2 with h2 | h2; exact absurd h3 h2; exact h2
      repeat' (first | refine KO ?_ | ((with_reducible apply F1 60); exact rfl; exact EN; (exact fun w μc hw hse => hrd w μc hw)) | ((with_reducible apply F1 61); exact rfl; exact EN; (exact fun w μc hw hse => tI w μc hw (hT.mono hse.le) _)) | refine KI ?_ | refine NB fun b => ?_ | refine KG ?_ | fail)
      all_goals first | skip
      refine nC (l' := [(29, .pointer (some ⟨rb, 0, none⟩))]) (L' := rdI rb (s, p, line, e, m)) PU PS ?_
      repeat' (first | refine KO ?_ | (refine CF 30 ?_; (with_reducible apply aA 1); (iterate 3 exact rfl); ((with_reducible apply aL); kernel_rfl; exact rfl; exact rfl); exact rfl; (exact fun w hw hO => dA rb (s, p, line, e, m) 7 w _ hw hO); (rintro v2 μ2 ⟨⟩ hle2 hv); (dsimp only [List.cons_append, List.nil_append])) | fail)
      refine aM (l' := [(8, .int .i64 0)]) (L' := rdI rb (jF (s, p, line, e, m) 7)) PU PS ?_
      exact aS (Post := fun _ r _ => r = .int .i64 0) (Ls := fun _ : Unit => rdI rb (jF (s, p, line, e, m) 7)) 1 () hcnt rfl (aB rfl) rfl rfl (fun _ _ => rfl)
    · repeat' (first | refine KO ?_ | ((with_reducible apply F1 60); exact rfl; exact EN; (exact fun w μc hw hse => hrd w μc hw)) | refine KI ?_ | refine NB fun b => ?_ | refine KG ?_ | fail)
      all_goals first | skip
      refine nC (l' := [(29, .pointer (some ⟨rb, 0, none⟩))]) (L' := rdI rb (s, p, line, e, m)) PU PS ?_
      repeat' (first | refine KO ?_ | (refine CF 30 ?_; (with_reducible apply aA 1); (iterate 3 exact rfl); ((with_reducible apply aL); kernel_rfl; exact rfl; exact rfl); exact rfl; (exact fun w hw hO => dA rb (s, p, line, e, m) 7 w _ hw hO); (rintro v2 μ2 ⟨⟩ hle2 hv); (dsimp only [List.cons_append, List.nil_append])) | fail)
      refine aM (l' := [(8, .int .i64 0)]) (L' := rdI rb (jF (s, p, line, e, m) 7)) PU PS ?_
      exact aS (Post := fun _ r _ => r = .int .i64 0) (Ls := fun _ : Unit => rdI rb (jF (s, p, line, e, m) 7)) 1 () hcnt rfl (aB rfl) rfl rfl (fun _ _ => rfl)
theorem OI {x t : List UInt8} (rb : Nat) (S : RI5) (h : cE x = some t) (hx : x.length ≤ 1000000) (w : World) (μ : Mem) (hμ : MOk μ w) (hO : Go.Vcg.Own μ (rdI rb S) w) :
    Calls Tryz.prog 64 #[.pointer (some ⟨rb, 0, none⟩), .string (ofB x)] w (RiK (bS (rdI rb S)) w μ rb S fun r => r = .string (ofB t)) := by
  have hcnt := bE hO.diff
  obtain ⟨s, p, line, e, m⟩ := S
  refine aQ (args := [.pointer (some ⟨rb, 0, none⟩), .string (ofB x)]) Tryz.func64 rfl Tryz.ntmps64 (by simp) hμ hO ?_
  show GC _ _ _ _ _ _ [.inl ⟨rb, 55, 5, [(0, .string (ofB s)), (1, .int .i64 p), (2, .int .i64 line), (3, .int .i64 e), (4, .map (some m))]⟩]
  have hsz := bF x
  obtain ⟨h1, h2, ht⟩ := rA (yQ h)
  have hrd := fun (w : World) (μ : Mem) (hμ : MOk μ w) => KC h1 hx w μ hμ
  rw [List.append_nil] at h2
  have hq : ofB (dO t) = ofB x := by rw [h2]
  rw [show x.length - ([] : List UInt8).length = x.length from rfl] at hrd
  repeat' (first | refine KO ?_ | ((with_reducible apply F1 94); exact rfl; exact EN; (exact fun w μc hw hse => hrd w μc hw)) | ((with_reducible apply F1 41); exact rfl; exact EN; (exact fun w μc hw hse => IS t ht w μc hw)) | (refine KB ?_ ?_ <;> intro hp) | refine KG ?_ | fail)
  all_goals first | (exfalso; contradiction) | skip
  refine aM (l' := [(4, .string (ofB t))]) (L' := rdI rb (s, p, line, e, m)) PU PS ?_
  exact aS (Post := fun _ r _ => r = .string (ofB t)) (Ls := fun _ : Unit => rdI rb (s, p, line, e, m)) 1 () hcnt rfl (aB rfl) rfl rfl (fun _ _ => rfl)
theorem OJ {x : List UInt8} (rb : Nat) (S : RI5) (h : cE x = none) (hx : x.length ≤ 1000000) (w : World) (μ : Mem) (hμ : MOk μ w) (hO : Go.Vcg.Own μ (rdI rb S) w) :
    Calls Tryz.prog 64 #[.pointer (some ⟨rb, 0, none⟩), .string (ofB x)] w (RiK (bS (rdI rb S)) w μ rb (jF S 7) fun r => r = .string (ofB [])) := by
  have hcnt := bE hO.diff
  obtain ⟨s, p, line, e, m⟩ := S
  refine aQ (args := [.pointer (some ⟨rb, 0, none⟩), .string (ofB x)]) Tryz.func64 rfl Tryz.ntmps64 (by simp) hμ hO ?_
  show GC _ _ _ _ _ _ [.inl ⟨rb, 55, 5, [(0, .string (ofB s)), (1, .int .i64 p), (2, .int .i64 line), (3, .int .i64 e), (4, .map (some m))]⟩]
  have hsz := bF x
  cases h1 : eQ x with
  | error c =>
    have hc := CI h1
    have hrd := fun (w : World) (μ : Mem) (hμ : MOk μ w) => ZS h1 hx w μ hμ
    repeat' (first | refine KO ?_ | ((with_reducible apply F1 94); exact rfl; exact EN; (exact fun w μc hw hse => hrd w μc hw)) | refine KG ?_ | fail)
    all_goals first | skip
    refine nC (l' := [(28, .pointer (some ⟨rb, 0, none⟩))]) (L' := rdI rb (s, p, line, e, m)) PU PS ?_
    repeat' (first | refine KO ?_ | (refine CF 30 ?_; (with_reducible apply aA 1); (iterate 3 exact rfl); ((with_reducible apply aL); kernel_rfl; exact rfl; exact rfl); exact rfl; (exact fun w hw hO => dA rb (s, p, line, e, m) 7 w _ hw hO); (rintro v2 μ2 ⟨⟩ hle2 hv); (dsimp only [List.cons_append, List.nil_append])) | fail)
    refine aM (l' := [(4, .string (ofB []))]) (L' := rdI rb (jF (s, p, line, e, m) 7)) PU PS ?_
    exact aS (Post := fun _ r _ => r = .string (ofB [])) (Ls := fun _ : Unit => rdI rb (jF (s, p, line, e, m) 7)) 1 () hcnt rfl (aB rfl) rfl rfl (fun _ _ => rfl)
  | ok q =>
    obtain ⟨t, u⟩ := q
    have ht := CH h1
    have hrd := fun (w : World) (μ : Mem) (hμ : MOk μ w) => KC h1 hx w μ hμ
    obtain ⟨g1, g2⟩ := CG h1
    by_cases hu : u = []
    · subst hu
      have hq : ¬ ofB (dO t) = ofB x := fun hh => by
        have h2 := sG hh
        unfold cE nP at h
        rw [h1] at h
        dsimp only at h
        rw [List.append_nil, if_pos h2] at h
        cases h
      rw [show x.length - ([] : List UInt8).length = x.length from rfl] at hrd
      repeat' (first | refine KO ?_ | ((with_reducible apply F1 94); exact rfl; exact EN; (exact fun w μc hw hse => hrd w μc hw)) | ((with_reducible apply F1 41); exact rfl; exact EN; (exact fun w μc hw hse => IS t ht w μc hw)) | refine KG ?_ | fail)
      all_goals first | skip
      refine nC (l' := [(28, .pointer (some ⟨rb, 0, none⟩))]) (L' := rdI rb (s, p, line, e, m)) PU PS ?_
      repeat' (first | refine KO ?_ | (refine CF 30 ?_; (with_reducible apply aA 1); (iterate 3 exact rfl); ((with_reducible apply aL); kernel_rfl; exact rfl; exact rfl); exact rfl; (exact fun w hw hO => dA rb (s, p, line, e, m) 7 w _ hw hO); (rintro v2 μ2 ⟨⟩ hle2 hv); (dsimp only [List.cons_append, List.nil_append])) | fail)
      refine aM (l' := [(4, .string (ofB []))]) (L' := rdI rb (jF (s, p, line, e, m) 7)) PU PS ?_
      exact aS (Post := fun _ r _ => r = .string (ofB [])) (Ls := fun _ : Unit => rdI rb (jF (s, p, line, e, m) 7)) 1 () hcnt rfl (aB rfl) rfl rfl (fun _ _ => rfl)
    · have hul : 0 < u.length := List.length_pos_iff.2 hu
      generalize hk : x.length - u.length = k at hrd
      repeat' (first | refine KO ?_ | ((with_reducible apply F1 94); exact rfl; exact EN; (exact fun w μc hw hse => hrd w μc hw)) | refine KG ?_ | fail)
      all_goals first | skip
      refine nC (l' := [(28, .pointer (some ⟨rb, 0, none⟩))]) (L' := rdI rb (s, p, line, e, m)) PU PS ?_
      repeat' (first | refine KO ?_ | (refine CF 30 ?_; (with_reducible apply aA 1); (iterate 3 exact rfl); ((with_reducible apply aL); kernel_rfl; exact rfl; exact rfl); exact rfl; (exact fun w hw hO => dA rb (s, p, line, e, m) 7 w _ hw hO); (rintro v2 μ2 ⟨⟩ hle2 hv); (dsimp only [List.cons_append, List.nil_append])) | fail)
      refine aM (l' := [(4, .string (ofB []))]) (L' := rdI rb (jF (s, p, line, e, m) 7)) PU PS ?_
      exact aS (Post := fun _ r _ => r = .string (ofB [])) (Ls := fun _ : Unit => rdI rb (jF (s, p, line, e, m) 7)) 1 () hcnt rfl (aB rfl) rfl rfl (fun _ _ => rfl)
end
end Go.Proofs.YtoclmkdfcafhfaaGreatDoor
namespace Go.Vcg
open Go.RowKit
theorem zP {w : World} {μ : Mem} (hμ : MOk μ w) (arr : Array Value) (t n : Nat) (xs : List Value) (hn : arr.size = n) (hxs : ∀ (i : Nat) (v : Value), xs[i]? = some v → arr[i]? = some v) :
    fH [] w (w.alloc (.cells arr t)) μ [.inl ⟨w.heap.size, t, n, idx 0 xs⟩] μ := by
  have hlt : ∀ b o, μ b = some o → b < w.heap.size := fun b o h => (Array.getElem?_eq_some_iff.1 (hμ b o h)).1
  have hnew := (MapKept.heap_alloc w (.cells arr t)).1
  have hold := (MapKept.heap_alloc w (.cells arr t)).2
  refine ⟨⟨rfl, rfl, rfl, by simp, fun b hb _ => hold b hb, MLe.refl _, fun b o h => ?_, fun b _ _ h => h⟩, ⟨fun x hx => ?_, fun x hx b hb => ?_, List.pairwise_singleton _ _⟩, fun x hx b hb => ?_⟩
  · rw [hold b (hlt b o h)]
    exact hμ b o h
  · obtain rfl := List.mem_singleton.1 hx
    refine ⟨arr, hnew, hn, fun i v hv => hxs i v ?_⟩
    obtain ⟨_, h2⟩ := lA _ _ _ _ hv
    simpa using h2
  · obtain rfl := List.mem_singleton.1 hx
    cases hb
    cases h : μ w.heap.size with
    | none => rfl
    | some o => exact absurd (hlt _ _ h) (Nat.lt_irrefl _)
  · obtain rfl := List.mem_singleton.1 hx
    cases hb
    exact .inr (Nat.le_refl _)
end Go.Vcg
namespace Go.Proofs.YtoclmkdfcafhfaaGreatDoor
open Go.RowKit Go.Vcg Ou
def eI : Nat → List UInt8 → List (List UInt8)
  | 0, l => [l]
  | k + 1, l => match Ou.aO 32 l with
    | none => [l]
    | some (a, r) => a :: eI k r
theorem cS {c : UInt8} {l a r : List UInt8} (h : Ou.aO c l = some (a, r)) : l = a ++ c :: r ∧ a.length + r.length + 1 = l.length := by
  have h1 := (cD h).1
  refine ⟨h1, ?_⟩
  have := congrArg List.length h1
  rw [List.length_append, List.length_cons] at this
  omega
theorem WN : ∀ l : List UInt8, Lib.index l [32] = match Ou.aO 32 l with | some (a, _) => (a.length : Int) | none => -1 := fun l => (Lib.index_one l 32).trans (vN 32 l)
theorem wJ : ∀ (k : Nat) (l : List UInt8), Lib.splitK [32] 0 k l = eI k l
  | 0, l => rfl
  | k + 1, l => by
    have ih := wJ k
    unfold Lib.splitK eI
    rw [WN]
    cases h : Ou.aO 32 l with
    | none => rfl
    | some p =>
      obtain ⟨a, r⟩ := p
      have hb : (((a.length : Int)) == -1) = false := by simp
      obtain ⟨h1, _⟩ := cS h
      dsimp only
      rw [hb, if_neg (by simp), ih, h1]
      simp
theorem BG : ∀ (k j : Nat) (l : List UInt8), l.length ≤ k → l.length ≤ j → eI k l = eI j l
  | 0, j, l, h, _ => by
    have : l = [] := List.length_eq_zero_iff.1 (by omega)
    subst this
    cases j <;> rfl
  | k + 1, 0, l, _, h => by
    have : l = [] := List.length_eq_zero_iff.1 (by omega)
    subst this
    rfl
  | k + 1, j + 1, l, h1, h2 => by
    unfold eI
    cases h : Ou.aO 32 l with
    | none => rfl
    | some p =>
      obtain ⟨a, r⟩ := p
      have := (cS h).2
      dsimp only
      rw [BG k j r (by omega) (by omega)]
theorem XZ (l : List UInt8) (n : Nat) : eI (min (n + 1) (l.length + 1) - 1) l = eI n l := by
  rcases Nat.le_total n l.length with h | h
  · rw [show min (n + 1) (l.length + 1) - 1 = n by omega]
  · rw [show min (n + 1) (l.length + 1) - 1 = l.length by omega]
    exact BG _ _ l (by omega) h
theorem rS : ∀ (k : Nat) (l : List UInt8), 1 ≤ (eI k l).length ∧ (eI k l).length ≤ k + 1 ∧ (eI k l).length ≤ l.length + 1
  | 0, l => by simp [eI]
  | k + 1, l => by
    unfold eI
    cases h : Ou.aO 32 l with
    | none => simp
    | some p =>
      obtain ⟨a, r⟩ := p
      have := (cS h).2
      have ih := rS k r
      dsimp only
      rw [List.length_cons]
      omega
theorem aF7 (k : Nat) (l : List UInt8) : Lib.splitB ⟨#[32]⟩ 0 k (ofB l) = (eI k l).map ofB := by
  have h := Lib.splitB_data ⟨#[32]⟩ 0 k (ofB l)
  have h2 : Lib.splitK [32] 0 k l = eI k l := wJ k l
  have h3 : (Lib.splitB ⟨#[32]⟩ 0 k (ofB l)).map byS = eI k l := by rw [← h2]; exact h
  rw [← h3, List.map_map]
  exact (List.map_id'' (fun x => vK x) _).symm
def fT (lo hi : Int) (x : List UInt8) : Int := (aV lo hi x).getD 0
def sD (x : List UInt8) : List UInt8 := (cE x).getD []
def okS (ok : Bool) (e c : Int) : Int := if ok then e else bump e c
abbrev stS (S : RI5) (ok : Bool) (c : Int) : RI5 := (S.1, S.2.1, S.2.2.1, okS ok S.2.2.2.1 c, S.2.2.2.2)
theorem eK (x : List UInt8) (lo hi : Int) (rb : Nat) (S : RI5) (hx : x.length ≤ 1000000) (w : World) (μ : Mem) (hμ : MOk μ w) (hT : kN μ) (hO : Go.Vcg.Own μ (rdI rb S) w) :
    Calls Tryz.prog 31 #[.pointer (some ⟨rb, 0, none⟩), .string (ofB x), .int .i64 lo, .int .i64 hi] w (RiK (bS (rdI rb S)) w μ rb (stS S (aV lo hi x).isSome 7) fun r => r = .int .i64 (fT lo hi x)) := by
  unfold fT
  cases h : aV lo hi x with
  | some n => exact PI rb S h hx w μ hμ hT hO
  | none => exact PJ rb S h hx w μ hμ hT hO
theorem xL (x : List UInt8) (rb : Nat) (S : RI5) (hx : x.length ≤ 1000000) (w : World) (μ : Mem) (hμ : MOk μ w) (hO : Go.Vcg.Own μ (rdI rb S) w) :
    Calls Tryz.prog 64 #[.pointer (some ⟨rb, 0, none⟩), .string (ofB x)] w (RiK (bS (rdI rb S)) w μ rb (stS S (cE x).isSome 7) fun r => r = .string (ofB (sD x))) := by
  unfold sD
  cases h : cE x with
  | some n => exact OI rb S h hx w μ hμ hO
  | none => exact OJ rb S h hx w μ hμ hO
theorem gL (x : List UInt8) : aV (-9007199254740992) 9007199254740992 x = Iq.cU x := by
  unfold aV
  cases h : Iq.cU x with
  | none => rfl
  | some n => exact if_pos (Iq.iK h).1
theorem SS (hi : Int) (x : List UInt8) : aV 0 hi x = match rD x with | some k => if k ≤ hi then some k else none | none => none := by
  unfold aV Iq.cU
  cases h : rD x with
  | some n =>
    have := (iL h).1.1
    dsimp only
    by_cases h1 : n ≤ hi
    · rw [if_pos ⟨this, h1⟩, if_pos h1]
    · rw [if_neg (fun hh => h1 hh.2), if_neg h1]
  | none =>
    dsimp only
    split
    · rename_i n hn
      split at hn
      · split at hn
        · rename_i m hm
          split at hn
          · cases hn
          · rename_i h0
            cases hn
            have := (iL hm).1.1
            rw [if_neg (by omega)]
        · cases hn
      · cases hn
    · rfl
def iM (w0 w1 w2 w3 r3 : List UInt8) : Option (Int × Int × Int × Nat × List UInt8) := match aP w0, Iq.cU w1, Iq.cU w2, aV 0 1048576 w3, cE r3 with
  | some op, some n, some m, some k, some s => some (op, n, m, k.toNat, s)
  | _, _, _, _, _ => none
theorem yN (l : List UInt8) : (∃ w0 w1 w2 w3 r3, eI 4 l = [w0, w1, w2, w3, r3] ∧ Iq.mX aP l = iM w0 w1 w2 w3 r3 ∧ w0.length ≤ l.length ∧ w1.length ≤ l.length ∧ w2.length ≤ l.length ∧ w3.length ≤ l.length ∧ r3.length ≤ l.length) ∨ ((eI 4 l).length < 5 ∧ Iq.mX aP l = none) := by
  unfold Iq.mX eI
  cases h0 : Ou.aO 32 l with
  | none => exact .inr ⟨by simp, rfl⟩
  | some p0 =>
    obtain ⟨w0, r0⟩ := p0
    have l0 := (cS h0).2
    unfold eI
    dsimp only
    cases h1 : Ou.aO 32 r0 with
    | none => exact .inr ⟨by simp, rfl⟩
    | some p1 =>
      obtain ⟨w1, r1⟩ := p1
      have l1 := (cS h1).2
      unfold eI
      dsimp only
      cases h2 : Ou.aO 32 r1 with
      | none => exact .inr ⟨by simp, rfl⟩
      | some p2 =>
        obtain ⟨w2, r2⟩ := p2
        have l2 := (cS h2).2
        unfold eI
        dsimp only
        cases h3 : Ou.aO 32 r2 with
        | none => exact .inr ⟨by simp, rfl⟩
        | some p3 =>
          obtain ⟨w3, r3⟩ := p3
          have l3 := (cS h3).2
          unfold eI
          refine .inl ⟨w0, w1, w2, w3, r3, rfl, ?_, by omega, by omega, by omega, by omega, by omega⟩
          dsimp only
          unfold iM
          rw [SS]
          cases aP w0 with
          | none => rfl
          | some op =>
            cases Iq.cU w1 with
            | none => rfl
            | some n =>
              cases Iq.cU w2 with
              | none => rfl
              | some m =>
                cases rD w3 with
                | none => rfl
                | some k =>
                  cases cE r3 with
                  | none => dsimp only; by_cases hk : k ≤ 1048576 <;> simp [hk]
                  | some s => dsimp only; by_cases hk : k ≤ 1048576 <;> simp [hk]
def qM (w0 w1 w2 w3 r3 : List UInt8) : Int := okS (cE r3).isSome (okS (aV 0 1048576 w3).isSome (okS (aV (-9007199254740992) 9007199254740992 w2).isSome (okS (aV (-9007199254740992) 9007199254740992 w1).isSome (okS (aP w0).isSome 0 7) 7) 7) 7) 7
theorem rG {w0 w1 w2 w3 r3 s : List UInt8} {op n m : Int} {k : Nat} (h : iM w0 w1 w2 w3 r3 = some (op, n, m, k, s)) :
    qM w0 w1 w2 w3 r3 = 0 ∧ (aP w0).getD 0 = op ∧ fT (-9007199254740992) 9007199254740992 w1 = n ∧ fT (-9007199254740992) 9007199254740992 w2 = m ∧ fT 0 1048576 w3 = (k : Int) ∧ sD r3 = s ∧ k ≤ 1048576 := by
  unfold iM at h
  unfold qM fT sD
  rw [gL, gL]
  split at h
  · rename_i op' n' m' k' s' e0 e1 e2 e3 e4
    simp only [Option.some.injEq, Prod.mk.injEq] at h
    obtain ⟨rfl, rfl, rfl, rfl, rfl⟩ := h
    have hk : 0 ≤ k' ∧ k' ≤ 1048576 := by
      rw [SS] at e3
      split at e3
      · rename_i k2 hk2
        have := (iL hk2).1.1
        split at e3
        · rename_i h; cases e3; exact ⟨this, h⟩
        · cases e3
      · cases e3
    rw [e0, e1, e2, e3, e4]
    refine ⟨rfl, rfl, rfl, rfl, ?_, rfl, by omega⟩
    show k' = _
    omega
  · cases h
theorem GV (ok : Bool) : okS ok 7 7 = 7 := by unfold okS bump; cases ok <;> simp
theorem yO {w0 w1 w2 w3 r3 : List UInt8} (h : iM w0 w1 w2 w3 r3 = none) : qM w0 w1 w2 w3 r3 = 7 := by
  unfold iM at h
  unfold qM
  rw [gL, gL]
  cases h0 : aP w0 with
  | none => simp only [Option.isSome_none, show okS false 0 7 = 7 from rfl, GV]
  | some op =>
    cases h1 : Iq.cU w1 with
    | none => simp only [Option.isSome_none, Option.isSome_some, show okS true 0 7 = 0 from rfl, show okS false 0 7 = 7 from rfl, GV]
    | some n =>
      cases h2 : Iq.cU w2 with
      | none => simp only [Option.isSome_none, Option.isSome_some, show okS true 0 7 = 0 from rfl, show okS false 0 7 = 7 from rfl, GV]
      | some m =>
        cases h3 : aV 0 1048576 w3 with
        | none => simp only [Option.isSome_none, Option.isSome_some, show okS true 0 7 = 0 from rfl, show okS false 0 7 = 7 from rfl, GV]
        | some k =>
          cases h4 : cE r3 with
          | none => simp only [Option.isSome_none, Option.isSome_some, show okS true 0 7 = 0 from rfl, show okS false 0 7 = 7 from rfl]
          | some s =>
            rw [h0, h1, h2, h3, h4] at h
            cases h
theorem LZ {c : UInt8} : ∀ {l : List UInt8}, Ou.aO c l = none → l.count c = 0
  | [], _ => rfl
  | x :: r, h => by
    unfold Ou.aO at h
    by_cases hx : x = c
    · rw [if_pos hx] at h; cases h
    · rw [if_neg hx] at h
      have h2 : Ou.aO c r = none := by
        cases hr : Ou.aO c r with
        | none => rfl
        | some p => rw [hr] at h; cases h
      rw [List.count_cons_of_ne (fun e => hx e), LZ h2]
theorem DP {c : UInt8} {l a r : List UInt8} (h : Ou.aO c l = some (a, r)) : l.count c = r.count c + 1 := by
  obtain ⟨h1, h2⟩ := cD h
  rw [h1, List.count_append, List.count_cons_self, List.count_eq_zero.2 h2]
  omega
def nL (l : List UInt8) : List (List UInt8) := eI (l.count 32) l
theorem pN {l : List UInt8} (h : Ou.aO 32 l = none) : nL l = [l] := by
  unfold nL
  rw [LZ h]
  rfl
theorem mL {l a r : List UInt8} (h : Ou.aO 32 l = some (a, r)) : nL l = a :: nL r := by
  unfold nL
  rw [DP h]
  conv => lhs; unfold eI
  rw [h]
theorem aFj {c : UInt8} {l : List UInt8} (h : Fr c l) : Ou.aO c l = none := by
  cases hc : Ou.aO c l with
  | none => rfl
  | some p =>
    obtain ⟨a, r⟩ := p
    have h1 := (cD hc).1
    exact absurd (by rw [h1]; simp) h
theorem aCd {w : List UInt8} {n : Int} (h : Iq.cU w = some n) : Ou.aO 32 w = none := aFj (by rw [← (Iq.iK h).2]; exact Iq.WK n)
def sO (nm w1 w2 w3 : List UInt8) : Option (List UInt8 × Int × Int × Int) := match cE nm, Iq.cU w1, Iq.cU w2, Iq.cU w3 with
  | some n, some a, some b, some c => some (n, a, b, c)
  | _, _, _, _ => none
theorem aB4 {d r : List UInt8} (h : Iq.pre [32] d = some r) : Ou.aO 32 d = some ([], r) := by
  rw [Iq.pre_some h]
  rfl
theorem ZA {d : List UInt8} (h : ∀ r, Ou.aO 32 d ≠ some ([], r)) : Iq.pre [32] d = none := by
  cases hp : Iq.pre [32] d with
  | none => rfl
  | some r => exact absurd (aB4 hp) (h r)
theorem fun_cases (l : List UInt8) : (∃ rest w1 w2 w3, Iq.pre Iq.iX l = some rest ∧ nL (rest.drop (Iq.bI rest)) = [[], w1, w2, w3] ∧ Iq.gH l = sO (rest.take (Iq.bI rest)) w1 w2 w3) ∨
    (Iq.gH l = none ∧ ∀ rest, Iq.pre Iq.iX l = some rest → ∀ w1 w2 w3, nL (rest.drop (Iq.bI rest)) ≠ [[], w1, w2, w3]) := by
  unfold Iq.gH
  cases hp : Iq.pre Iq.iX l with
  | none => exact .inr ⟨rfl, fun rest h => by cases h⟩
  | some rest =>
    dsimp only
    cases hc0 : Ou.aO 32 (rest.drop (Iq.bI rest)) with
    | none =>
      have hpn := ZA (d := rest.drop (Iq.bI rest)) (fun r h => by rw [hc0] at h; cases h)
      refine .inr ⟨by rw [hpn]; cases cE (rest.take (Iq.bI rest)) <;> rfl, fun r hr => ?_⟩
      cases hr
      rw [pN hc0]
      simp
    | some p =>
      obtain ⟨a, r0⟩ := p
      by_cases ha : a = []
      · subst ha
        have hpre : Iq.pre [32] (rest.drop (Iq.bI rest)) = some r0 := by
          rw [(cS hc0).1]
          exact Iq.FL [32] r0
        have hs0 := mL hc0
        rw [hpre]
        cases hc1 : Ou.aO 32 r0 with
        | none =>
          refine .inr ⟨by cases cE (rest.take (Iq.bI rest)) with | none => rfl | some nm => simp only [hc1], fun r hr => ?_⟩
          cases hr
          rw [hs0, pN hc1]
          simp
        | some p1 =>
          obtain ⟨w1, r1⟩ := p1
          have hs1 := mL hc1
          cases hc2 : Ou.aO 32 r1 with
          | none =>
            refine .inr ⟨by cases cE (rest.take (Iq.bI rest)) with | none => rfl | some nm => simp only [hc1, hc2], fun r hr => ?_⟩
            cases hr
            rw [hs0, hs1, pN hc2]
            simp
          | some p2 =>
            obtain ⟨w2, w3⟩ := p2
            have hs2 := mL hc2
            cases hc3 : Ou.aO 32 w3 with
            | none =>
              refine .inl ⟨rest, w1, w2, w3, rfl, by rw [hs0, hs1, hs2, pN hc3], ?_⟩
              unfold sO
              cases cE (rest.take (Iq.bI rest)) with
              | none => rfl
              | some nm => simp only [hc1, hc2]; cases Iq.cU w1 <;> cases Iq.cU w2 <;> cases Iq.cU w3 <;> rfl
            | some p3 =>
              obtain ⟨x3, y3⟩ := p3
              have hz : Iq.cU w3 = none := by
                cases hz : Iq.cU w3 with
                | none => rfl
                | some n => rw [aCd hz] at hc3; cases hc3
              refine .inr ⟨?_, fun r hr => ?_⟩
              · cases cE (rest.take (Iq.bI rest)) with
                | none => rfl
                | some nm => simp only [hc1, hc2, hz]; cases Iq.cU w1 <;> cases Iq.cU w2 <;> rfl
              · cases hr
                rw [hs0, hs1, hs2, mL hc3]
                intro w1 w2 w3 h
                have h5 := congrArg List.length h
                have h6 := (rS (y3.count 32) y3).1
                simp only [List.length_cons, List.length_nil] at h5
                unfold nL at h5
                omega
      · have hpn := ZA (d := rest.drop (Iq.bI rest)) (fun r h => by rw [hc0] at h; cases h; exact ha rfl)
        refine .inr ⟨by rw [hpn]; cases cE (rest.take (Iq.bI rest)) <;> rfl, fun r hr => ?_⟩
        cases hr
        rw [mL hc0]
        intro w1 w2 w3 h
        exact ha (List.cons.inj h).1
theorem CW (l : List UInt8) : ∀ k : Nat, k ≤ l.length → Lib.lastIdx (ofB l) 34 k + 1 = ((k - ((l.take k).reverse.takeWhile (fun c => decide (c ≠ 34))).length : Nat) : Int)
  | 0, _ => rfl
  | k + 1, h => by
    have ih := CW l k (by omega)
    have hlt : k < l.length := by omega
    have hb : (ofB l).data[k]! = l[k] := by
      show l.toArray[k]! = l[k]
      rw [getElem!_pos l.toArray k (by simpa using hlt)]
      simp
    have ht : (l.take (k + 1)).reverse = l[k] :: (l.take k).reverse := by
      rw [List.take_add_one, List.getElem?_eq_getElem hlt]
      simp
    have hle : ((l.take k).reverse.takeWhile (fun c => decide (c ≠ 34))).length ≤ k := by
      have := (List.takeWhile_prefix (fun c : UInt8 => decide (c ≠ 34)) (l := (l.take k).reverse)).length_le
      rw [List.length_reverse, List.length_take] at this
      omega
    unfold Lib.lastIdx
    rw [hb, ht, List.takeWhile_cons]
    by_cases hc : l[k] = 34
    · rw [hc]
      simp
    · have hn : ¬ ((l[k].toNat : Nat) : Int) = 34 := fun e => hc (UInt8.toNat_inj.1 (by show l[k].toNat = 34; omega))
      rw [if_neg hn, ih]
      simp only [hc, ne_eq, not_false_eq_true, decide_true, if_true, List.length_cons]
      omega
theorem aE4 (l : List UInt8) : Lib.lastIndexByte (ofB l) 34 + 1 = ((Iq.bI l : Nat) : Int) := by
  have h := CW l l.length (Nat.le_refl _)
  rw [List.take_length] at h
  unfold Lib.lastIndexByte Iq.bI
  rw [bF]
  exact h
theorem KN (l : List UInt8) : Iq.bI l ≤ l.length := by unfold Iq.bI; omega
abbrev kL (ps : List (List UInt8)) : List Value := ps.map fun x => .string (ofB x)
theorem JZ {μ : Mem} {w : World} (hμ : MOk μ w) (hm : fY μ) : ∃ m : Int, w.cell? ⟨0, 0, none⟩ = some (.int .i64 m) := by
  obtain ⟨m, a, t, f, h1, h2, h3⟩ := hm
  refine ⟨m, ?_⟩
  have hw := hμ _ _ h1
  simp only at hw
  simp [World.cell?, hw, h3]
theorem aA2 (ps : List (List UInt8)) (N i : Nat) (v : Value) (h : (kL ps)[i]? = some v) : (Lib.cellsOf (ps.map ofB) N)[i]? = some v := by
  have hi : i < (kL ps).length := (List.getElem?_eq_some_iff.1 h).1
  have e : kL ps = (ps.map ofB).map Value.string := by rw [List.map_map]; rfl
  unfold Lib.cellsOf
  rw [List.getElem?_toArray, List.getElem?_append_left (by rw [← e]; exact hi), ← e]
  exact h
theorem uD (l : List UInt8) (hl : l.length ≤ 1000000) (w : World) (μ : Mem) (hμ : MOk μ w) (hm : fY μ) : Calls Tryz.prog 95 #[.string (ofB l), .string ⟨#[32]⟩, .int .i64 5] w fun e w' => ∃ (v : Value) (μ' : Mem) (i : Nat), e = .returned v ∧ fH [] w w' μ [.inl ⟨i, 9, min 5 (l.length + 1), idx 0 (kL (eI 4 l))⟩] μ' ∧ v = .slice (some ⟨i, 0, none⟩) (eI 4 l).length (min 5 (l.length + 1)) := by
  obtain ⟨m, hc⟩ := JZ hμ hm
  have hsz := bF l
  have h := Any.strings_SplitN Tryz.lays147 (by kernel_rfl) (ofB l) ⟨#[32]⟩ 5 m w (by omega) hc (by decide) (by decide) (by decide)
  have e1 : Lib.splitB ⟨#[32]⟩ 0 (min 5 ((ofB l).size + 1) - 1) (ofB l) = (eI 4 l).map ofB := by rw [aF7, hsz, XZ l 4]
  have hlen := rS 4 l
  rw [e1] at h
  refine h.mono fun e w' ⟨he, hw⟩ => ?_
  subst hw
  refine ⟨_, μ, w.heap.size, he, ?_, by rw [List.length_map, hsz]⟩
  exact zP hμ _ _ _ _ (by rw [Lib.cellsOf_size (by rw [List.length_map, hsz]; omega), hsz]) (fun i v hv => aA2 _ _ i v hv)
theorem MZ (l : List UInt8) (hl : l.length ≤ 1000000) (w : World) (μ : Mem) (hμ : MOk μ w) (hm : fY μ) : Calls Tryz.prog 63 #[.string (ofB l), .string ⟨#[32]⟩] w fun e w' => ∃ (v : Value) (μ' : Mem) (i : Nat), e = .returned v ∧ fH [] w w' μ [.inl ⟨i, 9, (nL l).length, idx 0 (kL (nL l))⟩] μ' ∧ v = .slice (some ⟨i, 0, none⟩) (nL l).length (nL l).length := by
  obtain ⟨m, hc⟩ := JZ hμ hm
  have hsz := bF l
  have h := Any.strings_Split Tryz.lays146 (by kernel_rfl) (ofB l) ⟨#[32]⟩ m w (by omega) hc (by decide)
  have ec : Lib.countB (ofB l) ⟨#[32]⟩ = l.count 32 := Lib.count_one 32 l
  have e1 : Lib.splitB ⟨#[32]⟩ 0 (Lib.countB (ofB l) ⟨#[32]⟩) (ofB l) = (nL l).map ofB := by rw [aF7, ec]; rfl
  have el : Lib.countB (ofB l) ⟨#[32]⟩ + 1 = (nL l).length := by
    have := Lib.splitB_all ⟨#[32]⟩ (by decide) 0 _ (ofB l) rfl
    rw [e1, List.length_map] at this
    exact this.symm
  rw [e1, el] at h
  refine h.mono fun e w' ⟨he, hw⟩ => ?_
  subst hw
  refine ⟨_, μ, w.heap.size, he, ?_, rfl⟩
  exact zP hμ _ _ _ _ (by simp) (fun i v hv => by rw [List.map_map, List.getElem?_toArray]; exact hv)
theorem LY (l : List UInt8) (w : World) (μ : Mem) (hμ : MOk μ w) : Calls Tryz.prog 28 #[.string (ofB l), .string ⟨#[102, 117, 110, 99, 32]⟩] w fun e w' => e = .returned (.tuple #[.string (ofB ((Iq.pre Iq.iX l).getD l)), .bool (Iq.pre Iq.iX l).isSome]) ∧ Below w.heap.size w w' := by
  refine (Any.strings_CutPrefix Tryz.lays103 (ofB l) ⟨#[102, 117, 110, 99, 32]⟩ w).mono fun e w' ⟨he, hw⟩ => ⟨?_, hw ▸ Below.refl _ _⟩
  rw [he]
  have e1 : (ofB l).data.toList = l := dG l
  rw [e1]
  unfold Iq.pre Lib.trimPrefix Lib.hasPrefix
  by_cases hp : Iq.iX <+: l
  · have hb : ([102, 117, 110, 99, 32] : List UInt8).isPrefixOf l = true := List.isPrefixOf_iff_prefix.2 hp
    rw [if_pos hp]
    show _ = Ending.returned (Value.tuple #[.string (ofB (l.drop 5)), .bool true])
    simp [hb]
    rfl
  · have hb : ([102, 117, 110, 99, 32] : List UInt8).isPrefixOf l = false := Bool.eq_false_iff.2 fun h => hp (List.isPrefixOf_iff_prefix.1 h)
    rw [if_neg hp]
    show _ = Ending.returned (Value.tuple #[.string (ofB l), .bool false])
    simp [hb]
    rfl
theorem PQ (l : List UInt8) (hl : l.length ≤ 1000000) (w : World) (μ : Mem) (hμ : MOk μ w) : Calls Tryz.prog 62 #[.string (ofB l), .int .u8 34] w fun e w' => e = .returned (.int .i64 ((Iq.bI l : Nat) - 1 : Int)) ∧ Below w.heap.size w w' := by
  have hsz := bF l
  refine (Any.strings_LastIndexByte Tryz.lays149 (ofB l) 34 (by omega) w).mono fun e w' ⟨he, hw⟩ => ⟨?_, hw ▸ Below.refl _ _⟩
  rw [he]
  have := aE4 l
  rw [show Lib.lastIndexByte (ofB l) 34 = ((Iq.bI l : Nat) : Int) - 1 by omega]
end Go.Proofs.YtoclmkdfcafhfaaGreatDoor
