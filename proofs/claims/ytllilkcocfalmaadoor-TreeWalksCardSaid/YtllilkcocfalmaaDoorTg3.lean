/- Size and Depth as the machine calls them; the law's example of the specification. No statement of the seat is proved here. -/
import Derived.Test.YtllilkcocfalmaaDoorTg2
import Derived.Test.YtllilkcocfalmaaDoorTn
import Derived.Test.YtllilkcocfalmaaDoorRn
import Derived.Test.YtllilkcocfalmaaDoorRead
import Derived.Test.YtllilkcocfalmaaDoorShelf
set_option maxRecDepth 20000
namespace Go.Proofs.YtllilkcocfalmaaDoor
open Go.Rex Go.RowKit Go.Vcg Go.Shelf
set_option maxRecDepth 20000
attribute [local irreducible] capU
/-- a tree in the machine's memory, its size and its depth -/
def rdK (f : List Value → Option (T × Nat × Nat)) (cs : List Value) : Nat → Nat → Option (List T × Nat × Nat)
  | 0, _ => some ([], 0, 0)
  | k + 1, off => match takeD off 6 cs with
    | some xs => match f xs with
      | some (t, s, d) => match rdK f cs k (off + 6) with
        | some (r, s', d') => some (t :: r, s + s', cond (Nat.ble d d') d' d)
        | none => none
      | none => none
    | none => none
def rdT (h : Heap) : Nat → List Value → Option (T × Nat × Nat)
  | 0, _ => none
  | n + 1, vs => match vs with
    | [.int .i64 o, .int .i64 a, .int .i64 nn, .int .i64 m, .string s, .slice p len c] => match p with
      | none => match len with
        | 0 => some (.mk o a nn m s [], 1, 1)
        | _ + 1 => none
      | some ⟨b, off, none⟩ => match hcells h b with
        | some cs => match Nat.ble len c with
          | true => match rdK (rdT h n) cs len off with
            | some (ks, s', d') => some (.mk o a nn m s ks, Nat.succ s', Nat.succ d')
            | none => none
          | false => none
        | none => none
      | some _ => none
    | _ => none
section
variable {P : Program} {N : Nat} {w0 : World} {ρ : Env} {h : Heap} {w : World} {nx : Nat}
theorem rvs_cons_inv {v : Value} {r VS : List Value} (e : rvs ρ (v :: r) = some VS) : ∃ V R, VS = V :: R ∧ rv ρ v = some V ∧ rvs ρ r = some R := by
  unfold rvs at e
  split at e
  · rename_i V R h1 h2
    cases e
    exact ⟨V, R, rfl, h1, h2⟩
  · cases e
theorem rvs_nil_inv {VS : List Value} (e : rvs ρ [] = some VS) : VS = [] := by simp [rvs] at e; exact e
def RdOk (ρ : Env) (w : World) (f : List Value → Option (T × Nat × Nat)) : Prop := ∀ xs t s d XS, f xs = some (t, s, d) → rvs ρ xs = some XS → ∃ u, XS = encT t u ∧ KR (memOf w) t.kids u ∧ s = t.size ∧ d = t.depth
theorem rdK_sound {f : List Value → Option (T × Nat × Nat)} (hf : RdOk ρ w f) {cs CS : List Value} {B : Nat} (hcs : rvs ρ cs = some CS) (hc : ∀ (j : Nat) (V : Value), CS[j]? = some V → w.cell? ⟨B, j, none⟩ = some V) :
    ∀ (k off : Nat) (ks : List T) (s d : Nat), rdK f cs k off = some (ks, s, d) → ks.length = k ∧ s = (ks.map T.size).sum ∧ d = T.dmax (ks.map T.depth) ∧
      ∃ us : Nat → Value, ∀ i t, ks[i]? = some t → MCells (memOf w) ⟨B, off + i * 6, none⟩ (encT t (us i)) ∧ KR (memOf w) t.kids (us i)
  | 0, off, ks, s, d, e => by
    simp only [rdK, Option.some.injEq, Prod.mk.injEq] at e
    obtain ⟨rfl, rfl, rfl⟩ := e
    exact ⟨rfl, rfl, rfl, fun _ => undef, fun i t hi => by simp at hi⟩
  | k + 1, off, ks, s, d, e => by
    unfold rdK at e
    split at e
    · rename_i xs hxs
      split at e
      · rename_i t s1 d1 hf1
        split at e
        · rename_i r s2 d2 hr
          simp only [Option.some.injEq, Prod.mk.injEq] at e
          obtain ⟨rfl, rfl, rfl⟩ := e
          obtain ⟨XS, h1, h2, h3⟩ := rvs_takeD hcs hxs
          obtain ⟨u, rfl, hk, rfl, rfl⟩ := hf _ _ _ _ _ hf1 h1
          obtain ⟨g1, g2, g3, us, g4⟩ := rdK_sound hf hcs hc k (off + 6) r s2 d2 hr
          refine ⟨by simp [g1], by simp [g2], ?_, fun i => match i with | 0 => u | i + 1 => us i, fun i t' hi => ?_⟩
          · show _ = max t.depth (T.dmax (r.map T.depth))
            rw [g3]
            cases hb : Nat.ble t.depth (T.dmax (r.map T.depth)) with
            | true =>
              have := ble_t hb
              simp only [cond_true]
              omega
            | false =>
              have : ¬ t.depth ≤ T.dmax (r.map T.depth) := fun hle => by
                rw [Nat.ble_eq_true_of_le hle] at hb
                cases hb
              simp only [cond_false]
              omega
          · cases i with
            | zero =>
              simp at hi
              subst hi
              refine ⟨fun j v hj => ?_, hk⟩
              have := MCell.of_cell (hc _ _ (h3 j v hj))
              rw [show off + 0 * 6 = off by omega, add_lit]
              exact this
            | succ i =>
              have h5 := g4 i t' (by simpa using hi)
              rw [show off + (i + 1) * 6 = off + 6 + i * 6 by omega]
              exact h5
        · cases e
      · cases e
    · cases e
theorem rdT_sound (r : HeapOk ρ h w) : ∀ n, RdOk ρ w (rdT h n)
  | 0 => fun xs t s d XS e => by cases e
  | n + 1 => fun xs t s d XS e hx => by
    unfold rdT at e
    split at e
    · rename_i o a nn m ss p len c
      obtain ⟨V0, R0, rfl, q0, hy1⟩ := rvs_cons_inv hx
      obtain ⟨V1, R1, rfl, q1, hy2⟩ := rvs_cons_inv hy1
      obtain ⟨V2, R2, rfl, q2, hy3⟩ := rvs_cons_inv hy2
      obtain ⟨V3, R3, rfl, q3, hy4⟩ := rvs_cons_inv hy3
      obtain ⟨V4, R4, rfl, q4, hy5⟩ := rvs_cons_inv hy4
      obtain ⟨V5, R5, rfl, q5, hy6⟩ := rvs_cons_inv hy5
      have := rvs_nil_inv hy6
      subst this
      have e0 := rv_nil q0 rfl
      have e1 := rv_nil q1 rfl
      have e2 := rv_nil q2 rfl
      have e3 := rv_nil q3 rfl
      have e4 := rv_nil q4 rfl
      subst e0 e1 e2 e3 e4
      split at e
      · split at e
        · have e5 := rv_nil q5 rfl
          subst e5
          simp only [Option.some.injEq, Prod.mk.injEq] at e
          obtain ⟨rfl, rfl, rfl⟩ := e
          exact ⟨_, rfl, KR.nil _ _ _, by rw [T.size_eq]; rfl, by rw [T.depth_eq]; rfl⟩
        · cases e
      · rename_i b off
        split at e
        · rename_i cs hcs
          split at e
          · rename_i hlc
            have hlc := ble_t hlc
            split at e
            · rename_i ks s' d' hk
              simp only [Option.some.injEq, Prod.mk.injEq] at e
              obtain ⟨rfl, rfl, rfl⟩ := e
              obtain ⟨B, C, CS, k1, k2, k3⟩ := hcells_sound r hcs
              obtain ⟨B', C', O', p1, p2⟩ := rv_slice q5
              rw [k1] at p1
              cases p1
              obtain ⟨g1, g2, g3, us, g4⟩ := rdK_sound (rdT_sound r n) k2 k3 len off ks s' d' hk
              obtain ⟨c', rfl, hc'⟩ : ∃ c', V5 = .slice (some ⟨B, off, none⟩) len c' ∧ len ≤ c' := by
                rcases p2 with ⟨_, rfl⟩ | ⟨_, h3, rfl⟩
                · exact ⟨c, by rw [Nat.zero_add], hlc⟩
                · exact ⟨_, by rw [Nat.zero_add], by omega⟩
              refine ⟨_, rfl, ?_, by rw [T.size_eq, g2]; simp only [T.kids]; omega, by rw [T.depth_eq, g3]; simp only [T.kids]; omega⟩
              subst g1
              exact .mk ks _ c' us hc' (fun i t hi => ⟨_, rfl, by rw [add_lit]; exact (g4 i t hi).1⟩) (fun i t hi => (g4 i t hi).2.one) (fun i t hi => (g4 i t hi).2)
            · cases e
          · cases e
        · cases e
      · cases e
    · cases e
def primT (f : FuncId) (sel : Nat × Nat → Nat) : CallF := fun g vs h nx => match Nat.beq g f with
  | true => match vs with
    | [.agg ⟨xs⟩] => match rdT h 300 xs with
      | some (_, s, d) => match Nat.ble s 100000 with
        | true => some (.int .i64 (.ofNat (sel (s, d))), h, nx)
        | false => none
      | none => none
    | _ => none
  | false => none
theorem primT_ok {f : FuncId} {sel : Nat × Nat → Nat} (hc : ∀ (t : T) (v : Value) (w : World) (μ : Go.Vcg.Mem), MOk μ w → TV μ t v → t.size ≤ 100000 → Calls P f #[v] w fun e w' => e = .returned (.int .i64 ((sel (t.size, t.depth) : Nat) : Int)) ∧ Below w.heap.size w w') : CallOk P w0 N (primT f sel) := by
  intro ρ h nx g vs VS w v h2 nx2 e r hg hvs R' hR
  unfold primT at e
  split at e
  · rename_i hgf
    have hgf := Nat.eq_of_beq_eq_true hgf
    subst hgf
    split at e
    · rename_i xs
      split at e
      · rename_i t s d hrd
        split at e
        · rename_i hs
          have hs := ble_t hs
          cases e
          obtain ⟨V, R0, rfl, q0, q1⟩ := rvs_cons_inv hvs
          have := rvs_nil_inv q1
          subst this
          obtain ⟨XS, q2, rfl⟩ := rv_agg q0
          obtain ⟨u, rfl, hk, rfl, rfl⟩ := rdT_sound r.ok 300 _ _ _ _ _ hrd q2
          refine (hc t (.agg ⟨encT t u⟩) w (memOf w) (memOf_ok w) ⟨u, rfl, hk⟩ hs).mono fun e w' he => ?_
          obtain ⟨rfl, hb⟩ := he
          exact hR ρ _ w' (Ev.refl _ _ _) (rv_flat2 rfl) (r.after ⟨hb.os, hb.tape, hb.output, hb.size, fun b hb' _ => hb.block b hb'⟩)
        · cases e
      · cases e
    · cases e
  · cases e
end
theorem bExtra : Builder.Extra Tryd.prog Tryd.lays156_ren := {
  sizeBuilder := by kernel_rfl
  liesBuilder := by kernel_rfl
  t5 := by kernel_rfl
  a5 := Go.Vcg.run_isAgg (by kernel_rfl)
  z5 := Go.Vcg.run_sizeOf (by kernel_rfl)
  v5 := Go.Vcg.run_zeroValue (by kernel_rfl)
  infoByte := by kernel_rfl
  cellsByte := by kernel_rfl
  sizeByte := by kernel_rfl
  neB5 := by decide }
theorem lays240 : Lays.n240 Tryd.prog Tryd.lays156_ren := { Tryd.lays156 with }
def prA : CallF := orCall (memoC memoN) (orCall (primT 13 Prod.fst) (orCall (primT 14 Prod.snd) (orCall (primCC 46 55) (primJoin 29))))
theorem prA_ok {w : World} (h : TabsOk 1000 w T1) : CallOk Tryd.prog w 1000 prA :=
  orCall_ok (memoC_ok (memoN_ok h)) (orCall_ok (primT_ok size_spec) (orCall_ok (primT_ok depth_spec) (orCall_ok
    (primCC_ok (fun b w h0 h1 h2 => Any.Builder_copyCheck_fresh lays240 bExtra.toX72 b w h0 h1 h2) (fun b w h0 => Any.Builder_copyCheck_used lays240 bExtra.toX72 b w h0))
    (primJoin_ok fun bk o c xs sep w h1 h2 h3 h4 h5 => Any.strings_Join Tryd.lays156 bExtra bk o c xs sep w h1 h2 h3 h4 h5))))
end Go.Proofs.YtllilkcocfalmaaDoor
