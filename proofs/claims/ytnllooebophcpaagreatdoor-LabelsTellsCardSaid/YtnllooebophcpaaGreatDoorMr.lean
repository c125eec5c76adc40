/- The law LabelsLands walked. (and what leans on it). No statement of the seat is proved here. -/
import Derived.Test.YtnllooebophcpaaGreatDoorMn
import Derived.Test.YtnllooebophcpaaGreatDoorSt
import Derived.Test.YtnllooebophcpaaGreatDoorMq
import Derived.Test.YtnllooebophcpaaGreatDoorRead
import Derived.Test.YtnllooebophcpaaGreatDoorTree
import Derived.Test.YtnllooebophcpaaGreatDoorMm
import Derived.Lib.LaidU8
import Derived.Lib.LaidTab
import Derived.Lay
import Derived.LaidOnce
import Derived.SevenTiedAt
import Derived.Test.YtnllooebophcpaaGreatDoorTie
import Derived.Test.YtnllooebophcpaaGreatDoorCards
set_option maxRecDepth 20000
set_option maxHeartbeats 2000000
namespace Go.Proofs.YtnllooebophcpaaGreatDoor
open Go.RowKit Go.Vcg
theorem lof_ok {t : T} {s : LS} (h : lofR t = .ok s) : rtB t 1 false = true ∧ (t.op = 4 ∨ t.op = 1) ∧ ofF 100000 t = .ok s := by
  unfold lofR at h
  split at h
  · rename_i hc
    exact ⟨hc.1, hc.2, h⟩
  · cases h
def TabM (μ : Mem) : Prop := ∀ g cs, (g, cs) ∈ T1 → g < 1000 ∧ Rex.flats cs = true ∧ ∃ t f, μ g = some (.cells cs.toArray t f)
theorem TabM.ok {μ μ' : Mem} {w : World} (h : TabM μ) (hle : MLe μ μ') (hw : MOk μ' w) : Rex.TabsOk 1000 w T1 := fun g cs hm => by
  obtain ⟨h1, h2, t, f, h3⟩ := h g cs hm
  exact ⟨h1, h2, t, f, hw _ _ (hle _ _ h3)⟩
attribute [local irreducible] ofF nodeF rtB G GC GQ GA GAop GI GCI GD Calls IntKind.wrap Int.decLt Int.decLe
end Go.Proofs.YtnllooebophcpaaGreatDoor
namespace Go.Proofs.YtnllooebophcpaaGreatDoor
open Go.RowKit Go.Vcg
def resOf (r : LRes) : RS × Int × Int := match r with
  | .ok s => ((s.marks, s.jumps), 0, 0)
  | .error x => (([], []), x)
theorem lof_form {r : LRes} {μ : Mem} {v : Value} (h : LofPost r μ v) : ∃ (A : Option Addr) (c : Nat) (B : Option Addr) (d : Nat), v = .tuple #[.slice A (resOf r).1.1.length c, .slice B (resOf r).1.2.length d, .int .i64 (resOf r).2.1, .int .i64 (resOf r).2.2] ∧ Sl encM 3 μ A (resOf r).1.1.length (resOf r).1.1 ∧ Sl encJ 2 μ B (resOf r).1.2.length (resOf r).1.2 := by
  cases r with
  | ok s => exact h
  | error x => exact ⟨none, 0, none, 0, h, Sl.nil _ _ _ _, Sl.nil _ _ _ _⟩
theorem rof_form {r : LRes} {r' : Except (Int × Int) RS} {μ : Mem} {v : Value} (ht : Tells r r') (h : RofPost r' μ v) : ∃ (A : Option Addr) (c : Nat) (B : Option Addr) (d : Nat), v = .agg #[.slice A (resOf r).1.1.length c, .slice B (resOf r).1.2.length d, .int .i64 (resOf r).2.1, .int .i64 (resOf r).2.2] ∧ Sl encM 3 μ A (resOf r).1.1.length (resOf r).1.1 ∧ Sl encJ 2 μ B (resOf r).1.2.length (resOf r).1.2 := by
  cases r with
  | ok s =>
    have : r' = .ok (s.marks, s.jumps) := ht
    subst this
    exact h
  | error x =>
    have : r' = .error x := ht
    subst this
    exact ⟨none, 0, none, 0, h, Sl.nil _ _ _ _, Sl.nil _ _ _ _⟩
theorem res_len {t : T} : (resOf (lofR t)).1.1.length ≤ t.size ∧ (resOf (lofR t)).1.2.length ≤ t.size := by
  cases h : lofR t with
  | ok s =>
    obtain ⟨_, _, h⟩ := lof_ok h
    exact (ofF_grew h).2
  | error x => exact ⟨Nat.zero_le _, Nat.zero_le _⟩
attribute [local irreducible] ofF nodeF rtB flatT refF resOf G GC GQ GA GAop GI GCI GD Calls IntKind.wrap Int.decLt Int.decLe
theorem tells_walk (t : T) (v : Value) (w : World) (μ : Mem) (hμ : MOk μ w) (hT : TabM μ) (hTA : TabA μ) (ht : TV μ t v) (hr : Ri t) :
    Calls Tryz.prog 3 #[v] w fun e w' => e = .returned (.bool true) ∧ Below w.heap.size w w' := by
  obtain ⟨u, rfl, hk⟩ := ht
  refine call_intro (args := [.agg (encT t u).toArray]) Tryz.func3 rfl Tryz.ntmps3 (by simp) hμ ?_
  have ho := hk.one
  repeat' (first | ((with_reducible show GC _ _ (Code.seq (Code.region 4 _ _) _) _ _ _ _); (apply gc_stop)) | refine KO ?_ | ((with_reducible apply F1 4); exact rfl; exact EN; (exact fun w μc hw hse => awake_spec (hT.ok hse.le hw))) | ((with_reducible apply F2 5); exact rfl; exact EN; (exact fun w hw => few_specS t _ w _ hw ⟨_, rfl, hk⟩); rintro v2 μ2 hle2 ⟨t2, ⟨u2, rfl, hk2⟩, hs2, hsh2⟩; (have ho2 := hk2.one)) | refine KI ?_ | refine NB fun b => ?_ | ((refine KB ?_ ?_ <;> intro hp)) | refine KG ?_ | fail)
  refine gcs ?_
  have hof := fun (w : World) (hw : MOk μ2 w) => lof_spec t2 u2 w μ2 hw hk2 (by omega) (hsh2 hr) (hTA.mono hle2)
  have hro := fun (μ3 : Mem) (hle : MLe μ2 μ3) (w : World) (hw : MOk μ3 w) => rOf_spec t2 u2 w μ3 hw (hk2.mono hle) (by omega) (hsh2 hr)
  have htl := tells (t := t2) (by omega)
  have hln := res_len (t := t2)
  generalize lofR t2 = r at hof htl hln
  have hf1 := fun (μ : Mem) (v : Value) => lof_form (r := r) (μ := μ) (v := v)
  have hf2 := fun (μ : Mem) (v : Value) => rof_form (μ := μ) (v := v) htl
  obtain ⟨⟨⟨M, J⟩, x⟩, hres⟩ : ∃ x, resOf r = x := ⟨_, rfl⟩
  rw [hres] at hf1 hf2 hln
  dsimp only at hf1 hf2 hln
  repeat' (first | ((with_reducible show GC _ _ (Code.seq (Code.seq (Code.region 6 _ _) _) _) _ _ _ _); (apply gc_stop)) | refine KO ?_ | ((with_reducible apply F2 6); exact rfl; exact EN; (exact fun w hw => hof w hw); rintro v3 μ3 hle3 hp3; (obtain ⟨A1, c1, A2, c2, rfl, hM1, hJ1⟩ := hf1 _ _ hp3)) | ((with_reducible apply F2 7); exact rfl; exact EN; (exact fun w hw => hro _ hle3 w hw); rintro v4 μ4 hle4 hp4; (obtain ⟨B1, d1, B2, d2, rfl, hM2, hJ2⟩ := hf2 _ _ hp4)) | refine KI ?_ | refine NB fun b => ?_ | ((refine KB ?_ ?_ <;> intro hp)) | refine KG ?_ | fail)
  refine gcs ?_
  rename_i bt
  repeat' (first | refine KK ?_ | refine NB fun b => ?_ | ((refine KB ?_ ?_ <;> intro hp)) | refine KG ?_ | fail)
  all_goals try (exfalso; omega)
  refine gc_loop (ι := Nat) (fun i => i ≤ M.length) (fun i => M.length - i) (fun _ => μ4) (fun i => [(8, .int .i64 i), (3, .slice A1 M.length c1), (4, .slice A2 J.length c2), (7, .pointer (some ⟨b, 0, none⟩))])
    (fun _ => [.inl ⟨b, 35, 4, [(0, .slice B1 M.length d1), (1, .slice B2 J.length d2), (2, .int .i64 x.1), (3, .int .i64 x.2)]⟩]) 0 (Nat.zero_le _) (fun a w hs => J5 hs) ?_
  intro i hil
  by_cases hlt : i < M.length
  · obtain ⟨ad, m, rfl, hmi, hm⟩ := (hM1.mono hle4).get hlt
    obtain ⟨ad2, m2, rfl, hmi2, hm2⟩ := hM2.get hlt
    obtain rfl : m = m2 := Option.some.inj (hmi.symm.trans hmi2)
    repeat' (first | refine KK ?_ | refine NB fun b => ?_ | ((refine KB ?_ ?_ <;> intro hp)) | refine KG ?_ | fail)
    refine gc_draw 40 _ (by kernel_rfl) rfl (List.Sublist.cons_cons _ (List.nil_sublist _)) ?_
    all_goals refine DD 0 ?_
    all_goals refine DD 1 ?_
    all_goals (first | refine D1 2 ?_ | (refine DV (k := 2) (b := by first | exact U1 i | exact U4 hm | exact U4 hm2) (c := ?_)) | refine DD 2 ?_ | fail)
    all_goals (first | refine D1 3 ?_ | (refine DV (k := 3) (b := by first | exact U1 i | exact U4 hm | exact U4 hm2) (c := ?_)) | refine DD 3 ?_ | fail)
    all_goals (first | refine D1 4 ?_ | (refine DV (k := 4) (b := by first | exact U1 i | exact U4 hm | exact U4 hm2) (c := ?_)) | (refine D3 4 (DW (b := by first | exact U1 i | exact U4 hm | exact U4 hm2) (c := ?_))) | refine DD 4 ?_ | fail)
    all_goals (first | refine D1 5 ?_ | (refine DV (k := 5) (b := by first | exact U1 i | exact U4 hm | exact U4 hm2) (c := ?_)) | refine DD 5 ?_ | fail)
    all_goals (first | refine D1 6 ?_ | (refine DV (k := 6) (b := by first | exact U1 i | exact U4 hm | exact U4 hm2) (c := ?_)) | (refine D3 6 (DW (b := by first | exact U1 i | exact U4 hm | exact U4 hm2) (c := ?_))) | refine DD 6 ?_ | fail)
    all_goals refine DD 7 ?_
    all_goals (first | refine D1 8 ?_ | (refine DV (k := 8) (b := by first | exact U1 i | exact U4 hm | exact U4 hm2) (c := ?_)) | refine DD 8 ?_ | fail)
    all_goals (first | refine D1 9 ?_ | (refine DV (k := 9) (b := by first | exact U1 i | exact U4 hm | exact U4 hm2) (c := ?_)) | refine DD 9 ?_ | fail)
    all_goals (first | refine D1 10 ?_ | (refine DV (k := 10) (b := by first | exact U1 i | exact U4 hm | exact U4 hm2) (c := ?_)) | (refine D3 10 (DW (b := by first | exact U1 i | exact U4 hm | exact U4 hm2) (c := ?_))) | refine DD 10 ?_ | fail)
    all_goals (first | refine D1 11 ?_ | (refine DV (k := 11) (b := by first | exact U1 i | exact U4 hm | exact U4 hm2) (c := ?_)) | refine DD 11 ?_ | fail)
    all_goals refine DD 12 ?_
    all_goals (try (refine D7 13 ?_; (repeat' (first | refine KO ?_ | (refine KB ?_ ?_ <;> intro hp)))))
    all_goals refine DD 13 ?_
    all_goals refine DD 14 ?_
    all_goals (first | refine D1 15 ?_ | (refine DV (k := 15) (b := by first | exact U1 i | exact U4 hm | exact U4 hm2) (c := ?_)) | refine DD 15 ?_ | fail)
    all_goals (first | refine D1 16 ?_ | (refine DV (k := 16) (b := by first | exact U1 i | exact U4 hm | exact U4 hm2) (c := ?_)) | refine DD 16 ?_ | fail)
    all_goals (first | refine D1 17 ?_ | (refine DV (k := 17) (b := by first | exact U1 i | exact U4 hm | exact U4 hm2) (c := ?_)) | (refine D3 17 (DW (b := by first | exact U1 i | exact U4 hm | exact U4 hm2) (c := ?_))) | refine DD 17 ?_ | fail)
    all_goals (first | refine D1 18 ?_ | (refine DV (k := 18) (b := by first | exact U1 i | exact U4 hm | exact U4 hm2) (c := ?_)) | refine DD 18 ?_ | fail)
    all_goals (first | refine D1 19 ?_ | (refine DV (k := 19) (b := by first | exact U1 i | exact U4 hm | exact U4 hm2) (c := ?_)) | (refine D3 19 (DW (b := by first | exact U1 i | exact U4 hm | exact U4 hm2) (c := ?_))) | refine DD 19 ?_ | fail)
    all_goals refine DD 20 ?_
    all_goals (first | refine D1 21 ?_ | (refine DV (k := 21) (b := by first | exact U1 i | exact U4 hm | exact U4 hm2) (c := ?_)) | refine DD 21 ?_ | fail)
    all_goals (first | refine D1 22 ?_ | (refine DV (k := 22) (b := by first | exact U1 i | exact U4 hm | exact U4 hm2) (c := ?_)) | refine DD 22 ?_ | fail)
    all_goals (first | refine D1 23 ?_ | (refine DV (k := 23) (b := by first | exact U1 i | exact U4 hm | exact U4 hm2) (c := ?_)) | (refine D3 23 (DW (b := by first | exact U1 i | exact U4 hm | exact U4 hm2) (c := ?_))) | refine DD 23 ?_ | fail)
    all_goals (first | refine D1 24 ?_ | (refine DV (k := 24) (b := by first | exact U1 i | exact U4 hm | exact U4 hm2) (c := ?_)) | refine DD 24 ?_ | fail)
    all_goals refine DD 25 ?_
    all_goals refine DD 26 ?_
    all_goals (try (refine D7 27 ?_; (repeat' (first | refine KO ?_ | (refine KB ?_ ?_ <;> intro hp)))))
    all_goals refine DD 27 ?_
    all_goals refine DD 28 ?_
    all_goals (first | refine D1 29 ?_ | (refine DV (k := 29) (b := by first | exact U1 i | exact U4 hm | exact U4 hm2) (c := ?_)) | refine DD 29 ?_ | fail)
    all_goals (first | refine D1 30 ?_ | (refine DV (k := 30) (b := by first | exact U1 i | exact U4 hm | exact U4 hm2) (c := ?_)) | refine DD 30 ?_ | fail)
    all_goals (first | refine D1 31 ?_ | (refine DV (k := 31) (b := by first | exact U1 i | exact U4 hm | exact U4 hm2) (c := ?_)) | (refine D3 31 (DW (b := by first | exact U1 i | exact U4 hm | exact U4 hm2) (c := ?_))) | refine DD 31 ?_ | fail)
    all_goals (first | refine D1 32 ?_ | (refine DV (k := 32) (b := by first | exact U1 i | exact U4 hm | exact U4 hm2) (c := ?_)) | refine DD 32 ?_ | fail)
    all_goals (first | refine D1 33 ?_ | (refine DV (k := 33) (b := by first | exact U1 i | exact U4 hm | exact U4 hm2) (c := ?_)) | (refine D3 33 (DW (b := by first | exact U1 i | exact U4 hm | exact U4 hm2) (c := ?_))) | refine DD 33 ?_ | fail)
    all_goals refine DD 34 ?_
    all_goals (first | refine D1 35 ?_ | (refine DV (k := 35) (b := by first | exact U1 i | exact U4 hm | exact U4 hm2) (c := ?_)) | refine DD 35 ?_ | fail)
    all_goals (first | refine D1 36 ?_ | (refine DV (k := 36) (b := by first | exact U1 i | exact U4 hm | exact U4 hm2) (c := ?_)) | refine DD 36 ?_ | fail)
    all_goals (first | refine D1 37 ?_ | (refine DV (k := 37) (b := by first | exact U1 i | exact U4 hm | exact U4 hm2) (c := ?_)) | (refine D3 37 (DW (b := by first | exact U1 i | exact U4 hm | exact U4 hm2) (c := ?_))) | refine DD 37 ?_ | fail)
    all_goals (first | refine D1 38 ?_ | (refine DV (k := 38) (b := by first | exact U1 i | exact U4 hm | exact U4 hm2) (c := ?_)) | refine DD 38 ?_ | fail)
    all_goals refine DD 39 ?_
    all_goals refine D8 ?_
    all_goals repeat' (first | refine KK ?_ | refine NB fun b => ?_ | ((refine KB ?_ ?_ <;> intro hp)) | refine KG ?_ | fail)
    all_goals first | (exfalso; omega) | exact J2 (i + 1) (by omega) (by omega)
  · obtain rfl : i = M.length := by omega
    repeat' (first | refine KK ?_ | refine NB fun b => ?_ | ((refine KB ?_ ?_ <;> intro hp)) | refine KG ?_ | fail)
    refine gc_loop (ι := Nat) (fun i => i ≤ J.length) (fun i => J.length - i) (fun _ => μ4) (fun i => [(9, .int .i64 i), (4, .slice A2 J.length c2), (7, .pointer (some ⟨b, 0, none⟩))])
      (fun _ => [.inl ⟨b, 35, 4, [(0, .slice B1 M.length d1), (1, .slice B2 J.length d2), (2, .int .i64 x.1), (3, .int .i64 x.2)]⟩]) 0 (Nat.zero_le _) (fun a w hs => J5 hs) ?_
    intro i hil
    by_cases hlt : i < J.length
    · obtain ⟨ad, m, rfl, hmi, hm⟩ := (hJ1.mono hle4).get hlt
      obtain ⟨ad2, m2, rfl, hmi2, hm2⟩ := hJ2.get hlt
      obtain rfl : m = m2 := Option.some.inj (hmi.symm.trans hmi2)
      repeat' (first | refine KK ?_ | refine NB fun b => ?_ | ((refine KB ?_ ?_ <;> intro hp)) | refine KG ?_ | fail)
      refine gc_draw 26 _ (by kernel_rfl) rfl (List.Sublist.cons_cons _ (List.nil_sublist _)) ?_
      all_goals refine DD 0 ?_
      all_goals refine DD 1 ?_
      all_goals (first | refine D1 2 ?_ | (refine DV (k := 2) (b := by first | exact U1 i | exact U4 hm | exact U4 hm2) (c := ?_)) | refine DD 2 ?_ | fail)
      all_goals (first | refine D1 3 ?_ | (refine DV (k := 3) (b := by first | exact U1 i | exact U4 hm | exact U4 hm2) (c := ?_)) | refine DD 3 ?_ | fail)
      all_goals (first | refine D1 4 ?_ | (refine DV (k := 4) (b := by first | exact U1 i | exact U4 hm | exact U4 hm2) (c := ?_)) | (refine D3 4 (DW (b := by first | exact U1 i | exact U4 hm | exact U4 hm2) (c := ?_))) | refine DD 4 ?_ | fail)
      all_goals (first | refine D1 5 ?_ | (refine DV (k := 5) (b := by first | exact U1 i | exact U4 hm | exact U4 hm2) (c := ?_)) | refine DD 5 ?_ | fail)
      all_goals (first | refine D1 6 ?_ | (refine DV (k := 6) (b := by first | exact U1 i | exact U4 hm | exact U4 hm2) (c := ?_)) | (refine D3 6 (DW (b := by first | exact U1 i | exact U4 hm | exact U4 hm2) (c := ?_))) | refine DD 6 ?_ | fail)
      all_goals refine DD 7 ?_
      all_goals (first | refine D1 8 ?_ | (refine DV (k := 8) (b := by first | exact U1 i | exact U4 hm | exact U4 hm2) (c := ?_)) | refine DD 8 ?_ | fail)
      all_goals (first | refine D1 9 ?_ | (refine DV (k := 9) (b := by first | exact U1 i | exact U4 hm | exact U4 hm2) (c := ?_)) | refine DD 9 ?_ | fail)
      all_goals (first | refine D1 10 ?_ | (refine DV (k := 10) (b := by first | exact U1 i | exact U4 hm | exact U4 hm2) (c := ?_)) | (refine D3 10 (DW (b := by first | exact U1 i | exact U4 hm | exact U4 hm2) (c := ?_))) | refine DD 10 ?_ | fail)
      all_goals (first | refine D1 11 ?_ | (refine DV (k := 11) (b := by first | exact U1 i | exact U4 hm | exact U4 hm2) (c := ?_)) | refine DD 11 ?_ | fail)
      all_goals refine DD 12 ?_
      all_goals (try (refine D7 13 ?_; (repeat' (first | refine KO ?_ | (refine KB ?_ ?_ <;> intro hp)))))
      all_goals refine DD 13 ?_
      all_goals refine DD 14 ?_
      all_goals (first | refine D1 15 ?_ | (refine DV (k := 15) (b := by first | exact U1 i | exact U4 hm | exact U4 hm2) (c := ?_)) | refine DD 15 ?_ | fail)
      all_goals (first | refine D1 16 ?_ | (refine DV (k := 16) (b := by first | exact U1 i | exact U4 hm | exact U4 hm2) (c := ?_)) | refine DD 16 ?_ | fail)
      all_goals (first | refine D1 17 ?_ | (refine DV (k := 17) (b := by first | exact U1 i | exact U4 hm | exact U4 hm2) (c := ?_)) | (refine D3 17 (DW (b := by first | exact U1 i | exact U4 hm | exact U4 hm2) (c := ?_))) | refine DD 17 ?_ | fail)
      all_goals (first | refine D1 18 ?_ | (refine DV (k := 18) (b := by first | exact U1 i | exact U4 hm | exact U4 hm2) (c := ?_)) | refine DD 18 ?_ | fail)
      all_goals (first | refine D1 19 ?_ | (refine DV (k := 19) (b := by first | exact U1 i | exact U4 hm | exact U4 hm2) (c := ?_)) | (refine D3 19 (DW (b := by first | exact U1 i | exact U4 hm | exact U4 hm2) (c := ?_))) | refine DD 19 ?_ | fail)
      all_goals refine DD 20 ?_
      all_goals (first | refine D1 21 ?_ | (refine DV (k := 21) (b := by first | exact U1 i | exact U4 hm | exact U4 hm2) (c := ?_)) | refine DD 21 ?_ | fail)
      all_goals (first | refine D1 22 ?_ | (refine DV (k := 22) (b := by first | exact U1 i | exact U4 hm | exact U4 hm2) (c := ?_)) | refine DD 22 ?_ | fail)
      all_goals (first | refine D1 23 ?_ | (refine DV (k := 23) (b := by first | exact U1 i | exact U4 hm | exact U4 hm2) (c := ?_)) | (refine D3 23 (DW (b := by first | exact U1 i | exact U4 hm | exact U4 hm2) (c := ?_))) | refine DD 23 ?_ | fail)
      all_goals (first | refine D1 24 ?_ | (refine DV (k := 24) (b := by first | exact U1 i | exact U4 hm | exact U4 hm2) (c := ?_)) | refine DD 24 ?_ | fail)
      all_goals refine DD 25 ?_
      all_goals refine D8 ?_
      all_goals repeat' (first | refine KK ?_ | refine NB fun b => ?_ | ((refine KB ?_ ?_ <;> intro hp)) | refine KG ?_ | fail)
      all_goals first | (exfalso; omega) | exact J2 (i + 1) (by omega) (by omega)
    · obtain rfl : i = J.length := by omega
      repeat' (first | refine KK ?_ | refine NB fun b => ?_ | ((refine KB ?_ ?_ <;> intro hp)) | refine KG ?_ | fail)
      all_goals first | (exfalso; omega) | exact ret_s rfl rfl rfl
end Go.Proofs.YtnllooebophcpaaGreatDoor
namespace Go.Proofs.YtnllooebophcpaaGreatDoor
open Go.ChangeShapes Go.WideShapes Go.ChangeAt Go.RowKit Go.Deep Go.Vcg
section
variable {H : Type} {enc : TypeId × Value → H} {W : World}
theorem wf_in {n : Int} (h : (Lit.int .i64 n).wf = true) : In64 n := by
  unfold In64
  unfold Lit.wf at h
  have h1 : (IntKind.i64).min = -9223372036854775808 := by decide
  have h2 : (IntKind.i64).max = 9223372036854775807 := by decide
  simp only [h1, h2, Bool.and_eq_true, decide_eq_true_eq] at h
  exact h
theorem node_readR : ∀ (fuel : Nat) {cs : List Value} {x : DataW H × List MemPlace}, DataW.trod enc Tryz.prog W 0 (fun _ => true) true fuel 24 cs = some x → ∃ (t : T) (u : Value), cs = encT t u ∧ KR (memOf W) t.kids u ∧ Ri t := by
  intro fuel
  induction fuel using Nat.strongRecOn with
  | _ fuel ih =>
    intro cs x h
    obtain ⟨xs, n, hfuel, hx, hlen, hxl, hf⟩ := DataW.trod_struct Tryz.underlying24 h
    have hl : cs.length = 6 := hlen.trans (by kernel_rfl)
    have fa := field_at' (t := 24) (by kernel_rfl) (by rw [hl]; rfl) hxl hf
    obtain ⟨c0, y0, e0, t0, g0⟩ := fa 0 _ rfl
    obtain ⟨c1, y1, e1, t1, g1⟩ := fa 1 _ rfl
    obtain ⟨c2, y2, e2, t2, g2⟩ := fa 2 _ rfl
    obtain ⟨c3, y3, e3, t3, g3⟩ := fa 3 _ rfl
    obtain ⟨c4, y4, e4, t4, g4⟩ := fa 4 _ rfl
    obtain ⟨c5, y5, e5, t5, g5⟩ := fa 5 _ rfl
    obtain ⟨a0, z0, u0, r0⟩ := DataW.trod_int Tryz.underlying3 t0
    obtain ⟨a1, z1, u1, r1⟩ := DataW.trod_int Tryz.underlying3 t1
    obtain ⟨a2, z2, u2, r2⟩ := DataW.trod_int Tryz.underlying3 t2
    obtain ⟨a3, z3, u3, r3⟩ := DataW.trod_int Tryz.underlying3 t3
    obtain ⟨a4, z4, u4, _⟩ := DataW.trod_string Tryz.underlying9 t4
    simp only [List.cons.injEq, and_true] at z0 z1 z2 z3 z4
    subst z0 z1 z2 z3 z4
    have hcs : cs = [.int .i64 a0, .int .i64 a1, .int .i64 a2, .int .i64 a3, .string a4, c5] := by
      match cs, hl with
      | [_, _, _, _, _, _], _ =>
        simp at e0 e1 e2 e3 e4 e5
        simp [e0, e1, e2, e3, e4, e5]
    have key : ∃ ks : List T, KR (memOf W) ks c5 ∧ ∀ k ∈ ks, Ri k := by
      rcases DataW.trod_slice Tryz.underlying22 t5 with ⟨h0, _⟩ | ⟨a, len, cap, elems, rest, k, hk, h0, _, hb, hle, hm, hlen', hel, _⟩
      · simp only [List.cons.injEq, and_true] at h0
        subst h0
        exact ⟨[], KR.nil _ _ _, fun k hk => by cases hk⟩
      · simp only [List.cons.injEq, and_true] at h0
        subst h0
        have hex : ∀ i, i < len → ∃ y : T × Value, MCells (memOf W) (a.add (i * 6)) (encT y.1 y.2) ∧ KR (memOf W) y.1.kids y.2 ∧ Ri y.1 := fun i hi => by
          have he := hel i hi
          rw [List.getElem?_eq_getElem (show i < elems.length by omega)] at he
          obtain ⟨cs', hc, ht'⟩ := Option.bind_eq_some_iff.1 he
          obtain ⟨t, u, rfl, hkr, hri⟩ := ih k (by omega) ht'
          refine ⟨(t, u), fun j v hv => ?_, hkr, hri⟩
          obtain ⟨_, hcl, hat⟩ := World.cells?_some hc
          have hs : Tryz.prog.cellsOf 24 = 6 := by kernel_rfl
          rw [hs] at hat hcl
          have hj : j < 6 := by
            have := (List.getElem?_eq_some_iff.1 hv).1
            simpa using this
          have := hat j hj
          rw [hv] at this
          exact MCell.of_cell this
        obtain ⟨l, hl1, hl2⟩ := exists_list len hex
        refine ⟨l.map (·.1), ?_, fun q hq => by
          obtain ⟨y, hy, rfl⟩ := List.mem_map.1 hq
          obtain ⟨i, hi⟩ := List.mem_iff_getElem?.1 hy
          exact (hl2 i y hi).2.2⟩
        have e : len = (l.map (·.1)).length := by simp [hl1]
        rw [e]
        refine .mk _ (some a) cap (fun i => match l[i]? with | some y => y.2 | none => undef) (by rw [← e]; exact hle) (fun i t hi => ?_) (fun i t hi => ?_) (fun i t hi => ?_)
        · rw [List.getElem?_map] at hi
          cases hy : l[i]? with
          | none => rw [hy] at hi; cases hi
          | some y =>
            rw [hy] at hi; cases hi
            exact ⟨a, rfl, (hl2 i y hy).1⟩
        · rw [List.getElem?_map] at hi
          cases hy : l[i]? with
          | none => rw [hy] at hi; cases hi
          | some y => simp only; exact (hl2 i y hy).2.1.one
        · rw [List.getElem?_map] at hi
          cases hy : l[i]? with
          | none => rw [hy] at hi; cases hi
          | some y =>
            rw [hy] at hi; cases hi
            exact (hl2 i y hy).2.1
    obtain ⟨ks, hks, hri⟩ := key
    exact ⟨.mk a0 a1 a2 a3 a4 ks, c5, hcs, hks, .mk (wf_in r0) (wf_in r2) (wf_in r3) hri⟩
theorem open_nodeR {r : Reach} {b0 : Nat} {v : Value} {d : DataW H} {p : List MemPlace} (hv : Value.okWide Tryz.prog W r b0 24 v) (h : DataW.Trod enc Tryz.prog W 0 (fun _ => true) true 24 v d p) : ∃ t : T, TV (memOf W) t v ∧ Ri t := by
  obtain ⟨fuel, hf⟩ := h
  obtain ⟨t, u, hc, hk, hri⟩ := node_readR fuel hf
  obtain ⟨cs, rfl, _⟩ := okWide_struct Tryz.underlying24 hv
  have hc : cs.toList = encT t u := by simpa [Value.cells] using hc
  exact ⟨t, ⟨u, by rw [← hc], hk⟩, hri⟩
end
end Go.Proofs.YtnllooebophcpaaGreatDoor
namespace Go.Proofs.YtnllooebophcpaaGreatDoor
open Go.ChangeShapes Go.WideShapes Go.ChangeAt Go.RowKit Go.Deep Go.Vcg
def aspI : List Int := List.replicate 9 0 ++ List.replicate 5 1 ++ List.replicate 18 0 ++ [1] ++ List.replicate 223 0
theorem tabM_of {W : World} {l : List (String × DataW Unit)} (h : laidMet Tryz.prog l W) (hm : ("strings.asciiSpace", Rows.laid_strings_asciiSpace) ∈ l) : TabM (memOf W) := fun g cs hgc => by
  have hgc' : g = 0 ∧ cs = asp := by simpa [T1] using hgc
  obtain ⟨rfl, rfl⟩ := hgc'
  refine ⟨by decide, by kernel_rfl, ?_⟩
  obtain ⟨g, t, cs, fuel, p, h1, h2, h3, h4⟩ := Lib.laidMet.reads h hm
  have hg : Tryz.prog.globalNamed "strings.asciiSpace" = some 0 := by kernel_rfl
  obtain rfl := Option.some.inj (hg.symm.trans h1)
  have ht : (Tryz.prog.globals[0]?).map (·.type) = some 113 := by kernel_rfl
  obtain rfl := Option.some.inj (ht.symm.trans h2)
  have hd : (Rows.laid_strings_asciiSpace : DataW Unit) = Lib.tabData .u8 aspI := by rfl
  rw [hd] at h4
  have hc := Lib.cells_of_tab Tryz.underlying113 Tryz.underlying5 (by kernel_rfl) (by kernel_rfl) h4
  unfold World.var? at h3
  rw [hg] at h3
  simp only [Option.bind_some] at h3
  cases hb : W.heap[0]? with
  | none => rw [hb] at h3; cases h3
  | some o =>
    rw [hb] at h3
    cases o <;> simp at h3
    rename_i cs' t f
    subst h3
    refine ⟨t, f, ?_⟩
    show W.heap[0]? = _
    have he : asp = List.map (fun z => Value.int IntKind.u8 z) aspI := by kernel_rfl
    rw [hb, he, ← hc]
theorem tabA_of {W : World} {l : List (String × DataW Unit)} (h : laidMet Tryz.prog l W) (hm : ("strings.asciiSpace", Rows.laid_strings_asciiSpace) ∈ l) : TabA (memOf W) := by
  obtain ⟨g, t, cs, fuel, p, h1, h2, h3, h4⟩ := Lib.laidMet.reads h hm
  have hg : Tryz.prog.globalNamed "strings.asciiSpace" = some 0 := by kernel_rfl
  obtain rfl := Option.some.inj (hg.symm.trans h1)
  have ht : (Tryz.prog.globals[0]?).map (·.type) = some 113 := by kernel_rfl
  obtain rfl := Option.some.inj (ht.symm.trans h2)
  have hd : (Rows.laid_strings_asciiSpace : DataW Unit) = Lib.tabData .u8 Lib.asciiSpaceTab := by rfl
  rw [hd] at h4
  have hc := Lib.cells_of_tab Tryz.underlying113 Tryz.underlying5 (by kernel_rfl) (by kernel_rfl) h4
  intro w hw
  unfold Lib.TabIs World.var?
  unfold World.var? at h3
  rw [hg] at h3 ⊢
  simp only [Option.bind_some] at h3 ⊢
  cases hb : W.heap[0]? with
  | none => rw [hb] at h3; cases h3
  | some o =>
    rw [hw _ o hb]
    rw [hb] at h3
    cases o <;> simp at h3
    rename_i cs' _ _
    subst h3
    simp only [Option.some.injEq]
    rw [← hc]
end Go.Proofs.YtnllooebophcpaaGreatDoor
