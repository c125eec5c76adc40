/- Package ir: the reader's function, walked. -/
import Derived.Test.YtoclmkdfcafhfaaGreatDoorZbb
set_option maxRecDepth 20000
set_option maxHeartbeats 2000000
namespace Go.Proofs.YtoclmkdfcafhfaaGreatDoor
section
open Go.RowKit Go.Vcg Ou
def fn1 (g : Nat) (k : Int) (s : List UInt8) : Iq.RdR F := match Ou.aO 10 s with
  | none => .error (k + 1, 8)
  | some (l, r) => match Iq.gH l with
    | none => .error (k + 1, 7)
    | some (nm, a, b, d) => match Iq.cN aP g 1 (k + 1) r with
      | .error e => .error e
      | .ok (t, r', k') => .ok (⟨ofB nm, a, b, d, t⟩, r', k')
def pK (s : List UInt8) (R : Iq.RdR F) (μ : Mem) (v : Value) (i : Int × Int × Int) : Prop := match R with
  | .ok (f, r, k') => (∃ a : Nat, i = ((a : Int), k', 0) ∧ a ≤ s.length ∧ s.drop a = r ∧ (0 ≤ k' ∧ k' ≤ a)) ∧ (∃ u, v = .agg (dS f u).toArray ∧ KR μ f.body.kids u) ∧ gU qN f.body
  | .error (k', c) => i.2.1 = k' ∧ i.2.2 = c ∧ c ≠ 0 ∧ ∃ f u, v = .agg (dS f u).toArray ∧ u.oneCell' = true
theorem LJ {g : Nat} {k : Int} {u : List UInt8} (h : Ou.aO 10 u = none) : fn1 g k u = .error (k + 1, 8) := by
  unfold fn1; rw [h]
theorem nT {g : Nat} {k : Int} {u x r : List UInt8} (h : Ou.aO 10 u = some (x, r)) (h2 : Iq.gH x = none) : fn1 g k u = .error (k + 1, 7) := by
  unfold fn1; rw [h]; dsimp only; rw [h2]
theorem iY {s : List UInt8} {R : Iq.RdR F} {k' c : Int} (h : R = .error (k', c)) (hc : c ≠ 0) (μ : Mem) (a : Int) (f : F) (u : Value) (ho : u.oneCell' = true) : pK s R μ (.agg (dS f u).toArray) (a, k', c) := by
  subst h; exact ⟨rfl, rfl, hc, f, u, rfl, ho⟩
theorem HQ : ∀ (k : Nat) (l u : List UInt8), u ∈ eI k l → u.length ≤ l.length
  | 0, l, u, h => by
    have : u = l := by simpa [eI] using h
    rw [this]; exact Nat.le_refl _
  | k + 1, l, u, h => by
    unfold eI at h
    cases hc : Ou.aO 32 l with
    | none =>
      rw [hc] at h
      have : u = l := by simpa using h
      rw [this]; exact Nat.le_refl _
    | some p =>
      obtain ⟨a, r⟩ := p
      rw [hc] at h
      have h2 := (cS hc).2
      rcases List.mem_cons.1 h with rfl | h
      · omega
      · have := HQ k r u h
        omega
theorem TX {g k : Nat} {line v1 v2 v3 : Int} {s x r vq : List UInt8} {t5 : T} {u5 : Value} {i : Int × Int × Int} {μ5 μ' : Mem} (hc : Ou.aO 10 (s.drop k) = some (x, r)) (hf : Iq.gH x = some (vq, v1, v2, v3)) (ho5 : u5.oneCell' = true)
    (hc5 : (∃ (a : Nat) (r' : List UInt8) (k' : Int), Iq.cN aP g 1 (line + 1) r = .ok (t5, r', k') ∧ i = ((a : Int), k', 0) ∧ a ≤ s.length ∧ s.drop a = r' ∧ (0 ≤ k' ∧ k' ≤ a) ∧ KR μ5 t5.kids u5 ∧ gU qN t5) ∨ (∃ k' c, Iq.cN aP g 1 (line + 1) r = .error (k', c) ∧ i.2 = (k', c) ∧ c ≠ 0)) (hle : MLe μ5 μ') :
    pK s (fn1 g line (s.drop k)) μ' (.agg (dS ⟨ofB vq, v1, v2, v3, t5⟩ u5).toArray) i := by
  rcases hc5 with ⟨a, r', k', h1, h2, h3, h4, h5, h6, h7⟩ | ⟨k', c, h1, h2, h3⟩
  · have e : fn1 g line (s.drop k) = .ok (⟨ofB vq, v1, v2, v3, t5⟩, r', k') := by unfold fn1; rw [hc]; dsimp only; rw [hf]; dsimp only; rw [h1]
    rw [e]
    exact ⟨⟨a, h2, h3, h4, h5⟩, ⟨u5, rfl, h6.mono hle⟩, h7⟩
  · have e : fn1 g line (s.drop k) = .error (k', c) := by unfold fn1; rw [hc]; dsimp only; rw [hf]; dsimp only; rw [h1]
    rw [e]
    exact ⟨congrArg Prod.fst h2, congrArg Prod.snd h2, h3, _, u5, rfl, ho5⟩
abbrev HA : F := ⟨⟨#[]⟩, 0, 0, 0, .mk 0 0 0 0 ⟨#[]⟩ []⟩
attribute [local irreducible] nmL eI nL Iq.bI Iq.gH Iq.pre G GC GQ GA bO Calls IntKind.wrap Int.decLt Int.decLe
theorem AH (g : Nat) (rb : Nat) (s : List UInt8) (hs : s.length ≤ 1000000) (m k : Nat) (hk : k ≤ s.length) (hg : 2 * (s.length - k) + 2 ≤ g) (line : Int) (hl : 0 ≤ line ∧ line ≤ k) (w : World) (μ : Mem) (hμ : MOk μ w) (hmq : fY μ) (hT : kN μ) (hnm : RB μ m) (hO : Go.Vcg.Own μ (rdI rb (s, (k : Int), line, 0, m)) w) :
    Calls Tryz.prog 32 #[.pointer (some ⟨rb, 0, none⟩)] w (RiN (bS (rdI rb (s, (k : Int), line, 0, m))) w μ rb s m (pK s (fn1 g line (s.drop k)))) := by
  have hcnt := bE hO.diff
  refine aQ (args := [.pointer (some ⟨rb, 0, none⟩)]) Tryz.func32 rfl Tryz.ntmps32 (by simp) hμ hO ?_
  show GC _ _ _ _ _ _ [.inl ⟨rb, 55, 5, [(0, .string (ofB s)), (1, .int .i64 (k : Int)), (2, .int .i64 line), (3, .int .i64 0), (4, .map (some m))]⟩]
  repeat' (first | ((with_reducible show GC _ _ (Code.seq (Code.region 1 _ _) _) _ _ _ _); (apply aY)) | refine KK ?_ | refine NB fun b => ?_ | fail)
  refine gcs ?_
  refine bY (l' := [(2, .pointer (some ⟨b, 0, none⟩)), (0, .pointer (some ⟨rb, 0, none⟩))]) (L' := [.inl ⟨rb, 55, 5, [(0, .string (ofB s)), (1, .int .i64 (k : Int)), (2, .int .i64 line), (3, .int .i64 0), (4, .map (some m))]⟩, .inl ⟨b, 44, 10, []⟩]) PU PS ?_
  cases hc : Ou.aO 10 (s.drop k) with
  | none =>
    repeat' (first | refine KO ?_ | (refine CF 29 ?_; (with_reducible apply aA 1); (iterate 3 exact rfl); ((with_reducible apply dV); kernel_rfl; exact rfl); exact rfl; (exact fun w hw hO => EE rb s k line 0 m hc hk (by omega) (by omega) w _ hw hO); (rintro v2 μ2 ⟨⟩ hle2 rfl); (dsimp only [List.cons_append, List.nil_append])) | refine KI ?_ | fail)
    all_goals first | skip
    exact aS (Ls := fun i : Int × Int × Int => rdI rb (s, i.1, i.2.1, i.2.2, m)) (Post := pK s (fn1 g line (s.drop k))) 1 ((k : Int), line + 1, 8) hcnt rfl (RG (vs := [.string ⟨#[]⟩, .int .i64 0, .int .i64 0, .int .i64 0, .int .i64 0, .int .i64 0, .int .i64 0, .int .i64 0, .string ⟨#[]⟩, .slice none 0 0]) 1 rfl rfl rfl rfl rfl) rfl rfl (fun μ' hle' => iY (LJ hc) (by decide) _ _ HA (.slice none 0 0) rfl)
  | some p =>
    obtain ⟨x, r⟩ := p
    have hxl := (cS hc).2
    rw [List.length_drop] at hxl
    repeat' (first | ((with_reducible show GC _ _ (Code.seq (Code.region 5 _ _) _) _ _ _ _); (apply aY)) | refine KO ?_ | (refine CF 29 ?_; (with_reducible apply aA 1); (iterate 3 exact rfl); ((with_reducible apply dV); kernel_rfl; exact rfl); exact rfl; (exact fun w hw hO => ED rb s k line 0 m hc hk (by omega) (by omega) w _ hw hO); (rintro v2 μ2 ⟨⟩ hle2 rfl); (dsimp only [List.cons_append, List.nil_append])) | ((with_reducible apply F1 28); exact rfl; exact EN; (exact fun w μc hw hse => LY x w μc hw)) | refine KI ?_ | fail)
    all_goals first | skip
    obtain ⟨y, hy⟩ : ∃ y, (Iq.pre Iq.iX x).getD x = y := ⟨_, rfl⟩
    obtain ⟨ok, hok⟩ : ∃ ok, (Iq.pre Iq.iX x).isSome = ok := ⟨_, rfl⟩
    rw [hy, hok]
    have hyl : y.length ≤ x.length := by
      rw [← hy]
      cases hp : Iq.pre Iq.iX x with
      | none => exact Nat.le_refl _
      | some z =>
        have := congrArg List.length (Iq.pre_some hp)
        rw [List.length_append] at this
        show z.length ≤ _
        omega
    have hq := KN y
    have hsz := bF y
    obtain ⟨q, hqe⟩ : ∃ q, Iq.bI y = q := ⟨_, rfl⟩
    have hlq := fun (w : World) (μc : Mem) (hw : MOk μc w) => PQ y (by omega) w μc hw
    rw [hqe] at hlq hq
    have hspl := fun (w : World) (μc : Mem) (hw : MOk μc w) (hm : fY μc) => MZ (y.drop q) (by rw [List.length_drop]; omega) w μc hw hm
    rw [← sQ] at hspl
    obtain ⟨ps, hps⟩ : ∃ ps, nL (y.drop q) = ps := ⟨_, rfl⟩
    rw [hps] at hspl
    refine gcs ?_
    repeat' (first | ((with_reducible show GC _ _ (Code.seq (Code.seq (Code.region 7 _ _) _) _) _ _ _ _); (apply aY)) | refine KO ?_ | ((with_reducible apply F1 62); exact rfl; exact EN; (exact fun w μc hw hse => hlq w μc hw)) | (refine CF 63 ?_; (with_reducible apply aA (Ls := fun i => [.inl ⟨i, 9, ps.length, idx 0 (kL ps)⟩]) 0); (iterate 3 exact rfl); ((with_reducible apply aL); kernel_rfl; exact rfl; exact rfl); exact rfl; (exact fun w hw _ => hspl w _ hw (hmq.mono hle2)); (rintro v3 μ3 i3 hle3 rfl); (dsimp only [List.cons_append, List.nil_append])) | (refine KV (b := by ((with_reducible apply iP q); (iterate 3 exact rfl); omega; omega)) (c := ?_)) | refine KI ?_ | fail)
    all_goals first | skip
    refine gcs ?_
    rcases fun_cases x with ⟨rest, w1, w2, w3, hp, hsp, hfn⟩ | ⟨hfn, hno⟩
    · have ho : ok = true := by rw [← hok, hp]; rfl
      have hyr : rest = y := by rw [← hy, hp]; rfl
      subst hyr
      subst ho
      rw [hqe] at hsp hfn
      have hpe : ps = [[], w1, w2, w3] := hps.symm.trans hsp
      subst hpe
      have hT3 := hT.mono (hle2.trans hle3)
      have hnl : ∀ u ∈ ([[], w1, w2, w3] : List (List UInt8)), u.length ≤ 1000000 := fun u hu => by
        have h1 : u ∈ nL (rest.drop q) := by rw [hsp]; exact hu
        rw [nL] at h1
        have h2 := HQ _ _ u h1
        rw [List.length_drop] at h2
        omega
      have y1 := hnl w1 (by simp)
      have y2 := hnl w2 (by simp)
      have y3 := hnl w3 (by simp)
      have hquo := fun (w : World) (μc : Mem) (hw : MOk μc w) hO => xL (rest.take q) rb (s, ((k + x.length + 1 : Nat) : Int), line + 1, 0, m) (by rw [List.length_take]; omega) w μc hw hO
      rw [← LL] at hquo
      have hn1 := fun (w : World) (μc : Mem) (hw : MOk μc w) (hT : kN μc) hO => eK w1 (-9007199254740992) 9007199254740992 rb (s, ((k + x.length + 1 : Nat) : Int), line + 1, (okS (cE (rest.take q)).isSome 0 7), m) y1 w μc hw hT hO
      have hn2 := fun (w : World) (μc : Mem) (hw : MOk μc w) (hT : kN μc) hO => eK w2 (-9007199254740992) 9007199254740992 rb (s, ((k + x.length + 1 : Nat) : Int), line + 1, (okS (aV (-9007199254740992) 9007199254740992 w1).isSome (okS (cE (rest.take q)).isSome 0 7) 7), m) y2 w μc hw hT hO
      have hn3 := fun (w : World) (μc : Mem) (hw : MOk μc w) (hT : kN μc) hO => eK w3 (-9007199254740992) 9007199254740992 rb (s, ((k + x.length + 1 : Nat) : Int), line + 1, (okS (aV (-9007199254740992) 9007199254740992 w2).isSome (okS (aV (-9007199254740992) 9007199254740992 w1).isSome (okS (cE (rest.take q)).isSome 0 7) 7) 7), m) y3 w μc hw hT hO
      refine bY (l' := [(7, .slice (some ⟨i3, 0, none⟩) 4 4), (6, .int .i64 ((q : Int) - 1 + 1)), (5, .bool true), (4, .string (ofB rest)), (2, .pointer (some ⟨b, 0, none⟩)), (0, .pointer (some ⟨rb, 0, none⟩))]) (L' := [.inl ⟨rb, 55, 5, [(0, .string (ofB s)), (1, .int .i64 ((k + x.length + 1 : Nat) : Int)), (2, .int .i64 (line + 1)), (3, .int .i64 0), (4, .map (some m))]⟩, .inl ⟨i3, 9, 4, idx 0 (kL [[], w1, w2, w3])⟩, .inl ⟨b, 44, 10, []⟩]) PU PS ?_
      repeat' (first | ((with_reducible show GC _ _ (Code.seq (Code.region 10 _ _) _) _ _ _ _); (apply aY)) | refine KO ?_ | (refine KV (b := by exact U1 0) (c := ?_)) | refine KI ?_ | fail)
      all_goals first | skip
      refine gcs ?_
      refine cM (ι := Mem × Nat) (fun i => MLe μ3 i.1) (fun i => i.1) (fun i => [(8, .pointer (some ⟨i.2, 0, none⟩)), (2, .pointer (some ⟨b, 0, none⟩)), (0, .pointer (some ⟨rb, 0, none⟩))]) (fun i => [.inl ⟨rb, 55, 5, [(0, .string (ofB s)), (1, .int .i64 ((k + x.length + 1 : Nat) : Int)), (2, .int .i64 (line + 1)), (3, .int .i64 (okS (aV (-9007199254740992) 9007199254740992 w3).isSome (okS (aV (-9007199254740992) 9007199254740992 w2).isSome (okS (aV (-9007199254740992) 9007199254740992 w1).isSome (okS (cE (rest.take q)).isSome 0 7) 7) 7) 7)), (4, .map (some m))]⟩, .inl ⟨i.2, 44, 10, idx 0 [.string (ofB (sD (rest.take q))), .int .i64 (fT (-9007199254740992) 9007199254740992 w1), .int .i64 (fT (-9007199254740992) 9007199254740992 w2), .int .i64 (fT (-9007199254740992) 9007199254740992 w3), .int .i64 0, .int .i64 0, .int .i64 0, .int .i64 0, .string ⟨#[]⟩, .slice none 0 0]⟩, .inl ⟨b, 44, 10, []⟩]) ?_ ?_
      · have hleZ : MLe μ3 μ3 := MLe.refl _
        refine aN 23 _ (by kernel_rfl) rfl (List.Sublist.cons _ (List.Sublist.cons_cons _ (List.Sublist.cons_cons _ (List.nil_sublist _)))) ?_
        all_goals (first | refine D1 0 ?_ | fail)
        all_goals (first | refine D1 1 ?_ | fail)
        all_goals (first | refine D1 2 ?_ | fail)
        all_goals (first | (refine DV (k := 3) (b := by ((with_reducible apply oG q); (iterate 3 exact rfl); omega; omega)) (c := ?_)) | fail)
        all_goals (first | refine D1 5 ?_ | fail)
        all_goals (first | refine D1 6 ?_ | fail)
        all_goals (first | (refine DV (k := 7) (b := by exact U1 1) (c := ?_)) | fail)
        all_goals (first | refine DD 8 ?_ | fail)
        all_goals (first | refine D1 10 ?_ | fail)
        all_goals (first | refine D1 11 ?_ | fail)
        all_goals (first | (refine DV (k := 12) (b := by exact U1 2) (c := ?_)) | fail)
        all_goals (first | refine DD 13 ?_ | fail)
        all_goals (first | refine D1 15 ?_ | fail)
        all_goals (first | refine D1 16 ?_ | fail)
        all_goals (first | (refine DV (k := 17) (b := by exact U1 3) (c := ?_)) | fail)
        all_goals (first | refine DD 18 ?_ | fail)
        refine bT 4 21 (by kernel_rfl) ?dr28_4 ?dr28_21
        case' dr28_4 =>
          ((refine D5 ?_; (first | ((with_reducible apply aA 1); (iterate 3 exact rfl); ((with_reducible apply aL); kernel_rfl; exact rfl; exact rfl); exact rfl; (exact fun w5 hw5 hO5 => hquo w5 _ hw5 hO5); (rintro v2 μ5 ⟨⟩ hle5 rfl); (have hT3 := hT3.mono hle5); (have hleZ := MLe.trans hleZ hle5); (dsimp only [List.cons_append, List.nil_append])) | fail); refine D9 ?_))
          refine bT 9 21 (by kernel_rfl) ?dr29_9 ?dr29_21
          case' dr29_9 =>
            ((refine D5 ?_; (first | ((with_reducible apply aA 1); (iterate 3 exact rfl); ((with_reducible apply cC); kernel_rfl; (iterate 4 exact rfl)); exact rfl; (exact fun w5 hw5 hO5 => hn1 w5 _ hw5 hT3 hO5); (rintro v2 μ5 ⟨⟩ hle5 rfl); (have hT3 := hT3.mono hle5); (have hleZ := MLe.trans hleZ hle5); (dsimp only [List.cons_append, List.nil_append])) | fail); refine D9 ?_))
            refine bT 14 21 (by kernel_rfl) ?dr30_14 ?dr30_21
            case' dr30_14 =>
              ((refine D5 ?_; (first | ((with_reducible apply aA 1); (iterate 3 exact rfl); ((with_reducible apply cC); kernel_rfl; (iterate 4 exact rfl)); exact rfl; (exact fun w5 hw5 hO5 => hn2 w5 _ hw5 hT3 hO5); (rintro v2 μ5 ⟨⟩ hle5 rfl); (have hT3 := hT3.mono hle5); (have hleZ := MLe.trans hleZ hle5); (dsimp only [List.cons_append, List.nil_append])) | fail); refine D9 ?_))
              refine bT 19 21 (by kernel_rfl) ?dr31_19 ?dr31_21
              case' dr31_19 =>
                ((refine D5 ?_; (first | ((with_reducible apply aA 1); (iterate 3 exact rfl); ((with_reducible apply cC); kernel_rfl; (iterate 4 exact rfl)); exact rfl; (exact fun w5 hw5 hO5 => hn3 w5 _ hw5 hT3 hO5); (rintro v2 μ5 ⟨⟩ hle5 rfl); (have hT3 := hT3.mono hle5); (have hleZ := MLe.trans hleZ hle5); (dsimp only [List.cons_append, List.nil_append])) | fail); refine D9 ?_))
                all_goals (first | refine D1 20 ?_ | fail)
                all_goals ((refine D3 21 ?_; refine D5 ?_; refine NB fun b => ?_; refine D9 ?_))
                all_goals ((refine D3 22 ?_; refine D5 ?_; refine Y0 ?_; refine D9 ?_))
                all_goals refine D8 ?_
              case' dr31_21 =>
                ((refine D5 ?_; refine NB fun b => ?_; refine D9 ?_))
                all_goals ((refine D3 19 ?_; refine D5 ?_; (first | ((with_reducible apply dR); (with_reducible apply aA 1); (iterate 3 exact rfl); ((with_reducible apply cC); kernel_rfl; (iterate 4 exact rfl)); exact rfl; (exact fun w5 hw5 hO5 => hn3 w5 _ hw5 hT3 hO5); (rintro v2 μ5 ⟨⟩ hle5 rfl); (have hT3 := hT3.mono hle5); (have hleZ := MLe.trans hleZ hle5); (dsimp only [List.cons_append, List.nil_append]); (with_reducible apply dR)) | fail); refine D9 ?_))
                all_goals (first | refine D1 20 ?_ | fail)
                all_goals ((refine D3 22 ?_; refine D5 ?_; refine Y0 ?_; refine D9 ?_))
                all_goals refine D8 ?_
            case' dr30_21 =>
              ((refine D5 ?_; refine NB fun b => ?_; refine D9 ?_))
              all_goals ((refine D3 14 ?_; refine D5 ?_; (first | ((with_reducible apply dR); (with_reducible apply aA 1); (iterate 3 exact rfl); ((with_reducible apply cC); kernel_rfl; (iterate 4 exact rfl)); exact rfl; (exact fun w5 hw5 hO5 => hn2 w5 _ hw5 hT3 hO5); (rintro v2 μ5 ⟨⟩ hle5 rfl); (have hT3 := hT3.mono hle5); (have hleZ := MLe.trans hleZ hle5); (dsimp only [List.cons_append, List.nil_append]); (with_reducible apply dR)) | fail); refine D9 ?_))
              all_goals ((refine D3 19 ?_; refine D5 ?_; (first | ((with_reducible apply dR); (with_reducible apply aA 1); (iterate 3 exact rfl); ((with_reducible apply cC); kernel_rfl; (iterate 4 exact rfl)); exact rfl; (exact fun w5 hw5 hO5 => hn3 w5 _ hw5 hT3 hO5); (rintro v2 μ5 ⟨⟩ hle5 rfl); (have hT3 := hT3.mono hle5); (have hleZ := MLe.trans hleZ hle5); (dsimp only [List.cons_append, List.nil_append]); (with_reducible apply dR)) | fail); refine D9 ?_))
              all_goals (first | refine D1 20 ?_ | fail)
              all_goals ((refine D3 22 ?_; refine D5 ?_; refine Y0 ?_; refine D9 ?_))
              all_goals refine D8 ?_
          case' dr29_21 =>
            ((refine D5 ?_; refine NB fun b => ?_; refine D9 ?_))
            all_goals ((refine D3 9 ?_; refine D5 ?_; (first | ((with_reducible apply dR); (with_reducible apply aA 1); (iterate 3 exact rfl); ((with_reducible apply cC); kernel_rfl; (iterate 4 exact rfl)); exact rfl; (exact fun w5 hw5 hO5 => hn1 w5 _ hw5 hT3 hO5); (rintro v2 μ5 ⟨⟩ hle5 rfl); (have hT3 := hT3.mono hle5); (have hleZ := MLe.trans hleZ hle5); (dsimp only [List.cons_append, List.nil_append]); (with_reducible apply dR)) | fail); refine D9 ?_))
            all_goals ((refine D3 14 ?_; refine D5 ?_; (first | ((with_reducible apply dR); (with_reducible apply aA 1); (iterate 3 exact rfl); ((with_reducible apply cC); kernel_rfl; (iterate 4 exact rfl)); exact rfl; (exact fun w5 hw5 hO5 => hn2 w5 _ hw5 hT3 hO5); (rintro v2 μ5 ⟨⟩ hle5 rfl); (have hT3 := hT3.mono hle5); (have hleZ := MLe.trans hleZ hle5); (dsimp only [List.cons_append, List.nil_append]); (with_reducible apply dR)) | fail); refine D9 ?_))
            all_goals ((refine D3 19 ?_; refine D5 ?_; (first | ((with_reducible apply dR); (with_reducible apply aA 1); (iterate 3 exact rfl); ((with_reducible apply cC); kernel_rfl; (iterate 4 exact rfl)); exact rfl; (exact fun w5 hw5 hO5 => hn3 w5 _ hw5 hT3 hO5); (rintro v2 μ5 ⟨⟩ hle5 rfl); (have hT3 := hT3.mono hle5); (have hleZ := MLe.trans hleZ hle5); (dsimp only [List.cons_append, List.nil_append]); (with_reducible apply dR)) | fail); refine D9 ?_))
            all_goals (first | refine D1 20 ?_ | fail)
            all_goals ((refine D3 22 ?_; refine D5 ?_; refine Y0 ?_; refine D9 ?_))
            all_goals refine D8 ?_
        case' dr28_21 =>
          ((refine D5 ?_; refine NB fun b => ?_; refine D9 ?_))
          all_goals ((refine D3 4 ?_; refine D5 ?_; (first | ((with_reducible apply dR); (with_reducible apply aA 1); (iterate 3 exact rfl); ((with_reducible apply aL); kernel_rfl; exact rfl; exact rfl); exact rfl; (exact fun w5 hw5 hO5 => hquo w5 _ hw5 hO5); (rintro v2 μ5 ⟨⟩ hle5 rfl); (have hT3 := hT3.mono hle5); (have hleZ := MLe.trans hleZ hle5); (dsimp only [List.cons_append, List.nil_append]); (with_reducible apply dR)) | fail); refine D9 ?_))
          all_goals ((refine D3 9 ?_; refine D5 ?_; (first | ((with_reducible apply dR); (with_reducible apply aA 1); (iterate 3 exact rfl); ((with_reducible apply cC); kernel_rfl; (iterate 4 exact rfl)); exact rfl; (exact fun w5 hw5 hO5 => hn1 w5 _ hw5 hT3 hO5); (rintro v2 μ5 ⟨⟩ hle5 rfl); (have hT3 := hT3.mono hle5); (have hleZ := MLe.trans hleZ hle5); (dsimp only [List.cons_append, List.nil_append]); (with_reducible apply dR)) | fail); refine D9 ?_))
          all_goals ((refine D3 14 ?_; refine D5 ?_; (first | ((with_reducible apply dR); (with_reducible apply aA 1); (iterate 3 exact rfl); ((with_reducible apply cC); kernel_rfl; (iterate 4 exact rfl)); exact rfl; (exact fun w5 hw5 hO5 => hn2 w5 _ hw5 hT3 hO5); (rintro v2 μ5 ⟨⟩ hle5 rfl); (have hT3 := hT3.mono hle5); (have hleZ := MLe.trans hleZ hle5); (dsimp only [List.cons_append, List.nil_append]); (with_reducible apply dR)) | fail); refine D9 ?_))
          all_goals ((refine D3 19 ?_; refine D5 ?_; (first | ((with_reducible apply dR); (with_reducible apply aA 1); (iterate 3 exact rfl); ((with_reducible apply cC); kernel_rfl; (iterate 4 exact rfl)); exact rfl; (exact fun w5 hw5 hO5 => hn3 w5 _ hw5 hT3 hO5); (rintro v2 μ5 ⟨⟩ hle5 rfl); (have hT3 := hT3.mono hle5); (have hleZ := MLe.trans hleZ hle5); (dsimp only [List.cons_append, List.nil_append]); (with_reducible apply dR)) | fail); refine D9 ?_))
          all_goals (first | refine D1 20 ?_ | fail)
          all_goals ((refine D3 22 ?_; refine D5 ?_; refine Y0 ?_; refine D9 ?_))
          all_goals refine D8 ?_
        all_goals exact J1 (_, b) hleZ
      rintro ⟨μ6, bn⟩ hle6
      dsimp only at hle6
      have hle7 : MLe μ μ6 := hle2.trans (hle3.trans hle6)
      generalize he5 : (okS (aV (-9007199254740992) 9007199254740992 w3).isSome (okS (aV (-9007199254740992) 9007199254740992 w2).isSome (okS (aV (-9007199254740992) 9007199254740992 w1).isSome (okS (cE (rest.take q)).isSome 0 7) 7) 7) 7) = e5
      generalize hvq : sD (rest.take q) = vq
      generalize hv1 : fT (-9007199254740992) 9007199254740992 w1 = v1
      generalize hv2 : fT (-9007199254740992) 9007199254740992 w2 = v2
      generalize hv3 : fT (-9007199254740992) 9007199254740992 w3 = v3
      cases hM : sO (rest.take q) w1 w2 w3 with
      | none =>
        have he : e5 = 7 := by
          rw [← he5, gL, gL, gL]
          unfold sO at hM
          cases h0 : cE (rest.take q) <;> cases h1 : Iq.cU w1 <;> cases h2 : Iq.cU w2 <;> cases h3 : Iq.cU w3 <;> first | rfl | (rw [h0, h1, h2, h3] at hM; cases hM)
        subst he
        repeat' (first | refine KK ?_ | fail)
        all_goals first | skip
        all_goals exact aS (Ls := fun i : Int × Int × Int => rdI rb (s, i.1, i.2.1, i.2.2, m)) (Post := pK s (fn1 g line (s.drop k))) 1 (((k + x.length + 1 : Nat) : Int), line + 1, 7) hcnt rfl (RG (vs := [.string (ofB vq), .int .i64 v1, .int .i64 v2, .int .i64 v3, .int .i64 0, .int .i64 0, .int .i64 0, .int .i64 0, .string ⟨#[]⟩, .slice none 0 0]) 2 rfl rfl rfl rfl rfl) rfl rfl (fun μ' hle' => iY (nT hc (hfn.trans hM)) (by decide) _ _ ⟨ofB vq, v1, v2, v3, .mk 0 0 0 0 ⟨#[]⟩ []⟩ (.slice none 0 0) rfl)
      | some z =>
        obtain ⟨nm, a, b2, c2⟩ := z
        have he : e5 = 0 ∧ vq = nm ∧ v1 = a ∧ v2 = b2 ∧ v3 = c2 := by
          rw [← he5, ← hvq, ← hv1, ← hv2, ← hv3]
          unfold fT sD
          rw [gL, gL, gL]
          unfold sO at hM
          cases h0 : cE (rest.take q) <;> cases h1 : Iq.cU w1 <;> cases h2 : Iq.cU w2 <;> cases h3 : Iq.cU w3 <;> rw [h0, h1, h2, h3] at hM <;> first | (cases hM; done) | (cases hM; exact ⟨rfl, rfl, rfl, rfl, rfl⟩)
        obtain ⟨rfl, rfl, rfl, rfl, rfl⟩ := he
        have hn := VZ s hs m g rb (k + x.length + 1) (by omega) (line + 1) 1 (by omega) (by omega) (by omega)
        have hr : s.drop (k + x.length + 1) = r := by
          have h1 := (cS hc).1
          have h2 := congrArg (List.drop (x.length + 1)) h1
          rw [List.drop_drop] at h2
          rw [show k + x.length + 1 = k + (x.length + 1) by omega, h2]
          simp
        rw [hr] at hn
        repeat' (first | refine KO ?_ | (refine CF 65 ?_; (with_reducible apply aA 1); (iterate 3 exact rfl); ((with_reducible apply aL); kernel_rfl; exact rfl; exact rfl); exact rfl; (exact fun w5 hw5 hO5 => hn w5 _ hw5 (hmq.mono hle7) (hT.mono hle7) (hnm.mono hle7) hO5); (rintro v5 μ5 ⟨a5, l5, e5⟩ hle5 hp5); (obtain ⟨t5, u5, rfl, ho5, hc5⟩ := jK hp5); (dsimp only [List.cons_append, List.nil_append])) | refine KI ?_ | fail)
        all_goals first | skip
        all_goals exact aS (Ls := fun i : Int × Int × Int => rdI rb (s, i.1, i.2.1, i.2.2, m)) (Post := pK s (fn1 g line (s.drop k))) 1 (a5, l5, e5) hcnt rfl (RG (vs := [.string (ofB vq), .int .i64 v1, .int .i64 v2, .int .i64 v3, .int .i64 t5.op, .int .i64 t5.at', .int .i64 t5.n, .int .i64 t5.m, .string t5.s, u5]) 2 rfl rfl rfl rfl rfl) rfl rfl (fun μ' hle' => TX hc (hfn.trans hM) ho5 hc5 hle')
    · have hbad : ok = false ∨ (ok = true ∧ ps.length ≠ 4) ∨ (ok = true ∧ ∃ a c d e, ps = [a, c, d, e] ∧ a ≠ []) := by
        cases hp : Iq.pre Iq.iX x with
        | none => left; rw [← hok, hp]; rfl
        | some rest =>
          right
          have ho : ok = true := by rw [← hok, hp]; rfl
          have hyr : rest = y := by rw [← hy, hp]; rfl
          subst hyr
          by_cases h4 : ps.length = 4
          · right
            refine ⟨ho, ?_⟩
            match ps, h4 with
            | [a, c, d, e], _ =>
              refine ⟨a, c, d, e, rfl, fun ha => ?_⟩
              subst ha
              exact hno rest hp c d e (by rw [hqe]; exact hps)
          · exact .inl ⟨ho, h4⟩
      rcases hbad with rfl | ⟨rfl, h4⟩ | ⟨rfl, a, c, d, e, rfl, hane⟩
      · refine bY (l' := [(7, .slice (some ⟨i3, 0, none⟩) ps.length ps.length), (6, .int .i64 ((q : Int) - 1 + 1)), (5, .bool false), (4, .string (ofB y)), (2, .pointer (some ⟨b, 0, none⟩)), (0, .pointer (some ⟨rb, 0, none⟩))]) (L' := [.inl ⟨rb, 55, 5, [(0, .string (ofB s)), (1, .int .i64 ((k + x.length + 1 : Nat) : Int)), (2, .int .i64 (line + 1)), (3, .int .i64 0), (4, .map (some m))]⟩, .inl ⟨i3, 9, ps.length, idx 0 (kL ps)⟩, .inl ⟨b, 44, 10, []⟩]) PU PS ?_
        repeat' (first | refine KO ?_ | (refine CF 30 ?_; (with_reducible apply aA 1); (iterate 3 exact rfl); ((with_reducible apply aL); kernel_rfl; exact rfl; exact rfl); exact rfl; (exact fun w hw hO => dA rb (s, ((k + x.length + 1 : Nat) : Int), line + 1, 0, m) 7 w _ hw hO); (rintro v2 μ2 ⟨⟩ hle2 hv); (dsimp only [List.cons_append, List.nil_append])) | refine KI ?_ | fail)
        all_goals first | skip
        all_goals exact aS (Ls := fun i : Int × Int × Int => rdI rb (s, i.1, i.2.1, i.2.2, m)) (Post := pK s (fn1 g line (s.drop k))) 1 (((k + x.length + 1 : Nat) : Int), line + 1, 7) hcnt rfl (RG (vs := [.string ⟨#[]⟩, .int .i64 0, .int .i64 0, .int .i64 0, .int .i64 0, .int .i64 0, .int .i64 0, .int .i64 0, .string ⟨#[]⟩, .slice none 0 0]) 2 rfl rfl rfl rfl rfl) rfl rfl (fun μ' hle' => iY (nT hc hfn) (by decide) _ _ HA (.slice none 0 0) rfl)
      · refine bY (l' := [(7, .slice (some ⟨i3, 0, none⟩) ps.length ps.length), (6, .int .i64 ((q : Int) - 1 + 1)), (5, .bool true), (4, .string (ofB y)), (2, .pointer (some ⟨b, 0, none⟩)), (0, .pointer (some ⟨rb, 0, none⟩))]) (L' := [.inl ⟨rb, 55, 5, [(0, .string (ofB s)), (1, .int .i64 ((k + x.length + 1 : Nat) : Int)), (2, .int .i64 (line + 1)), (3, .int .i64 0), (4, .map (some m))]⟩, .inl ⟨i3, 9, ps.length, idx 0 (kL ps)⟩, .inl ⟨b, 44, 10, []⟩]) PU PS ?_
        have h4' : ¬ ((ps.length : Nat) : Int) = 4 := by omega
        repeat' (first | refine KO ?_ | (refine CF 30 ?_; (with_reducible apply aA 1); (iterate 3 exact rfl); ((with_reducible apply aL); kernel_rfl; exact rfl; exact rfl); exact rfl; (exact fun w hw hO => dA rb (s, ((k + x.length + 1 : Nat) : Int), line + 1, 0, m) 7 w _ hw hO); (rintro v2 μ2 ⟨⟩ hle2 hv); (dsimp only [List.cons_append, List.nil_append])) | refine KI ?_ | refine KG ?_ | fail)
        all_goals first | skip
        all_goals exact aS (Ls := fun i : Int × Int × Int => rdI rb (s, i.1, i.2.1, i.2.2, m)) (Post := pK s (fn1 g line (s.drop k))) 1 (((k + x.length + 1 : Nat) : Int), line + 1, 7) hcnt rfl (RG (vs := [.string ⟨#[]⟩, .int .i64 0, .int .i64 0, .int .i64 0, .int .i64 0, .int .i64 0, .int .i64 0, .int .i64 0, .string ⟨#[]⟩, .slice none 0 0]) 2 rfl rfl rfl rfl rfl) rfl rfl (fun μ' hle' => iY (nT hc hfn) (by decide) _ _ HA (.slice none 0 0) rfl)
      · refine bY (l' := [(7, .slice (some ⟨i3, 0, none⟩) 4 4), (6, .int .i64 ((q : Int) - 1 + 1)), (5, .bool true), (4, .string (ofB y)), (2, .pointer (some ⟨b, 0, none⟩)), (0, .pointer (some ⟨rb, 0, none⟩))]) (L' := [.inl ⟨rb, 55, 5, [(0, .string (ofB s)), (1, .int .i64 ((k + x.length + 1 : Nat) : Int)), (2, .int .i64 (line + 1)), (3, .int .i64 0), (4, .map (some m))]⟩, .inl ⟨i3, 9, 4, idx 0 (kL [a, c, d, e])⟩, .inl ⟨b, 44, 10, []⟩]) PU PS ?_
        have hane' : ¬ ofB a = ⟨#[]⟩ := fun h => hane (sF.1 h)
        repeat' (first | refine KO ?_ | (refine CF 30 ?_; (with_reducible apply aA 1); (iterate 3 exact rfl); ((with_reducible apply aL); kernel_rfl; exact rfl; exact rfl); exact rfl; (exact fun w hw hO => dA rb (s, ((k + x.length + 1 : Nat) : Int), line + 1, 0, m) 7 w _ hw hO); (rintro v2 μ2 ⟨⟩ hle2 hv); (dsimp only [List.cons_append, List.nil_append])) | (refine KV (b := by exact U1 0) (c := ?_)) | refine KI ?_ | fail)
        all_goals first | skip
        all_goals exact aS (Ls := fun i : Int × Int × Int => rdI rb (s, i.1, i.2.1, i.2.2, m)) (Post := pK s (fn1 g line (s.drop k))) 1 (((k + x.length + 1 : Nat) : Int), line + 1, 7) hcnt rfl (RG (vs := [.string ⟨#[]⟩, .int .i64 0, .int .i64 0, .int .i64 0, .int .i64 0, .int .i64 0, .int .i64 0, .int .i64 0, .string ⟨#[]⟩, .slice none 0 0]) 2 rfl rfl rfl rfl rfl) rfl rfl (fun μ' hle' => iY (nT hc hfn) (by decide) _ _ HA (.slice none 0 0) rfl)
end
section
open Go.RowKit Go.Vcg Ou
def AE (ps : List Iq.FnP) (R : Iq.RdR (List Iq.FnP)) : Iq.RdR (List Iq.FnP) := match R with
  | .error e => .error e
  | .ok (ts, r', k') => .ok (ps ++ ts, r', k')
theorem JB (R : Iq.RdR (List Iq.FnP)) : AE [] R = R := by
  unfold AE
  cases R with
  | error e => rfl
  | ok p => obtain ⟨ts, r', k'⟩ := p; rfl
theorem DI (g c : Nat) (k : Int) (s : List UInt8) : Iq.eE aP g (c + 1) k s = match fn1 g k s with
    | .error e => .error e
    | .ok (f, r', k') => match Iq.eE aP g c k' r' with
      | .error e => .error e
      | .ok (fs, r'', k'') => .ok (fnP f :: fs, r'', k'') := by
  rw [Iq.eE]
  unfold fn1
  cases Ou.aO 10 s with
  | none => rfl
  | some p =>
    obtain ⟨l, r⟩ := p
    dsimp only
    cases Iq.gH l with
    | none => rfl
    | some q =>
      obtain ⟨nm, a, b, d⟩ := q
      dsimp only
      cases Iq.cN aP g 1 (k + 1) r with
      | error e => rfl
      | ok z => obtain ⟨t, r', k'⟩ := z; rfl
theorem WU {g c : Nat} {k k' : Int} {u r : List UInt8} {f : F} (ps : List Iq.FnP) (h : fn1 g k u = .ok (f, r, k')) : AE ps (Iq.eE aP g (c + 1) k u) = AE (ps ++ [fnP f]) (Iq.eE aP g c k' r) := by
  rw [DI, h]
  dsimp only
  unfold AE
  cases Iq.eE aP g c k' r with
  | error e => rfl
  | ok p => obtain ⟨ts, r', k2⟩ := p; simp
theorem PY {g c : Nat} {k k' e : Int} {u : List UInt8} (ps : List Iq.FnP) (h : fn1 g k u = .error (k', e)) : AE ps (Iq.eE aP g (c + 1) k u) = .error (k', e) := by
  rw [DI, h]
  rfl
theorem zA {g : Nat} {k : Int} {u : List UInt8} (ps : List Iq.FnP) : AE ps (Iq.eE aP g 0 k u) = .ok (ps, u, k) := by
  rw [Iq.eE]
  unfold AE
  simp
theorem qB {s : List UInt8} {R : Iq.RdR F} {μ : Mem} {v : Value} {i : Int × Int × Int} (h : pK s R μ v i) : ∃ f u, v = .agg (dS f u).toArray ∧ u.oneCell' = true ∧ ((∃ (a : Nat) (r : List UInt8) (k' : Int), R = .ok (f, r, k') ∧ i = ((a : Int), k', 0) ∧ a ≤ s.length ∧ s.drop a = r ∧ (0 ≤ k' ∧ k' ≤ a) ∧ KR μ f.body.kids u ∧ gU qN f.body) ∨ (∃ k' c, R = .error (k', c) ∧ i.2 = (k', c) ∧ c ≠ 0)) := by
  unfold pK at h
  split at h
  · rename_i f r k'
    obtain ⟨⟨a, h1, h2, h3, h4⟩, ⟨u, h5, h6⟩, h7⟩ := h
    exact ⟨f, u, h5, KR.one h6, .inl ⟨a, r, k', rfl, h1, h2, h3, h4, h6, h7⟩⟩
  · rename_i k' c
    obtain ⟨h1, h2, h3, f, u, h4, h5⟩ := h
    exact ⟨f, u, h4, h5, .inr ⟨k', c, rfl, Prod.ext h1 h2, h3⟩⟩
def FnJ (g c : Nat) (line : Int) (r s : List UInt8) (μ0 : Mem) (i : Nat × List (F × Value) × Mem × Value × Int × Int × Int) : Prop :=
  i.1 ≤ c ∧ i.2.1.length = i.1 ∧ MLe μ0 i.2.2.1 ∧ (∀ u ∈ i.2.1.flatMap sU, u.oneCell' = true) ∧
  ((i.2.2.2.2.2.2 = 0 ∧ ∃ a : Nat, i.2.2.2.2.1 = (a : Int) ∧ a ≤ s.length ∧ (0 ≤ i.2.2.2.2.2.1 ∧ i.2.2.2.2.2.1 ≤ a) ∧ (∀ p ∈ i.2.1, KR i.2.2.1 p.1.body.kids p.2) ∧ (∀ p ∈ i.2.1, gU qN p.1.body) ∧
      Iq.eE aP g c line r = AE (i.2.1.map fun p => fnP p.1) (Iq.eE aP g (c - i.1) i.2.2.2.2.2.1 (s.drop a))) ∨
    (i.2.2.2.2.2.2 ≠ 0 ∧ Iq.eE aP g c line r = .error (i.2.2.2.2.2.1, i.2.2.2.2.2.2)))
theorem LI {g c j a9 : Nat} {line ln9 a5 l5 e5 : Int} {r s : List UInt8} {μ0 μ9 μ5 : Mem} {ps : List (F × Value)} {f5 : F} {u5 v : Value} (hlt : j < c) (hpl : ps.length = j) (hle9 : MLe μ0 μ9) (hone : ∀ u ∈ ps.flatMap sU, u.oneCell' = true)
    (hkids : ∀ p ∈ ps, KR μ9 p.1.body.kids p.2) (hall : ∀ p ∈ ps, gU qN p.1.body) (hEq : Iq.eE aP g c line r = AE (ps.map fun p => fnP p.1) (Iq.eE aP g (c - j - 1 + 1) ln9 (s.drop a9))) (hle5 : MLe μ9 μ5) (ho5 : u5.oneCell' = true)
    (hc5 : (∃ (a : Nat) (r : List UInt8) (k' : Int), fn1 g ln9 (s.drop a9) = .ok (f5, r, k') ∧ (a5, l5, e5) = ((a : Int), k', (0 : Int)) ∧ a ≤ s.length ∧ s.drop a = r ∧ (0 ≤ k' ∧ k' ≤ a) ∧ KR μ5 f5.body.kids u5 ∧ gU qN f5.body) ∨ (∃ k' c, fn1 g ln9 (s.drop a9) = .error (k', c) ∧ (a5, l5, e5).2 = (k', c) ∧ c ≠ 0)) :
    FnJ g c line r s μ0 (j + 1, ps ++ [(f5, u5)], μ5, v, a5, l5, e5) := by
  refine ⟨by dsimp only; omega, by simp; omega, hle9.trans hle5, fun u hu => ?_, ?_⟩
  · rw [List.flatMap_append] at hu
    rcases List.mem_append.1 hu with hu | hu
    · exact hone u hu
    · simp at hu
      rcases hu with rfl | rfl | rfl | rfl | rfl | rfl | rfl | rfl | rfl | rfl
      all_goals first | rfl | exact ho5
  · rcases hc5 with ⟨a, r', k', h1, h2, h3, h4, h5, h6, h7⟩ | ⟨k', c', h1, h2, h3⟩
    · simp only [Prod.mk.injEq] at h2
      obtain ⟨rfl, rfl, rfl⟩ := h2
      refine .inl ⟨rfl, a, rfl, h3, h5, fun p hp => ?_, fun p hp => ?_, ?_⟩
      · rcases List.mem_append.1 hp with hp | hp
        · exact (hkids p hp).mono hle5
        · cases List.mem_singleton.1 hp; exact h6
      · rcases List.mem_append.1 hp with hp | hp
        · exact hall p hp
        · cases List.mem_singleton.1 hp; exact h7
      · rw [hEq, WU _ h1]
        dsimp only
        rw [List.map_append, List.map_singleton, h4, Nat.sub_sub]
    · simp only [Prod.mk.injEq] at h2
      obtain ⟨rfl, rfl⟩ := h2
      exact .inr ⟨h3, hEq.trans (PY _ h1)⟩
theorem UN (t : T) : 7 * t.size ≤ (Iq.kM aH t).length := T.aE5 (p := fun t => 7 * t.size ≤ (Iq.kM aH t).length) (fun t ih => by
  have key : ∀ l : List T, (∀ k ∈ l, 7 * k.size ≤ (Iq.kM aH k).length) → 7 * (l.map T.size).sum ≤ (Iq.lR aH l).length := by
    intro l
    induction l with
    | nil => intro _; rw [Iq.lR]; simp
    | cons a r ih2 =>
      intro h
      have g1 := h a (List.mem_cons_self ..)
      have g2 := ih2 (fun k hk => h k (List.mem_cons_of_mem _ hk))
      rw [Iq.lR]
      simp only [List.length_append, List.map_cons, List.sum_cons]
      omega
  have h1 := key t.kids ih
  rw [ZI, T.size_eq]
  unfold Iq.CR dO
  simp only [List.length_append, List.length_cons]
  omega) t
theorem zC {g c : Nat} {k k' : Int} {u r : List UInt8} {fs : List Iq.FnP} (h : Iq.eE aP g c k u = .ok (fs, r, k')) (hu : u.length ≤ 700000) : fs.length = c ∧ ∀ f ∈ fs, f.body.size ≤ 100000 := by
  obtain ⟨h1, h2⟩ := Iq.zB aDm g c k u fs r k' h
  refine ⟨h2, fun f hf => ?_⟩
  have h3 := UN f.body
  have h4 : (Iq.kM aH f.body).length ≤ (Iq.fnT aH f).length := by
    unfold Iq.fnT
    simp only [List.length_append, List.length_cons]
    omega
  have h5 : (Iq.fnT aH f).length ≤ (fs.flatMap (Iq.fnT aH)).length := by
    obtain ⟨a, b, rfl⟩ := List.append_of_mem hf
    simp only [List.flatMap_append, List.flatMap_cons, List.length_append]
    omega
  have h6 := congrArg List.length h1
  rw [List.length_append] at h6
  omega
theorem DR {l w : List UInt8} (h : Iq.pre Iq.jU l = some w) : Iq.lE l = (aV 1 4096 w).map Int.toNat := by
  unfold Iq.lE
  rw [h]
  dsimp only
  unfold aV Iq.cU
  cases h1 : rD w with
  | some n =>
    dsimp only
    by_cases hb : 1 ≤ n ∧ n ≤ 4096
    · rw [if_pos hb, if_pos hb]; rfl
    · rw [if_neg hb, if_neg hb]; rfl
  | none =>
    by_cases hh : w.head? = some 45
    · rw [if_pos hh]
      cases h2 : rD w.tail with
      | none => rfl
      | some n =>
        have := (iL h2).1.1
        by_cases h0 : n = 0
        · subst h0; rfl
        · show none = Option.map Int.toNat (match (if n = 0 then none else some (-n)) with | some n => if 1 ≤ n ∧ n ≤ 4096 then some n else none | none => none)
          rw [if_neg h0]
          show none = Option.map Int.toNat (if 1 ≤ -n ∧ -n ≤ 4096 then some (-n) else none)
          rw [if_neg (by omega)]
          rfl
    · rw [if_neg hh]
      rfl
theorem wA {right : List Iq.FnP → Bool} {s : List UInt8} (hs : s.length ≤ 1000000) (h : Ou.aO 10 s = none) : Iq.eY aP right s = .error (1, 8) := by
  unfold Iq.eY
  rw [if_neg (by omega), h]
theorem pM {right : List Iq.FnP → Bool} {s l r : List UInt8} (hs : s.length ≤ 1000000) (h : Ou.aO 10 s = some (l, r)) (h2 : Iq.lE l = none) : Iq.eY aP right s = .error (1, 7) := by
  unfold Iq.eY
  rw [if_neg (by omega), h]
  dsimp only
  rw [h2]
theorem AU {right : List Iq.FnP → Bool} {s l r : List UInt8} {c : Nat} {k e : Int} (hs : s.length ≤ 1000000) (h : Ou.aO 10 s = some (l, r)) (h2 : Iq.lE l = some c) (h3 : Iq.eE aP (2 * s.length + 4) c 1 r = .error (k, e)) : Iq.eY aP right s = .error (k, e) := by
  unfold Iq.eY
  rw [if_neg (by omega), h]
  dsimp only
  rw [h2]
  dsimp only
  rw [h3]
theorem AV {right : List Iq.FnP → Bool} {s l r : List UInt8} {c : Nat} {k : Int} {fs : List Iq.FnP} {r' : List UInt8} (hs : s.length ≤ 1000000) (h : Ou.aO 10 s = some (l, r)) (h2 : Iq.lE l = some c) (h3 : Iq.eE aP (2 * s.length + 4) c 1 r = .ok (fs, r', k)) : Iq.eY aP right s = if r' = [] then (if right fs = true then .ok fs else .error (0, 1)) else .error (k + 1, 7) := by
  unfold Iq.eY
  rw [if_neg (by omega), h]
  dsimp only
  rw [h2]
  dsimp only
  rw [h3]
def lX (R : Except (Int × Int) (List Iq.FnP)) (μ : Mem) (v : Value) : Prop := match R with
  | .ok fs => ∃ A c ps, v = .tuple #[.agg #[.slice A ps.length c], .int .i64 0, .int .i64 0] ∧ (ps.map fun p : F × Value => fnP p.1) = fs ∧ Fs μ A ps.length ps ∧ ∀ p ∈ ps, gU qN p.1.body
  | .error (k, e) => v = .tuple #[.agg #[.slice none 0 0], .int .i64 k, .int .i64 e] ∧ e ≠ 0
theorem LG {μ μ' : Mem} {A : Option Addr} {c : Nat} {ps : List (F × Value)} (hn : ps.length ≤ 100000) (hps : ∀ p ∈ ps, KR μ p.1.body.kids p.2) (hsz : ∀ f ∈ (ps.map fun p => fnP p.1), f.body.size ≤ 100000) (hle : MLe μ μ') (h : Bk.sh (.inr ⟨.slice A ps.length c, 44, 10, ps.length, ps.flatMap sU⟩) μ') : Fs μ' A ps.length ps :=
  ⟨UM (enc := sU) h rfl (by simp) rfl, hn, fun p hp => ⟨(hps p hp).mono hle, hsz (fnP p.1) (List.mem_map.2 ⟨p, hp, rfl⟩)⟩⟩
def cY (l : List UInt8) : List UInt8 × List UInt8 := match Ou.aO 32 l with
  | some p => p
  | none => (l, [])
theorem dL {l a r : List UInt8} (h : Ou.aO 32 l = some (a, r)) : cY l = (a, r) := by unfold cY; rw [h]
theorem fR {l : List UInt8} (h : Ou.aO 32 l = none) : cY l = (l, []) := by unfold cY; rw [h]
theorem iZ (l : List UInt8) : (cY l).1.length ≤ l.length ∧ (cY l).2.length ≤ l.length := by
  cases h : Ou.aO 32 l with
  | none => rw [fR h]; simp
  | some p =>
    obtain ⟨a, r⟩ := p
    rw [dL h]
    have := (cS h).2
    dsimp only
    omega
theorem mV : Iq.cU [] = none := by kernel_rfl
theorem WH : cE [] = none := by kernel_rfl
theorem aCp {w0 w1 w2 w3 r3 : List UInt8} (h : Iq.cU w1 = none) : iM w0 w1 w2 w3 r3 = none := by
  unfold iM; rw [h]; cases aP w0 <;> rfl
theorem aCo {w0 w1 w2 w3 r3 : List UInt8} (h : Iq.cU w2 = none) : iM w0 w1 w2 w3 r3 = none := by
  unfold iM; rw [h]; cases aP w0 <;> cases Iq.cU w1 <;> rfl
theorem aCn {w0 w1 w2 w3 r3 : List UInt8} (h : Iq.cU w3 = none) : iM w0 w1 w2 w3 r3 = none := by
  have hn : aV 0 1048576 w3 = none := by unfold aV; rw [h]
  unfold iM; rw [hn]; cases aP w0 <;> cases Iq.cU w1 <;> cases Iq.cU w2 <;> rfl
theorem aCm {w0 w1 w2 w3 r3 : List UInt8} (h : cE r3 = none) : iM w0 w1 w2 w3 r3 = none := by
  unfold iM; rw [h]; cases aP w0 <;> cases Iq.cU w1 <;> cases Iq.cU w2 <;> cases aV 0 1048576 w3 <;> rfl
theorem aCl (l : List UInt8) : Iq.mX aP l = iM (cY l).1 (cY (cY l).2).1 (cY (cY (cY l).2).2).1 (cY (cY (cY (cY l).2).2).2).1 (cY (cY (cY (cY l).2).2).2).2 := by
  rcases yN l with ⟨w0, w1, w2, w3, r3, h, h2, -⟩ | ⟨h, h2⟩
  · unfold eI at h
    cases h0 : Ou.aO 32 l with
    | none => rw [h0] at h; simp at h
    | some p0 =>
      obtain ⟨x0, r0⟩ := p0
      rw [h0] at h
      dsimp only at h
      unfold eI at h
      cases h1 : Ou.aO 32 r0 with
      | none => rw [h1] at h; simp at h
      | some p1 =>
        obtain ⟨x1, r1⟩ := p1
        rw [h1] at h
        dsimp only at h
        unfold eI at h
        cases h3 : Ou.aO 32 r1 with
        | none => rw [h3] at h; simp at h
        | some p2 =>
          obtain ⟨x2, r2⟩ := p2
          rw [h3] at h
          dsimp only at h
          unfold eI at h
          cases h4 : Ou.aO 32 r2 with
          | none => rw [h4] at h; simp at h
          | some p3 =>
            obtain ⟨x3, r4⟩ := p3
            rw [h4] at h
            dsimp only at h
            unfold eI at h
            simp only [List.cons.injEq, and_true] at h
            obtain ⟨rfl, rfl, rfl, rfl, rfl⟩ := h
            rw [h2, dL h0, dL h1, dL h3, dL h4]
  · rw [h2]
    symm
    unfold eI at h
    cases h0 : Ou.aO 32 l with
    | none => rw [fR h0]; exact aCp mV
    | some p0 =>
      obtain ⟨x0, r0⟩ := p0
      rw [h0] at h
      dsimp only at h
      unfold eI at h
      rw [dL h0]
      dsimp only
      cases h1 : Ou.aO 32 r0 with
      | none => rw [fR h1]; exact aCo mV
      | some p1 =>
        obtain ⟨x1, r1⟩ := p1
        rw [h1] at h
        dsimp only at h
        unfold eI at h
        rw [dL h1]
        dsimp only
        cases h3 : Ou.aO 32 r1 with
        | none => rw [fR h3]; exact aCn mV
        | some p2 =>
          obtain ⟨x2, r2⟩ := p2
          rw [h3] at h
          dsimp only at h
          unfold eI at h
          rw [dL h3]
          dsimp only
          cases h4 : Ou.aO 32 r2 with
          | none => rw [fR h4]; exact aCm WH
          | some p3 =>
            obtain ⟨x3, r4⟩ := p3
            rw [h4] at h
            dsimp only at h
            unfold eI at h
            simp at h
theorem YZ {p r x : List UInt8} (hf : Fr 32 p) (h : Ou.aO 32 x = some (p, r)) : Iq.pre (p ++ [32]) x = some r := by
  rw [(cD h).1, show p ++ 32 :: r = (p ++ [32]) ++ r by simp]
  exact Iq.FL _ _
theorem SM {p x : List UInt8} (hf : Fr 32 p) (h : ∀ r, Ou.aO 32 x ≠ some (p, r)) : Iq.pre (p ++ [32]) x = none := by
  cases hp : Iq.pre (p ++ [32]) x with
  | none => rfl
  | some r =>
    have h1 := Iq.pre_some hp
    rw [show (p ++ [32]) ++ r = p ++ 32 :: r by simp] at h1
    exact absurd (by rw [h1]; exact zJ hf) (h r)
theorem RL {p : UInt8 → Bool} : ∀ (d : List UInt8) (j : Nat), j < (d.takeWhile p).length → ∃ c, d[j]? = some c ∧ p c = true
  | [], j, h => by simp at h
  | x :: r, j, h => by
    by_cases hx : p x = true
    · rw [List.takeWhile_cons_of_pos hx] at h
      cases j with
      | zero => exact ⟨x, rfl, hx⟩
      | succ j => exact RL r j (by simpa using h)
    · rw [List.takeWhile_cons_of_neg hx] at h
      simp at h
theorem RM {p : UInt8 → Bool} : ∀ (d : List UInt8) (c : UInt8), d[(d.takeWhile p).length]? = some c → p c = false
  | [], c, h => by simp at h
  | x :: r, c, h => by
    by_cases hx : p x = true
    · rw [List.takeWhile_cons_of_pos hx] at h
      exact RM r c (by simpa using h)
    · rw [List.takeWhile_cons_of_neg hx] at h
      simp at h
      rw [← h]
      simpa using hx
theorem ZU {l : List UInt8} {j : Nat} {c : UInt8} (hj : Iq.bI l ≤ j) (h : l[j]? = some c) : c ≠ 34 := by
  have hl := (List.getElem?_eq_some_iff.1 h).1
  unfold Iq.bI at hj
  obtain ⟨d, h1, h2⟩ := RL (p := fun c => decide (c ≠ 34)) l.reverse (l.length - 1 - j) (by omega)
  rw [List.getElem?_reverse (by omega), show l.length - 1 - (l.length - 1 - j) = j by omega, h] at h1
  cases h1
  simpa using h2
theorem ZV {l : List UInt8} (h : 0 < Iq.bI l) : l[Iq.bI l - 1]? = some 34 := by
  have ht : (l.reverse.takeWhile (fun c => decide (c ≠ 34))).length ≤ l.length := by
    have := (List.takeWhile_prefix (p := fun c : UInt8 => decide (c ≠ 34)) (l := l.reverse)).length_le
    rwa [List.length_reverse] at this
  unfold Iq.bI at h ⊢
  generalize ht2 : (l.reverse.takeWhile (fun c => decide (c ≠ 34))).length = t at h ht ⊢
  have hlt : t < l.length := by omega
  have hr : l.reverse[t]? = l[l.length - 1 - t]? := List.getElem?_reverse hlt
  have hg : l[l.length - 1 - t]? = some l[l.length - 1 - t] := List.getElem?_eq_getElem (by omega)
  have he := RM (p := fun c => decide (c ≠ 34)) l.reverse l[l.length - 1 - t] (by rw [ht2, hr, hg])
  rw [show l.length - t - 1 = l.length - 1 - t by omega, hg]
  simp at he
  rw [he]
theorem PT {l : List UInt8} {j : Nat} {c : UInt8} (hj : Iq.bI l ≤ j + 1) (h : l[j]? = some c) (hc : c ≠ 34) : Iq.bI l ≤ j := by
  rcases Nat.lt_or_ge j (Iq.bI l) with h1 | h1
  · have h2 : Iq.bI l = j + 1 := by omega
    have h3 := ZV (l := l) (by omega)
    rw [h2, Nat.add_sub_cancel, h] at h3
    cases h3
    exact absurd rfl hc
  · exact h1
theorem PR {l : List UInt8} {j : Nat} (hj : Iq.bI l ≤ j + 1) (h : l[j]? = some 34) : Iq.bI l = j + 1 := by
  rcases Nat.lt_or_ge j (Iq.bI l) with h1 | h1
  · omega
  · exact absurd rfl (ZU h1 h)
theorem DJ {x : List UInt8} (h : Iq.pre Iq.iX x = none) : Iq.gH x = none := by unfold Iq.gH; rw [h]
theorem aC5 {x rest : List UInt8} (hp : Iq.pre Iq.iX x = some rest) (h : rest[Iq.bI rest]? ≠ some 32) : Iq.gH x = none := by
  unfold Iq.gH
  rw [hp]
  dsimp only
  have hn : Iq.pre [32] (rest.drop (Iq.bI rest)) = none := by
    cases hq : Iq.pre [32] (rest.drop (Iq.bI rest)) with
    | none => rfl
    | some r =>
      have h1 := Iq.pre_some hq
      have h2 : (rest.drop (Iq.bI rest))[0]? = some 32 := by rw [h1]; rfl
      rw [List.getElem?_drop, Nat.add_zero] at h2
      exact absurd h2 h
  rw [hn]
  cases cE (rest.take (Iq.bI rest)) <;> rfl
theorem aFe {nm w1 w2 w3 : List UInt8} (h : cE nm = none) : sO nm w1 w2 w3 = none := by
  unfold sO; rw [h]
theorem aFd {nm w1 w2 w3 : List UInt8} (h : Iq.cU w2 = none) : sO nm w1 w2 w3 = none := by
  unfold sO; rw [h]; cases cE nm <;> cases Iq.cU w1 <;> rfl
theorem aFc {nm w1 w2 w3 : List UInt8} (h : Iq.cU w3 = none) : sO nm w1 w2 w3 = none := by
  unfold sO; rw [h]; cases cE nm <;> cases Iq.cU w1 <;> cases Iq.cU w2 <;> rfl
theorem aC4 {x rest : List UInt8} (hp : Iq.pre Iq.iX x = some rest) (h : rest[Iq.bI rest]? = some 32) : Iq.gH x = sO (rest.take (Iq.bI rest)) (cY (rest.drop (Iq.bI rest + 1))).1 (cY (cY (rest.drop (Iq.bI rest + 1))).2).1 (cY (cY (rest.drop (Iq.bI rest + 1))).2).2 := by
  unfold Iq.gH
  rw [hp]
  dsimp only
  have hlt := (List.getElem?_eq_some_iff.1 h).1
  have hd : rest.drop (Iq.bI rest) = [32] ++ rest.drop (Iq.bI rest + 1) := by
    have h0 : rest[Iq.bI rest] = 32 := by
      have := List.getElem?_eq_getElem hlt
      rw [h] at this
      exact (Option.some.inj this).symm
    rw [List.drop_eq_getElem_cons hlt, h0]
    rfl
  rw [hd, Iq.FL]
  generalize rest.drop (Iq.bI rest + 1) = r0
  generalize rest.take (Iq.bI rest) = nm
  cases hl : cE nm with
  | none => exact (aFe hl).symm
  | some t =>
    dsimp only
    cases h1 : Ou.aO 32 r0 with
    | none => rw [fR h1]; exact (aFd mV).symm
    | some p1 =>
      obtain ⟨w1, r1⟩ := p1
      rw [dL h1]
      dsimp only
      cases h2 : Ou.aO 32 r1 with
      | none => rw [fR h2]; exact (aFc mV).symm
      | some p2 =>
        obtain ⟨w2, w3⟩ := p2
        rw [dL h2]
        unfold sO
        rw [hl]
        dsimp only
        cases Iq.cU w1 <;> cases Iq.cU w2 <;> cases Iq.cU w3 <;> rfl
theorem vJ (w : List UInt8) : ∀ l m : List (List UInt8 × Int), opL (l ++ m) w = match opL l w with | some o => some o | none => opL m w
  | [], m => rfl
  | (n, o) :: l, m => by
    show opL ((n, o) :: (l ++ m)) w = _
    rw [opL, opL]
    by_cases h : w = n
    · rw [if_pos h, if_pos h]
    · rw [if_neg h, if_neg h]; exact vJ w l m
theorem aEy {k : Nat} {w : List UInt8} (h : opL (nmL k) w = none) (h1 : (aH ((100 : Int) + k)).1 = w) (h2 : w ≠ []) : opL (nmL (k + 1)) w = some ((100 : Int) + k) := by
  rw [show nmL (k + 1) = nmL k ++ nmF k from rfl, vJ, h, FV (by rw [h1]; exact h2), h1]
  unfold opL
  rw [if_pos rfl]
theorem SX {k : Nat} {w : List UInt8} (h : opL (nmL k) w = none) (h1 : w = [] ∨ (aH ((100 : Int) + k)).1 ≠ w) : opL (nmL (k + 1)) w = none := by
  rw [show nmL (k + 1) = nmL k ++ nmF k from rfl, vJ, h]
  dsimp only
  by_cases hn : (aH ((100 : Int) + k)).1 = []
  · rw [SZ hn]; rfl
  · rw [FV hn]
    unfold opL
    rw [if_neg (fun e => by rcases h1 with h1 | h1; exact hn (by rw [← e, h1]); exact h1 e.symm)]
    rfl
theorem SY {k : Nat} {w : List UInt8} {o : Int} (h : opL (nmL k) w = some o) : ∀ j, opL (nmL (k + j)) w = some o
  | 0 => h
  | j + 1 => by
    rw [show k + (j + 1) = (k + j) + 1 by omega, show nmL (k + j + 1) = nmL (k + j) ++ nmF (k + j) from rfl, vJ, SY h j]
end
end Go.Proofs.YtoclmkdfcafhfaaGreatDoor
