/- Package ir: units read, plainly: the loop over functions, sizes. -/
import Derived.Test.YtoclmkdfcafhfaaGreatDoorQbc
set_option maxRecDepth 20000
set_option maxHeartbeats 2000000
namespace Go.Proofs.YtoclmkdfcafhfaaGreatDoor
open Go.RowKit Go.Vcg Ou
def preF (ps : List Iq.FnP) (R : Iq.RdR (List Iq.FnP)) : Iq.RdR (List Iq.FnP) := match R with
  | .error e => .error e
  | .ok (ts, r', k') => .ok (ps ++ ts, r', k')
theorem preF_nil (R : Iq.RdR (List Iq.FnP)) : preF [] R = R := by
  unfold preF
  cases R with
  | error e => rfl
  | ok p => obtain ⟨ts, r', k'⟩ := p; rfl
theorem funcs_fn1 (g c : Nat) (k : Int) (s : List UInt8) : Iq.funcsR opOf g (c + 1) k s = match fn1 g k s with
    | .error e => .error e
    | .ok (f, r', k') => match Iq.funcsR opOf g c k' r' with
      | .error e => .error e
      | .ok (fs, r'', k'') => .ok (fnP f :: fs, r'', k'') := by
  rw [Iq.funcsR]
  unfold fn1
  cases Ou.cutB 10 s with
  | none => rfl
  | some p =>
    obtain ⟨l, r⟩ := p
    dsimp only
    cases Iq.funcN l with
    | none => rfl
    | some q =>
      obtain ⟨nm, a, b, d⟩ := q
      dsimp only
      cases Iq.nodeR opOf g 1 (k + 1) r with
      | error e => rfl
      | ok z => obtain ⟨t, r', k'⟩ := z; rfl
theorem funcs_ok1 {g c : Nat} {k k' : Int} {u r : List UInt8} {f : F} (ps : List Iq.FnP) (h : fn1 g k u = .ok (f, r, k')) : preF ps (Iq.funcsR opOf g (c + 1) k u) = preF (ps ++ [fnP f]) (Iq.funcsR opOf g c k' r) := by
  rw [funcs_fn1, h]
  dsimp only
  unfold preF
  cases Iq.funcsR opOf g c k' r with
  | error e => rfl
  | ok p => obtain ⟨ts, r', k2⟩ := p; simp
theorem funcs_err1 {g c : Nat} {k k' e : Int} {u : List UInt8} (ps : List Iq.FnP) (h : fn1 g k u = .error (k', e)) : preF ps (Iq.funcsR opOf g (c + 1) k u) = .error (k', e) := by
  rw [funcs_fn1, h]
  rfl
theorem funcs_zero {g : Nat} {k : Int} {u : List UInt8} (ps : List Iq.FnP) : preF ps (Iq.funcsR opOf g 0 k u) = .ok (ps, u, k) := by
  rw [Iq.funcsR]
  unfold preF
  simp
theorem funP_form {s : List UInt8} {R : Iq.RdR F} {μ : Mem} {v : Value} {i : Int × Int × Int} (h : FunP s R μ v i) : ∃ f u, v = .agg (encF f u).toArray ∧ u.oneCell' = true ∧ ((∃ (a : Nat) (r : List UInt8) (k' : Int), R = .ok (f, r, k') ∧ i = ((a : Int), k', 0) ∧ a ≤ s.length ∧ s.drop a = r ∧ (0 ≤ k' ∧ k' ≤ a) ∧ KR μ f.body.kids u ∧ AllT qN f.body) ∨ (∃ k' c, R = .error (k', c) ∧ i.2 = (k', c) ∧ c ≠ 0)) := by
  unfold FunP at h
  split at h
  · rename_i f r k'
    obtain ⟨⟨a, h1, h2, h3, h4⟩, ⟨u, h5, h6⟩, h7⟩ := h
    exact ⟨f, u, h5, KR.one h6, .inl ⟨a, r, k', rfl, h1, h2, h3, h4, h6, h7⟩⟩
  · rename_i k' c
    obtain ⟨h1, h2, h3, f, u, h4, h5⟩ := h
    exact ⟨f, u, h4, h5, .inr ⟨k', c, rfl, Prod.ext h1 h2, h3⟩⟩
def FnJ (g c : Nat) (line : Int) (r s : List UInt8) (μ0 : Mem) (i : Nat × List (F × Value) × Mem × Value × Int × Int × Int) : Prop :=
  i.1 ≤ c ∧ i.2.1.length = i.1 ∧ MLe μ0 i.2.2.1 ∧ (∀ u ∈ i.2.1.flatMap encFV, u.oneCell' = true) ∧
  ((i.2.2.2.2.2.2 = 0 ∧ ∃ a : Nat, i.2.2.2.2.1 = (a : Int) ∧ a ≤ s.length ∧ (0 ≤ i.2.2.2.2.2.1 ∧ i.2.2.2.2.2.1 ≤ a) ∧ (∀ p ∈ i.2.1, KR i.2.2.1 p.1.body.kids p.2) ∧ (∀ p ∈ i.2.1, AllT qN p.1.body) ∧
      Iq.funcsR opOf g c line r = preF (i.2.1.map fun p => fnP p.1) (Iq.funcsR opOf g (c - i.1) i.2.2.2.2.2.1 (s.drop a))) ∨
    (i.2.2.2.2.2.2 ≠ 0 ∧ Iq.funcsR opOf g c line r = .error (i.2.2.2.2.2.1, i.2.2.2.2.2.2)))
theorem fnj_step {g c j a9 : Nat} {line ln9 a5 l5 e5 : Int} {r s : List UInt8} {μ0 μ9 μ5 : Mem} {ps : List (F × Value)} {f5 : F} {u5 v : Value} (hlt : j < c) (hpl : ps.length = j) (hle9 : MLe μ0 μ9) (hone : ∀ u ∈ ps.flatMap encFV, u.oneCell' = true)
    (hkids : ∀ p ∈ ps, KR μ9 p.1.body.kids p.2) (hall : ∀ p ∈ ps, AllT qN p.1.body) (hEq : Iq.funcsR opOf g c line r = preF (ps.map fun p => fnP p.1) (Iq.funcsR opOf g (c - j - 1 + 1) ln9 (s.drop a9))) (hle5 : MLe μ9 μ5) (ho5 : u5.oneCell' = true)
    (hc5 : (∃ (a : Nat) (r : List UInt8) (k' : Int), fn1 g ln9 (s.drop a9) = .ok (f5, r, k') ∧ (a5, l5, e5) = ((a : Int), k', (0 : Int)) ∧ a ≤ s.length ∧ s.drop a = r ∧ (0 ≤ k' ∧ k' ≤ a) ∧ KR μ5 f5.body.kids u5 ∧ AllT qN f5.body) ∨ (∃ k' c, fn1 g ln9 (s.drop a9) = .error (k', c) ∧ (a5, l5, e5).2 = (k', c) ∧ c ≠ 0)) :
    FnJ g c line r s μ0 (j + 1, ps ++ [(f5, u5)], μ5, v, a5, l5, e5) := by
  refine ⟨by dsimp only; omega, by simp; omega, hle9.trans hle5, fun u hu => ?_, ?_⟩
  · rw [List.flatMap_append] at hu
    rcases List.mem_append.1 hu with hu | hu
    · exact hone u hu
    · simp at hu
      rcases hu with rfl | rfl | rfl | rfl | rfl | rfl | rfl | rfl | rfl | rfl
      all_goals first | rfl | exact ho5
  · rcases hc5 with ⟨a, r', k', h1, h2, h3, h4, h5, h6, h7⟩ | ⟨k', c', h1, h2, h3⟩
    · simp only [Prod.mk.injEq] at h2
      obtain ⟨rfl, rfl, rfl⟩ := h2
      refine .inl ⟨rfl, a, rfl, h3, h5, fun p hp => ?_, fun p hp => ?_, ?_⟩
      · rcases List.mem_append.1 hp with hp | hp
        · exact (hkids p hp).mono hle5
        · cases List.mem_singleton.1 hp; exact h6
      · rcases List.mem_append.1 hp with hp | hp
        · exact hall p hp
        · cases List.mem_singleton.1 hp; exact h7
      · rw [hEq, funcs_ok1 _ h1]
        dsimp only
        rw [List.map_append, List.map_singleton, h4, Nat.sub_sub]
    · simp only [Prod.mk.injEq] at h2
      obtain ⟨rfl, rfl⟩ := h2
      exact .inr ⟨h3, hEq.trans (funcs_err1 _ h1)⟩
theorem size_text (t : T) : 7 * t.size ≤ (Iq.nodeT rowI t).length := T.ind2 (p := fun t => 7 * t.size ≤ (Iq.nodeT rowI t).length) (fun t ih => by
  have key : ∀ l : List T, (∀ k ∈ l, 7 * k.size ≤ (Iq.nodeT rowI k).length) → 7 * (l.map T.size).sum ≤ (Iq.kidsT rowI l).length := by
    intro l
    induction l with
    | nil => intro _; rw [Iq.kidsT]; simp
    | cons a r ih2 =>
      intro h
      have g1 := h a (List.mem_cons_self ..)
      have g2 := ih2 (fun k hk => h k (List.mem_cons_of_mem _ hk))
      rw [Iq.kidsT]
      simp only [List.length_append, List.map_cons, List.sum_cons]
      omega
  have h1 := key t.kids ih
  rw [nodeT_eq, T.size_eq]
  unfold Iq.lineT quoteB
  simp only [List.length_append, List.length_cons]
  omega) t
theorem funcs_size {g c : Nat} {k k' : Int} {u r : List UInt8} {fs : List Iq.FnP} (h : Iq.funcsR opOf g c k u = .ok (fs, r, k')) (hu : u.length ≤ 700000) : fs.length = c ∧ ∀ f ∈ fs, f.body.size ≤ 100000 := by
  obtain ⟨h1, h2⟩ := Iq.funcs_text rowOp g c k u fs r k' h
  refine ⟨h2, fun f hf => ?_⟩
  have h3 := size_text f.body
  have h4 : (Iq.nodeT rowI f.body).length ≤ (Iq.fnT rowI f).length := by
    unfold Iq.fnT
    simp only [List.length_append, List.length_cons]
    omega
  have h5 : (Iq.fnT rowI f).length ≤ (fs.flatMap (Iq.fnT rowI)).length := by
    obtain ⟨a, b, rfl⟩ := List.append_of_mem hf
    simp only [List.flatMap_append, List.flatMap_cons, List.length_append]
    omega
  have h6 := congrArg List.length h1
  rw [List.length_append] at h6
  omega
theorem count_num {l w : List UInt8} (h : Iq.pre Iq.unitP l = some w) : Iq.countN l = (numIn 1 4096 w).map Int.toNat := by
  unfold Iq.countN
  rw [h]
  dsimp only
  unfold numIn Iq.numZ
  cases h1 : numB w with
  | some n =>
    dsimp only
    by_cases hb : 1 ≤ n ∧ n ≤ 4096
    · rw [if_pos hb, if_pos hb]; rfl
    · rw [if_neg hb, if_neg hb]; rfl
  | none =>
    by_cases hh : w.head? = some 45
    · rw [if_pos hh]
      cases h2 : numB w.tail with
      | none => rfl
      | some n =>
        have := (numB_some h2).1.1
        by_cases h0 : n = 0
        · subst h0; rfl
        · show none = Option.map Int.toNat (match (if n = 0 then none else some (-n)) with | some n => if 1 ≤ n ∧ n ≤ 4096 then some n else none | none => none)
          rw [if_neg h0]
          show none = Option.map Int.toNat (if 1 ≤ -n ∧ -n ≤ 4096 then some (-n) else none)
          rw [if_neg (by omega)]
          rfl
    · rw [if_neg hh]
      rfl
theorem unitR_none {right : List Iq.FnP → Bool} {s : List UInt8} (hs : s.length ≤ 1000000) (h : Ou.cutB 10 s = none) : Iq.unitR opOf right s = .error (1, 8) := by
  unfold Iq.unitR
  rw [if_neg (by omega), h]
theorem unitR_bad {right : List Iq.FnP → Bool} {s l r : List UInt8} (hs : s.length ≤ 1000000) (h : Ou.cutB 10 s = some (l, r)) (h2 : Iq.countN l = none) : Iq.unitR opOf right s = .error (1, 7) := by
  unfold Iq.unitR
  rw [if_neg (by omega), h]
  dsimp only
  rw [h2]
theorem unitR_err {right : List Iq.FnP → Bool} {s l r : List UInt8} {c : Nat} {k e : Int} (hs : s.length ≤ 1000000) (h : Ou.cutB 10 s = some (l, r)) (h2 : Iq.countN l = some c) (h3 : Iq.funcsR opOf (2 * s.length + 4) c 1 r = .error (k, e)) : Iq.unitR opOf right s = .error (k, e) := by
  unfold Iq.unitR
  rw [if_neg (by omega), h]
  dsimp only
  rw [h2]
  dsimp only
  rw [h3]
theorem unitR_end {right : List Iq.FnP → Bool} {s l r : List UInt8} {c : Nat} {k : Int} {fs : List Iq.FnP} {r' : List UInt8} (hs : s.length ≤ 1000000) (h : Ou.cutB 10 s = some (l, r)) (h2 : Iq.countN l = some c) (h3 : Iq.funcsR opOf (2 * s.length + 4) c 1 r = .ok (fs, r', k)) : Iq.unitR opOf right s = if r' = [] then (if right fs = true then .ok fs else .error (0, 1)) else .error (k + 1, 7) := by
  unfold Iq.unitR
  rw [if_neg (by omega), h]
  dsimp only
  rw [h2]
  dsimp only
  rw [h3]
def ReadP (R : Except (Int × Int) (List Iq.FnP)) (μ : Mem) (v : Value) : Prop := match R with
  | .ok fs => ∃ A c ps, v = .tuple #[.agg #[.slice A ps.length c], .int .i64 0, .int .i64 0] ∧ (ps.map fun p : F × Value => fnP p.1) = fs ∧ Fs μ A ps.length ps ∧ ∀ p ∈ ps, AllT qN p.1.body
  | .error (k, e) => v = .tuple #[.agg #[.slice none 0 0], .int .i64 k, .int .i64 e] ∧ e ≠ 0
theorem fs_post2 {μ μ' : Mem} {A : Option Addr} {c : Nat} {ps : List (F × Value)} (hn : ps.length ≤ 100000) (hps : ∀ p ∈ ps, KR μ p.1.body.kids p.2) (hsz : ∀ f ∈ (ps.map fun p => fnP p.1), f.body.size ≤ 100000) (hle : MLe μ μ') (h : Bk.sh (.inr ⟨.slice A ps.length c, 44, 10, ps.length, ps.flatMap encFV⟩) μ') : Fs μ' A ps.length ps :=
  ⟨sl_of_row (enc := encFV) h rfl (by simp) rfl, hn, fun p hp => ⟨(hps p hp).mono hle, hsz (fnP p.1) (List.mem_map.2 ⟨p, hp, rfl⟩)⟩⟩
end Go.Proofs.YtoclmkdfcafhfaaGreatDoor
namespace Go.Vcg
section
variable {P : Program} {μ : Mem} {l : Slots} {L : List Bk} {w : World}
theorem ret_mn {fn : Func} {n : Nat} {rs : List ResultVar} {vs : List Value} {μ0 : Mem} {Post : Mem → Value → Prop} (hr : fn.results = rs.toArray) (h : RVs P μ l L rs vs) (hl : Nat.beq vs.length 1 = false) (hp : ∀ μ', MLe μ μ' → (∀ x ∈ L, Bk.sh x μ') → Post μ' (.tuple vs.toArray)) :
    GQ ⟨w, μ0, [], n⟩ (bodyPost P fn (fun e w' => ∃ v μ', e = .returned v ∧ Grow w w' μ0 μ' ∧ Post μ' v)) .ret μ l L := fun a w' hs => by
  obtain ⟨μ', hg, hle, hL⟩ := hs.publish
  exact ⟨hs.defers.none (by simp), .tuple vs.toArray, resultsN hr h hl hs.rd, _, μ', rfl, hg, hp μ' hle hL⟩
end
end Go.Vcg
namespace Go.Proofs.YtoclmkdfcafhfaaGreatDoor
section
open Go.RowKit Go.Vcg Ou
theorem readP_err {R : Except (Int × Int) (List Iq.FnP)} {μ : Mem} {k e : Int} (h : R = .error (k, e)) (he : e ≠ 0) : ReadP R μ (.tuple #[.agg #[.slice none 0 0], .int .i64 k, .int .i64 e]) := by
  subst h; exact ⟨rfl, he⟩
theorem readP_ok {R : Except (Int × Int) (List Iq.FnP)} {μ : Mem} {A : Option Addr} {c : Nat} {ps : List (F × Value)} (h : R = .ok (ps.map fun p => fnP p.1)) (hF : Fs μ A ps.length ps) (hall : ∀ p ∈ ps, AllT qN p.1.body) : ReadP R μ (.tuple #[.agg #[.slice A ps.length c], .int .i64 0, .int .i64 0]) := by
  subst h; exact ⟨A, c, ps, rfl, rfl, hF, hall⟩
theorem cutpreU_spec (l : List UInt8) (w : World) (μ : Mem) (hμ : MOk μ w) : Calls Tryz.prog 28 #[.string (ofB l), .string ⟨#[117, 110, 105, 116, 32]⟩] w fun e w' => e = .returned (.tuple #[.string (ofB ((Iq.pre Iq.unitP l).getD l)), .bool (Iq.pre Iq.unitP l).isSome]) ∧ Below w.heap.size w w' := by
  refine (Any.strings_CutPrefix Tryz.lays103 (ofB l) ⟨#[117, 110, 105, 116, 32]⟩ w).mono fun e w' ⟨he, hw⟩ => ⟨?_, hw ▸ Below.refl _ _⟩
  rw [he]
  have e1 : (ofB l).data.toList = l := byS_ofB l
  rw [e1]
  unfold Iq.pre Lib.trimPrefix Lib.hasPrefix
  by_cases hp : Iq.unitP <+: l
  · have hb : ([117, 110, 105, 116, 32] : List UInt8).isPrefixOf l = true := List.isPrefixOf_iff_prefix.2 hp
    rw [if_pos hp]
    show _ = Ending.returned (Value.tuple #[.string (ofB (l.drop 5)), .bool true])
    simp [hb]
    rfl
  · have hb : ([117, 110, 105, 116, 32] : List UInt8).isPrefixOf l = false := Bool.eq_false_iff.2 fun h => hp (List.isPrefixOf_iff_prefix.1 h)
    rw [if_neg hp]
    show _ = Ending.returned (Value.tuple #[.string (ofB l), .bool false])
    simp [hb]
    rfl
def FirstP (s : List UInt8) (z : List UInt8) (ok : Bool) (at2 ln2 e2 : Int) : Prop :=
  (ln2 = 1 ∧ e2 = 8 ∧ Ou.cutB 10 s = none) ∨ (ln2 = 1 ∧ e2 = 0 ∧ ∃ l r, Ou.cutB 10 s = some (l, r) ∧ at2 = ((l.length + 1 : Nat) : Int) ∧ z = (Iq.pre Iq.unitP l).getD l ∧ ok = (Iq.pre Iq.unitP l).isSome)
def CountP (s : List UInt8) (vc at3 ln3 e3 : Int) : Prop :=
  (ln3 = 1 ∧ e3 = 0 ∧ ∃ l r, Ou.cutB 10 s = some (l, r) ∧ at3 = ((l.length + 1 : Nat) : Int) ∧ ∃ c : Nat, vc = (c : Int) ∧ c ≤ 4096 ∧ Iq.countN l = some c) ∨ (e3 ≠ 0 ∧ Iq.unitR opOf (Iq.rightU rowI) s = .error (ln3, e3))
theorem count_no {l : List UInt8} (h : Iq.pre Iq.unitP l = none) : Iq.countN l = none := by
  unfold Iq.countN; rw [h]
theorem numIn_rng {lo hi n : Int} {x : List UInt8} (h : numIn lo hi x = some n) : lo ≤ n ∧ n ≤ hi := by
  unfold numIn at h
  split at h
  · split at h
    · cases h; assumption
    · cases h
  · cases h
theorem pre_len (p l : List UInt8) : ((Iq.pre p l).getD l).length ≤ l.length := by
  cases h : Iq.pre p l with
  | none => exact Nat.le_refl _
  | some r =>
    have := congrArg List.length (Iq.pre_some h)
    rw [List.length_append] at this
    show r.length ≤ _
    omega
theorem countP_num {s x r z : List UInt8} {at2 : Int} (hs : s.length ≤ 1000000) (hc : Ou.cutB 10 s = some (x, r)) (hat : at2 = ((x.length + 1 : Nat) : Int)) (hp : Iq.pre Iq.unitP x = some z) : CountP s (numV 1 4096 z) at2 1 (okS (numIn 1 4096 z).isSome 0 7) := by
  unfold numV
  cases hn : numIn 1 4096 z with
  | none => exact .inr ⟨by decide, unitR_bad hs hc (by rw [count_num hp, hn]; rfl)⟩
  | some n =>
    have := numIn_rng hn
    exact .inl ⟨rfl, rfl, x, r, hc, hat, n.toNat, by show n = _; omega, by omega, by rw [count_num hp, hn]; rfl⟩
theorem okS77 (b : Bool) : okS b 7 7 = 7 := by cases b <;> rfl
attribute [local irreducible] nmL splN splA Iq.countN Iq.unitR Iq.rightU Iq.funcsR Iq.lastQ Iq.funcN Iq.pre rowI G GC GQ GA GAop Calls IntKind.wrap Int.decLt Int.decLe
theorem iread_spec (s : List UInt8) (hs : s.length ≤ 700000) (w : World) (μ : Mem) (hμ : MOk μ w) (hmq : MaxQ μ) (hT : TabOk μ) :
    Calls Tryz.prog 13 #[.string (ofB s)] w fun e w' => ∃ v μ', e = .returned v ∧ Grow w w' μ μ' ∧ ReadP (Iq.unitR opOf (Iq.rightU rowI) s) μ' v := by
  have hsz := ofB_size s
  refine call_intro (args := [.string (ofB s)]) Tryz.func13 rfl Tryz.ntmps13 (by simp) hμ ?_
  repeat' (first | ((with_reducible show GC _ _ (Code.seq (Code.seq (Code.region 1 _ _) _) _) _ _ _ _); (apply gc_stop)) | refine KK ?_ | refine NB fun b => ?_ | (refine KB ?_ ?_ <;> intro hp) | refine KG ?_ | fail)
  obtain ⟨bu, hbu⟩ : ∃ x, x = b := ⟨_, rfl⟩
  rw [← hbu]
  clear hbu
  refine gcs (gc_sel (l' := [(2, .pointer (some ⟨bu, 0, none⟩)), (0, (.string (ofB s)))]) (L' := [.inl ⟨bu, 27, 1, idx 0 [.slice none 0 0]⟩]) PU PS ?_)
  repeat' (first | ((with_reducible show GC _ _ (Code.seq (Code.region 4 _ _) _) _ _ _ _); (apply gc_stop)) | refine KO ?_ | ((with_reducible apply C2); exact rfl; exact EN; (exact fun w hw => names_spec w μ hw (maxM_ofQ2 hmq)); rintro v1 μ1 hle1 ⟨m, rfl, hnm⟩) | refine KI ?_ | refine NB fun b => ?_ | (refine KB ?_ ?_ <;> intro hp) | refine KG ?_ | fail)
  all_goals first | (exfalso; first | omega | contradiction | exact absurd ‹_› ‹¬ _›) | skip
  obtain ⟨rb, hrb⟩ : ∃ x, x = b := ⟨_, rfl⟩
  rw [← hrb]
  clear hrb
  refine gcs (gc_sel (l' := [(5, .pointer (some ⟨rb, 0, none⟩)), (2, .pointer (some ⟨bu, 0, none⟩)), (0, (.string (ofB s)))]) (L' := [.inl ⟨rb, 55, 5, [(0, .string (ofB s)), (1, .int .i64 0), (2, .int .i64 0), (3, .int .i64 0), (4, .map (some m))]⟩, .inl ⟨bu, 27, 1, idx 0 [.slice none 0 0]⟩]) PU PS ?_)
  refine gc_join (ι := Mem × List UInt8 × Bool × Int × Int × Int) (fun i => MLe μ1 i.1 ∧ i.2.1.length ≤ 700000 ∧ FirstP s i.2.1 i.2.2.1 i.2.2.2.1 i.2.2.2.2.1 i.2.2.2.2.2) (fun i => i.1) (fun i => [(7, .bool i.2.2.1), (6, .string (ofB i.2.1)), (5, .pointer (some ⟨rb, 0, none⟩)), (2, .pointer (some ⟨bu, 0, none⟩)), (0, (.string (ofB s)))]) (fun i => [.inl ⟨rb, 55, 5, [(0, .string (ofB s)), (1, .int .i64 i.2.2.2.1), (2, .int .i64 i.2.2.2.2.1), (3, .int .i64 i.2.2.2.2.2), (4, .map (some m))]⟩, .inl ⟨bu, 27, 1, idx 0 [.slice none 0 0]⟩]) ?_ ?_
  · cases hc : Ou.cutB 10 s with
    | none =>
      repeat' (first | refine KO ?_ | (refine CF 29 ?_; (with_reducible apply g_enter_bor 1); exact rfl; exact rfl; exact rfl; ((with_reducible apply e_call1); kernel_rfl; exact rfl); exact rfl; (exact fun w hw hO => take_no rb s 0 0 0 m hc (by omega) (by omega) (by omega) w _ hw hO); (rintro v2 μ2 ⟨⟩ hle2 rfl); (dsimp only [List.cons_append, List.nil_append])) | ((with_reducible apply F1 28); exact rfl; exact EN; (exact fun w μc hw hse => cutpreU_spec [] w μc hw)) | refine KI ?_ | refine NB fun b => ?_ | (refine KB ?_ ?_ <;> intro hp) | refine KG ?_ | fail)
      all_goals first | (exfalso; first | omega | contradiction | exact absurd ‹_› ‹¬ _›) | skip
      exact J1 (_, (Iq.pre Iq.unitP []).getD [], (Iq.pre Iq.unitP []).isSome, 0, 1, 8) ⟨hle2, by have := pre_len Iq.unitP []; exact Nat.le_trans this (by decide), .inl ⟨rfl, rfl, hc⟩⟩
    | some p =>
      obtain ⟨x, r⟩ := p
      repeat' (first | refine KO ?_ | (refine CF 29 ?_; (with_reducible apply g_enter_bor 1); exact rfl; exact rfl; exact rfl; ((with_reducible apply e_call1); kernel_rfl; exact rfl); exact rfl; (exact fun w hw hO => take_ok rb s 0 0 0 m hc (by omega) (by omega) (by omega) w _ hw hO); (rintro v2 μ2 ⟨⟩ hle2 rfl); (dsimp only [List.cons_append, List.nil_append])) | ((with_reducible apply F1 28); exact rfl; exact EN; (exact fun w μc hw hse => cutpreU_spec x w μc hw)) | refine KI ?_ | refine NB fun b => ?_ | (refine KB ?_ ?_ <;> intro hp) | refine KG ?_ | fail)
      all_goals first | (exfalso; first | omega | contradiction | exact absurd ‹_› ‹¬ _›) | skip
      exact J1 (_, (Iq.pre Iq.unitP x).getD x, (Iq.pre Iq.unitP x).isSome, ((0 + x.length + 1 : Nat) : Int), 1, 0) ⟨hle2, by have := pre_len Iq.unitP x; have := (cut_len hc).2; dsimp only; omega, .inr ⟨rfl, rfl, x, r, hc, by simp, rfl, rfl⟩⟩
  rintro ⟨μ2, z, ok, at2, ln2, e2⟩ ⟨hle2, hzl0, hF⟩
  dsimp only at hle2 hzl0 hF ⊢
  have hzl : z.length ≤ 1000000 := by omega
  repeat' (first | ((with_reducible show GC _ _ (Code.seq (Code.seq (Code.region 6 _ _) _) _) _ _ _ _); (apply gc_stop)) | refine KK ?_ | refine NB fun b => ?_ | (refine KB ?_ ?_ <;> intro hp) | refine KG ?_ | fail)
  all_goals first | (exfalso; first | omega | contradiction | exact absurd ‹_› ‹¬ _›) | skip
  refine gcs ?_
  refine gc_join (ι := Mem × Int × Int × Int × Int) (fun i => MLe μ2 i.1 ∧ CountP s i.2.1 i.2.2.1 i.2.2.2.1 i.2.2.2.2) (fun i => i.1) (fun i => [(8, .int .i64 i.2.1), (5, .pointer (some ⟨rb, 0, none⟩)), (2, .pointer (some ⟨bu, 0, none⟩)), (0, (.string (ofB s)))]) (fun i => [.inl ⟨rb, 55, 5, [(0, .string (ofB s)), (1, .int .i64 i.2.2.1), (2, .int .i64 i.2.2.2.1), (3, .int .i64 i.2.2.2.2), (4, .map (some m))]⟩, .inl ⟨bu, 27, 1, idx 0 [.slice none 0 0]⟩]) ?_ ?_
  · rcases hF with ⟨rfl, rfl, hc⟩ | ⟨rfl, rfl, x, r, hc, hat, hz, hok⟩
    · repeat' (first | refine KK ?_ | refine NB fun b => ?_ | (refine KB ?_ ?_ <;> intro hp) | refine KG ?_ | fail)
      all_goals first | (exfalso; first | omega | contradiction | exact absurd ‹_› ‹¬ _›) | skip
      exact J1 (μ2, 0, at2, 1, 8) ⟨MLe.refl _, .inr ⟨(by decide : (8 : Int) ≠ 0), unitR_none (by omega) hc⟩⟩
    · cases hp : Iq.pre Iq.unitP x with
      | none =>
        rw [hp] at hz hok
        have hok : ok = false := hok
        subst hok
        repeat' (first | refine KO ?_ | (refine CF 30 ?_; (with_reducible apply g_enter_bor 1); exact rfl; exact rfl; exact rfl; ((with_reducible apply e_call2); kernel_rfl; exact rfl; exact rfl); exact rfl; (exact fun w hw hO => fail_spec rb (s, at2, 1, 0, m) 7 w _ hw hO); (rintro v2 μ4 ⟨⟩ hle4 hv); (dsimp only [List.cons_append, List.nil_append])) | (refine CF 31 ?_; (with_reducible apply g_enter_bor 1); exact rfl; exact rfl; exact rfl; ((with_reducible apply e_call4); kernel_rfl; exact rfl; exact rfl; exact rfl; exact rfl); exact rfl; (exact fun w hw hO => number_any z 1 4096 rb (s, at2, 1, 7, m) hzl w _ hw (hT.mono (hle1.trans (hle2.trans hle4))) hO); (rintro v2 μ5 ⟨⟩ hle5 rfl); (dsimp only [List.cons_append, List.nil_append])) | refine KI ?_ | refine NB fun b => ?_ | (refine KB ?_ ?_ <;> intro hp) | refine KG ?_ | fail)
        all_goals first | (exfalso; first | omega | contradiction | exact absurd ‹_› ‹¬ _›) | skip
        exact J1 (_, numV 1 4096 z, at2, 1, okS (numIn 1 4096 z).isSome 7 7) ⟨by first | exact hle5 | exact hle4.trans hle5, .inr (by rw [okS77]; exact ⟨(by decide : (7 : Int) ≠ 0), unitR_bad (by omega) hc (count_no hp)⟩)⟩
      | some zz =>
        rw [hp] at hz hok
        have hz : z = zz := hz
        subst hz
        have hok : ok = true := hok
        subst hok
        repeat' (first | refine KO ?_ | (refine CF 31 ?_; (with_reducible apply g_enter_bor 1); exact rfl; exact rfl; exact rfl; ((with_reducible apply e_call4); kernel_rfl; exact rfl; exact rfl; exact rfl; exact rfl); exact rfl; (exact fun w hw hO => number_any z 1 4096 rb (s, at2, 1, 0, m) hzl w _ hw (hT.mono (hle1.trans hle2)) hO); (rintro v2 μ5 ⟨⟩ hle5 rfl); (dsimp only [List.cons_append, List.nil_append])) | refine KI ?_ | refine NB fun b => ?_ | (refine KB ?_ ?_ <;> intro hp) | refine KG ?_ | fail)
        all_goals first | (exfalso; first | omega | contradiction | exact absurd ‹_› ‹¬ _›) | skip
        exact J1 (_, numV 1 4096 z, at2, 1, okS (numIn 1 4096 z).isSome 0 7) ⟨hle5, countP_num (by omega) hc hat hp⟩
  rintro ⟨μ3, vc, at3, ln3, e3⟩ ⟨hle3, hC⟩
  dsimp only at hle3 hC ⊢
  have hleA : MLe μ μ3 := hle1.trans (hle2.trans hle3)
  repeat' (first | refine KK ?_ | refine NB fun b => ?_ | (refine KB ?_ ?_ <;> intro hp) | refine KG ?_ | fail)
  all_goals first | (exfalso; first | omega | contradiction | exact absurd ‹_› ‹¬ _›) | skip
  rcases hC with ⟨rfl, rfl, x, r, hc, rfl, c, rfl, hcn, hcount⟩ | ⟨hne, hR⟩
  rotate_left
  · refine gc_loop (ι := Unit) (fun _ => True) (fun _ => 0) (fun _ => _) (fun _ => [(9, .int .i64 0), (8, .int .i64 vc), (5, .pointer (some ⟨rb, 0, none⟩)), (2, .pointer (some ⟨bu, 0, none⟩)), (0, (.string (ofB s)))]) (fun _ => [.inl ⟨rb, 55, 5, [(0, .string (ofB s)), (1, .int .i64 at3), (2, .int .i64 ln3), (3, .int .i64 e3), (4, .map (some m))]⟩, .inl ⟨bu, 27, 1, idx 0 [.slice none 0 0]⟩]) () trivial (fun a w hs => J5 hs) ?_
    intro _ _
    repeat' (first | refine KK ?_ | refine NB fun b => ?_ | (refine KB ?_ ?_ <;> intro hp) | refine KG ?_ | fail)
    all_goals first | (exfalso; first | omega | contradiction | exact absurd ‹_› ‹¬ _›) | skip
    all_goals refine gc_draw 12 _ (by kernel_rfl) rfl (List.Sublist.cons_cons _ (List.Sublist.cons _ (List.nil_sublist _))) ?_
              all_goals refine DD 0 ?_
              all_goals refine DD 1 ?_
              all_goals refine DD 2 ?_
              all_goals refine DD 3 ?_
              all_goals refine DD 4 ?_
              all_goals refine DD 5 ?_
              all_goals refine DD 6 ?_
              all_goals refine DD 7 ?_
              all_goals refine DD 8 ?_
              all_goals (first | (refine D3 9 ?_; refine D5 ?_; refine Y0 ?_; refine D9 ?_))
              all_goals refine DD 10 ?_
              all_goals refine DD 11 ?_
              all_goals refine D8 ?_
    all_goals repeat' (first | refine KK ?_ | refine NB fun b => ?_ | (refine KB ?_ ?_ <;> intro hp) | refine KG ?_ | fail)
    all_goals exact ret_mn (Post := ReadP (Iq.unitR opOf (Iq.rightU rowI) s)) rfl (rvs_cons (RG (vs := [.slice none 0 0]) 1 rfl rfl rfl rfl rfl) (rvs_cons (rv_tmp rfl) (rvs_cons (rv_tmp rfl) rvs_nil))) rfl (fun μ' _ _ => readP_err hR hne)
  have hcl := cut_len hc
  have hr : s.drop (x.length + 1) = r := by
    have h1 := (cut_len hc).1
    have h2 := congrArg (List.drop (x.length + 1)) h1
    rw [h2]
    simp
  obtain ⟨g, hg⟩ : ∃ g, g = 2 * s.length + 4 := ⟨_, rfl⟩
  refine gc_loop (ι := Nat × List (F × Value) × Mem × Value × Int × Int × Int) (FnJ g c 1 r s μ3) (fun i => c + 1 - i.1) (fun i => i.2.2.1) (fun i => [(9, .int .i64 (i.1 : Int)), (8, .int .i64 (c : Int)), (5, .pointer (some ⟨rb, 0, none⟩)), (2, .pointer (some ⟨bu, 0, none⟩)), (0, (.string (ofB s)))]) (fun i => [.inl ⟨rb, 55, 5, [(0, .string (ofB s)), (1, .int .i64 i.2.2.2.2.1), (2, .int .i64 i.2.2.2.2.2.1), (3, .int .i64 i.2.2.2.2.2.2), (4, .map (some m))]⟩, .inr ⟨i.2.2.2.1, 44, 10, i.2.1.length, i.2.1.flatMap encFV⟩, .inl ⟨bu, 27, 1, idx 0 [i.2.2.2.1]⟩]) (0, [], μ3, .slice none 0 0, ((x.length + 1 : Nat) : Int), 1, 0)
    ⟨Nat.zero_le _, rfl, MLe.refl _, (by simp), .inl ⟨rfl, x.length + 1, rfl, by omega, ⟨by dsimp only; omega, by dsimp only; omega⟩, fun p hp => (by cases hp), fun p hp => (by cases hp), by rw [hr]; exact (preF_nil _).symm⟩⟩ (fun a w hs => (hs.nilRow 44 10).sel PU PS) ?_
  rintro ⟨j, ps, μ9, v9, at9, ln9, e9⟩ ⟨hj, hpl, hle9, hone, hcase⟩
  dsimp only at hj hpl hle9 hone hcase ⊢
  refine gc_rowOk 1 rfl ?_
  rintro A1 c1 rfl hok1
  have hleB : MLe μ μ9 := hleA.trans hle9
  rcases hcase with ⟨he0, a9, ha9, ha, hlb, hkids, hall, hEq⟩ | ⟨hne, hEq⟩
  rotate_left
  · have hR := unitR_err (right := Iq.rightU rowI) (by omega) hc hcount (by rw [← hg]; exact hEq)
    repeat' (first | refine KK ?_ | refine NB fun b => ?_ | (refine KB ?_ ?_ <;> intro hp) | refine KG ?_ | fail)
    all_goals first | (exfalso; first | omega | contradiction | exact absurd ‹_› ‹¬ _›) | skip
    all_goals refine gc_draw 12 _ (by kernel_rfl) rfl (List.Sublist.cons_cons _ (List.Sublist.cons_cons _ (List.Sublist.cons _ (List.nil_sublist _)))) ?_
              all_goals refine DD 0 ?_
              all_goals refine DD 1 ?_
              all_goals refine DD 2 ?_
              all_goals refine DD 3 ?_
              all_goals refine DD 4 ?_
              all_goals refine DD 5 ?_
              all_goals refine DD 6 ?_
              all_goals refine DD 7 ?_
              all_goals refine DD 8 ?_
              all_goals (first | (refine D3 9 ?_; refine D5 ?_; refine Y0 ?_; refine D9 ?_))
              all_goals refine DD 10 ?_
              all_goals refine DD 11 ?_
              all_goals refine D8 ?_
    all_goals repeat' (first | refine KK ?_ | refine NB fun b => ?_ | (refine KB ?_ ?_ <;> intro hp) | refine KG ?_ | fail)
    all_goals exact ret_mn (Post := ReadP (Iq.unitR opOf (Iq.rightU rowI) s)) rfl (rvs_cons (RG (vs := [.slice none 0 0]) 2 rfl rfl rfl rfl rfl) (rvs_cons (rv_tmp rfl) (rvs_cons (rv_tmp rfl) rvs_nil))) rfl (fun μ' _ _ => readP_err hR hne)
  subst he0
  subst ha9
  by_cases hlt : j < c
  · have hcj : c - j = (c - j - 1) + 1 := by omega
    rw [hcj] at hEq
    have hfn := function_step g rb s (by omega) m a9 ha (by omega) ln9 hlb
    repeat' (first | refine KK ?_ | refine NB fun b => ?_ | (refine KB ?_ ?_ <;> intro hp) | refine KG ?_ | fail)
    all_goals first | (exfalso; first | omega | contradiction | exact absurd ‹_› ‹¬ _›) | skip
    refine gc_draw 8 _ (by kernel_rfl) rfl (List.Sublist.cons _ (List.Sublist.cons _ (List.Sublist.cons _ (List.nil_sublist _)))) ?_
    all_goals refine DD 0 ?_
    all_goals refine DD 2 ?_
    refine ga_all2 1 3 (by kernel_rfl) ?dr1_1 ?dr1_3
    case' dr1_1 =>
      (first | ((with_reducible apply gaop_val); exact rfl; exact rfl; exact rfl; exact rfl; (first | ((with_reducible apply pv_sound); exact rfl) | ((with_reducible apply v_ld); exact rfl; (repeat first | with_reducible exact inb_hd | with_reducible apply inb_tl); exact rfl))))
      all_goals (first | (refine D3 3 ?_; refine D5 ?_; (with_reducible apply g_enter_bor 1); exact rfl; exact rfl; exact rfl; ((with_reducible apply e_call1); kernel_rfl; exact rfl); exact rfl; (exact fun w5 hw5 hO5 => hfn w5 _ hw5 (hmq.mono hleB) (hT.mono hleB) (hnm.mono ((hle2.trans hle3).trans hle9)) hO5); (rintro v5 μ5 ⟨a5, l5, e5⟩ hle5 hp5); (obtain ⟨f5, u5, rfl, ho5, hc5⟩ := funP_form hp5); (dsimp only [List.cons_append, List.nil_append]); refine D9 ?_))
      all_goals (first | (refine D3 4 ?_; refine D5 ?_; refine NB fun b => ?_; refine D9 ?_))
      all_goals (first | (refine D3 5 ?_; refine D5 ?_; (first | ((with_reducible apply g_ap); exact rfl; exact rfl; exact rfl; (repeat first | with_reducible exact rowup_hd | with_reducible apply rowup_tl); (iterate 6 exact rfl); (first | ((with_reducible apply src_in); exact rfl; (repeat first | with_reducible exact inb_hd | with_reducible apply inb_tl); exact rfl)); (first | exact rfl | omega | simp); (first | assumption | (exact ones_mem (by (repeat first | with_reducible exact ones_nil | ((with_reducible apply ones_cons); (first | exact rfl | assumption))))) | simp [Value.oneCell']); omega; omega; intro v) | ((with_reducible apply g_append0); (iterate 9 exact rfl); (first | ((with_reducible apply src_in); exact rfl; (repeat first | with_reducible exact inb_hd | with_reducible apply inb_tl); exact rfl)); (first | exact rfl | omega | simp); (first | assumption | (exact ones_mem (by (repeat first | with_reducible exact ones_nil | ((with_reducible apply ones_cons); (first | exact rfl | assumption))))) | simp [Value.oneCell']); omega; omega; intro v)); refine D9 ?_))
      all_goals refine DD 6 ?_
      all_goals (first | (refine D3 7 ?_; refine D5 ?_; (first | refine Y0 ?_ | ((with_reducible apply g_rowOk 2); exact rfl; rintro A4 c4 rfl hok4; (with_reducible apply g_st); exact rfl; exact rfl; (repeat first | with_reducible exact ones_nil | ((with_reducible apply ones_cons); (first | exact rfl | assumption))); (repeat first | with_reducible apply upb_hd | with_reducible apply upb_tl); exact rfl; (repeat first | with_reducible exact pc_nil | with_reducible apply pc_cons))); refine D9 ?_))
      all_goals refine D8 ?_
    case' dr1_3 =>
      (first | (refine D5 ?_; (with_reducible apply g_enter_bor 1); exact rfl; exact rfl; exact rfl; ((with_reducible apply e_call1); kernel_rfl; exact rfl); exact rfl; (exact fun w5 hw5 hO5 => hfn w5 _ hw5 (hmq.mono hleB) (hT.mono hleB) (hnm.mono ((hle2.trans hle3).trans hle9)) hO5); (rintro v5 μ5 ⟨a5, l5, e5⟩ hle5 hp5); (obtain ⟨f5, u5, rfl, ho5, hc5⟩ := funP_form hp5); (dsimp only [List.cons_append, List.nil_append]); refine D9 ?_))
      refine ga_all2 1 4 (by kernel_rfl) ?dr2_1 ?dr2_4
      case' dr2_1 =>
        (first | ((with_reducible apply gaop_val); exact rfl; exact rfl; exact rfl; exact rfl; (first | ((with_reducible apply pv_sound); exact rfl) | ((with_reducible apply v_ld); exact rfl; (repeat first | with_reducible exact inb_hd | with_reducible apply inb_tl); exact rfl))))
        all_goals (first | (refine D3 4 ?_; refine D5 ?_; refine NB fun b => ?_; refine D9 ?_))
        all_goals (first | (refine D3 5 ?_; refine D5 ?_; (first | ((with_reducible apply g_ap); exact rfl; exact rfl; exact rfl; (repeat first | with_reducible exact rowup_hd | with_reducible apply rowup_tl); (iterate 6 exact rfl); (first | ((with_reducible apply src_in); exact rfl; (repeat first | with_reducible exact inb_hd | with_reducible apply inb_tl); exact rfl)); (first | exact rfl | omega | simp); (first | assumption | (exact ones_mem (by (repeat first | with_reducible exact ones_nil | ((with_reducible apply ones_cons); (first | exact rfl | assumption))))) | simp [Value.oneCell']); omega; omega; intro v) | ((with_reducible apply g_append0); (iterate 9 exact rfl); (first | ((with_reducible apply src_in); exact rfl; (repeat first | with_reducible exact inb_hd | with_reducible apply inb_tl); exact rfl)); (first | exact rfl | omega | simp); (first | assumption | (exact ones_mem (by (repeat first | with_reducible exact ones_nil | ((with_reducible apply ones_cons); (first | exact rfl | assumption))))) | simp [Value.oneCell']); omega; omega; intro v)); refine D9 ?_))
        all_goals refine DD 6 ?_
        all_goals (first | (refine D3 7 ?_; refine D5 ?_; (first | refine Y0 ?_ | ((with_reducible apply g_rowOk 2); exact rfl; rintro A4 c4 rfl hok4; (with_reducible apply g_st); exact rfl; exact rfl; (repeat first | with_reducible exact ones_nil | ((with_reducible apply ones_cons); (first | exact rfl | assumption))); (repeat first | with_reducible apply upb_hd | with_reducible apply upb_tl); exact rfl; (repeat first | with_reducible exact pc_nil | with_reducible apply pc_cons))); refine D9 ?_))
        all_goals refine D8 ?_
      case' dr2_4 =>
        (first | (refine D5 ?_; refine NB fun b => ?_; refine D9 ?_))
        all_goals (first | (refine D3 1 ?_; (with_reducible apply gaop_val); exact rfl; exact rfl; exact rfl; exact rfl; (first | ((with_reducible apply pv_sound); exact rfl) | ((with_reducible apply v_ld); exact rfl; (repeat first | with_reducible exact inb_hd | with_reducible apply inb_tl); exact rfl))))
        all_goals (first | (refine D3 5 ?_; refine D5 ?_; (first | ((with_reducible apply g_ap); exact rfl; exact rfl; exact rfl; (repeat first | with_reducible exact rowup_hd | with_reducible apply rowup_tl); (iterate 6 exact rfl); (first | ((with_reducible apply src_in); exact rfl; (repeat first | with_reducible exact inb_hd | with_reducible apply inb_tl); exact rfl)); (first | exact rfl | omega | simp); (first | assumption | (exact ones_mem (by (repeat first | with_reducible exact ones_nil | ((with_reducible apply ones_cons); (first | exact rfl | assumption))))) | simp [Value.oneCell']); omega; omega; intro v) | ((with_reducible apply g_append0); (iterate 9 exact rfl); (first | ((with_reducible apply src_in); exact rfl; (repeat first | with_reducible exact inb_hd | with_reducible apply inb_tl); exact rfl)); (first | exact rfl | omega | simp); (first | assumption | (exact ones_mem (by (repeat first | with_reducible exact ones_nil | ((with_reducible apply ones_cons); (first | exact rfl | assumption))))) | simp [Value.oneCell']); omega; omega; intro v)); refine D9 ?_))
        all_goals refine DD 6 ?_
        all_goals (first | (refine D3 7 ?_; refine D5 ?_; (first | refine Y0 ?_ | ((with_reducible apply g_rowOk 2); exact rfl; rintro A4 c4 rfl hok4; (with_reducible apply g_st); exact rfl; exact rfl; (repeat first | with_reducible exact ones_nil | ((with_reducible apply ones_cons); (first | exact rfl | assumption))); (repeat first | with_reducible apply upb_hd | with_reducible apply upb_tl); exact rfl; (repeat first | with_reducible exact pc_nil | with_reducible apply pc_cons))); refine D9 ?_))
        all_goals refine D8 ?_
    all_goals repeat' (first | refine KK ?_ | refine NB fun b => ?_ | (refine KB ?_ ?_ <;> intro hp) | refine KG ?_ | fail)
    all_goals refine gq_rowEq (n' := (ps ++ [(f5, u5)]).length) (xs' := (ps ++ [(f5, u5)]).flatMap encFV) 2 rfl (by simp) (by simp) ?_
    all_goals refine J2 (j + 1, ps ++ [(f5, u5)], μ5, .slice A4 (ps.length + 1) c4, a5, l5, e5) ?_ (by dsimp only; omega)
    all_goals exact fnj_step hlt hpl hle9 hone hkids hall hEq hle5 ho5 hc5
  obtain rfl : j = c := by omega
  rw [Nat.sub_self, funcs_zero] at hEq
  rw [hg] at hEq
  obtain ⟨hcl2, hszs⟩ := funcs_size hEq (by omega)
  refine gc_share_1 rfl ?_
  intro μ10 hle10 hsh
  have hFs : Fs μ10 A1 ps.length ps := fs_post2 (by omega) hkids hszs hle10 hsh
  have hend := unitR_end (right := Iq.rightU rowI) (by omega) hc hcount hEq
  by_cases hat : a9 < s.length
  · have hR : Iq.unitR opOf (Iq.rightU rowI) s = .error (ln9 + 1, 7) := by
      rw [hend]
      exact if_neg (fun h => by have := congrArg List.length h; rw [List.length_drop, List.length_nil] at this; omega)
    repeat' (first | ((with_reducible show GC _ _ (Code.region 16 _ _) _ _ _ _); (apply gc_stop)) | refine KK ?_ | refine NB fun b => ?_ | (refine KB ?_ ?_ <;> intro hp) | refine KG ?_ | fail)
    all_goals first | (exfalso; first | omega | contradiction | exact absurd ‹_› ‹¬ _›) | skip
    refine gcs ?_
    refine gc_sel (l' := [(5, .pointer (some ⟨rb, 0, none⟩)), (2, .pointer (some ⟨bu, 0, none⟩)), (0, (.string (ofB s)))]) (L' := [.inl ⟨rb, 55, 5, [(0, .string (ofB s)), (1, .int .i64 (a9 : Int)), (2, .int .i64 (ln9 + 1)), (3, .int .i64 0), (4, .map (some m))]⟩, .inl ⟨bu, 27, 1, idx 0 [.slice A1 ps.length c1]⟩]) PU PS ?_
    repeat' (first | refine KO ?_ | (refine CF 30 ?_; (with_reducible apply g_enter_bor 1); exact rfl; exact rfl; exact rfl; ((with_reducible apply e_call2); kernel_rfl; exact rfl; exact rfl); exact rfl; (exact fun w hw hO => fail_spec rb (s, (a9 : Int), ln9 + 1, 0, m) 7 w _ hw hO); (rintro v2 μ4 ⟨⟩ hle4 hv); (dsimp only [List.cons_append, List.nil_append])) | refine KI ?_ | refine NB fun b => ?_ | (refine KB ?_ ?_ <;> intro hp) | refine KG ?_ | fail)
    all_goals first | (exfalso; first | omega | contradiction | exact absurd ‹_› ‹¬ _›) | skip
    all_goals refine gc_draw 12 _ (by kernel_rfl) rfl (List.Sublist.cons_cons _ (List.Sublist.cons _ (List.nil_sublist _))) ?_
              all_goals refine DD 0 ?_
              all_goals refine DD 1 ?_
              all_goals refine DD 2 ?_
              all_goals refine DD 3 ?_
              all_goals refine DD 4 ?_
              all_goals refine DD 5 ?_
              all_goals refine DD 6 ?_
              all_goals refine DD 7 ?_
              all_goals refine DD 8 ?_
              all_goals (first | (refine D3 9 ?_; refine D5 ?_; refine Y0 ?_; refine D9 ?_))
              all_goals refine DD 10 ?_
              all_goals refine DD 11 ?_
              all_goals refine D8 ?_
    all_goals repeat' (first | refine KK ?_ | refine NB fun b => ?_ | (refine KB ?_ ?_ <;> intro hp) | refine KG ?_ | fail)
    all_goals exact ret_mn (Post := ReadP (Iq.unitR opOf (Iq.rightU rowI) s)) rfl (rvs_cons (RG (vs := [.slice none 0 0]) 1 rfl rfl rfl rfl rfl) (rvs_cons (rv_tmp rfl) (rvs_cons (rv_tmp rfl) rvs_nil))) rfl (fun μ' _ _ => readP_err hR (by decide))
  have hd : s.drop a9 = [] := List.drop_eq_nil_of_le (by omega)
  rw [if_pos hd] at hend
  have hrt := fun (w : World) (μc : Mem) (hw : MOk μc w) (hle : MLe μ10 μc) => pright_spec ps A1 c1 ps.length w μc hw (hFs.mono hle) (hmq.mono (hleB.trans (hle10.trans hle))) hall
  generalize Iq.rightU rowI (ps.map fun p => fnP p.1) = bR at hrt hend
  cases bR
  · rw [if_neg (by simp)] at hend
    repeat' (first | refine KO ?_ | ((with_reducible apply F1 19); exact rfl; exact EN; exact fun w μc hw hse => hrt w μc hw hse.le) | refine KI ?_ | refine NB fun b => ?_ | (refine KB ?_ ?_ <;> intro hp) | refine KG ?_ | fail)
    all_goals first | (exfalso; first | omega | contradiction | exact absurd ‹_› ‹¬ _›) | skip
    all_goals exact ret_mn (Post := ReadP (Iq.unitR opOf (Iq.rightU rowI) s)) rfl (rvs_cons (RG (vs := [.slice none 0 0]) 1 rfl rfl rfl rfl rfl) (rvs_cons (rv_tmp rfl) (rvs_cons (rv_tmp rfl) rvs_nil))) rfl (fun μ' _ _ => readP_err hend (by decide))
  · rw [if_pos rfl] at hend
    repeat' (first | refine KO ?_ | ((with_reducible apply F1 19); exact rfl; exact EN; exact fun w μc hw hse => hrt w μc hw hse.le) | refine KI ?_ | refine NB fun b => ?_ | (refine KB ?_ ?_ <;> intro hp) | refine KG ?_ | fail)
    all_goals first | (exfalso; first | omega | contradiction | exact absurd ‹_› ‹¬ _›) | skip
    all_goals exact ret_mn (Post := ReadP (Iq.unitR opOf (Iq.rightU rowI) s)) rfl (rvs_cons (RG (vs := [.slice A1 ps.length c1]) 1 rfl rfl rfl rfl rfl) (rvs_cons (rv_tmp rfl) (rvs_cons (rv_tmp rfl) rvs_nil))) rfl (fun μ' hle' _ => readP_ok hend (hFs.mono hle') hall)
end
section
open Go.RowKit Go.Vcg Go.Shelf Ou
theorem stripL_map : ∀ l : List T, Iq.stripL l = l.map Iq.strip
  | [] => by rw [Iq.stripL]; rfl
  | t :: r => by rw [Iq.stripL, stripL_map r]; rfl
theorem sm_strip (t : T) : Sm t (Iq.strip t) := T.ind2 (p := fun t => Sm t (Iq.strip t)) (fun t ih => by
  cases t with
  | mk o a n m s ks =>
    rw [show Iq.strip (.mk o a n m s ks) = .mk o 0 n m s (ks.map Iq.strip) by rw [Iq.strip, stripL_map]]
    refine sm_iff.2 ⟨rfl, rfl, rfl, rfl, by show ks.length = (ks.map _).length; simp, fun i x y hx hy => ?_⟩
    have hx : ks[i]? = some x := hx
    have hy : (ks.map Iq.strip)[i]? = some y := hy
    rw [List.getElem?_map, hx] at hy
    cases hy
    exact ih x (List.mem_of_getElem? hx)) t
theorem smU_strip {ps qs : List (F × Value)} (h : (qs.map fun p => fnP p.1) = (ps.map fun p => fnP p.1).map Iq.stripF) : SmU ps qs :=
  ⟨by have := congrArg List.length h; simpa using this.symm, fun i p q hp hq => by
    have h2 := congrArg (fun l => l[i]?) h
    simp only [List.getElem?_map, hp, hq, Option.map_some] at h2
    have h3 := Option.some.inj h2
    obtain ⟨⟨n1, k1, l1, c1, b1⟩, u⟩ := p
    obtain ⟨⟨n2, k2, l2, c2, b2⟩, v⟩ := q
    simp only [fnP, Iq.stripF, Iq.FnP.mk.injEq] at h3
    obtain ⟨rfl, rfl, rfl, rfl, rfl⟩ := h3
    exact ⟨rfl, rfl, rfl, rfl, sm_strip _⟩⟩
theorem text_back {l : List UInt8} (hl : l.length ≤ 1000000) {fs2 : List Iq.FnP} (hU : Iq.unitR opOf (Iq.rightU rowI) l = .ok fs2) {qs : List (F × Value)} (hqs : (qs.map fun p => fnP p.1) = fs2) {A : Option Addr} {c : Nat} (w : World) (μ : Mem) (hμ : MOk μ w) (hF : Fs μ A qs.length qs) (hmq : MaxQ μ) (hT : TabOk μ) (hall : ∀ p ∈ qs, AllT qN p.1.body) :
    Calls Tryz.prog 17 #[.agg #[.slice A qs.length c]] w fun e w' => e = .returned (.tuple #[.string (ofB l), .int .i64 0]) ∧ Below w.heap.size w w' := by
  obtain ⟨h1, h2⟩ := Iq.unit_text rowOp hU
  subst hqs
  have h := ptext_all qs A c qs.length w μ hμ hF hmq hT hall (fun _ => by rw [← h1]; omega)
  unfold txB txE at h
  rw [if_pos h2, if_pos h2, ← h1] at h
  exact h
theorem read_back {μ : Mem} {A : Option Addr} {n : Nat} {ps : List (F × Value)} (hF : Fs μ A n ps) (hall : ∀ p ∈ ps, AllT qN p.1.body) (hw : (ps.map wtF).sum ≤ 90000) (hR : Iq.rightU rowI (ps.map fun p => fnP p.1) = true) : Iq.unitR opOf (Iq.rightU rowI) (Iq.unitT rowI (ps.map fun p => fnP p.1)) = .ok ((ps.map fun p => fnP p.1).map Iq.stripF) := by
  obtain ⟨h1, h2, h3⟩ := Iq.right_ok (row := rowI) (fs := ps.map fun p => fnP p.1) (fun f hf => by
    obtain ⟨p, hp, rfl⟩ := List.mem_map.1 hf
    exact szT_of _ (hall p hp) (hF.2.2 p hp).2) hR
  have h4 := law_len hF hall hw hR
  exact Iq.unit_back rowOp h1 ⟨h2, h3⟩ (by rw [Iq.right_strip]; exact hR) (by omega)
theorem same_t {ps qs : List (F × Value)} {A A2 : Option Addr} {c c2 : Nat} (h : SmU ps qs) (w : World) (μ : Mem) (hμ : MOk μ w) (hp : Fs μ A ps.length ps) (hq : Fs μ A2 qs.length qs) :
    Calls Tryz.prog 23 #[.agg #[.slice A ps.length c], .agg #[.slice A2 qs.length c2]] w fun e w' => e = .returned (.bool true) ∧ Below w.heap.size w w' := by
  have := irSame_spec ps qs A A2 c c2 w μ hμ hp hq
  rw [smUB_t h] at this
  exact this
attribute [local irreducible] nmL Iq.unitR rowI Iq.rightU Iq.unitT Iq.nodeT Iq.kidsT smUB G GC GQ GA GAop Calls IntKind.wrap Int.decLt Int.decLe
theorem back_walk (w : World) (μ : Mem) (hμ : MOk μ w) (hmq : MaxQ μ) (hT : TabOk μ) (A : Option Addr) (n c : Nat) (fs : List UFnI) (hc : Sl encFn 5 μ A n fs) (hfn : ∀ f ∈ fs, FnQ μ f) (hmax : n ≤ 9223372036854775807) (s : ByteArray) (hs : s.size ≤ 9223372036854775807) :
    Calls Tryz.prog 7 #[.slice A n c, .string s] w fun e w' => e = .returned (.bool true) ∧ Below w.heap.size w w' := by
  refine call_intro (args := [.slice A n c, .string s]) Tryz.func7 rfl Tryz.ntmps7 (by simp) hμ ?_
  repeat' (first | ((with_reducible show GC _ _ (Code.seq (Code.seq (Code.region 4 _ _) _) _) _ _ _ _); (apply gc_stop)) | refine KO ?_ | ((with_reducible apply F2 16); exact rfl; exact EN; (exact fun w hw => unit2_spec w μ hw A n c fs hc hfn hmax); rintro v1 μ1 hle1 ⟨A3, c3, ps, ok1, rfl, hF, hall, hwt⟩) | ((with_reducible apply F1 12); exact rfl; exact EN; (exact fun w μc hw hse => lives_spec w μc hw (maxM_ofQ2 (hmq.mono (hle1.trans hse.le))))) | refine KI ?_ | refine NB fun b => ?_ | (refine KB ?_ ?_ <;> intro hp) | refine KG ?_ | fail)
  all_goals try exact ret_s rfl rfl rfl
  have hok1 : ok1 = true := by first | exact hp | (cases ok1 <;> simp_all)
  have hwt2 := hwt hok1
  have hpn := hF.2.1
  obtain ⟨bu, hbu⟩ : ∃ x, x = b := ⟨_, rfl⟩
  rw [← hbu]
  clear hbu
  have hmq1 := hmq.mono hle1
  have hT1 := hT.mono hle1
  refine gcs (gc_sel (l' := [(5, .pointer (some ⟨bu, 0, none⟩)), (1, .string s)]) (L' := [.inl ⟨bu, 27, 1, idx 0 [.slice A3 ps.length c3]⟩]) PU PS ?_)
  refine gc_join (ι := ByteArray × List UInt8) (fun i => i.1 = ofB i.2 ∧ i.2.length ≤ 5000) (fun _ => μ1) (fun i => [(5, .pointer (some ⟨bu, 0, none⟩)), (1, .string i.1)]) (fun _ => [.inl ⟨bu, 27, 1, idx 0 [.slice A3 ps.length c3]⟩]) ?_ ?_
  · by_cases h5 : s.size ≤ 5000
    · repeat' (first | refine KK ?_ | refine NB fun b => ?_ | (refine KB ?_ ?_ <;> intro hp) | refine KG ?_ | fail)
      all_goals first | (exfalso; first | omega | contradiction | (exact absurd ‹_› ‹¬ _›) | (exact absurd rfl ‹_›)) | skip
      exact J1 (s, byS s) ⟨(ofB_byS s).symm, h5⟩
    · repeat' (first | refine KO ?_ | (refine KV (b := by first | ((with_reducible apply v_str_hi 5000); exact rfl; exact rfl; exact rfl; exact rfl; omega)) (c := ?_)) | refine KI ?_ | refine NB fun b => ?_ | (refine KB ?_ ?_ <;> intro hp) | refine KG ?_ | fail)
      all_goals first | (exfalso; first | omega | contradiction | (exact absurd ‹_› ‹¬ _›) | (exact absurd rfl ‹_›)) | skip
      exact J1 (s.extract 0 5000, byS (s.extract 0 5000)) ⟨(ofB_byS _).symm, by show (s.extract 0 5000).size ≤ 5000; rw [ByteArray.size_extract]; omega⟩
  rintro ⟨s2, l⟩ ⟨hs2, hl5⟩
  dsimp only at hs2 hl5 ⊢
  subst hs2
  have hlen : Iq.rightU rowI (ps.map fun p => fnP p.1) = true → (Iq.unitT rowI (ps.map fun p => fnP p.1)).length ≤ 1000000000 := fun h => by
    have := law_len hF hall hwt2 h
    omega
  have t1 := fun (w : World) (μc : Mem) (hw : MOk μc w) (hle : MLe μ1 μc) => ptext_all ps A3 c3 ps.length w μc hw (hF.mono hle) (hmq1.mono hle) (hT1.mono hle) hall hlen
  have r1 := fun (w : World) (μc : Mem) (hw : MOk μc w) (hle : MLe μ1 μc) => pright_spec ps A3 c3 ps.length w μc hw (hF.mono hle) (hmq1.mono hle) hall
  unfold txB txE at t1
  cases hR : Iq.rightU rowI (ps.map fun p => fnP p.1)
  · rw [hR, if_neg (by simp), if_neg (by simp)] at t1
    rw [hR] at r1
    repeat' (first | ((with_reducible show GC _ _ (Code.seq (Code.region 13 _ _) _) _ _ _ _); (apply gc_stop)) | refine KO ?_ | ((with_reducible apply F1 17); exact rfl; exact EN; (exact fun w μc hw hse => t1 w μc hw hse.le)) | ((with_reducible apply F1 19); exact rfl; exact EN; (exact fun w μc hw hse => r1 w μc hw hse.le)) | refine KI ?_ | refine NB fun b => ?_ | (refine KB ?_ ?_ <;> intro hp) | refine KG ?_ | fail)
    all_goals first | (exfalso; first | omega | contradiction | (exact absurd ‹_› ‹¬ _›) | (exact absurd rfl ‹_›)) | skip
    refine gcs (gc_sel (l' := [(1, .string (ofB l))]) (L' := []) PU PS ?_)
    have hrd3 := fun (w : World) (hw : MOk μ1 w) => iread_spec l (by omega) w μ1 hw (hmq1.mono (MLe.refl μ1)) (hT1.mono (MLe.refl μ1))
    cases hU : Iq.unitR opOf (Iq.rightU rowI) l with
    | error q =>
      obtain ⟨k, e⟩ := q
      rw [hU] at hrd3
      repeat' (first | refine KO ?_ | ((with_reducible apply F2 13); exact rfl; exact EN; (exact fun w hw => hrd3 w hw); rintro v6 μ6 hle6 ⟨rfl, he6⟩) | ((with_reducible apply F1 12); exact rfl; exact EN; (exact fun w μc hw hse => lives_spec w μc hw (maxM_ofQ2 (hmq.mono ((hle1.trans (MLe.trans (MLe.refl μ1) hle6)).trans hse.le))))) | refine KI ?_ | refine NB fun b => ?_ | (refine KB ?_ ?_ <;> intro hp) | refine KG ?_ | fail)
      all_goals first | (exfalso; first | omega | contradiction | (exact absurd ‹_› ‹¬ _›) | (exact absurd rfl ‹_›)) | skip
      all_goals exact ret_s rfl rfl rfl
    | ok fs2 =>
      rw [hU] at hrd3
      repeat' (first | refine KO ?_ | ((with_reducible apply F2 13); exact rfl; exact EN; (exact fun w hw => hrd3 w hw); rintro v6 μ6 hle6 ⟨A6, c6, qs6, rfl, hqs6, hF6, hall6⟩) | ((with_reducible apply F1 17); exact rfl; exact EN; (exact fun w μc hw hse => text_back (by omega) hU hqs6 w μc hw (hF6.mono hse.le) (hmq1.mono (MLe.trans (MLe.refl μ1) (hle6.trans hse.le))) (hT1.mono (MLe.trans (MLe.refl μ1) (hle6.trans hse.le))) hall6)) | ((with_reducible apply F1 12); exact rfl; exact EN; (exact fun w μc hw hse => lives_spec w μc hw (maxM_ofQ2 (hmq.mono ((hle1.trans (MLe.trans (MLe.refl μ1) hle6)).trans hse.le))))) | refine KI ?_ | refine NB fun b => ?_ | (refine KB ?_ ?_ <;> intro hp) | refine KG ?_ | fail)
      all_goals first | (exfalso; first | omega | contradiction | (exact absurd ‹_› ‹¬ _›) | (exact absurd rfl ‹_›)) | skip
      all_goals exact ret_s rfl rfl rfl
  · have hb := read_back hF hall hwt2 hR
    have hl6 := law_len hF hall hwt2 hR
    rw [hR, if_pos rfl, if_pos rfl] at t1
    rw [hR] at r1
    have hrd1 := fun (w : World) (hw : MOk μ1 w) => iread_spec _ (Nat.le_trans hl6 (by omega)) w μ1 hw hmq1 hT1
    rw [hb] at hrd1
    repeat' (first | ((with_reducible show GC _ _ (Code.seq (Code.region 13 _ _) _) _ _ _ _); (apply gc_stop)) | refine KO ?_ | ((with_reducible apply F1 17); exact rfl; exact EN; (exact fun w μc hw hse => t1 w μc hw hse.le)) | ((with_reducible apply F1 19); exact rfl; exact EN; (exact fun w μc hw hse => r1 w μc hw hse.le)) | ((with_reducible apply F2 13); exact rfl; exact EN; (exact fun w hw => hrd1 w hw); rintro v5 μ5 hle5 ⟨A5, c5, qs5, rfl, hqs5, hF5, hall5⟩) | ((with_reducible apply F1 23); exact rfl; exact EN; (exact fun w μc hw hse => same_t (smU_strip hqs5) w μc hw ((hF.mono hle5).mono hse.le) (hF5.mono hse.le))) | refine KI ?_ | refine NB fun b => ?_ | (refine KB ?_ ?_ <;> intro hp) | refine KG ?_ | fail)
    all_goals first | (exfalso; first | omega | contradiction | (exact absurd ‹_› ‹¬ _›) | (exact absurd rfl ‹_›)) | skip
    refine gcs (gc_sel (l' := [(1, .string (ofB l))]) (L' := []) PU PS ?_)
    have hrd3 := fun (w : World) (hw : MOk μ5 w) => iread_spec l (by omega) w μ5 hw (hmq1.mono hle5) (hT1.mono hle5)
    cases hU : Iq.unitR opOf (Iq.rightU rowI) l with
    | error q =>
      obtain ⟨k, e⟩ := q
      rw [hU] at hrd3
      repeat' (first | refine KO ?_ | ((with_reducible apply F2 13); exact rfl; exact EN; (exact fun w hw => hrd3 w hw); rintro v6 μ6 hle6 ⟨rfl, he6⟩) | ((with_reducible apply F1 12); exact rfl; exact EN; (exact fun w μc hw hse => lives_spec w μc hw (maxM_ofQ2 (hmq.mono ((hle1.trans (MLe.trans hle5 hle6)).trans hse.le))))) | refine KI ?_ | refine NB fun b => ?_ | (refine KB ?_ ?_ <;> intro hp) | refine KG ?_ | fail)
      all_goals first | (exfalso; first | omega | contradiction | (exact absurd ‹_› ‹¬ _›) | (exact absurd rfl ‹_›)) | skip
      all_goals exact ret_s rfl rfl rfl
    | ok fs2 =>
      rw [hU] at hrd3
      repeat' (first | refine KO ?_ | ((with_reducible apply F2 13); exact rfl; exact EN; (exact fun w hw => hrd3 w hw); rintro v6 μ6 hle6 ⟨A6, c6, qs6, rfl, hqs6, hF6, hall6⟩) | ((with_reducible apply F1 17); exact rfl; exact EN; (exact fun w μc hw hse => text_back (by omega) hU hqs6 w μc hw (hF6.mono hse.le) (hmq1.mono (MLe.trans hle5 (hle6.trans hse.le))) (hT1.mono (MLe.trans hle5 (hle6.trans hse.le))) hall6)) | ((with_reducible apply F1 12); exact rfl; exact EN; (exact fun w μc hw hse => lives_spec w μc hw (maxM_ofQ2 (hmq.mono ((hle1.trans (MLe.trans hle5 hle6)).trans hse.le))))) | refine KI ?_ | refine NB fun b => ?_ | (refine KB ?_ ?_ <;> intro hp) | refine KG ?_ | fail)
      all_goals first | (exfalso; first | omega | contradiction | (exact absurd ‹_› ‹¬ _›) | (exact absurd rfl ‹_›)) | skip
      all_goals exact ret_s rfl rfl rfl
end
end Go.Proofs.YtoclmkdfcafhfaaGreatDoor
