/- The reference reads outcomes. (and what leans on it). No statement of the seat is proved here. -/
import Derived.Test.YtmihpkdhfomcgaaGreatDoorMp
import Derived.Test.YtmihpkdhfomcgaaGreatDoorSt
import Derived.Test.YtmihpkdhfomcgaaGreatDoorMr
import Derived.Test.YtmihpkdhfomcgaaGreatDoorMs
set_option maxRecDepth 20000
set_option maxHeartbeats 2000000
namespace Go.Vcg
open Go.RowKit
section
variable {P : Program} {μ : Mem} {l : Slots} {L : List Bk} {w : World}
theorem ret_mn {fn : Func} {n : Nat} {rs : List ResultVar} {vs : List Value} {μ0 : Mem} {Post : Mem → Value → Prop} (hr : fn.results = rs.toArray) (h : RVs P μ l L rs vs) (hl : Nat.beq vs.length 1 = false) (hp : ∀ μ', MLe μ μ' → (∀ x ∈ L, Bk.sh x μ') → Post μ' (.tuple vs.toArray)) :
    GQ ⟨w, μ0, [], n⟩ (bodyPost P fn (fun e w' => ∃ v μ', e = .returned v ∧ Grow w w' μ0 μ' ∧ Post μ' v)) .ret μ l L := fun a w' hs => by
  obtain ⟨μ', hg, hle, hL⟩ := hs.publish
  exact ⟨hs.defers.none (by simp), .tuple vs.toArray, resultsN hr h hl hs.rd, _, μ', rfl, hg, hp μ' hle hL⟩
end
section
variable {P : Program} {μ : Mem} {l : Slots} {L : List Bk} {ty : TypeId} {pos : String} {af : Array Edge} {gd : Option (Nat × Bool)} {ds : Option Nat}
theorem v_str_hiE {p q : Operand} {t : TypeId} {b b' : ByteArray} {j : Int} (k : Nat) (he : b.extract 0 k = b') (ht : P.underlying t = some .string) (hx : ev l p = some (.string b)) (hq : ev l q = some (.int .i64 j)) (hj : j = (k : Int)) (hk : k ≤ b.size) :
    Val P μ l L ⟨ds, .slice t p none (some q) none, ty, pos, af, gd⟩ (.string b') := by
  rw [← he]
  exact v_str_hi k ht hx hq hj hk
theorem v_str_loE {p q : Operand} {t : TypeId} {b b' : ByteArray} {j : Int} (k : Nat) (he : b.extract k b.size = b') (ht : P.underlying t = some .string) (hx : ev l p = some (.string b)) (hq : ev l q = some (.int .i64 j)) (hj : j = (k : Int)) (hk : k ≤ b.size) :
    Val P μ l L ⟨ds, .slice t p (some q) none none, ty, pos, af, gd⟩ (.string b') := by
  rw [← he]
  exact v_str_lo k ht hx hq hj hk
end
end Go.Vcg
namespace Go.Proofs.YtmihpkdhfomcgaaGreatDoor
open Go.RowKit Go.Vcg Ou
theorem cut_len {c : UInt8} {l a b : List UInt8} (h : Ou.cutB c l = some (a, b)) : l.length = a.length + b.length + 1 := by
  rw [(cutB_some h).1, List.length_append, List.length_cons]; omega
theorem run_fuel : ∀ (f f' : Nat) (k : Int) (st : Ou.St) (s : List UInt8) (o : OutP), s.length < f → s.length < f' → runR keyR f k st s o = runR keyR f' k st s o
  | 0, _, _, _, _, _, h, _ => by omega
  | f + 1, 0, _, _, _, _, _, h => by omega
  | f + 1, f' + 1, k, st, s, o, h1, h2 => by
    unfold runR
    cases hc : Ou.cutB 10 s with
    | none => rfl
    | some p =>
      obtain ⟨l, r⟩ := p
      have := cut_len hc
      have ih := fun k st o => run_fuel f f' k st r o (by omega) (by omega)
      dsimp only
      cases oneR keyR l with
      | none => rfl
      | some x => dsimp only; rw [ih]
theorem read_run (s : List UInt8) : readR keyR s = runR keyR (s.length + 1) 1 .start s zeroO := run_fuel _ _ _ _ _ _ (by omega) (by omega)
theorem more_iff (st : Ou.St) (s : List UInt8) : moreR st s = true ↔ ofB s ≠ ⟨#[]⟩ ∨ ofB (stW st) = ⟨#[]⟩ ∨ ofB (stW st) = ⟨#[101, 110, 100, 115]⟩ ∨ ofB (stW st) = ⟨#[115, 116, 101, 112, 115]⟩ := by
  have h1 : ofB s ≠ ⟨#[]⟩ ↔ s ≠ [] := not_congr ⟨fun h => ofB_inj (b := []) h, fun h => by rw [h]; rfl⟩
  have h2 : ∀ u v : List UInt8, ofB u = ofB v ↔ u = v := fun u v => ⟨ofB_inj, fun h => by rw [h]⟩
  have h3 : ∀ v : List UInt8, ofB (stW st) = ofB v ↔ stW st = v := fun v => h2 _ v
  rw [h1, show (⟨#[]⟩ : ByteArray) = ofB [] from rfl, show (⟨#[101, 110, 100, 115]⟩ : ByteArray) = ofB [101, 110, 100, 115] from rfl, show (⟨#[115, 116, 101, 112, 115]⟩ : ByteArray) = ofB [115, 116, 101, 112, 115] from rfl, h3, h3, h3]
  unfold moreR
  cases s <;> cases st <;> simp [stW]
structure RdSt where
  (s : List UInt8) (k : Int) (st : Ou.St) (o : OutP) (va vb : Value)
def RdJ (res : Except (Int × Int) OutP) (i : RdSt) : Prop := runR keyR (i.s.length + 1) i.k i.st i.s i.o = res ∧ i.o.out.length + i.o.log.length + i.s.length ≤ 90000 ∧ 1 ≤ i.k ∧ i.k + i.s.length ≤ 100000
abbrev rdBk (b5 b2 : Nat) (o : OutP) (va vb : Value) : List Bk := [.inr ⟨va, 9, 1, o.out.length, o.out.flatMap encStr⟩, .inr ⟨vb, 43, 5, o.log.length, o.log.flatMap encE⟩, .inl ⟨b5, 27, 8, [(0, .int .i64 o.e), (1, .int .i64 o.at_), (2, .int .i64 o.fin), (3, .string o.text), (4, va), (5, vb), (6, .int .i64 o.steps), (7, .int .i64 o.made)]⟩, .inl ⟨b2, 27, 8, idx 0 [.int .i64 0, .int .i64 0, .int .i64 0, .string ⟨#[]⟩, .slice none 0 0, .slice none 0 0, .int .i64 0, .int .i64 0]⟩]
attribute [local irreducible] G GC GQ GA GAop Calls IntKind.wrap Int.decLt Int.decLe runR oneR
theorem rread57_spec (s0 : List UInt8) (hs0 : s0.length ≤ 90000) (w : World) (μ : Mem) (hμ : MOk μ w) :
    Calls Tryz.prog 6 #[.string (ofB s0)] w fun e w' => ∃ v μ', e = .returned v ∧ Grow w w' μ μ' ∧ RdPost (readR keyR s0) μ' v := by
  obtain ⟨res, hres⟩ : ∃ res, readR keyR s0 = res := ⟨_, rfl⟩
  rw [hres]
  rw [read_run] at hres
  refine call_intro (args := [.string (ofB s0)]) Tryz.func6 rfl Tryz.ntmps6 (by simp) hμ ?_
  repeat' (first | refine KK ?_ | refine NB fun b => ?_ | ((refine KB ?_ ?_ <;> intro hp)) | refine KG ?_ | fail)
  rename_i b2
  obtain ⟨b5, hb5⟩ : ∃ x, x = b := ⟨_, rfl⟩
  rw [← hb5]
  clear hb5
  refine gc_nilR 43 5 (gc_nilR 9 1 ?_)
  refine gc_loop (ι := RdSt) (RdJ res) (fun i => i.s.length) (fun _ => μ) (fun i => [(0, .string (ofB i.s)), (6, .string (ofB (stW i.st))), (7, .int .i64 i.k), (5, .pointer (some ⟨b5, 0, none⟩)), (2, .pointer (some ⟨b2, 0, none⟩))])
    (fun i => rdBk b5 b2 i.o i.va i.vb) ⟨s0, 1, .start, zeroO, .slice none 0 0, .slice none 0 0⟩ ⟨hres, by show 0 + 0 + s0.length ≤ 90000; omega, Int.le_refl 1, by show (1 : Int) + s0.length ≤ 100000; omega⟩ (fun a w hs => J5 hs) ?_
  rintro ⟨s, k, st, o, va, vb⟩ ⟨hrun, hsl, hk1, hk2⟩
  dsimp only [rdBk] at hrun hsl hk1 hk2 ⊢
  have hmi := more_iff st s
  refine gc_rowOk 0 rfl ?_
  rintro A c rfl hok1
  refine gc_rowOk 1 rfl ?_
  rintro B d rfl hok2
  have hsz := ofB_size s
  cases hmore : moreR st s with
  | false =>
    have hres2 : res = .ok o := by
      rw [← hrun]
      unfold runR
      rw [if_neg (by rw [hmore]; simp)]
    rw [hres2]
    rw [hmore] at hmi
    have hn : ¬ (ofB s ≠ ⟨#[]⟩ ∨ ofB (stW st) = ⟨#[]⟩ ∨ ofB (stW st) = ⟨#[101, 110, 100, 115]⟩ ∨ ofB (stW st) = ⟨#[115, 116, 101, 112, 115]⟩) := fun h => by have := hmi.2 h; cases this
    have z0 : ¬ ofB s ≠ ⟨#[]⟩ := fun h => hn (.inl h)
    have z1 : ¬ ofB (stW st) = ⟨#[]⟩ := fun h => hn (.inr (.inl h))
    have z2 : ¬ ofB (stW st) = ⟨#[101, 110, 100, 115]⟩ := fun h => hn (.inr (.inr (.inl h)))
    have z3 : ¬ ofB (stW st) = ⟨#[115, 116, 101, 112, 115]⟩ := fun h => hn (.inr (.inr (.inr h)))
    repeat' (first | ((with_reducible show GC _ _ (Code.seq (Code.region 30 _ _) _) _ _ _ _); (apply gc_stop)) | refine KK ?_ | refine NB fun b => ?_ | ((refine KB ?_ ?_ <;> intro hp)) | refine KG ?_ | fail)
    all_goals first | (exfalso; first | omega | contradiction | (exact absurd ‹_› ‹¬ _›)) | skip
    refine gcs (gc_share_0 rfl ?_)
    intro μ1 hle1 hsh1
    refine gc_share_0 rfl ?_
    intro μ2 hle2 hsh2
    obtain ⟨A', c', hA0, hA⟩ := row_sl (enc := encStr) (xs := o.out) hsh1 rfl (fun _ _ => rfl) rfl
    obtain ⟨B', d', hB0, hB⟩ := row_sl (enc := encE) (xs := o.log) hsh2 rfl (fun _ _ => rfl) rfl
    cases hA0
    cases hB0
    repeat' (first | refine KK ?_ | refine NB fun b => ?_ | ((refine KB ?_ ?_ <;> intro hp)) | refine KG ?_ | fail)
    exact ret_mn rfl (rvs_cons (rv_agg (vs := [.int .i64 o.e, .int .i64 o.at_, .int .i64 o.fin, .string o.text, .slice A o.out.length c, .slice B o.log.length d, .int .i64 o.steps, .int .i64 o.made]) 1 rfl rfl rfl rfl rfl (by repeat first | exact lc_nil | refine lc_cons rfl ?_)) (rvs_cons (rv_tmp rfl) (rvs_cons (rv_tmp rfl) rvs_nil))) rfl (fun μ' hle _ => ⟨_, rfl, A, c, B, d, rfl, (hA.mono hle2).mono hle, hB.mono hle⟩)
  | true =>
    have hm4 := hmi.1 hmore
    clear hmi
    refine gc_join (ι := Unit) (fun _ => True) (fun _ => μ) (fun _ => [(0, .string (ofB s)), (6, .string (ofB (stW st))), (7, .int .i64 k), (5, .pointer (some ⟨b5, 0, none⟩)), (2, .pointer (some ⟨b2, 0, none⟩))]) (fun _ => rdBk b5 b2 o (.slice A o.out.length c) (.slice B o.log.length d)) ?_ ?_
    · repeat' (first | refine KK ?_ | refine NB fun b => ?_ | ((refine KB ?_ ?_ <;> intro hp)) | refine KG ?_ | fail)
      all_goals first | exact J1 () trivial | (exfalso; rcases hm4 with h | h | h | h <;> first | contradiction | exact absurd h ‹¬ _›)
    intro _ _
    dsimp only [rdBk]
    have hstep : runR keyR (s.length + 1) k st s o = match Ou.cutB 10 s with
        | none => .error (k, 8)
        | some (l, r) => match oneR keyR l with
          | none => .error (k, 7)
          | some x => if fitsR st x = true then runR keyR s.length (k + 1) (putR o x).2 r (putR o x).1 else .error (k, 7) := by
      rw [runR, if_pos hmore]
      rfl
    rw [hstep] at hrun
    clear hstep
    cases hc : Ou.cutB 10 s with
    | none =>
      rw [hc] at hrun
      dsimp only at hrun
      have hfr := cutB_none hc
      rw [← hrun]
      repeat' (first | refine KK ?_ | refine NB fun b => ?_ | ((refine KB ?_ ?_ <;> intro hp)) | refine KG ?_ | fail)
      refine gc_loop (ι := Nat) (fun j => j ≤ s.length) (fun j => s.length - j) (fun _ => μ) (fun j => [(8, .int .i64 j), (0, .string (ofB s)), (6, .string (ofB (stW st))), (7, .int .i64 k), (5, .pointer (some ⟨b5, 0, none⟩)), (2, .pointer (some ⟨b2, 0, none⟩))]) (fun _ => rdBk b5 b2 o (.slice A o.out.length c) (.slice B o.log.length d)) 0 (Nat.zero_le _) (fun a w hs => J5 hs) ?_
      intro j hj
      dsimp only [rdBk]
      by_cases hlt : j < s.length
      · obtain ⟨g, hb1, hb2⟩ := bl_at (s := ofB s) (i := j) (by omega)
        rw [bl_ofB] at hb1
        have hg : g ≠ 10 := fun h => hfr (by rw [← h]; exact List.mem_of_getElem? hb1)
        have hb3 : ¬ bAt (ofB s) j = 10 := by
          rw [hb2]
          intro h
          exact hg (UInt8.toNat_inj.1 (by have h2 : g.toNat = 10 := (by omega); exact h2))
        repeat' (first | refine KO ?_ | (refine KV (b := by first | exact U2 j) (c := ?_)) | refine KI ?_ | refine NB fun b => ?_ | ((refine KB ?_ ?_ <;> intro hp)) | refine KG ?_ | fail)
        all_goals first | (exfalso; first | omega | contradiction | (exact absurd ‹_› ‹¬ _›)) | skip
        exact J2 (j + 1) (by omega) (by omega)
      · obtain rfl : j = s.length := by omega
        repeat' (first | refine KK ?_ | refine NB fun b => ?_ | ((refine KB ?_ ?_ <;> intro hp)) | refine KG ?_ | fail)
        all_goals first | (exfalso; first | omega | contradiction | (exact absurd ‹_› ‹¬ _›)) | skip
        all_goals exact ret_mn rfl (rvs_cons (rv_agg (vs := [.int .i64 0, .int .i64 0, .int .i64 0, .string ⟨#[]⟩, .slice none 0 0, .slice none 0 0, .int .i64 0, .int .i64 0]) 3 rfl rfl rfl rfl rfl (by repeat first | exact lc_nil | refine lc_cons rfl ?_)) (rvs_cons (rv_tmp rfl) (rvs_cons (rv_tmp rfl) rvs_nil))) rfl (fun _ _ _ => rfl)
    | some p =>
      obtain ⟨a, r⟩ := p
      rw [hc] at hrun
      dsimp only at hrun
      obtain ⟨hsp, hfr⟩ := cutB_some hc
      have hlen := cut_len hc
      have hexa : (ofB s).extract 0 a.length = ofB a := by rw [ext_take, hsp, List.take_left]
      have hexr : (ofB s).extract (a.length + 1) (ofB s).size = ofB r := by
        rw [ext_drop, hsp]
        congr 1
        rw [List.drop_append]
        simp
      have hone := fun (w : World) (μ : Mem) (hμ : MOk μ w) => one_spec57 a (by omega) w μ hμ
      repeat' (first | refine KK ?_ | refine NB fun b => ?_ | ((refine KB ?_ ?_ <;> intro hp)) | refine KG ?_ | fail)
      refine gc_loop (ι := Nat) (fun j => j ≤ a.length) (fun j => s.length - j) (fun _ => μ) (fun j => [(8, .int .i64 j), (0, .string (ofB s)), (6, .string (ofB (stW st))), (7, .int .i64 k), (5, .pointer (some ⟨b5, 0, none⟩)), (2, .pointer (some ⟨b2, 0, none⟩))]) (fun _ => rdBk b5 b2 o (.slice A o.out.length c) (.slice B o.log.length d)) 0 (Nat.zero_le _) (fun a w hs => J5 hs) ?_
      intro j hj
      dsimp only [rdBk]
      obtain ⟨g, hb1, hb2⟩ := bl_at (s := ofB s) (i := j) (by omega)
      rw [bl_ofB] at hb1
      by_cases hlt : j < a.length
      · have hg : g ≠ 10 := fun h => hfr (by
          rw [hsp, List.getElem?_append_left hlt] at hb1
          rw [← h]; exact List.mem_of_getElem? hb1)
        have hb3 : ¬ bAt (ofB s) j = 10 := by
          rw [hb2]
          intro h
          exact hg (UInt8.toNat_inj.1 (by have h2 : g.toNat = 10 := (by omega); exact h2))
        repeat' (first | refine KO ?_ | (refine KV (b := by first | exact U2 j) (c := ?_)) | refine KI ?_ | refine NB fun b => ?_ | ((refine KB ?_ ?_ <;> intro hp)) | refine KG ?_ | fail)
        all_goals first | (exfalso; first | omega | contradiction | (exact absurd ‹_› ‹¬ _›)) | skip
        exact J2 (j + 1) (by omega) (by omega)
      obtain rfl : j = a.length := by omega
      have hb3 : bAt (ofB s) a.length = 10 := by
        rw [hsp, List.getElem?_append_right (Nat.le_refl _), Nat.sub_self] at hb1
        rw [hb2, ← Option.some.inj hb1]
        rfl
      cases hx : oneR keyR a with
      | none =>
        rw [hx] at hrun hone
        dsimp only at hrun
        rw [← hrun]
        repeat' (first | refine KO ?_ | ((with_reducible apply F2 11); exact rfl; exact EN; (exact fun w hw => hone w _ hw); rintro v1 μ1 hle1 ⟨ln, lok, rfl, hln⟩; (first | (obtain rfl : lok = false := hln) | (obtain ⟨rfl, rfl⟩ := hln)); refine g_forget (by simp) hle1 rfl ?_) | ((with_reducible apply F1 12); exact rfl; exact EN; (exact fun w μc hw hse => hft w μc hw)) | (refine KV (b := by first | exact U2 a.length | ((with_reducible apply v_str_hiE a.length hexa); exact rfl; exact rfl; exact rfl; (first | rfl | omega); (rw [ofB_size]; omega)) | ((with_reducible apply v_str_loE (a.length + 1) hexr); exact rfl; exact rfl; exact rfl; (first | rfl | omega); (rw [ofB_size]; omega))) (c := ?_)) | refine KI ?_ | refine NB fun b => ?_ | ((refine KB ?_ ?_ <;> intro hp)) | refine KG ?_ | fail)
        all_goals first | (exfalso; first | omega | contradiction | (exact absurd ‹_› ‹¬ _›)) | skip
        all_goals exact ret_mn rfl (rvs_cons (rv_agg (vs := [.int .i64 0, .int .i64 0, .int .i64 0, .string ⟨#[]⟩, .slice none 0 0, .slice none 0 0, .int .i64 0, .int .i64 0]) 4 rfl rfl rfl rfl rfl (by repeat first | exact lc_nil | refine lc_cons rfl ?_)) (rvs_cons (rv_tmp rfl) (rvs_cons (rv_tmp rfl) rvs_nil))) rfl (fun _ _ _ => rfl)
      | some x =>
      rw [hx] at hrun hone
      dsimp only at hrun
      have hft := fun (w : World) (μ : Mem) (hμ : MOk μ w) => fits_spec57 (stW st) (lnOf x).word w μ hμ
      rw [fit_eq] at hft
      cases hfit : fitsR st x with
      | false =>
        rw [hfit] at hrun hft
        rw [if_neg (by simp)] at hrun
        rw [← hrun]
        repeat' (first | refine KO ?_ | ((with_reducible apply F2 11); exact rfl; exact EN; (exact fun w hw => hone w _ hw); rintro v1 μ1 hle1 ⟨ln, lok, rfl, hln⟩; (first | (obtain rfl : lok = false := hln) | (obtain ⟨rfl, rfl⟩ := hln)); refine g_forget (by simp) hle1 rfl ?_) | ((with_reducible apply F1 12); exact rfl; exact EN; (exact fun w μc hw hse => hft w μc hw)) | (refine KV (b := by first | exact U2 a.length | ((with_reducible apply v_str_hiE a.length hexa); exact rfl; exact rfl; exact rfl; (first | rfl | omega); (rw [ofB_size]; omega)) | ((with_reducible apply v_str_loE (a.length + 1) hexr); exact rfl; exact rfl; exact rfl; (first | rfl | omega); (rw [ofB_size]; omega))) (c := ?_)) | refine KI ?_ | refine NB fun b => ?_ | ((refine KB ?_ ?_ <;> intro hp)) | refine KG ?_ | fail)
        all_goals first | (exfalso; first | omega | contradiction | (exact absurd ‹_› ‹¬ _›)) | skip
        all_goals exact ret_mn rfl (rvs_cons (rv_agg (vs := [.int .i64 0, .int .i64 0, .int .i64 0, .string ⟨#[]⟩, .slice none 0 0, .slice none 0 0, .int .i64 0, .int .i64 0]) 4 rfl rfl rfl rfl rfl (by repeat first | exact lc_nil | refine lc_cons rfl ?_)) (rvs_cons (rv_tmp rfl) (rvs_cons (rv_tmp rfl) rvs_nil))) rfl (fun _ _ _ => rfl)
      | true =>
      rw [hfit] at hrun hft
      rw [if_pos rfl, run_fuel _ (r.length + 1) _ _ _ _ (by omega) (by omega)] at hrun
      cases x with
      | error e n =>
        dsimp only [putR] at hrun
        have z_error : ofB [101, 114, 114, 111, 114] = ⟨#[101, 114, 114, 111, 114]⟩ := rfl
        have z_ends : ¬ ofB [101, 114, 114, 111, 114] = ⟨#[101, 110, 100, 115]⟩ := fun h => absurd (ofB_inj (b := [101, 110, 100, 115]) h) (by decide)
        have z_steps : ¬ ofB [101, 114, 114, 111, 114] = ⟨#[115, 116, 101, 112, 115]⟩ := fun h => absurd (ofB_inj (b := [115, 116, 101, 112, 115]) h) (by decide)
        have z_made : ¬ ofB [101, 114, 114, 111, 114] = ⟨#[109, 97, 100, 101]⟩ := fun h => absurd (ofB_inj (b := [109, 97, 100, 101]) h) (by decide)
        have z_out : ¬ ofB [101, 114, 114, 111, 114] = ⟨#[111, 117, 116]⟩ := fun h => absurd (ofB_inj (b := [111, 117, 116]) h) (by decide)
        have z_event : ¬ ofB [101, 114, 114, 111, 114] = ⟨#[101, 118, 101, 110, 116]⟩ := fun h => absurd (ofB_inj (b := [101, 118, 101, 110, 116]) h) (by decide)
        dsimp only [lnOf] at hft
        repeat' (first | refine KO ?_ | ((with_reducible apply F2 11); exact rfl; exact EN; (exact fun w hw => hone w _ hw); rintro v1 μ1 hle1 ⟨ln, lok, rfl, hln⟩; (first | (obtain rfl : lok = false := hln) | (obtain ⟨rfl, rfl⟩ := hln; dsimp only [lnOf])); refine g_forget (by simp) hle1 rfl ?_) | ((with_reducible apply F1 12); exact rfl; exact EN; (exact fun w μc hw hse => hft w μc hw)) | (refine KV (b := by first | exact U2 a.length | ((with_reducible apply v_str_hiE a.length hexa); exact rfl; exact rfl; exact rfl; (first | rfl | omega); (rw [ofB_size]; omega)) | ((with_reducible apply v_str_loE (a.length + 1) hexr); exact rfl; exact rfl; exact rfl; (first | rfl | omega); (rw [ofB_size]; omega))) (c := ?_)) | refine KI ?_ | refine NB fun b => ?_ | ((refine KB ?_ ?_ <;> intro hp)) | refine KG ?_ | fail)
        all_goals first | (exfalso; first | omega | contradiction | (exact absurd ‹_› ‹¬ _›)) | skip
        exact J2 (⟨r, k + 1, (putR o (.error e n)).2, (putR o (.error e n)).1, .slice A o.out.length c, .slice B o.log.length d⟩ : RdSt) ⟨hrun, by (try simp only [putR, List.length_append, List.length_cons, List.length_nil]); (try dsimp only); omega, by dsimp only; omega, by dsimp only; omega⟩ (by dsimp only; omega)
      | ends e t =>
        dsimp only [putR] at hrun
        have z_error : ¬ ofB [101, 110, 100, 115] = ⟨#[101, 114, 114, 111, 114]⟩ := fun h => absurd (ofB_inj (b := [101, 114, 114, 111, 114]) h) (by decide)
        have z_ends : ofB [101, 110, 100, 115] = ⟨#[101, 110, 100, 115]⟩ := rfl
        have z_steps : ¬ ofB [101, 110, 100, 115] = ⟨#[115, 116, 101, 112, 115]⟩ := fun h => absurd (ofB_inj (b := [115, 116, 101, 112, 115]) h) (by decide)
        have z_made : ¬ ofB [101, 110, 100, 115] = ⟨#[109, 97, 100, 101]⟩ := fun h => absurd (ofB_inj (b := [109, 97, 100, 101]) h) (by decide)
        have z_out : ¬ ofB [101, 110, 100, 115] = ⟨#[111, 117, 116]⟩ := fun h => absurd (ofB_inj (b := [111, 117, 116]) h) (by decide)
        have z_event : ¬ ofB [101, 110, 100, 115] = ⟨#[101, 118, 101, 110, 116]⟩ := fun h => absurd (ofB_inj (b := [101, 118, 101, 110, 116]) h) (by decide)
        dsimp only [lnOf] at hft
        repeat' (first | refine KO ?_ | ((with_reducible apply F2 11); exact rfl; exact EN; (exact fun w hw => hone w _ hw); rintro v1 μ1 hle1 ⟨ln, lok, rfl, hln⟩; (first | (obtain rfl : lok = false := hln) | (obtain ⟨rfl, rfl⟩ := hln; dsimp only [lnOf])); refine g_forget (by simp) hle1 rfl ?_) | ((with_reducible apply F1 12); exact rfl; exact EN; (exact fun w μc hw hse => hft w μc hw)) | (refine KV (b := by first | exact U2 a.length | ((with_reducible apply v_str_hiE a.length hexa); exact rfl; exact rfl; exact rfl; (first | rfl | omega); (rw [ofB_size]; omega)) | ((with_reducible apply v_str_loE (a.length + 1) hexr); exact rfl; exact rfl; exact rfl; (first | rfl | omega); (rw [ofB_size]; omega))) (c := ?_)) | refine KI ?_ | refine NB fun b => ?_ | ((refine KB ?_ ?_ <;> intro hp)) | refine KG ?_ | fail)
        all_goals first | (exfalso; first | omega | contradiction | (exact absurd ‹_› ‹¬ _›)) | skip
        exact J2 (⟨r, k + 1, (putR o (.ends e t)).2, (putR o (.ends e t)).1, .slice A o.out.length c, .slice B o.log.length d⟩ : RdSt) ⟨hrun, by (try simp only [putR, List.length_append, List.length_cons, List.length_nil]); (try dsimp only); omega, by dsimp only; omega, by dsimp only; omega⟩ (by dsimp only; omega)
      | steps n =>
        dsimp only [putR] at hrun
        have z_error : ¬ ofB [115, 116, 101, 112, 115] = ⟨#[101, 114, 114, 111, 114]⟩ := fun h => absurd (ofB_inj (b := [101, 114, 114, 111, 114]) h) (by decide)
        have z_ends : ¬ ofB [115, 116, 101, 112, 115] = ⟨#[101, 110, 100, 115]⟩ := fun h => absurd (ofB_inj (b := [101, 110, 100, 115]) h) (by decide)
        have z_steps : ofB [115, 116, 101, 112, 115] = ⟨#[115, 116, 101, 112, 115]⟩ := rfl
        have z_made : ¬ ofB [115, 116, 101, 112, 115] = ⟨#[109, 97, 100, 101]⟩ := fun h => absurd (ofB_inj (b := [109, 97, 100, 101]) h) (by decide)
        have z_out : ¬ ofB [115, 116, 101, 112, 115] = ⟨#[111, 117, 116]⟩ := fun h => absurd (ofB_inj (b := [111, 117, 116]) h) (by decide)
        have z_event : ¬ ofB [115, 116, 101, 112, 115] = ⟨#[101, 118, 101, 110, 116]⟩ := fun h => absurd (ofB_inj (b := [101, 118, 101, 110, 116]) h) (by decide)
        dsimp only [lnOf] at hft
        repeat' (first | refine KO ?_ | ((with_reducible apply F2 11); exact rfl; exact EN; (exact fun w hw => hone w _ hw); rintro v1 μ1 hle1 ⟨ln, lok, rfl, hln⟩; (first | (obtain rfl : lok = false := hln) | (obtain ⟨rfl, rfl⟩ := hln; dsimp only [lnOf])); refine g_forget (by simp) hle1 rfl ?_) | ((with_reducible apply F1 12); exact rfl; exact EN; (exact fun w μc hw hse => hft w μc hw)) | (refine KV (b := by first | exact U2 a.length | ((with_reducible apply v_str_hiE a.length hexa); exact rfl; exact rfl; exact rfl; (first | rfl | omega); (rw [ofB_size]; omega)) | ((with_reducible apply v_str_loE (a.length + 1) hexr); exact rfl; exact rfl; exact rfl; (first | rfl | omega); (rw [ofB_size]; omega))) (c := ?_)) | refine KI ?_ | refine NB fun b => ?_ | ((refine KB ?_ ?_ <;> intro hp)) | refine KG ?_ | fail)
        all_goals first | (exfalso; first | omega | contradiction | (exact absurd ‹_› ‹¬ _›)) | skip
        exact J2 (⟨r, k + 1, (putR o (.steps n)).2, (putR o (.steps n)).1, .slice A o.out.length c, .slice B o.log.length d⟩ : RdSt) ⟨hrun, by (try simp only [putR, List.length_append, List.length_cons, List.length_nil]); (try dsimp only); omega, by dsimp only; omega, by dsimp only; omega⟩ (by dsimp only; omega)
      | made n =>
        dsimp only [putR] at hrun
        have z_error : ¬ ofB [109, 97, 100, 101] = ⟨#[101, 114, 114, 111, 114]⟩ := fun h => absurd (ofB_inj (b := [101, 114, 114, 111, 114]) h) (by decide)
        have z_ends : ¬ ofB [109, 97, 100, 101] = ⟨#[101, 110, 100, 115]⟩ := fun h => absurd (ofB_inj (b := [101, 110, 100, 115]) h) (by decide)
        have z_steps : ¬ ofB [109, 97, 100, 101] = ⟨#[115, 116, 101, 112, 115]⟩ := fun h => absurd (ofB_inj (b := [115, 116, 101, 112, 115]) h) (by decide)
        have z_made : ofB [109, 97, 100, 101] = ⟨#[109, 97, 100, 101]⟩ := rfl
        have z_out : ¬ ofB [109, 97, 100, 101] = ⟨#[111, 117, 116]⟩ := fun h => absurd (ofB_inj (b := [111, 117, 116]) h) (by decide)
        have z_event : ¬ ofB [109, 97, 100, 101] = ⟨#[101, 118, 101, 110, 116]⟩ := fun h => absurd (ofB_inj (b := [101, 118, 101, 110, 116]) h) (by decide)
        dsimp only [lnOf] at hft
        repeat' (first | refine KO ?_ | ((with_reducible apply F2 11); exact rfl; exact EN; (exact fun w hw => hone w _ hw); rintro v1 μ1 hle1 ⟨ln, lok, rfl, hln⟩; (first | (obtain rfl : lok = false := hln) | (obtain ⟨rfl, rfl⟩ := hln; dsimp only [lnOf])); refine g_forget (by simp) hle1 rfl ?_) | ((with_reducible apply F1 12); exact rfl; exact EN; (exact fun w μc hw hse => hft w μc hw)) | (refine KV (b := by first | exact U2 a.length | ((with_reducible apply v_str_hiE a.length hexa); exact rfl; exact rfl; exact rfl; (first | rfl | omega); (rw [ofB_size]; omega)) | ((with_reducible apply v_str_loE (a.length + 1) hexr); exact rfl; exact rfl; exact rfl; (first | rfl | omega); (rw [ofB_size]; omega))) (c := ?_)) | refine KI ?_ | refine NB fun b => ?_ | ((refine KB ?_ ?_ <;> intro hp)) | refine KG ?_ | fail)
        all_goals first | (exfalso; first | omega | contradiction | (exact absurd ‹_› ‹¬ _›)) | skip
        exact J2 (⟨r, k + 1, (putR o (.made n)).2, (putR o (.made n)).1, .slice A o.out.length c, .slice B o.log.length d⟩ : RdSt) ⟨hrun, by (try simp only [putR, List.length_append, List.length_cons, List.length_nil]); (try dsimp only); omega, by dsimp only; omega, by dsimp only; omega⟩ (by dsimp only; omega)
      | out t =>
        dsimp only [putR] at hrun
        have z_error : ¬ ofB [111, 117, 116] = ⟨#[101, 114, 114, 111, 114]⟩ := fun h => absurd (ofB_inj (b := [101, 114, 114, 111, 114]) h) (by decide)
        have z_ends : ¬ ofB [111, 117, 116] = ⟨#[101, 110, 100, 115]⟩ := fun h => absurd (ofB_inj (b := [101, 110, 100, 115]) h) (by decide)
        have z_steps : ¬ ofB [111, 117, 116] = ⟨#[115, 116, 101, 112, 115]⟩ := fun h => absurd (ofB_inj (b := [115, 116, 101, 112, 115]) h) (by decide)
        have z_made : ¬ ofB [111, 117, 116] = ⟨#[109, 97, 100, 101]⟩ := fun h => absurd (ofB_inj (b := [109, 97, 100, 101]) h) (by decide)
        have z_out : ofB [111, 117, 116] = ⟨#[111, 117, 116]⟩ := rfl
        have z_event : ¬ ofB [111, 117, 116] = ⟨#[101, 118, 101, 110, 116]⟩ := fun h => absurd (ofB_inj (b := [101, 118, 101, 110, 116]) h) (by decide)
        dsimp only [lnOf] at hft
        repeat' (first | refine KO ?_ | ((with_reducible apply F2 11); exact rfl; exact EN; (exact fun w hw => hone w _ hw); rintro v1 μ1 hle1 ⟨ln, lok, rfl, hln⟩; (first | (obtain rfl : lok = false := hln) | (obtain ⟨rfl, rfl⟩ := hln; dsimp only [lnOf])); refine g_forget (by simp) hle1 rfl ?_) | ((with_reducible apply F1 12); exact rfl; exact EN; (exact fun w μc hw hse => hft w μc hw)) | (first | ((with_reducible apply g_ap); exact rfl; exact rfl; exact rfl; (repeat first | with_reducible exact rowup_hd | with_reducible apply rowup_tl); (iterate 6 exact rfl); (first | ((with_reducible apply src_in); exact rfl; (repeat first | with_reducible exact inb_hd | with_reducible apply inb_tl); exact rfl)); (first | exact rfl | omega | simp); (first | assumption | (exact ones_mem (by (repeat first | with_reducible exact ones_nil | ((with_reducible apply ones_cons); (first | exact rfl | assumption))))) | simp [Value.oneCell']); omega; omega; intro v; (first | ((with_reducible apply g_rowForm 1); exact rfl; omega) | ((with_reducible apply g_rowForm 2); exact rfl; omega) | ((with_reducible apply g_rowForm 3); exact rfl; omega) | ((with_reducible apply g_rowForm 4); exact rfl; omega)); (rintro g2 cap rfl hcap)) | ((with_reducible apply g_append0); (iterate 9 exact rfl); (first | ((with_reducible apply src_in); exact rfl; (repeat first | with_reducible exact inb_hd | with_reducible apply inb_tl); exact rfl)); (first | exact rfl | omega | simp); (first | assumption | (exact ones_mem (by (repeat first | with_reducible exact ones_nil | ((with_reducible apply ones_cons); (first | exact rfl | assumption))))) | simp [Value.oneCell']); omega; omega; intro v; (first | ((with_reducible apply g_rowForm 1); exact rfl; omega) | ((with_reducible apply g_rowForm 2); exact rfl; omega) | ((with_reducible apply g_rowForm 3); exact rfl; omega) | ((with_reducible apply g_rowForm 4); exact rfl; omega)); (rintro g2 cap rfl hcap))) | (refine KV (b := by first | exact U2 a.length | ((with_reducible apply v_str_hiE a.length hexa); exact rfl; exact rfl; exact rfl; (first | rfl | omega); (rw [ofB_size]; omega)) | ((with_reducible apply v_str_loE (a.length + 1) hexr); exact rfl; exact rfl; exact rfl; (first | rfl | omega); (rw [ofB_size]; omega))) (c := ?_)) | refine KI ?_ | refine NB fun b => ?_ | ((refine KB ?_ ?_ <;> intro hp)) | refine KG ?_ | fail)
        all_goals first | (exfalso; first | omega | contradiction | (exact absurd ‹_› ‹¬ _›)) | skip
        all_goals refine gq_rowEq (n' := (o.out ++ [ofB t]).length) (xs' := (o.out ++ [ofB t]).flatMap encStr) 2 rfl (by simp) (by rw [List.flatMap_append]; rfl) ?_
        exact J2 (⟨r, k + 1, (putR o (.out t)).2, (putR o (.out t)).1, .slice (some ⟨g2, 0, none⟩) (o.out.length + 1) cap, .slice B o.log.length d⟩ : RdSt) ⟨hrun, by (try simp only [putR, List.length_append, List.length_cons, List.length_nil]); (try dsimp only); omega, by dsimp only; omega, by dsimp only; omega⟩ (by dsimp only; omega)
      | event e =>
        dsimp only [putR] at hrun
        have z_error : ¬ ofB [101, 118, 101, 110, 116] = ⟨#[101, 114, 114, 111, 114]⟩ := fun h => absurd (ofB_inj (b := [101, 114, 114, 111, 114]) h) (by decide)
        have z_ends : ¬ ofB [101, 118, 101, 110, 116] = ⟨#[101, 110, 100, 115]⟩ := fun h => absurd (ofB_inj (b := [101, 110, 100, 115]) h) (by decide)
        have z_steps : ¬ ofB [101, 118, 101, 110, 116] = ⟨#[115, 116, 101, 112, 115]⟩ := fun h => absurd (ofB_inj (b := [115, 116, 101, 112, 115]) h) (by decide)
        have z_made : ¬ ofB [101, 118, 101, 110, 116] = ⟨#[109, 97, 100, 101]⟩ := fun h => absurd (ofB_inj (b := [109, 97, 100, 101]) h) (by decide)
        have z_out : ¬ ofB [101, 118, 101, 110, 116] = ⟨#[111, 117, 116]⟩ := fun h => absurd (ofB_inj (b := [111, 117, 116]) h) (by decide)
        have z_event : ofB [101, 118, 101, 110, 116] = ⟨#[101, 118, 101, 110, 116]⟩ := rfl
        dsimp only [lnOf] at hft
        repeat' (first | refine KO ?_ | ((with_reducible apply F2 11); exact rfl; exact EN; (exact fun w hw => hone w _ hw); rintro v1 μ1 hle1 ⟨ln, lok, rfl, hln⟩; (first | (obtain rfl : lok = false := hln) | (obtain ⟨rfl, rfl⟩ := hln; dsimp only [lnOf])); refine g_forget (by simp) hle1 rfl ?_) | ((with_reducible apply F1 12); exact rfl; exact EN; (exact fun w μc hw hse => hft w μc hw)) | (first | ((with_reducible apply g_ap); exact rfl; exact rfl; exact rfl; (repeat first | with_reducible exact rowup_hd | with_reducible apply rowup_tl); (iterate 6 exact rfl); (first | ((with_reducible apply src_in); exact rfl; (repeat first | with_reducible exact inb_hd | with_reducible apply inb_tl); exact rfl)); (first | exact rfl | omega | simp); (first | assumption | (exact ones_mem (by (repeat first | with_reducible exact ones_nil | ((with_reducible apply ones_cons); (first | exact rfl | assumption))))) | simp [Value.oneCell']); omega; omega; intro v; (first | ((with_reducible apply g_rowForm 1); exact rfl; omega) | ((with_reducible apply g_rowForm 2); exact rfl; omega) | ((with_reducible apply g_rowForm 3); exact rfl; omega) | ((with_reducible apply g_rowForm 4); exact rfl; omega)); (rintro g2 cap rfl hcap)) | ((with_reducible apply g_append0); (iterate 9 exact rfl); (first | ((with_reducible apply src_in); exact rfl; (repeat first | with_reducible exact inb_hd | with_reducible apply inb_tl); exact rfl)); (first | exact rfl | omega | simp); (first | assumption | (exact ones_mem (by (repeat first | with_reducible exact ones_nil | ((with_reducible apply ones_cons); (first | exact rfl | assumption))))) | simp [Value.oneCell']); omega; omega; intro v; (first | ((with_reducible apply g_rowForm 1); exact rfl; omega) | ((with_reducible apply g_rowForm 2); exact rfl; omega) | ((with_reducible apply g_rowForm 3); exact rfl; omega) | ((with_reducible apply g_rowForm 4); exact rfl; omega)); (rintro g2 cap rfl hcap))) | (refine KV (b := by first | exact U2 a.length | ((with_reducible apply v_str_hiE a.length hexa); exact rfl; exact rfl; exact rfl; (first | rfl | omega); (rw [ofB_size]; omega)) | ((with_reducible apply v_str_loE (a.length + 1) hexr); exact rfl; exact rfl; exact rfl; (first | rfl | omega); (rw [ofB_size]; omega))) (c := ?_)) | refine KI ?_ | refine NB fun b => ?_ | ((refine KB ?_ ?_ <;> intro hp)) | refine KG ?_ | fail)
        all_goals first | (exfalso; first | omega | contradiction | (exact absurd ‹_› ‹¬ _›)) | skip
        all_goals refine gq_rowEq (n' := (o.log ++ [e]).length) (xs' := (o.log ++ [e]).flatMap encE) 3 rfl (by simp) (by rw [List.flatMap_append]; rfl) ?_
        exact J2 (⟨r, k + 1, (putR o (.event e)).2, (putR o (.event e)).1, .slice A o.out.length c, .slice (some ⟨g2, 0, none⟩) (o.log.length + 1) cap⟩ : RdSt) ⟨hrun, by (try simp only [putR, List.length_append, List.length_cons, List.length_nil]); (try dsimp only); omega, by dsimp only; omega, by dsimp only; omega⟩ (by dsimp only; omega)
end Go.Proofs.YtmihpkdhfomcgaaGreatDoor
namespace Go.Proofs.YtmihpkdhfomcgaaGreatDoor
open Go.RowKit Go.Vcg Ou
theorem out_len {o : OutP} (h : MayO keyR o) : o.out.length ≤ (textB o).length := by
  have hl := lines_len (linesB o)
  unfold MayO at h
  split at h
  · rw [h.2.2.2.2.1]; simp
  · rename_i he
    have e : o.out.length ≤ (linesB o).length := by
      unfold linesB
      rw [if_neg he]
      simp only [List.length_cons, List.length_append, List.length_map]
      omega
    exact Nat.le_trans e hl
attribute [local irreducible] G GC GQ GA GAop Calls IntKind.wrap Int.decLt Int.decLe readO readR textB
theorem reads_walk (w : World) (μ : Mem) (hμ : MOk μ w) (hT : TabOk μ) (hm : MaxOk μ) (s0 : ByteArray) (hs0 : s0.size ≤ 9223372036854775807) :
    Calls Tryz.prog 3 #[.string s0] w fun e w' => e = .returned (.bool true) ∧ Below w.heap.size w w' := by
  refine call_intro (args := [.string s0]) Tryz.func3 rfl Tryz.ntmps3 (by simp) hμ ?_
  obtain ⟨k, hk⟩ : ∃ k, min s0.size 3000 = k := ⟨_, rfl⟩
  obtain ⟨s, hs⟩ : ∃ s, (bl s0).take k = s := ⟨_, rfl⟩
  have hsl : s.length ≤ 3000 := by rw [← hs, List.length_take]; omega
  have hcut : s0.extract 0 k = ofB s := by
    rw [← ofB_byS s0, ext_take, ← hs]
    rfl
  repeat' (first | ((with_reducible show GC _ _ (Code.seq (Code.region 4 _ _) _) _ _ _ _); (apply gc_stop)) | refine KO ?_ | ((with_reducible apply F1 4); exact rfl; exact EN; (exact fun w μc hw hse => oawake_spec w μc hw (hm.mono hse.le) (hT.mono hse.le))) | (refine KV (b := by first | ((with_reducible apply v_str_hi k); exact rfl; exact rfl; exact rfl; (first | rfl | omega); omega)) (c := ?_)) | refine KI ?_ | refine NB fun b => ?_ | ((refine KB ?_ ?_ <;> intro hp)) | refine KG ?_ | fail)
  all_goals first | (exfalso; first | omega | contradiction | (exact absurd ‹_› ‹¬ _›)) | skip
  rw [hcut]
  refine gcs ?_
  have hrd := fun (w : World) (hw : MOk μ w) => oread_spec s (by omega) w μ hw hm hT
  have hrr := fun (w : World) (μ : Mem) (hw : MOk μ w) => rread57_spec s (by omega) w μ hw
  rw [read_eq] at hrr
  cases hres : readO keyR s with
  | ok o =>
    rw [hres] at hrd hrr
    obtain ⟨htx, hM⟩ := readO_ok hres
    have hll := log_len hM
    have hol := out_len hM
    rw [htx] at hll hol
    repeat' (first | refine KO ?_ | ((with_reducible apply F2 5); exact rfl; exact EN; (exact fun w hw => hrd w hw); rintro v1 μ1 hle1 ⟨a, rfl, A, c, B, d, rfl, hA, hB⟩) | ((with_reducible apply F2 6); exact rfl; exact EN; (exact fun w hw => hrr w μ1 hw); rintro v2 μ2 hle2 ⟨a2, rfl, A2, c2, B2, d2, rfl, hA2, hB2⟩) | ((with_reducible apply F1 7); exact rfl; exact EN; (exact fun w μc hw hse => by have := same_spec o o A B A2 B2 c d c2 d2 w μc hw (hA.mono (hle2.trans hse.le)) (hB.mono (hle2.trans hse.le)) (hA2.mono hse.le) (hB2.mono hse.le) (by omega) (by omega); rw [eqB_t rfl] at this; exact this)) | refine KI ?_ | refine NB fun b => ?_ | ((refine KB ?_ ?_ <;> intro hp)) | refine KG ?_ | fail)
    all_goals first | (exfalso; first | omega | contradiction | (exact absurd ‹_› ‹¬ _›)) | (refine ret_s rfl rfl ?_; first | rfl | (congr 1; simp [*]; done) | (simp_all; done))
  | error x =>
    rw [hres] at hrd hrr
    repeat' (first | refine KO ?_ | ((with_reducible apply F2 5); exact rfl; exact EN; (exact fun w hw => hrd w hw); rintro v1 μ1 hle1 rfl) | ((with_reducible apply F2 6); exact rfl; exact EN; (exact fun w hw => hrr w μ1 hw); rintro v2 μ2 hle2 rfl) | ((with_reducible apply F1 7); exact rfl; exact EN; (exact fun w μc hw hse => same_zero w μc hw)) | refine KI ?_ | refine NB fun b => ?_ | ((refine KB ?_ ?_ <;> intro hp)) | refine KG ?_ | fail)
    all_goals first | (exfalso; first | omega | contradiction | (exact absurd ‹_› ‹¬ _›)) | (refine ret_s rfl rfl ?_; first | rfl | (congr 1; simp [*]; done) | (simp_all; done))
end Go.Proofs.YtmihpkdhfomcgaaGreatDoor
