/- A machine for closed runs: code, calls, and what a run of the machine says of the real program. -/
import Derived.Test.YtoclmkdfcafhfaaGreatDoorQao
import Derived.LoopN
import Derived.Test.YtoclmkdfcafhfaaGreatDoorShelf
import Derived.KernelRfl
set_option maxRecDepth 20000
namespace Go.Rex
section
open Go.RowKit
open Go.Vcg (Keep callable)
theorem ble_f {a b : Nat} (h : Nat.ble a b = false) : b < a := Nat.lt_of_not_le fun hle => by
  rw [show Nat.ble a b = true from (by rw [Nat.ble_eq]; exact hle)] at h; cases h
inductive Ex where
  | normal
  | exit (id : Nat)
  | ret
def toE : Ex → Exit
  | .normal => .normal
  | .exit i => .exit i
  | .ret => .ret
abbrev CodeF := Code → Heap → Nat → Sls → Option (Ex × Heap × Nat × Sls)
def loopR (ih : CodeF) (c : Code) : Nat → Heap → Nat → Sls → Option (Ex × Heap × Nat × Sls)
  | 0, _, _, _ => none
  | k + 1, h, nx, l => match ih c h nx l with
    | some (e, h', nx', l') => match e with
      | .normal => loopR ih c k h' nx' l'
      | e => some (e, h', nx', l')
    | none => none
def stepC (P : Program) (N : Nat) (qs : List FuncId) (call : CallF) (ih : CodeF) (k : Nat) : CodeF := fun c h nx l => match c with
  | .skip => some (.normal, h, nx, l)
  | .region _ ⟨ops⟩ false => match runOps P N qs call ops ops h nx l with
    | some (h', nx', l') => some (.normal, h', nx', l')
    | none => none
  | .region _ ⟨ops⟩ true => match drawT P N call ops h nx l with
    | some z => some (.normal, z.h, z.nx, z.l)
    | none => none
  | .seq x y => match ih x h nx l with
    | some (e, h', nx', l') => match e with
      | .normal => ih y h' nx' l'
      | e => some (e, h', nx', l')
    | none => none
  | .cond c x y => match aev N l c with
    | some (.bool true) => ih x h nx l
    | some (.bool false) => ih y h nx l
    | _ => none
  | .block id c => match ih c h nx l with
    | some (e, h', nx', l') => match e with
      | .exit j => match Nat.beq j id with
        | true => some (.normal, h', nx', l')
        | false => some (.exit j, h', nx', l')
      | e => some (e, h', nx', l')
    | none => none
  | .loop c => loopR ih c k h nx l
  | .exit id => some (.exit id, h, nx, l)
  | .ret => some (.ret, h, nx, l)
  | _ => none
def resM (P : Program) (h : Heap) (l : Sls) : List ResultVar → Option (List Value)
  | [] => some []
  | r :: rs => match r with
    | .tmp t => match sget l t with
      | some v => match isHole v with
        | true => none
        | false => match resM P h l rs with
          | some vs => some (v :: vs)
          | none => none
      | none => none
    | .cell t ty => match sget l t with
      | some u => match isHole u with
        | true => none
        | false => match ald P h ty u with
          | some v => match resM P h l rs with
            | some vs => some (v :: vs)
            | none => none
          | none => none
      | none => none
def one1 : List Value → Value
  | [u] => u
  | us => .tuple ⟨us⟩
def isEnd : Ex → Bool
  | .normal => true
  | .ret => true
  | .exit _ => false
def setAll : Nat → List Value → T Value → T Value
  | _, [], t => t
  | i, v :: r, t => setAll (i + 1) r (tset 9 t i (some v))
def sfrom (n : Nat) (vs : List Value) : Sls := match Nat.ble vs.length 512 with
  | true => ⟨n, setAll 0 vs .e⟩
  | false => ⟨n, .e⟩
theorem setAll_spec : ∀ {vs : List Value} {i : Nat} {t : T Value} {k : Nat} {v : Value}, i + vs.length ≤ 512 → k < 512 → tget 9 (setAll i vs t) k = some v → (i ≤ k ∧ vs[k - i]? = some v) ∨ tget 9 t k = some v
  | [], i, t, k, v, _, _, h => .inr h
  | u :: r, i, t, k, v, hi, hk, h => by
    unfold setAll at h
    simp only [List.length_cons] at hi
    rcases setAll_spec (by omega) hk h with ⟨h1, h2⟩ | h1
    · exact .inl ⟨by omega, by rw [show k - i = (k - (i + 1)) + 1 by omega]; simpa using h2⟩
    · by_cases hki : k = i
      · subst hki
        rw [tget_set_same] at h1
        exact .inl ⟨Nat.le_refl _, by simpa using h1⟩
      · rw [tget_set_other 9 t i k (some u) (by omega) (by omega) hki] at h1
        exact .inr h1
theorem sfrom_spec {n : Nat} {vs : List Value} {k : Nat} {v : Value} (h : sget (sfrom n vs) k = some v) : vs[k]? = some v := by
  unfold sget at h
  split at h
  · rename_i hk
    unfold sfrom at h
    split at h
    · rename_i hl
      rcases setAll_spec (by simpa using ble_t hl) (blt_t hk) h with ⟨_, h2⟩ | h1
      · simpa using h2
      · rw [tget_e] at h1; cases h1
    · simp only [tget_e] at h; cases h
  · cases h
theorem sfrom_n {n : Nat} {vs : List Value} : (sfrom n vs).n = n := by unfold sfrom; split <;> rfl
abbrev Memo := FuncId → List Value → Option Value
def callB (P : Program) (memo : Memo) (exec : CodeF) : CallF := fun f vs h nx => match memo f vs with
  | some v => some (v, h, nx)
  | none => match nth P.funcs.toList f with
    | some fn => match fn.body with
      | some c => match Nat.ble vs.length fn.ntmps with
        | true => match exec c ⟨h.t, nx⟩ nx (sfrom fn.ntmps vs) with
          | some (e, h', nx', l') => match isEnd e with
            | true => match resM P h' l' fn.results.toList with
              | some us => match flat2 (one1 us) with
                | true => match Nat.ble nx h'.mw with
                  | true => some (one1 us, h, nx)
                  | false => some (one1 us, ⟨h'.t, bif Nat.ble h.mw h'.mw then h.mw else h'.mw⟩, nx')
                | false => some (one1 us, ⟨h'.t, bif Nat.ble h.mw h'.mw then h.mw else h'.mw⟩, nx')
              | none => none
            | false => none
          | none => none
        | false => none
      | none => none
    | none => none
def exQ (P : Program) (N : Nat) (qs : List FuncId) (memo : Memo) (n : Nat) : CodeF :=
  Nat.rec (motive := fun _ => CodeF) (fun _ _ _ _ => none) (fun k ih => stepC P N qs (callB P memo ih) ih k) n
def ex (P : Program) (N : Nat) (memo : Memo) (n : Nat) : CodeF := exQ P N [] memo n
section
variable {P : Program} {qs : List FuncId} {N : Nat} {w0 : World} {ρ ρ' : Env} {h h' : Heap} {l : Sls} {a : Act} {w w' : World} {nx nx' : Nat}
def ExOk (P : Program) (qs : List FuncId) (w0 : World) (N : Nat) (ih : CodeF) : Prop :=
  ∀ c h nx l e h' nx' l', ih c h nx l = some (e, h', nx', l') → ∀ ρ a w (Q : Exit → Act → World → Prop), R P qs w0 N ρ h nx l a w →
    (∀ ρ' a' w', Ev ρ h nx ρ' h' nx' → R P qs w0 N ρ' h' nx' l' a' w' → Q (toE e) a' w') → c.wp P Q a w
theorem loopR_ok {ih : CodeF} (hi : ExOk P qs w0 N ih) {c : Code} {Q : Exit → Act → World → Prop} : ∀ {k : Nat} {h : Heap} {nx : Nat} {l : Sls} {e : Ex} {h' : Heap} {nx' : Nat} {l' : Sls}, loopR ih c k h nx l = some (e, h', nx', l') → ∀ {ρ : Env} {a : Act} {w : World}, R P qs w0 N ρ h nx l a w →
    (∀ ρ' a' w', Ev ρ h nx ρ' h' nx' → R P qs w0 N ρ' h' nx' l' a' w' → Q (toE e) a' w') → Code.rounds P c Q k a w
  | 0, h, nx, l, e, h', nx', l', he, ρ, a, w, r, hQ => by unfold loopR at he; cases he
  | k + 1, h, nx, l, e, h', nx', l', he, ρ, a, w, r, hQ => by
    unfold loopR at he
    rw [rounds_succ]
    split at he
    · rename_i e1 h1 nx1 l1 h2
      refine hi _ _ _ _ _ _ _ _ h2 ρ a w _ r fun ρ1 a1 w1 hev r1 => ?_
      cases e1 with
      | normal => exact loopR_ok hi he r1 fun ρ2 a2 w2 hev2 r2 => hQ ρ2 a2 w2 (hev.trans hev2) r2
      | exit i => cases he; exact hQ _ _ _ hev r1
      | ret => cases he; exact hQ _ _ _ hev r1
    · cases he
theorem stepC_ok (hm : P.follows .mixedOrders = true) (hq : ∀ f ∈ qs, QuietF P f) {call : CallF} {ih : CodeF} (hc : CallOk P w0 N call) (hi : ExOk P qs w0 N ih) (k : Nat) : ExOk P qs w0 N (stepC P N qs call ih k) := by
  intro c h nx l e h' nx' l' he ρ a w Q r hQ
  unfold stepC at he
  split at he
  · cases he; exact wp_skip (hQ ρ a w (Ev.refl _ _ _) r)
  · split at he
    · rename_i h1
      cases he
      exact wp_region_lit (runOps_sound hc hq h1 r hQ)
    · cases he
  · split at he
    · rename_i z h1
      cases he
      exact drawT_sound hc hm h1 r hQ
    · cases he
  · split at he
    · rename_i e1 h1 nx1 l1 h2
      refine wp_seq (hi _ _ _ _ _ _ _ _ h2 ρ a w _ r fun ρ1 a1 w1 hev r1 => ?_)
      cases e1 with
      | normal => exact hi _ _ _ _ _ _ _ _ he ρ1 a1 w1 Q r1 fun ρ2 a2 w2 hev2 r2 => hQ ρ2 a2 w2 (hev.trans hev2) r2
      | exit i => cases he; exact hQ _ _ _ hev r1
      | ret => cases he; exact hQ _ _ _ hev r1
    · cases he
  · split at he
    · rename_i hcv
      exact wp_cond_true (rv_nil (aev_sound r.sl hcv) rfl) (hi _ _ _ _ _ _ _ _ he ρ a w Q r hQ)
    · rename_i hcv
      exact wp_cond_false (rv_nil (aev_sound r.sl hcv) rfl) (hi _ _ _ _ _ _ _ _ he ρ a w Q r hQ)
    · cases he
  · rename_i id c
    split at he
    · rename_i e1 h1 nx1 l1 h2
      refine wp_block (hi _ _ _ _ _ _ _ _ h2 ρ a w _ r fun ρ1 a1 w1 hev r1 => ?_)
      cases e1 with
      | normal => cases he; exact hQ _ _ _ hev r1
      | ret => cases he; exact hQ _ _ _ hev r1
      | exit j =>
        simp only at he
        show (if j = id then Q .normal a1 w1 else Q (.exit j) a1 w1)
        split at he
        · rename_i hj
          rw [if_pos (Nat.eq_of_beq_eq_true hj)]
          cases he; exact hQ _ _ _ hev r1
        · rename_i hj
          rw [if_neg (Nat.ne_of_beq_eq_false hj)]
          cases he; exact hQ _ _ _ hev r1
    · cases he
  · exact wp_loop_rounds k (loopR_ok hi he r hQ)
  · cases he; exact wp_exit (hQ ρ a w (Ev.refl _ _ _) r)
  · cases he; exact wp_ret (hQ ρ a w (Ev.refl _ _ _) r)
  · cases he
theorem resM_sound (hs : Sl N ρ l a) (hk : HeapOk ρ h w) : ∀ {rs : List ResultVar} {vs : List Value}, resM P h l rs = some vs → ∃ VS, rvs ρ vs = some VS ∧ (rs.mapM (Go.Vcg.ResultVar.get a.tmps)).run P w = .ok VS w
  | [], vs, e => by unfold resM at e; cases e; exact ⟨[], by simp [rvs], by simp⟩
  | r :: rs, vs, e => by
    unfold resM at e
    split at e
    · rename_i t
      split at e
      · rename_i v hv
        split at e
        · cases e
        · rename_i hh
          split at e
          · rename_i us hu
            cases e
            obtain ⟨US, g1, g2⟩ := resM_sound hs hk hu
            obtain ⟨V, k1, k2⟩ := hs.tmps.2 t v hv hh
            exact ⟨V :: US, by simp [rvs, k2, g1], by simp [List.mapM_cons, Go.Vcg.ResultVar.get, k1, g2]⟩
          · cases e
      · cases e
    · rename_i t ty
      split at e
      · rename_i u hu
        split at e
        · cases e
        · rename_i hh
          split at e
          · rename_i v hv
            split at e
            · rename_i us hus
              cases e
              obtain ⟨US, g1, g2⟩ := resM_sound hs hk hus
              obtain ⟨U, k1, k2⟩ := hs.tmps.2 t u hu hh
              obtain ⟨V, q1, q2⟩ := ald_sound (P := P) hk k2 hv
              have hU : ∃ A, U = .pointer (some A) := by
                unfold ald at hv
                split at hv
                · exact rv_pointer_some k2
                · cases hv
              obtain ⟨A, rfl⟩ := hU
              simp only [Instr.loadAt, Instr.sureAddr, Sem.run_bind, Sem.run_pure, Result.andThen_ok] at q2
              exact ⟨V :: US, by simp [rvs, q1, g1], by simp [List.mapM_cons, Go.Vcg.ResultVar.get, k1, asAddr, q2, g2]⟩
            · cases e
          · cases e
      · cases e
theorem results_run (hs : Sl N ρ l a) (hk : HeapOk ρ h w) {fn : Func} {vs : List Value} (e : resM P h l fn.results.toList = some vs) : ∃ V, rv ρ (one1 vs) = some V ∧ (results fn a.tmps).run P w = .ok V w := by
  obtain ⟨VS, h1, h2⟩ := resM_sound hs hk e
  have hl := rvs_length h1
  have e1 : results fn a.tmps = (do let vs ← fn.results.mapM (Go.Vcg.ResultVar.get a.tmps); pure (if h : vs.size = 1 then vs[0] else .tuple vs)) := by
    unfold results
    refine congrArg (fun f => (fn.results.mapM f >>= fun vs => pure (if h : vs.size = 1 then vs[0] else .tuple vs) : Sem Value)) ?_
    funext r
    cases r <;> rfl
  have e2 : (fn.results.mapM (Go.Vcg.ResultVar.get a.tmps)).run P w = .ok VS.toArray w := by
    rw [Array.mapM_eq_mapM_toList]
    simp [h2]
  have e3 : (results fn a.tmps).run P w = .ok (if h : VS.toArray.size = 1 then VS.toArray[0] else .tuple VS.toArray) w := by
    rw [e1]
    simp only [Sem.run_bind, e2, Result.andThen_ok]
    rfl
  match vs, VS, h1, hl, e3 with
  | [v], [V], h1, hl, e3 =>
    refine ⟨V, ?_, by simpa using e3⟩
    unfold rvs at h1
    split at h1
    · rename_i hv hr
      simp [rvs] at hr
      subst hr
      cases h1
      exact hv
    · cases h1
  | [], [], h1, hl, e3 => exact ⟨.tuple #[], by simp [one1, rv, rvs], by simpa using e3⟩
  | u :: v :: r, U :: V :: R, h1, hl, e3 => exact ⟨.tuple (U :: V :: R).toArray, by simp [one1, rv, h1], by simpa using e3⟩
  | [], _ :: _, _, hl, _ => simp at hl
  | _ :: _, [], _, hl, _ => simp at hl
  | [_], _ :: _ :: _, _, hl, _ => simp at hl
  | _ :: _ :: _, [_], _, hl, _ => simp at hl
def MemoOk (P : Program) (w0 : World) (memo : Memo) : Prop :=
  ∀ f vs v, memo f vs = some v → flats vs = true ∧ flat2 v = true ∧ ∀ w, Keep [] w0 w → Calls P f vs.toArray w fun e w' => e = .returned v ∧ Below w.heap.size w w'
theorem Rel.gc (r : Rel w0 ρ h nx w) (r' : Rel w0 ρ' h' nx' w') (hev : Ev ρ ⟨h.t, nx⟩ nx ρ' h' nx') (hm : nx ≤ h'.mw) : Rel w0 ρ h nx w' :=
  ⟨fun b o ho => by
    have hb := r.lt ho
    have h1 : hget h' b = some o := by rw [hev.pr.2 b (by omega)]; exact ho
    obtain ⟨B, C, g1, g2⟩ := r'.ok b o h1
    rw [hev.ext b hb] at g1
    obtain ⟨B0, C0, k1, k2⟩ := r.ok b o ho
    have hle : ELe ρ ρ' := hev.ele (h := ⟨h.t, nx⟩) ⟨r.ok, r.inj, r.new, r.small, r.own, r.old, r.keep⟩
    exact ⟨B, C, g1, g2.back hle k2⟩, r.inj, r.new, r.small, r.own, r.old, r'.keep⟩
theorem leaves_quiet {fn : Func} {tmps : Array Value} {R' : Ending → World → Prop} : ∀ (ds : List Deferred), (∀ d ∈ ds, QuietD P qs d) → ∀ w : World, (∀ w2, Below w.heap.size w w2 → ∃ V, (results fn tmps).run P w2 = .ok V w2 ∧ R' (.returned V) w2) → Leaves P fn tmps R' ds .returning w
  | [], _, w, h => h w (Below.refl _ _)
  | d :: ds, hd, w, h => by
    obtain ⟨f, cap, _, h1, h2, h3⟩ := hd d (by simp)
    have hinv : (invoke d.target d.args).run P w = .ok (.enter f (d.args ++ cap)) w := by
      unfold callable at h2
      cases hf : P.funcs[f]? with
      | none => simp [hf] at h2
      | some fn' =>
        simp only [hf, Bool.and_eq_true, Bool.not_eq_true'] at h2
        have hb : ¬ fn'.body = none := by intro hb; simp [hb] at h2
        have hn : ¬ fn'.name = "runtime.NumGoroutine" := by have := h2.2; simpa using this
        simp [h1, invoke, callFunc, hf, hn, hb]
    refine ⟨by simp, .func f, cap, f, _, h1, hinv, ?_⟩
    intro c cs hc
    obtain ⟨e, u', w', fr, hR, hs⟩ := h3 (d.args ++ cap) w c cs hc
    refine ⟨e, u', w', fr, ?_, hs⟩
    obtain ⟨⟨v, rfl⟩, rfl, hb⟩ := hR
    exact leaves_quiet ds (fun x hx => hd x (by simp [hx])) w' fun w2 hb2 => h w2 (hb.trans ⟨hb2.os, hb2.tape, hb2.output, hb2.size, fun k hk => hb2.block k (Nat.lt_of_lt_of_le hk hb.size)⟩)
theorem callB_ok {memo : Memo} (hme : MemoOk P w0 memo) {exec : CodeF} (hi : ExOk P qs w0 N exec) : CallOk P w0 N (callB P memo exec) := by
  intro ρ h nx f vs VS w v h2 nx2 e r hg hvs R' hR
  unfold callB at e
  split at e
  · rename_i u hu
    cases e
    obtain ⟨h1, h3, h4⟩ := hme f vs v hu
    have hVS := rvs_flats_eq h1 hvs
    subst hVS
    refine (h4 w r.keep).mono fun e w' he => ?_
    obtain ⟨rfl, hb⟩ := he
    exact hR ρ v w' (Ev.refl _ _ _) (rv_flat2 h3) (r.after ⟨hb.os, hb.tape, hb.output, hb.size, fun b hb' _ => hb.block b hb'⟩)
  · split at e
    · rename_i fn hfn
      rw [nth_eq] at hfn
      have hfn' : P.funcs[f]? = some fn := by simpa using hfn
      split at e
      · rename_i c hc
        split at e
        · rename_i hlen
          have hlen := ble_t hlen
          split at e
          · rename_i ee h' nx' l' hex
            split at e
            · rename_i hend
              split at e
              · rename_i us hus
                have hL := rvs_length hvs
                have rel' : Rel w0 ρ ⟨h.t, nx⟩ nx w := ⟨r.ok, r.inj, r.new, r.small, r.own, r.old, r.keep⟩
                have rR : R P qs w0 N ρ ⟨h.t, nx⟩ nx (sfrom fn.ntmps vs) { tmps := VS.toArray ++ Array.replicate (fn.ntmps - VS.toArray.size) undef, defers := [] } w := by
                  refine ⟨rel', ⟨hg, ?_, fun i u hu _ => ?_⟩, fun d hd => by cases hd⟩
                  · simp [sfrom_n]; omega
                  · obtain ⟨V, g1, g2⟩ := rvs_get hvs i u (sfrom_spec hu)
                    have hlt := (List.getElem?_eq_some_iff.1 g1).1
                    exact ⟨V, by rw [Array.getElem?_append_left (by simpa using hlt)]; simpa using g1, g2⟩
                refine calls_of_wp_defers hfn' hc (hi c _ _ _ _ _ _ _ hex ρ _ w _ rR fun ρ1 a1 w1 hev r1 => ?_)
                have fin : ∀ w2, Rel w0 ρ1 h' nx' w2 → ∃ V, (results fn a1.tmps).run P w2 = .ok V w2 ∧ R' (.returned V) w2 := fun w2 rel2 => by
                  obtain ⟨V, q1, q2⟩ := results_run (P := P) r1.sl rel2.ok hus
                  refine ⟨V, q2, ?_⟩
                  have slow : h2 = ⟨h'.t, bif Nat.ble h.mw h'.mw then h.mw else h'.mw⟩ → nx2 = nx' → v = one1 us → R' (.returned V) w2 := fun e1 e2 e3 => by
                    subst e1; subst e2; subst e3
                    have hmw : (bif Nat.ble h.mw h'.mw then h.mw else h'.mw) ≤ h.mw ∧ (bif Nat.ble h.mw h'.mw then h.mw else h'.mw) ≤ h'.mw := by
                      cases hb : Nat.ble h.mw h'.mw with
                      | true => have := ble_t hb; simp; exact this
                      | false =>
                        have := ble_f hb
                        simp; omega
                    refine hR ρ1 V w2 ⟨hev.ext, hev.le, hmw.1, fun b hb => ?_⟩ q1 ⟨rel2.ok, rel2.inj, rel2.new, rel2.small, rel2.own, rel2.old, rel2.keep⟩
                    exact hev.pr.2 b (Nat.lt_of_lt_of_le hb hmw.2)
                  split at e
                  · rename_i hf
                    split at e
                    · rename_i hle
                      cases e
                      have := rv_flat2_eq hf q1
                      subst this
                      exact hR ρ _ w2 (Ev.refl _ _ _) (rv_flat2 hf) (r.gc rel2 hev (ble_t hle))
                    · cases e; exact slow rfl rfl rfl
                  · cases e; exact slow rfl rfl rfl
                have lv := leaves_quiet (P := P) (fn := fn) (tmps := a1.tmps) (R' := R') a1.defers r1.df w1 (fun w2 hb => fin w2 (r1.rel.after ⟨hb.os, hb.tape, hb.output, hb.size, fun b hb' _ => hb.block b hb'⟩))
                cases ee with
                | normal => exact lv
                | ret => exact lv
                | exit i => cases hend
              · cases e
            · cases e
          · cases e
        · cases e
      · cases e
    · cases e
def ρN (N : Nat) : Env := fun b => match Nat.blt b N with
  | true => some (b, 0, 0)
  | false => none
def tabs : List (Nat × List Value) → Heap
  | [] => ⟨.e, 0⟩
  | (g, cs) :: r => hset (tabs r) g (some (.tab cs))
def TabsOk (N : Nat) (w : World) (ts : List (Nat × List Value)) : Prop := ∀ g cs, (g, cs) ∈ ts → g < N ∧ flats cs = true ∧ ∃ t f, w.heap[g]? = some (.cells cs.toArray t f)
theorem TabsOk.keep {N : Nat} {ts : List (Nat × List Value)} (h : TabsOk N w ts) (hk : Keep [] w w') : TabsOk N w' ts := fun g cs hm => by
  obtain ⟨h1, h2, t, f, h3⟩ := h g cs hm
  exact ⟨h1, h2, t, f, by rw [hk.block g (Array.getElem?_eq_some_iff.1 h3).1 (by simp)]; exact h3⟩
theorem tabs_spec {N : Nat} (hN : N ≤ 1048576) : ∀ {ts : List (Nat × List Value)} {b : Nat} {o : AObj}, (∀ g cs, (g, cs) ∈ ts → g < N) → hget (tabs ts) b = some o → ∃ cs, (b, cs) ∈ ts ∧ o = .tab cs
  | [], b, o, _, h => by
    unfold tabs hget at h
    split at h
    · rw [tget_e] at h; cases h
    · cases h
  | (g, cs) :: r, b, o, hg, h => by
    unfold tabs at h
    have hlt := hg g cs (by simp)
    by_cases hb : b = g
    · subst hb
      rw [hget_set_same (by omega)] at h
      cases h
      exact ⟨cs, by simp, rfl⟩
    · rw [hget_set_other (by omega) hb] at h
      obtain ⟨cs', h1, h2⟩ := tabs_spec hN (fun g cs hm => hg g cs (by simp [hm])) h
      exact ⟨cs', by simp [h1], h2⟩
theorem rel_start (hN : N ≤ 1048576) {ts : List (Nat × List Value)} (ht : TabsOk N w ts) : Rel w (ρN N) (tabs ts) N w ∧ Glob N (ρN N) := by
  have hgl : Glob N (ρN N) := fun g hg => by
    have : Nat.blt g N = true := by rw [Nat.blt, Nat.ble_eq]; exact hg
    simp [ρN, this]
  have hsp : ∀ b o, hget (tabs ts) b = some o → ∃ cs, (b, cs) ∈ ts ∧ o = .tab cs := fun b o h => tabs_spec hN (fun g cs hm => (ht g cs hm).1) h
  refine ⟨⟨fun b o h => ?_, fun b b' o o' B C C' h h' e e' => ?_, fun b hb => ?_, hN, fun b o h hr => ?_, fun b o h hr B C e => ?_, Keep.refl _ _⟩, hgl⟩
  · obtain ⟨cs, h1, rfl⟩ := hsp b o h
    obtain ⟨h2, h3, t, f, h4⟩ := ht b cs h1
    exact ⟨b, 0, hgl b h2, cs, t, f, rvs_flats h3, h4⟩
  · obtain ⟨cs, h1, _⟩ := hsp b o h
    obtain ⟨cs', h1', _⟩ := hsp b' o' h'
    rw [hgl b (ht b cs h1).1] at e
    rw [hgl b' (ht b' cs' h1').1] at e'
    cases e; cases e'; rfl
  · have : Nat.blt b N = false := by
      cases hh : Nat.blt b N with
      | false => rfl
      | true => have := blt_t hh; omega
    simp [ρN, this]
  · obtain ⟨cs, _, rfl⟩ := hsp b o h
    cases hr
  · obtain ⟨cs, h1, rfl⟩ := hsp b o h
    obtain ⟨h2, h3, t, f, h4⟩ := ht b cs h1
    rw [hgl b h2] at e
    cases e
    exact (Array.getElem?_eq_some_iff.1 h4).1
end
end
section
open Go.RowKit
end
section
open Go.RowKit
open Go.Vcg (Keep add_lit)
attribute [local irreducible] capU
def orCall (p q : CallF) : CallF := fun f vs h nx => match p f vs h nx with
  | some r => some r
  | none => q f vs h nx
def memoC (memo : Memo) : CallF := fun f vs h nx => match memo f vs with
  | some v => some (v, h, nx)
  | none => none
section
variable {P : Program} {qs : List FuncId} {N : Nat} {w0 : World} {ρ ρ' : Env} {h h' : Heap} {l : Sls} {a : Act} {w w' : World} {nx nx' : Nat}
theorem orCall_ok {p q : CallF} (hp : CallOk P w0 N p) (hq : CallOk P w0 N q) : CallOk P w0 N (orCall p q) := by
  intro ρ h nx f vs VS w v h' nx' e r hg hvs R' hR
  unfold orCall at e
  split at e
  · rename_i x hx
    cases e
    exact hp ρ h nx f vs VS w v h' nx' hx r hg hvs R' hR
  · exact hq ρ h nx f vs VS w v h' nx' e r hg hvs R' hR
theorem memoC_ok {memo : Memo} (hme : MemoOk P w0 memo) : CallOk P w0 N (memoC memo) := by
  intro ρ h nx f vs VS w v h2 nx2 e r hg hvs R' hR
  unfold memoC at e
  split at e
  · rename_i u hu
    cases e
    obtain ⟨h1, h3, h4⟩ := hme f vs v hu
    have hVS := rvs_flats_eq h1 hvs
    subst hVS
    refine (h4 w r.keep).mono fun e w' he => ?_
    obtain ⟨rfl, hb⟩ := he
    exact hR ρ v w' (Ev.refl _ _ _) (rv_flat2 h3) (r.after ⟨hb.os, hb.tape, hb.output, hb.size, fun b hb' _ => hb.block b hb'⟩)
  · cases e
def noMemo0 : Memo := fun _ _ => none
theorem noMemo0_ok : MemoOk P w0 noMemo0 := fun f vs v e => by cases e
def exP (P : Program) (N : Nat) (qs : List FuncId) (pr : CallF) (n : Nat) : CodeF :=
  Nat.rec (motive := fun _ => CodeF) (fun _ _ _ _ => none) (fun k ih => stepC P N qs (orCall pr (callB P noMemo0 ih)) ih k) n
theorem exP_ok (hm : P.follows .mixedOrders = true) (hq : ∀ f ∈ qs, QuietF P f) {pr : CallF} (hp : CallOk P w0 N pr) : ∀ n, ExOk P qs w0 N (exP P N qs pr n)
  | 0 => by intro c h nx l e h' nx' l' he; cases he
  | n + 1 => stepC_ok hm hq (orCall_ok hp (callB_ok noMemo0_ok (exP_ok hm hq hp n))) (exP_ok hm hq hp n) n
def runP (P : Program) (N : Nat) (qs : List FuncId) (pr : CallF) (ts : List (Nat × List Value)) (n : Nat) (f : FuncId) (vs : List Value) : Option Value := match orCall pr (callB P noMemo0 (exP P N qs pr n)) f vs (tabs ts) N with
  | some (v, _, _) => match flat2 v with
    | true => match flats vs with
      | true => some v
      | false => none
    | false => none
  | none => none
theorem runP_sound (hm : P.follows .mixedOrders = true) (hq : ∀ f ∈ qs, QuietF P f) {pr : CallF} (hp : CallOk P w N pr) (hN : N ≤ 1048576) {ts : List (Nat × List Value)} (ht : TabsOk N w ts) {n : Nat} {f : FuncId} {vs : List Value} {v : Value} (e : runP P N qs pr ts n f vs = some v) :
    Calls P f vs.toArray w fun e w' => e = .returned v ∧ Below w.heap.size w w' := by
  unfold runP at e
  split at e
  · rename_i u h2 nx2 hu
    split at e
    · rename_i hf
      split at e
      · rename_i hfs
        cases e
        obtain ⟨hr, hg⟩ := rel_start hN ht
        refine orCall_ok hp (callB_ok noMemo0_ok (exP_ok hm hq hp n)) _ _ _ f vs vs w v h2 nx2 hu hr hg (rvs_flats hfs) _ fun ρ' V w' hev hV hr' => ?_
        have := rv_flat2_eq hf hV
        subst this
        exact ⟨rfl, hr'.keep.below⟩
      · cases e
    · cases e
  · cases e
def primCC (f : FuncId) (T : TypeId) : CallF := fun g vs h nx => match Nat.beq g f with
  | true => match vs with
    | [.pointer (some ⟨b, o, none⟩)] => match Nat.beq o 0 with
      | true => match hget h b with
        | some (.cells [p, v] t false) => match Nat.beq t T with
          | true => match p with
            | .pointer none => some (.tuple ⟨[]⟩, hset h b (some (.cells [.pointer (some ⟨b, 0, none⟩), v] t false)), nx)
            | .pointer (some ⟨c, i, none⟩) => match Nat.beq c b with
              | true => match Nat.beq i 0 with
                | true => some (.tuple ⟨[]⟩, h, nx)
                | false => none
              | false => none
            | _ => none
          | false => none
        | _ => none
      | false => none
    | _ => none
  | false => none
theorem primCC_ok {f : FuncId} {T : TypeId}
    (c1 : ∀ (b : Nat) (w : World), w.cell? ⟨b, 0, none⟩ = some (.pointer none) → w.shape? b = some (T, 2) → w.frozen? ⟨b, 0, none⟩ = false → Calls P f #[.pointer (some ⟨b, 0, none⟩)] w fun e w' => e = .returned (.tuple #[]) ∧ w' = w.setCell ⟨b, 0, none⟩ (.pointer (some ⟨b, 0, none⟩)))
    (c2 : ∀ (b : Nat) (w : World), w.cell? ⟨b, 0, none⟩ = some (.pointer (some ⟨b, 0, none⟩)) → Calls P f #[.pointer (some ⟨b, 0, none⟩)] w fun e w' => e = .returned (.tuple #[]) ∧ w' = w) : CallOk P w0 N (primCC f T) := by
  intro ρ h nx g vs VS w v h2 nx2 e r hg hvs R' hR
  unfold primCC at e
  split at e
  · rename_i hgf
    have hgf := Nat.eq_of_beq_eq_true hgf
    subst hgf
    split at e
    · rename_i b o
      split at e
      · rename_i ho
        have ho := Nat.eq_of_beq_eq_true ho
        subst ho
        split at e
        · rename_i p vb t hgb
          split at e
          · rename_i ht
            have ht := Nat.eq_of_beq_eq_true ht
            subst ht
            obtain ⟨B, C, hB, CS, g1, g2⟩ := r.ok b _ hgb
            obtain ⟨VP, rfl, hVP⟩ : ∃ VP, VS = [VP] ∧ rv ρ (.pointer (some ⟨b, 0, none⟩)) = some VP := by
              unfold rvs at hvs
              split at hvs
              · rename_i V R h1 h2
                simp [rvs] at h2
                subst h2
                cases hvs
                exact ⟨V, rfl, h1⟩
              · cases hvs
            obtain ⟨B', C', O', k1, k2⟩ := rv_ptr' hVP
            rw [hB] at k1
            cases k1
            subst k2
            obtain ⟨P1, V1, rfl, hP1, hV1⟩ : ∃ P1 V1, CS = [P1, V1] ∧ rv ρ p = some P1 ∧ rv ρ vb = some V1 := by
              unfold rvs at g1
              split at g1
              · rename_i V R q1 q2
                unfold rvs at q2
                split at q2
                · rename_i V' R' q3 q4
                  simp [rvs] at q4
                  subst q4
                  cases q2
                  cases g1
                  exact ⟨V, V', rfl, q1, q3⟩
                · cases q2
              · cases g1
            split at e
            · cases e
              have hp0 := rv_nil hP1 rfl
              subst hp0
              refine (c1 B w (by simp [World.cell?, g2]) (by simp [World.shape?, g2]) (by simp [World.frozen?, g2])).mono fun e w' he => ?_
              obtain ⟨rfl, rfl⟩ := he
              have hlt : B < w.heap.size := (Array.getElem?_eq_some_iff.1 g2).1
              refine hR ρ _ _ ⟨fun _ _ => rfl, Nat.le_refl _, Pr.set (hget_lt hgb) _⟩ rfl (r.upd hgb rfl rfl hB ⟨rfl, rfl, rfl, by simp, fun k _ hk => Below.heap_setCell w ⟨B, 0, none⟩ _ k hk⟩ ?_)
              refine ⟨[.pointer (some ⟨B, 0, none⟩), V1], ?_, ?_⟩
              · simp [rvs, rv, hB, hV1]
              · have hh : (w.setCell ⟨B, 0, none⟩ (.pointer (some ⟨B, 0, none⟩))).heap[B]? = some (Obj.cells #[.pointer (some ⟨B, 0, none⟩), V1] t (0, 0)) := by
                  simp [World.setCell, Array.getElem?_modify, g2]
                exact hh
            · rename_i c i
              split at e
              · rename_i hc
                have hc := Nat.eq_of_beq_eq_true hc
                subst hc
                split at e
                · rename_i hi
                  have hi := Nat.eq_of_beq_eq_true hi
                  subst hi
                  cases e
                  obtain ⟨B1, C1, O1, q1, q2⟩ := rv_ptr' hP1
                  rw [hB] at q1
                  cases q1
                  subst q2
                  refine (c2 B w (by simp [World.cell?, g2])).mono fun e w' he => ?_
                  obtain ⟨rfl, rfl⟩ := he
                  exact hR ρ _ _ (Ev.refl _ _ _) rfl r
                · cases e
              · cases e
            · cases e
          · cases e
        · cases e
      · cases e
    · cases e
  · cases e
def strsOf : List Value → Option (List ByteArray)
  | [] => some []
  | .string s :: r => match strsOf r with
    | some l => some (s :: l)
    | none => none
  | _ :: _ => none
theorem strsOf_sound : ∀ {cs : List Value} {xs : List ByteArray}, strsOf cs = some xs → cs = xs.map Value.string
  | [], xs, e => by simp [strsOf] at e; simp [e]
  | v :: r, xs, e => by
    unfold strsOf at e
    split at e
    · rename_i h; cases h
    · rename_i s r' h
      cases h
      split at e
      · rename_i l hl
        cases e
        rw [List.map_cons, ← strsOf_sound hl]
      · cases e
    · cases e
def primJoin (f : FuncId) : CallF := fun g vs h nx => match Nat.beq g f with
  | true => match vs with
    | [.slice (some ⟨b, o, none⟩) n c, .string sep] => match hcells h b with
      | some cs => match takeD o n cs with
        | some xs => match strsOf xs with
          | some ys => match Nat.blt 0 n with
            | true => match Nat.ble n c with
              | true => match Nat.ble n 65536 with
                | true => match Nat.ble (Lib.join (ys.map (·.data.toList)) sep.data.toList).length 16777216 with
                  | true => some (.string ⟨⟨Lib.join (ys.map (·.data.toList)) sep.data.toList⟩⟩, h, nx)
                  | false => none
                | false => none
              | false => none
            | false => none
          | none => none
        | none => none
      | none => none
    | _ => none
  | false => none
theorem primJoin_ok {f : FuncId}
    (c1 : ∀ (bk o c : Nat) (xs : List ByteArray) (sep : ByteArray) (w : World), (∀ (j : Nat) x, xs[j]? = some x → w.cell? ⟨bk, o + j, none⟩ = some (.string x)) → bk < w.heap.size → xs.length ≤ 140737488355328 → xs.length ≤ c →
      (Lib.join (xs.map (·.data.toList)) sep.data.toList).length ≤ 140737488355328 →
      Calls P f #[.slice (some ⟨bk, o, none⟩) xs.length c, .string sep] w fun e w' => e = .returned (.string ⟨(Lib.join (xs.map (·.data.toList)) sep.data.toList).toArray⟩) ∧ Below w.heap.size w w') : CallOk P w0 N (primJoin f) := by
  intro ρ h nx g vs VS w v h2 nx2 e r hg hvs R' hR
  unfold primJoin at e
  split at e
  · rename_i hgf
    have hgf := Nat.eq_of_beq_eq_true hgf
    subst hgf
    split at e
    · rename_i b o n c sep
      split at e
      · rename_i cs hcs
        split at e
        · rename_i xs hxs
          split at e
          · rename_i ys hys
            split at e
            · rename_i hn
              have hn := blt_t hn
              split at e
              · rename_i hnc
                have hnc := ble_t hnc
                split at e
                · rename_i hn2
                  have hn2 := ble_t hn2
                  split at e
                  · rename_i hl
                    have hl := ble_t hl
                    cases e
                    have hxe := strsOf_sound hys
                    subst hxe
                    obtain ⟨B, C, CS, q1, q2, q3⟩ := hcells_sound r.ok hcs
                    obtain ⟨XS, k1, k2, k3⟩ := rvs_takeD q2 hxs
                    have hfl : ∀ l : List ByteArray, flats (l.map Value.string) = true := fun l => by
                      induction l with
                      | nil => rfl
                      | cons x l ih => simp only [List.map_cons, flats, flat, ih, Bool.and_self]
                    have hXS := rvs_flats_eq (hfl ys) k1
                    subst hXS
                    obtain ⟨V1, V2, rfl, hV1, hV2⟩ : ∃ V1 V2, VS = [V1, V2] ∧ rv ρ (.slice (some ⟨b, o, none⟩) n c) = some V1 ∧ rv ρ (.string sep) = some V2 := by
                      unfold rvs at hvs
                      split at hvs
                      · rename_i V R q1 q2
                        unfold rvs at q2
                        split at q2
                        · rename_i V' R' q3 q4
                          simp [rvs] at q4
                          subst q4
                          cases q2
                          cases hvs
                          exact ⟨V, V', rfl, q1, q3⟩
                        · cases q2
                      · cases hvs
                    have := rv_nil hV2 rfl
                    subst this
                    have hyl : ys.length = n := by have := k2; simpa using this
                    obtain ⟨B', C', O', p1, p2⟩ := rv_slice hV1
                    rw [q1] at p1
                    cases p1
                    obtain ⟨c', rfl, hc'⟩ : ∃ c', V1 = .slice (some ⟨B, o, none⟩) n c' ∧ n ≤ c' := by
                      rcases p2 with ⟨_, rfl⟩ | ⟨_, h3, rfl⟩
                      · exact ⟨c, by rw [Nat.zero_add], hnc⟩
                      · exact ⟨_, by rw [Nat.zero_add], by omega⟩
                    have hcell : ∀ (j : Nat) x, ys[j]? = some x → w.cell? ⟨B, o + j, none⟩ = some (.string x) := fun j x hx => by
                      have h1 : (ys.map Value.string)[j]? = some (.string x) := by rw [List.getElem?_map, hx]; rfl
                      exact q3 _ _ (k3 j _ h1)
                    have hBlt : B < w.heap.size := by
                      obtain ⟨x, hx⟩ : ∃ x, ys[0]? = some x := ⟨ys[0], List.getElem?_eq_getElem (by omega)⟩
                      have := hcell 0 x hx
                      unfold World.cell? at this
                      cases hh : w.heap[B]? with
                      | none => simp [hh] at this
                      | some _ => exact (Array.getElem?_eq_some_iff.1 hh).1
                    have := c1 B o c' ys sep w hcell hBlt (by omega) (by omega) (by omega)
                    rw [hyl] at this
                    refine this.mono fun e w' he => ?_
                    obtain ⟨rfl, hb⟩ := he
                    exact hR ρ _ w' (Ev.refl _ _ _) (rv_flat2 rfl) (r.after ⟨hb.os, hb.tape, hb.output, hb.size, fun b hb' _ => hb.block b hb'⟩)
                  · cases e
                · cases e
              · cases e
            · cases e
          · cases e
        · cases e
      · cases e
    · cases e
  · cases e
end
end
end Go.Rex
namespace Go.Proofs.YtoclmkdfcafhfaaGreatDoor
open Go.Rex Go.RowKit Go.Vcg Go.Shelf
theorem mixed : Tryz.prog.follows .mixedOrders = true := by kernel_rfl
def MaxAt (w : World) : Prop := ∃ m, w.cell? ⟨Tryz.lays145_ren.g 1, 0, none⟩ = some (.int .i64 m)
theorem MaxAt.keep {w w' : World} (h : MaxAt w) (hk : Keep [] w w') : MaxAt w' := by
  obtain ⟨m, hm⟩ := h
  refine ⟨m, ?_⟩
  have hlt : (Tryz.lays145_ren.g 1) < w.heap.size := by
    unfold World.cell? at hm
    split at hm
    · rename_i h1; exact (Array.getElem?_eq_some_iff.1 h1).1
    · cases hm
  unfold World.cell? at hm ⊢
  rw [hk.block _ hlt (by simp)]
  exact hm
def cutF (c : UInt8) : List UInt8 → List UInt8 → Option (List UInt8 × List UInt8)
  | [], _ => none
  | b :: l, acc => match Nat.beq b.toNat c.toNat with
    | true => some (acc.reverse, l)
    | false => cutF c l (b :: acc)
theorem u8_beq {b c : UInt8} (h : Nat.beq b.toNat c.toNat = true) : b = c := UInt8.toNat_inj.1 (Nat.eq_of_beq_eq_true h)
theorem u8_bne {b c : UInt8} (h : Nat.beq b.toNat c.toNat = false) : (c == b) = false := by
  rw [beq_eq_false_iff_ne]
  rintro rfl
  rw [Nat.beq_refl] at h
  cases h
theorem cutF_spec (c : UInt8) : ∀ (l acc : List UInt8), match cutF c l acc with
    | some (x, y) => 0 ≤ Lib.index l [c] ∧ x = acc.reverse ++ l.take (Lib.index l [c]).toNat ∧ y = l.drop ((Lib.index l [c]).toNat + 1)
    | none => Lib.index l [c] = -1
  | [], acc => by simp [cutF, Lib.index]
  | b :: l, acc => by
    unfold cutF
    cases hb : Nat.beq b.toNat c.toNat
    · have h1 : [c].isPrefixOf (b :: l) = false := by simp [List.isPrefixOf, u8_bne hb]
      have ih := cutF_spec c l (b :: acc)
      have hge := Lib.index_ge l [c]
      unfold Lib.index
      rw [h1]
      simp only [Bool.false_eq_true, if_false]
      split at ih
      · rename_i x y he
        obtain ⟨h2, h3, h4⟩ := ih
        have hne : (Lib.index l [c] == -1) = false := by rw [beq_eq_false_iff_ne]; omega
        simp only [hne, Bool.false_eq_true, if_false]
        have ht : (Lib.index l [c] + 1).toNat = (Lib.index l [c]).toNat + 1 := by omega
        refine ⟨by omega, ?_, ?_⟩
        · rw [h3, ht]; simp
        · rw [h4, ht]; simp
      · rename_i he
        simp [ih]
    · have hbc := u8_beq hb
      subst hbc
      have h1 : [b].isPrefixOf (b :: l) = true := by simp [List.isPrefixOf]
      unfold Lib.index
      simp [h1]
def cutV (c : UInt8) (l : List UInt8) : Value := match cutF c l [] with
  | some (x, y) => .tuple ⟨[.string ⟨⟨x⟩⟩, .string ⟨⟨y⟩⟩, .bool true]⟩
  | none => .tuple ⟨[.string ⟨⟨l⟩⟩, .string ⟨⟨[]⟩⟩, .bool false]⟩
theorem cutV_eq (c : UInt8) (l : List UInt8) : cutV c l = .tuple #[.string ⟨(Lib.cut l [c]).1.toArray⟩, .string ⟨(Lib.cut l [c]).2.1.toArray⟩, .bool (Lib.cut l [c]).2.2] := by
  have h := cutF_spec c l []
  unfold cutV Lib.cut
  split at h
  · rename_i x y he
    obtain ⟨h1, rfl, rfl⟩ := h
    simp [h1]
  · rename_i he
    simp [h]
theorem cutV_flat (c : UInt8) (l : List UInt8) : flat2 (cutV c l) = true := by
  unfold cutV
  split <;> rfl
def cntF (c : UInt8) : List UInt8 → Nat
  | [] => 0
  | b :: l => match Nat.beq b.toNat c.toNat with
    | true => Nat.succ (cntF c l)
    | false => cntF c l
theorem cntF_eq (c : UInt8) : ∀ l : List UInt8, Lib.countByte l c = cntF c l
  | [] => rfl
  | b :: l => by
    have ih := cntF_eq c l
    unfold Lib.countByte at ih ⊢
    unfold cntF
    rw [List.count_cons, ih]
    cases hb : Nat.beq b.toNat c.toNat
    · have := u8_bne hb
      rw [beq_eq_false_iff_ne] at this
      simp [Ne.symm this]
    · have := u8_beq hb
      simp [this]
def idxF (c : UInt8) : List UInt8 → Nat → Int
  | [], _ => -1
  | b :: l, n => match Nat.beq b.toNat c.toNat with
    | true => .ofNat n
    | false => idxF c l (n + 1)
theorem idxF_ge (c : UInt8) : ∀ (l : List UInt8) (n : Nat), (Lib.index l [c] = -1 → idxF c l n = -1) ∧ (Lib.index l [c] ≠ -1 → idxF c l n = n + Lib.index l [c])
  | [], n => by simp [idxF, Lib.index]
  | b :: l, n => by
    have ih := idxF_ge c l (n + 1)
    have hge := Lib.index_ge l [c]
    unfold idxF Lib.index
    cases hb : Nat.beq b.toNat c.toNat
    · have h1 : [c].isPrefixOf (b :: l) = false := by simp [List.isPrefixOf, u8_bne hb]
      rw [h1]
      simp only [Bool.false_eq_true, if_false]
      by_cases h : Lib.index l [c] = -1
      · simp [h, ih.1 h]
      · have hne : (Lib.index l [c] == -1) = false := by rw [beq_eq_false_iff_ne]; exact h
        simp only [hne, Bool.false_eq_true, if_false]
        rw [ih.2 h]
        constructor
        · intro h2; omega
        · intro _; omega
    · have hbc := u8_beq hb
      subst hbc
      have h1 : [b].isPrefixOf (b :: l) = true := by simp [List.isPrefixOf]
      simp [h1]
theorem idxF_eq (c : UInt8) (l : List UInt8) : Lib.index l [c] = idxF c l 0 := by
  have h := idxF_ge c l 0
  by_cases h1 : Lib.index l [c] = -1
  · rw [h.1 h1, h1]
  · rw [h.2 h1]; omega
theorem idxB_eq (c : UInt8) : ∀ l : List UInt8, Lib.indexByte l c = Lib.index l [c]
  | [] => by simp [Lib.indexByte, Lib.index]
  | b :: l => by
    have ih := idxB_eq c l
    unfold Lib.indexByte Lib.index
    rw [ih]
    cases hb : Nat.beq b.toNat c.toNat
    · have h1 : [c].isPrefixOf (b :: l) = false := by simp [List.isPrefixOf, u8_bne hb]
      have h2 : (b == c) = false := by
        have := u8_bne hb
        rw [beq_eq_false_iff_ne] at this ⊢
        exact Ne.symm this
      rw [h1, h2]
    · have hbc := u8_beq hb
      subst hbc
      have h1 : [b].isPrefixOf (b :: l) = true := by simp [List.isPrefixOf]
      simp [h1]
theorem u8of_sound {v : Value} {c : UInt8} (h : Rex.byteOf v = some c) : v = .int .u8 c.toNat := by
  have := Rex.bytesOf_sound (cs := [v]) (l := [c]) (by simp [Rex.bytesOf, h])
  simpa using this
def ble64 (l : List UInt8) : Bool := Nat.ble l.length 65536
def memoS : Memo := fun f vs => match Nat.beq f 55 with
  | true => match vs with
    | [.string ⟨⟨l⟩⟩, .string ⟨⟨[c]⟩⟩] => match ble64 l with
      | true => some (cutV c l)
      | false => none
    | _ => none
  | false => match Nat.beq f 54 with
    | true => match vs with
      | [.string ⟨⟨l⟩⟩, .string ⟨⟨[c]⟩⟩] => some (.int .i64 (.ofNat (cntF c l)))
      | _ => none
    | false => match Nat.beq f 82 with
      | true => match vs with
        | [.string ⟨⟨l⟩⟩, .string ⟨⟨[c]⟩⟩] => match ble64 l with
          | true => some (.int .i64 (idxF c l 0))
          | false => none
        | _ => none
      | false => match Nat.beq f 59 with
        | true => match vs with
          | [.string ⟨⟨l⟩⟩, v] => match Rex.byteOf v with
            | some c => some (.int .i64 (idxF c l 0))
            | none => none
          | _ => none
        | false => match Nat.beq f 62 with
          | true => match vs with
            | [.string s, v] => match Rex.byteOf v with
              | some c => match Nat.ble s.size 65536 with
                | true => some (.int .i64 (Lib.lastIndexByte s c.toNat))
                | false => none
              | none => none
            | _ => none
          | false => match Nat.beq f 86 with
            | true => match vs with
              | [.string s, .string ⟨⟨[9, 10, 13, 32]⟩⟩] => match Nat.ble s.size 65536 with
                | true => some (.string ⟨⟨Lib.trimS (bl s) [9, 10, 13, 32]⟩⟩)
                | false => none
              | _ => none
            | false => none
theorem belowN (w : World) (n : Nat) : Below w.heap.size w (w.drewN n) := ⟨rfl, rfl, rfl, Nat.le_refl _, fun _ _ => rfl⟩
theorem memoS_ok {w : World} (h : MaxAt w) : MemoOk Tryz.prog w memoS := fun f vs v e => by
  unfold memoS at e
  split at e
  · rename_i hf
    have hf := Nat.eq_of_beq_eq_true hf
    subst hf
    split at e
    · rename_i l c
      split at e
      · rename_i hl
        have hl : l.length ≤ 65536 := ble_t hl
        cases e
        refine ⟨rfl, cutV_flat c l, fun w' hk => ?_⟩
        obtain ⟨m, hm⟩ := h.keep hk
        refine (Any.strings_Cut Tryz.lays145 ⟨⟨l⟩⟩ ⟨⟨[c]⟩⟩ m w' (show l.length < _ by omega) hm).mono fun e w'' ⟨h1, n, h2⟩ => ⟨?_, h2 ▸ belowN w' n⟩
        rw [h1, cutV_eq]
      · cases e
    · cases e
  · split at e
    · rename_i hf
      have hf := Nat.eq_of_beq_eq_true hf
      subst hf
      split at e
      · rename_i l c
        cases e
        refine ⟨rfl, rfl, fun w' hk => ?_⟩
        refine (Any.strings_Count_one Tryz.lays138 ⟨⟨l⟩⟩ c w').mono fun e w'' ⟨h1, h2⟩ => ⟨?_, h2 ▸ Below.refl _ _⟩
        rw [h1, ← cntF_eq]
        rfl
      · cases e
    · split at e
      · rename_i hf
        have hf := Nat.eq_of_beq_eq_true hf
        subst hf
        split at e
        · rename_i l c
          split at e
          · rename_i hl
            have hl : l.length ≤ 65536 := ble_t hl
            cases e
            refine ⟨rfl, rfl, fun w' hk => ?_⟩
            obtain ⟨m, hm⟩ := h.keep hk
            refine (Any.strings_Index Tryz.lays143 ⟨⟨l⟩⟩ ⟨⟨[c]⟩⟩ m w' (show l.length < _ by omega) hm).mono fun e w'' ⟨h1, h2⟩ => ⟨?_, h2 ▸ Below.refl _ _⟩
            rw [h1, ← idxF_eq]
          · cases e
        · cases e
      · split at e
        · rename_i hf
          have hf := Nat.eq_of_beq_eq_true hf
          subst hf
          split at e
          · rename_i l v
            split at e
            · rename_i c hc
              cases e
              have hv := u8of_sound hc
              subst hv
              refine ⟨rfl, rfl, fun w' hk => ?_⟩
              refine (Any.strings_IndexByte Tryz.lays137 ⟨⟨l⟩⟩ c.toNat w').mono fun e w'' ⟨h1, h2⟩ => ⟨?_, h2 ▸ Below.refl _ _⟩
              have hcc : ((c.toNat : Int)).toNat.toUInt8 = c := by simp
              rw [h1, hcc, idxB_eq, ← idxF_eq]
            · cases e
          · cases e
        · split at e
          · rename_i hf
            have hf := Nat.eq_of_beq_eq_true hf
            subst hf
            split at e
            · rename_i s v
              split at e
              · rename_i c hc
                split at e
                · rename_i hl
                  have hl : s.size ≤ 65536 := ble_t hl
                  cases e
                  have hv := u8of_sound hc
                  subst hv
                  refine ⟨rfl, rfl, fun w' hk => ?_⟩
                  exact (Any.strings_LastIndexByte Tryz.lays149 s c.toNat (by omega) w').mono fun e w'' ⟨h1, h2⟩ => ⟨h1, h2 ▸ Below.refl _ _⟩
                · cases e
              · cases e
            · cases e
          · split at e
            · rename_i hf
              have hf := Nat.eq_of_beq_eq_true hf
              subst hf
              split at e
              · rename_i s
                split at e
                · rename_i hl
                  have hl : s.size ≤ 65536 := ble_t hl
                  cases e
                  refine ⟨rfl, rfl, fun w' hk => ?_⟩
                  exact Any.strings_Trim_laid Tryz.lays160 (by kernel_rfl) s ⟨#[9, 10, 13, 32]⟩ w' (by omega) (by decide) (ascii_of_all (by decide))
                · cases e
              · cases e
            · cases e
end Go.Proofs.YtoclmkdfcafhfaaGreatDoor
