/- A machine for closed runs: code, calls, and what a run of the machine says of the real program. No statement of the seat is proved here. -/
import Derived.Test.YtllilkcocfalmaaGreatDoorRk
import Derived.Test.YtllilkcocfalmaaGreatDoorVs
import Derived.LoopN
import Derived.Defers
set_option maxRecDepth 20000
namespace Go.Rex
open Go.RowKit
open Go.Vcg (Keep callable)

theorem ble_f {a b : Nat} (h : Nat.ble a b = false) : b < a := Nat.lt_of_not_le fun hle => by
  rw [show Nat.ble a b = true from (by rw [Nat.ble_eq]; exact hle)] at h; cases h
inductive Ex where
  | normal
  | exit (id : Nat)
  | ret
def toE : Ex → Exit
  | .normal => .normal
  | .exit i => .exit i
  | .ret => .ret
abbrev CodeF := Code → Heap → Nat → Sls → Option (Ex × Heap × Nat × Sls)
def loopR (ih : CodeF) (c : Code) : Nat → Heap → Nat → Sls → Option (Ex × Heap × Nat × Sls)
  | 0, _, _, _ => none
  | k + 1, h, nx, l => match ih c h nx l with
    | some (e, h', nx', l') => match e with
      | .normal => loopR ih c k h' nx' l'
      | e => some (e, h', nx', l')
    | none => none
def stepC (P : Program) (N : Nat) (qs : List FuncId) (call : CallF) (ih : CodeF) (k : Nat) : CodeF := fun c h nx l => match c with
  | .skip => some (.normal, h, nx, l)
  | .region _ ⟨ops⟩ false => match runOps P N qs call ops ops h nx l with
    | some (h', nx', l') => some (.normal, h', nx', l')
    | none => none
  | .region _ ⟨ops⟩ true => match drawT P N call ops h nx l with
    | some z => some (.normal, z.h, z.nx, z.l)
    | none => none
  | .seq x y => match ih x h nx l with
    | some (e, h', nx', l') => match e with
      | .normal => ih y h' nx' l'
      | e => some (e, h', nx', l')
    | none => none
  | .cond c x y => match aev N l c with
    | some (.bool true) => ih x h nx l
    | some (.bool false) => ih y h nx l
    | _ => none
  | .block id c => match ih c h nx l with
    | some (e, h', nx', l') => match e with
      | .exit j => match Nat.beq j id with
        | true => some (.normal, h', nx', l')
        | false => some (.exit j, h', nx', l')
      | e => some (e, h', nx', l')
    | none => none
  | .loop c => loopR ih c k h nx l
  | .exit id => some (.exit id, h, nx, l)
  | .ret => some (.ret, h, nx, l)
  | _ => none
def resM (P : Program) (h : Heap) (l : Sls) : List ResultVar → Option (List Value)
  | [] => some []
  | r :: rs => match r with
    | .tmp t => match sget l t with
      | some v => match isHole v with
        | true => none
        | false => match resM P h l rs with
          | some vs => some (v :: vs)
          | none => none
      | none => none
    | .cell t ty => match sget l t with
      | some u => match isHole u with
        | true => none
        | false => match ald P h ty u with
          | some v => match resM P h l rs with
            | some vs => some (v :: vs)
            | none => none
          | none => none
      | none => none
def one1 : List Value → Value
  | [u] => u
  | us => .tuple ⟨us⟩
def isEnd : Ex → Bool
  | .normal => true
  | .ret => true
  | .exit _ => false
def setAll : Nat → List Value → T Value → T Value
  | _, [], t => t
  | i, v :: r, t => setAll (i + 1) r (tset 9 t i (some v))
def sfrom (n : Nat) (vs : List Value) : Sls := match Nat.ble vs.length 512 with
  | true => ⟨n, setAll 0 vs .e⟩
  | false => ⟨n, .e⟩
theorem setAll_spec : ∀ {vs : List Value} {i : Nat} {t : T Value} {k : Nat} {v : Value}, i + vs.length ≤ 512 → k < 512 → tget 9 (setAll i vs t) k = some v → (i ≤ k ∧ vs[k - i]? = some v) ∨ tget 9 t k = some v
  | [], i, t, k, v, _, _, h => .inr h
  | u :: r, i, t, k, v, hi, hk, h => by
    unfold setAll at h
    simp only [List.length_cons] at hi
    rcases setAll_spec (by omega) hk h with ⟨h1, h2⟩ | h1
    · exact .inl ⟨by omega, by rw [show k - i = (k - (i + 1)) + 1 by omega]; simpa using h2⟩
    · by_cases hki : k = i
      · subst hki
        rw [tget_set_same] at h1
        exact .inl ⟨Nat.le_refl _, by simpa using h1⟩
      · rw [tget_set_other 9 t i k (some u) (by omega) (by omega) hki] at h1
        exact .inr h1
theorem sfrom_spec {n : Nat} {vs : List Value} {k : Nat} {v : Value} (h : sget (sfrom n vs) k = some v) : vs[k]? = some v := by
  unfold sget at h
  split at h
  · rename_i hk
    unfold sfrom at h
    split at h
    · rename_i hl
      rcases setAll_spec (by simpa using ble_t hl) (blt_t hk) h with ⟨_, h2⟩ | h1
      · simpa using h2
      · rw [tget_e] at h1; cases h1
    · simp only [tget_e] at h; cases h
  · cases h
theorem sfrom_n {n : Nat} {vs : List Value} : (sfrom n vs).n = n := by unfold sfrom; split <;> rfl
abbrev Memo := FuncId → List Value → Option Value
def callB (P : Program) (memo : Memo) (exec : CodeF) : CallF := fun f vs h nx => match memo f vs with
  | some v => some (v, h, nx)
  | none => match nth P.funcs.toList f with
    | some fn => match fn.body with
      | some c => match Nat.ble vs.length fn.ntmps with
        | true => match exec c ⟨h.t, nx⟩ nx (sfrom fn.ntmps vs) with
          | some (e, h', nx', l') => match isEnd e with
            | true => match resM P h' l' fn.results.toList with
              | some us => match flat2 (one1 us) with
                | true => match Nat.ble nx h'.mw with
                  | true => some (one1 us, h, nx)
                  | false => some (one1 us, ⟨h'.t, bif Nat.ble h.mw h'.mw then h.mw else h'.mw⟩, nx')
                | false => some (one1 us, ⟨h'.t, bif Nat.ble h.mw h'.mw then h.mw else h'.mw⟩, nx')
              | none => none
            | false => none
          | none => none
        | false => none
      | none => none
    | none => none
def exQ (P : Program) (N : Nat) (qs : List FuncId) (memo : Memo) (n : Nat) : CodeF :=
  Nat.rec (motive := fun _ => CodeF) (fun _ _ _ _ => none) (fun k ih => stepC P N qs (callB P memo ih) ih k) n
def ex (P : Program) (N : Nat) (memo : Memo) (n : Nat) : CodeF := exQ P N [] memo n

section
variable {P : Program} {qs : List FuncId} {N : Nat} {w0 : World} {ρ ρ' : Env} {h h' : Heap} {l : Sls} {a : Act} {w w' : World} {nx nx' : Nat}
def ExOk (P : Program) (qs : List FuncId) (w0 : World) (N : Nat) (ih : CodeF) : Prop :=
  ∀ c h nx l e h' nx' l', ih c h nx l = some (e, h', nx', l') → ∀ ρ a w (Q : Exit → Act → World → Prop), R P qs w0 N ρ h nx l a w →
    (∀ ρ' a' w', Ev ρ h nx ρ' h' nx' → R P qs w0 N ρ' h' nx' l' a' w' → Q (toE e) a' w') → c.wp P Q a w
theorem loopR_ok {ih : CodeF} (hi : ExOk P qs w0 N ih) {c : Code} {Q : Exit → Act → World → Prop} : ∀ {k : Nat} {h : Heap} {nx : Nat} {l : Sls} {e : Ex} {h' : Heap} {nx' : Nat} {l' : Sls}, loopR ih c k h nx l = some (e, h', nx', l') → ∀ {ρ : Env} {a : Act} {w : World}, R P qs w0 N ρ h nx l a w →
    (∀ ρ' a' w', Ev ρ h nx ρ' h' nx' → R P qs w0 N ρ' h' nx' l' a' w' → Q (toE e) a' w') → Code.rounds P c Q k a w
  | 0, h, nx, l, e, h', nx', l', he, ρ, a, w, r, hQ => by unfold loopR at he; cases he
  | k + 1, h, nx, l, e, h', nx', l', he, ρ, a, w, r, hQ => by
    unfold loopR at he
    rw [rounds_succ]
    split at he
    · rename_i e1 h1 nx1 l1 h2
      refine hi _ _ _ _ _ _ _ _ h2 ρ a w _ r fun ρ1 a1 w1 hev r1 => ?_
      cases e1 with
      | normal => exact loopR_ok hi he r1 fun ρ2 a2 w2 hev2 r2 => hQ ρ2 a2 w2 (hev.trans hev2) r2
      | exit i => cases he; exact hQ _ _ _ hev r1
      | ret => cases he; exact hQ _ _ _ hev r1
    · cases he
theorem stepC_ok (hm : P.follows .mixedOrders = true) (hq : ∀ f ∈ qs, QuietF P f) {call : CallF} {ih : CodeF} (hc : CallOk P w0 N call) (hi : ExOk P qs w0 N ih) (k : Nat) : ExOk P qs w0 N (stepC P N qs call ih k) := by
  intro c h nx l e h' nx' l' he ρ a w Q r hQ
  unfold stepC at he
  split at he
  · cases he; exact wp_skip (hQ ρ a w (Ev.refl _ _ _) r)
  · split at he
    · rename_i h1
      cases he
      exact wp_region_lit (runOps_sound hc hq h1 r hQ)
    · cases he
  · split at he
    · rename_i z h1
      cases he
      exact drawT_sound hc hm h1 r hQ
    · cases he
  · split at he
    · rename_i e1 h1 nx1 l1 h2
      refine wp_seq (hi _ _ _ _ _ _ _ _ h2 ρ a w _ r fun ρ1 a1 w1 hev r1 => ?_)
      cases e1 with
      | normal => exact hi _ _ _ _ _ _ _ _ he ρ1 a1 w1 Q r1 fun ρ2 a2 w2 hev2 r2 => hQ ρ2 a2 w2 (hev.trans hev2) r2
      | exit i => cases he; exact hQ _ _ _ hev r1
      | ret => cases he; exact hQ _ _ _ hev r1
    · cases he
  · split at he
    · rename_i hcv
      exact wp_cond_true (rv_nil (aev_sound r.sl hcv) rfl) (hi _ _ _ _ _ _ _ _ he ρ a w Q r hQ)
    · rename_i hcv
      exact wp_cond_false (rv_nil (aev_sound r.sl hcv) rfl) (hi _ _ _ _ _ _ _ _ he ρ a w Q r hQ)
    · cases he
  · rename_i id c
    split at he
    · rename_i e1 h1 nx1 l1 h2
      refine wp_block (hi _ _ _ _ _ _ _ _ h2 ρ a w _ r fun ρ1 a1 w1 hev r1 => ?_)
      cases e1 with
      | normal => cases he; exact hQ _ _ _ hev r1
      | ret => cases he; exact hQ _ _ _ hev r1
      | exit j =>
        simp only at he
        show (if j = id then Q .normal a1 w1 else Q (.exit j) a1 w1)
        split at he
        · rename_i hj
          rw [if_pos (Nat.eq_of_beq_eq_true hj)]
          cases he; exact hQ _ _ _ hev r1
        · rename_i hj
          rw [if_neg (Nat.ne_of_beq_eq_false hj)]
          cases he; exact hQ _ _ _ hev r1
    · cases he
  · exact wp_loop_rounds k (loopR_ok hi he r hQ)
  · cases he; exact wp_exit (hQ ρ a w (Ev.refl _ _ _) r)
  · cases he; exact wp_ret (hQ ρ a w (Ev.refl _ _ _) r)
  · cases he

theorem resM_sound (hs : Sl N ρ l a) (hk : HeapOk ρ h w) : ∀ {rs : List ResultVar} {vs : List Value}, resM P h l rs = some vs → ∃ VS, rvs ρ vs = some VS ∧ (rs.mapM (Go.Vcg.ResultVar.get a.tmps)).run P w = .ok VS w
  | [], vs, e => by unfold resM at e; cases e; exact ⟨[], by simp [rvs], by simp⟩
  | r :: rs, vs, e => by
    unfold resM at e
    split at e
    · rename_i t
      split at e
      · rename_i v hv
        split at e
        · cases e
        · rename_i hh
          split at e
          · rename_i us hu
            cases e
            obtain ⟨US, g1, g2⟩ := resM_sound hs hk hu
            obtain ⟨V, k1, k2⟩ := hs.tmps.2 t v hv hh
            exact ⟨V :: US, by simp [rvs, k2, g1], by simp [List.mapM_cons, Go.Vcg.ResultVar.get, k1, g2]⟩
          · cases e
      · cases e
    · rename_i t ty
      split at e
      · rename_i u hu
        split at e
        · cases e
        · rename_i hh
          split at e
          · rename_i v hv
            split at e
            · rename_i us hus
              cases e
              obtain ⟨US, g1, g2⟩ := resM_sound hs hk hus
              obtain ⟨U, k1, k2⟩ := hs.tmps.2 t u hu hh
              obtain ⟨V, q1, q2⟩ := ald_sound (P := P) hk k2 hv
              have hU : ∃ A, U = .pointer (some A) := by
                unfold ald at hv
                split at hv
                · exact rv_pointer_some k2
                · cases hv
              obtain ⟨A, rfl⟩ := hU
              simp only [Instr.loadAt, Instr.sureAddr, Sem.run_bind, Sem.run_pure, Result.andThen_ok] at q2
              exact ⟨V :: US, by simp [rvs, q1, g1], by simp [List.mapM_cons, Go.Vcg.ResultVar.get, k1, asAddr, q2, g2]⟩
            · cases e
          · cases e
      · cases e
theorem results_run (hs : Sl N ρ l a) (hk : HeapOk ρ h w) {fn : Func} {vs : List Value} (e : resM P h l fn.results.toList = some vs) : ∃ V, rv ρ (one1 vs) = some V ∧ (results fn a.tmps).run P w = .ok V w := by
  obtain ⟨VS, h1, h2⟩ := resM_sound hs hk e
  have hl := rvs_length h1
  have e1 : results fn a.tmps = (do let vs ← fn.results.mapM (Go.Vcg.ResultVar.get a.tmps); pure (if h : vs.size = 1 then vs[0] else .tuple vs)) := by
    unfold results
    refine congrArg (fun f => (fn.results.mapM f >>= fun vs => pure (if h : vs.size = 1 then vs[0] else .tuple vs) : Sem Value)) ?_
    funext r
    cases r <;> rfl
  have e2 : (fn.results.mapM (Go.Vcg.ResultVar.get a.tmps)).run P w = .ok VS.toArray w := by
    rw [Array.mapM_eq_mapM_toList]
    simp [h2]
  have e3 : (results fn a.tmps).run P w = .ok (if h : VS.toArray.size = 1 then VS.toArray[0] else .tuple VS.toArray) w := by
    rw [e1]
    simp only [Sem.run_bind, e2, Result.andThen_ok]
    rfl
  match vs, VS, h1, hl, e3 with
  | [v], [V], h1, hl, e3 =>
    refine ⟨V, ?_, by simpa using e3⟩
    unfold rvs at h1
    split at h1
    · rename_i hv hr
      simp [rvs] at hr
      subst hr
      cases h1
      exact hv
    · cases h1
  | [], [], h1, hl, e3 => exact ⟨.tuple #[], by simp [one1, rv, rvs], by simpa using e3⟩
  | u :: v :: r, U :: V :: R, h1, hl, e3 => exact ⟨.tuple (U :: V :: R).toArray, by simp [one1, rv, h1], by simpa using e3⟩
  | [], _ :: _, _, hl, _ => simp at hl
  | _ :: _, [], _, hl, _ => simp at hl
  | [_], _ :: _ :: _, _, hl, _ => simp at hl
  | _ :: _ :: _, [_], _, hl, _ => simp at hl

def MemoOk (P : Program) (w0 : World) (memo : Memo) : Prop :=
  ∀ f vs v, memo f vs = some v → flats vs = true ∧ flat2 v = true ∧ ∀ w, Keep [] w0 w → Calls P f vs.toArray w fun e w' => e = .returned v ∧ Below w.heap.size w w'
theorem Rel.gc (r : Rel w0 ρ h nx w) (r' : Rel w0 ρ' h' nx' w') (hev : Ev ρ ⟨h.t, nx⟩ nx ρ' h' nx') (hm : nx ≤ h'.mw) : Rel w0 ρ h nx w' :=
  ⟨fun b o ho => by
    have hb := r.lt ho
    have h1 : hget h' b = some o := by rw [hev.pr.2 b (by omega)]; exact ho
    obtain ⟨B, C, g1, g2⟩ := r'.ok b o h1
    rw [hev.ext b hb] at g1
    obtain ⟨B0, C0, k1, k2⟩ := r.ok b o ho
    have hle : ELe ρ ρ' := hev.ele (h := ⟨h.t, nx⟩) ⟨r.ok, r.inj, r.new, r.small, r.own, r.old, r.keep⟩
    exact ⟨B, C, g1, g2.back hle k2⟩, r.inj, r.new, r.small, r.own, r.old, r'.keep⟩
theorem leaves_quiet {fn : Func} {tmps : Array Value} {R' : Ending → World → Prop} : ∀ (ds : List Deferred), (∀ d ∈ ds, QuietD P qs d) → ∀ w : World, (∀ w2, Below w.heap.size w w2 → ∃ V, (results fn tmps).run P w2 = .ok V w2 ∧ R' (.returned V) w2) → Leaves P fn tmps R' ds .returning w
  | [], _, w, h => h w (Below.refl _ _)
  | d :: ds, hd, w, h => by
    obtain ⟨f, cap, _, h1, h2, h3⟩ := hd d (by simp)
    have hinv : (invoke d.target d.args).run P w = .ok (.enter f (d.args ++ cap)) w := by
      unfold callable at h2
      cases hf : P.funcs[f]? with
      | none => simp [hf] at h2
      | some fn' =>
        simp only [hf, Bool.and_eq_true, Bool.not_eq_true'] at h2
        have hb : ¬ fn'.body = none := by intro hb; simp [hb] at h2
        have hn : ¬ fn'.name = "runtime.NumGoroutine" := by have := h2.2; simpa using this
        simp [h1, invoke, callFunc, hf, hn, hb]
    refine ⟨by simp, .func f, cap, f, _, h1, hinv, ?_⟩
    intro c cs hc
    obtain ⟨e, u', w', fr, hR, hs⟩ := h3 (d.args ++ cap) w c cs hc
    refine ⟨e, u', w', fr, ?_, hs⟩
    obtain ⟨⟨v, rfl⟩, rfl, hb⟩ := hR
    exact leaves_quiet ds (fun x hx => hd x (by simp [hx])) w' fun w2 hb2 => h w2 (hb.trans ⟨hb2.os, hb2.tape, hb2.output, hb2.size, fun k hk => hb2.block k (Nat.lt_of_lt_of_le hk hb.size)⟩)
theorem callB_ok {memo : Memo} (hme : MemoOk P w0 memo) {exec : CodeF} (hi : ExOk P qs w0 N exec) : CallOk P w0 N (callB P memo exec) := by
  intro ρ h nx f vs VS w v h2 nx2 e r hg hvs R' hR
  unfold callB at e
  split at e
  · rename_i u hu
    cases e
    obtain ⟨h1, h3, h4⟩ := hme f vs v hu
    have hVS := rvs_flats_eq h1 hvs
    subst hVS
    refine (h4 w r.keep).mono fun e w' he => ?_
    obtain ⟨rfl, hb⟩ := he
    exact hR ρ v w' (Ev.refl _ _ _) (rv_flat2 h3) (r.after ⟨hb.os, hb.tape, hb.output, hb.size, fun b hb' _ => hb.block b hb'⟩)
  · split at e
    · rename_i fn hfn
      rw [nth_eq] at hfn
      have hfn' : P.funcs[f]? = some fn := by simpa using hfn
      split at e
      · rename_i c hc
        split at e
        · rename_i hlen
          have hlen := ble_t hlen
          split at e
          · rename_i ee h' nx' l' hex
            split at e
            · rename_i hend
              split at e
              · rename_i us hus
                have hL := rvs_length hvs
                have rel' : Rel w0 ρ ⟨h.t, nx⟩ nx w := ⟨r.ok, r.inj, r.new, r.small, r.own, r.old, r.keep⟩
                have rR : R P qs w0 N ρ ⟨h.t, nx⟩ nx (sfrom fn.ntmps vs) { tmps := VS.toArray ++ Array.replicate (fn.ntmps - VS.toArray.size) undef, defers := [] } w := by
                  refine ⟨rel', ⟨hg, ?_, fun i u hu _ => ?_⟩, fun d hd => by cases hd⟩
                  · simp [sfrom_n]; omega
                  · obtain ⟨V, g1, g2⟩ := rvs_get hvs i u (sfrom_spec hu)
                    have hlt := (List.getElem?_eq_some_iff.1 g1).1
                    exact ⟨V, by rw [Array.getElem?_append_left (by simpa using hlt)]; simpa using g1, g2⟩
                refine calls_of_wp_defers hfn' hc (hi c _ _ _ _ _ _ _ hex ρ _ w _ rR fun ρ1 a1 w1 hev r1 => ?_)
                have fin : ∀ w2, Rel w0 ρ1 h' nx' w2 → ∃ V, (results fn a1.tmps).run P w2 = .ok V w2 ∧ R' (.returned V) w2 := fun w2 rel2 => by
                  obtain ⟨V, q1, q2⟩ := results_run (P := P) r1.sl rel2.ok hus
                  refine ⟨V, q2, ?_⟩
                  have slow : h2 = ⟨h'.t, bif Nat.ble h.mw h'.mw then h.mw else h'.mw⟩ → nx2 = nx' → v = one1 us → R' (.returned V) w2 := fun e1 e2 e3 => by
                    subst e1; subst e2; subst e3
                    have hmw : (bif Nat.ble h.mw h'.mw then h.mw else h'.mw) ≤ h.mw ∧ (bif Nat.ble h.mw h'.mw then h.mw else h'.mw) ≤ h'.mw := by
                      cases hb : Nat.ble h.mw h'.mw with
                      | true => have := ble_t hb; simp; exact this
                      | false =>
                        have := ble_f hb
                        simp; omega
                    refine hR ρ1 V w2 ⟨hev.ext, hev.le, hmw.1, fun b hb => ?_⟩ q1 ⟨rel2.ok, rel2.inj, rel2.new, rel2.small, rel2.own, rel2.old, rel2.keep⟩
                    exact hev.pr.2 b (Nat.lt_of_lt_of_le hb hmw.2)
                  split at e
                  · rename_i hf
                    split at e
                    · rename_i hle
                      cases e
                      have := rv_flat2_eq hf q1
                      subst this
                      exact hR ρ _ w2 (Ev.refl _ _ _) (rv_flat2 hf) (r.gc rel2 hev (ble_t hle))
                    · cases e; exact slow rfl rfl rfl
                  · cases e; exact slow rfl rfl rfl
                have lv := leaves_quiet (P := P) (fn := fn) (tmps := a1.tmps) (R' := R') a1.defers r1.df w1 (fun w2 hb => fin w2 (r1.rel.after ⟨hb.os, hb.tape, hb.output, hb.size, fun b hb' _ => hb.block b hb'⟩))
                cases ee with
                | normal => exact lv
                | ret => exact lv
                | exit i => cases hend
              · cases e
            · cases e
          · cases e
        · cases e
      · cases e
    · cases e
theorem exQ_ok (hm : P.follows .mixedOrders = true) (hq : ∀ f ∈ qs, QuietF P f) {memo : Memo} (hme : MemoOk P w0 memo) : ∀ n, ExOk P qs w0 N (exQ P N qs memo n)
  | 0 => by intro c h nx l e h' nx' l' he; cases he
  | n + 1 => stepC_ok hm hq (callB_ok hme (exQ_ok hm hq hme n)) (exQ_ok hm hq hme n) n
theorem ex_ok (hm : P.follows .mixedOrders = true) {memo : Memo} (hme : MemoOk P w0 memo) (n : Nat) : ExOk P [] w0 N (ex P N memo n) := exQ_ok hm (fun f hf => by cases hf) hme n

/-! a closed run -/
def ρN (N : Nat) : Env := fun b => match Nat.blt b N with
  | true => some (b, 0, 0)
  | false => none
def tabs : List (Nat × List Value) → Heap
  | [] => ⟨.e, 0⟩
  | (g, cs) :: r => hset (tabs r) g (some (.tab cs))
def TabsOk (N : Nat) (w : World) (ts : List (Nat × List Value)) : Prop := ∀ g cs, (g, cs) ∈ ts → g < N ∧ flats cs = true ∧ ∃ t f, w.heap[g]? = some (.cells cs.toArray t f)
theorem TabsOk.keep {N : Nat} {ts : List (Nat × List Value)} (h : TabsOk N w ts) (hk : Keep [] w w') : TabsOk N w' ts := fun g cs hm => by
  obtain ⟨h1, h2, t, f, h3⟩ := h g cs hm
  exact ⟨h1, h2, t, f, by rw [hk.block g (Array.getElem?_eq_some_iff.1 h3).1 (by simp)]; exact h3⟩
theorem tabs_spec {N : Nat} (hN : N ≤ 1048576) : ∀ {ts : List (Nat × List Value)} {b : Nat} {o : AObj}, (∀ g cs, (g, cs) ∈ ts → g < N) → hget (tabs ts) b = some o → ∃ cs, (b, cs) ∈ ts ∧ o = .tab cs
  | [], b, o, _, h => by
    unfold tabs hget at h
    split at h
    · rw [tget_e] at h; cases h
    · cases h
  | (g, cs) :: r, b, o, hg, h => by
    unfold tabs at h
    have hlt := hg g cs (by simp)
    by_cases hb : b = g
    · subst hb
      rw [hget_set_same (by omega)] at h
      cases h
      exact ⟨cs, by simp, rfl⟩
    · rw [hget_set_other (by omega) hb] at h
      obtain ⟨cs', h1, h2⟩ := tabs_spec hN (fun g cs hm => hg g cs (by simp [hm])) h
      exact ⟨cs', by simp [h1], h2⟩
theorem rel_start (hN : N ≤ 1048576) {ts : List (Nat × List Value)} (ht : TabsOk N w ts) : Rel w (ρN N) (tabs ts) N w ∧ Glob N (ρN N) := by
  have hgl : Glob N (ρN N) := fun g hg => by
    have : Nat.blt g N = true := by rw [Nat.blt, Nat.ble_eq]; exact hg
    simp [ρN, this]
  have hsp : ∀ b o, hget (tabs ts) b = some o → ∃ cs, (b, cs) ∈ ts ∧ o = .tab cs := fun b o h => tabs_spec hN (fun g cs hm => (ht g cs hm).1) h
  refine ⟨⟨fun b o h => ?_, fun b b' o o' B C C' h h' e e' => ?_, fun b hb => ?_, hN, fun b o h hr => ?_, fun b o h hr B C e => ?_, Keep.refl _ _⟩, hgl⟩
  · obtain ⟨cs, h1, rfl⟩ := hsp b o h
    obtain ⟨h2, h3, t, f, h4⟩ := ht b cs h1
    exact ⟨b, 0, hgl b h2, cs, t, f, rvs_flats h3, h4⟩
  · obtain ⟨cs, h1, _⟩ := hsp b o h
    obtain ⟨cs', h1', _⟩ := hsp b' o' h'
    rw [hgl b (ht b cs h1).1] at e
    rw [hgl b' (ht b' cs' h1').1] at e'
    cases e; cases e'; rfl
  · have : Nat.blt b N = false := by
      cases hh : Nat.blt b N with
      | false => rfl
      | true => have := blt_t hh; omega
    simp [ρN, this]
  · obtain ⟨cs, _, rfl⟩ := hsp b o h
    cases hr
  · obtain ⟨cs, h1, rfl⟩ := hsp b o h
    obtain ⟨h2, h3, t, f, h4⟩ := ht b cs h1
    rw [hgl b h2] at e
    cases e
    exact (Array.getElem?_eq_some_iff.1 h4).1
def runF (P : Program) (N : Nat) (memo : Memo) (ts : List (Nat × List Value)) (n : Nat) (f : FuncId) (vs : List Value) : Option Value := match callB P memo (ex P N memo n) f vs (tabs ts) N with
  | some (v, _, _) => match flat2 v with
    | true => match flats vs with
      | true => some v
      | false => none
    | false => none
  | none => none
theorem runF_sound (hm : P.follows .mixedOrders = true) {memo : Memo} (hme : MemoOk P w memo) (hN : N ≤ 1048576) {ts : List (Nat × List Value)} (ht : TabsOk N w ts) {n : Nat} {f : FuncId} {vs : List Value} {v : Value} (e : runF P N memo ts n f vs = some v) :
    Calls P f vs.toArray w fun e w' => e = .returned v ∧ Below w.heap.size w w' := by
  unfold runF at e
  split at e
  · rename_i u h2 nx2 hu
    split at e
    · rename_i hf
      split at e
      · rename_i hfs
        cases e
        obtain ⟨hr, hg⟩ := rel_start hN ht
        refine callB_ok hme (ex_ok hm hme n) _ _ _ f vs vs w v h2 nx2 hu hr hg (rvs_flats hfs) _ fun ρ' V w' hev hV hr' => ?_
        have := rv_flat2_eq hf hV
        subst this
        exact ⟨rfl, hr'.keep.below⟩
      · cases e
    · cases e
  · cases e
end
end Go.Rex
