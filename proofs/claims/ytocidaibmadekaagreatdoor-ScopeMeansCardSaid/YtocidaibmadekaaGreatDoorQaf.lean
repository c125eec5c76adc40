/- template and chain. No statement of the seat is proved here. -/
import Derived.Test.YtocidaibmadekaaGreatDoorQae
set_option maxRecDepth 20000
set_option maxHeartbeats 2000000
namespace Go.Proofs.YtocidaibmadekaaGreatDoor
open Go.RowKit Go.Vcg
def vU (i : Nat) (e : T → Bool) (t : T) : Prop := if i % 2 = 0 then t.op = 31 else e t = true
def rS (e : T → Bool) (ks : List T) : Prop := ks.length % 2 = 1 ∧ ∀ (i : Nat) (t : T), ks[i]? = some t → vU i e t
noncomputable def fP (e : T → Bool) (ks : List T) : Bool := dB (rS e ks)
theorem sS {e : T → Bool} {ks : List T} (h : rS e ks) : fP e ks = true := by unfold fP; exact VR h
theorem nE {e : T → Bool} {ks : List T} (h : ¬rS e ks) : fP e ks = false := by unfold fP; exact VS h
inductive iI : T → Prop
  | one {t : T} (h : cW t = true) (hn : t.n = 1) : iI t
  | more {t k : T} (h : cW t = true) (hk : t.kids[0]? = some k) (hc : iI k) : iI t
noncomputable def chB (t : T) : Bool := dB (iI t)
theorem BU {t : T} (h : iI t) : chB t = true := by unfold chB; exact VR h
theorem rN {t : T} (h : ¬iI t) : chB t = false := by unfold chB; exact VS h
theorem wP {t : T} (h : cW t = false) : ¬iI t := fun hc => by
  cases hc with
  | one h2 _ => rw [h] at h2; cases h2
  | more h2 _ _ => rw [h] at h2; cases h2
theorem VW {t : T} (h : t.n ≠ 1) (hk : t.kids[0]? = none) : ¬iI t := fun hc => by
  cases hc with
  | one _ h2 => exact h h2
  | more _ h2 _ => rw [hk] at h2; cases h2
theorem DX {t k : T} (hl : cW t = true) (h : t.n ≠ 1) (hk : t.kids[0]? = some k) : iI t ↔ iI k := by
  constructor
  · intro hc
    cases hc with
    | one _ h2 => exact absurd h2 h
    | more _ h2 h3 => rw [hk] at h2; cases h2; exact h3
  · exact fun hc => .more hl hk hc
noncomputable def mC (ks : List T) : Bool := match ks with | [k] => chB k | _ => false
inductive Sh' : T → Prop
  | mk {t : T} (h : t.s.size ≤ 65536) (hk : ∀ k ∈ t.kids, Sh' k) : Sh' t
theorem Sh'.s {t : T} (h : Sh' t) : t.s.size ≤ 65536 := by cases h; assumption
theorem Sh'.kid {t k : T} (h : Sh' t) (hk : k ∈ t.kids) : Sh' k := by
  cases h with
  | mk _ h => exact h k hk
attribute [local irreducible] fP chB G GC GQ GA bX Calls IntKind.wrap Int.decLt Int.decLe
theorem zO (ks : List T) (A : Option Addr) (n c : Nat) (w : World) (μ : Mem) (hμ : MOk μ w) (hk : KR μ ks (.slice A n c)) (hkn : ks.length = n) (hn : n ≤ 100000) (hks : ∀ k ∈ ks, T.size k ≤ 100000 ∧ k.s.size ≤ 65536) :
    Calls Tryz.prog 118 #[.slice A n c] w fun e w' => e = .returned (.bool (fP aK ks)) ∧ Below w.heap.size w w' := by
  refine aA (args := [.slice A n c]) Tryz.func118 rfl Tryz.ntmps118 (by simp) hμ ?_
  have hget : ∀ (i : Nat) (t : T), ks[i]? = some t → ∃ a u, A = some a ∧ cQ μ (a.add (i * 6)) (aD t u) ∧ u.oneCell' = true ∧ KR μ t.kids u := by
    obtain ⟨A', c', e, _, hg⟩ := hk.form
    cases e
    exact hg
  repeat' (first | refine KK ?_ | fail)
  refine aX (ι := Nat) (fun i => i ≤ n ∧ ∀ (j : Nat) (t : T), j < i → ks[j]? = some t → vU j aK t) (fun i => n - i) (fun _ => μ) (fun i => [(7, .int .i64 i), (6, .int .i64 n), (5, .slice A n c), (0, .slice A n c)]) (fun _ => []) 0 ⟨by omega, fun j _ h => absurd h (by omega)⟩ (fun a w hs => J6 hs) ?_
  rintro i ⟨hi, hok⟩
  by_cases hlt : i < n
  · have hkk : ks[i]? = some ks[i] := List.getElem?_eq_getElem (by omega)
    generalize ks[i] = t at hkk
    obtain ⟨ad, x, rfl, hm, ho, hkx⟩ := hget i t hkk
    have hts := hks t (List.mem_of_getElem? hkk)
    have hr : (i : Int).tmod 2 = ((i % 2 : Nat) : Int) := rfl
    have hcall := fun (w : World) (μc : Mem) (hw : MOk μc w) (hle : MLe μ μc) => kV t x w μc hw (hkx.mono hle) hts.1 hts.2
    by_cases hp1 : vU i aK t
    · have hnext : ∀ (j : Nat) (t : T), j < i + 1 → ks[j]? = some t → vU j aK t := fun j t' hj ht => by
        rcases Nat.lt_or_ge j i with h | h
        · exact hok j t' h ht
        · obtain rfl : j = i := by omega
          rw [hkk] at ht
          cases ht
          exact hp1
      unfold vU at hp1
      by_cases h2 : i % 2 = 0
      · rw [if_pos h2] at hp1
        repeat' (first | refine KO ?_ | (refine KV (b := by first | exact U1 i | exact U4 hm) (c := ?_)) | refine KI ?_ | refine NB fun b => ?_ | refine KG ?_ | fail)
        all_goals first
          | exact J2 (i + 1) ⟨by omega, hnext⟩ (by omega)
          | (exfalso; omega)
      · rw [if_neg h2] at hp1
        rw [hp1] at hcall
        repeat' (first | refine KO ?_ | ((with_reducible apply C1); exact rfl; exact EN; exact fun w μc hw hse => hcall w μc hw hse.le) | (refine KV (b := by first | exact U1 i | exact U4 hm) (c := ?_)) | refine KI ?_ | refine NB fun b => ?_ | refine KG ?_ | fail)
        all_goals first
          | exact J2 (i + 1) ⟨by omega, hnext⟩ (by omega)
          | (exfalso; omega)
    · rw [nE fun h => hp1 (h.2 i t hkk)]
      unfold vU at hp1
      by_cases h2 : i % 2 = 0
      · rw [if_pos h2] at hp1
        repeat' (first | refine KO ?_ | (refine KV (b := by first | exact U1 i | exact U4 hm) (c := ?_)) | refine KI ?_ | refine NB fun b => ?_ | refine KG ?_ | fail)
        all_goals first
          | exact aB rfl rfl rfl
          | (exfalso; omega)
      · rw [if_neg h2] at hp1
        rw [Bool.not_eq_true _ |>.mp hp1] at hcall
        repeat' (first | refine KO ?_ | ((with_reducible apply C1); exact rfl; exact EN; exact fun w μc hw hse => hcall w μc hw hse.le) | (refine KV (b := by first | exact U1 i | exact U4 hm) (c := ?_)) | refine KI ?_ | refine NB fun b => ?_ | refine KG ?_ | fail)
        all_goals first
          | exact aB rfl rfl rfl
          | (exfalso; omega)
  · obtain rfl : i = n := by omega
    have hr : (i : Int).tmod 2 = ((i % 2 : Nat) : Int) := rfl
    have hg : fP aK ks = decide ((i : Int).tmod 2 = 1) := by
      by_cases h : i % 2 = 1
      · rw [sS ⟨by rw [hkn]; exact h, fun j t hj => hok j t (by have := (List.getElem?_eq_some_iff.1 hj).1; omega) hj⟩]
        symm
        rw [decide_eq_true_eq]
        omega
      · rw [nE fun hf => h (by rw [← hkn]; exact hf.1)]
        symm
        rw [decide_eq_false_iff_not]
        omega
    rw [hg]
    repeat' (first | refine KK ?_ | fail)
    exact aB rfl rfl rfl
structure ChS where
  bb : Nat
  t : T
  u : Value
theorem LJ (ks : List T) (A : Option Addr) (n c : Nat) (w : World) (μ : Mem) (hμ : MOk μ w) (hk : KR μ ks (.slice A n c)) (hkn : ks.length = n) (hn : n ≤ 100000) (hks : ∀ k ∈ ks, T.size k ≤ 100000 ∧ Sh' k) :
    Calls Tryz.prog 129 #[.slice A n c] w fun e w' => e = .returned (.bool (mC ks)) ∧ Below w.heap.size w w' := by
  refine aA (args := [.slice A n c]) Tryz.func129 rfl Tryz.ntmps129 (by simp) hμ ?_
  by_cases h1 : n = 1
  · subst h1
    obtain ⟨t0, rfl⟩ := List.length_eq_one_iff.1 hkn
    obtain ⟨A', c', e, _, hget⟩ := hk.form
    cases e
    obtain ⟨ad, x, rfl, hm, ho, hkx⟩ := hget 0 t0 rfl
    have hts := hks t0 (List.mem_singleton.2 rfl)
    have hg : mC [t0] = chB t0 := rfl
    rw [hg]
    have hcall := fun (w : World) (μc : Mem) (hw : MOk μc w) (hle : MLe μ μc) => nI t0 x w μc hw (hkx.mono hle) hts.1 (hts.2.s)
    cases hl : cW t0
    · rw [rN (wP hl)]
      rw [hl] at hcall
      repeat' (first | refine KO ?_ | ((with_reducible apply C1); exact rfl; exact EN; exact fun w μc hw hse => hcall w μc hw hse.le) | (refine KV (b := by first | exact U1 0 | exact U4 hm) (c := ?_)) | fail)
      all_goals exact aB rfl rfl rfl
    · rw [hl] at hcall
      generalize hB : chB t0 = B
      repeat' (first | refine KO ?_ | ((with_reducible apply C1); exact rfl; exact EN; exact fun w μc hw hse => hcall w μc hw hse.le) | (refine KV (b := by first | exact U1 0 | exact U4 hm) (c := ?_)) | refine KI ?_ | refine NB fun b => ?_ | fail)
      refine aX (ι := ChS) (fun j => chB j.t = B ∧ KR μ j.t.kids j.u ∧ j.t.size ≤ 100000 ∧ Sh' j.t) (fun j => j.t.size) (fun _ => μ) (fun j => [(3, .pointer (some ⟨j.bb, 0, none⟩))]) (fun j => [.inl ⟨j.bb, 24, 6, idx 0 (aD j.t j.u)⟩]) ⟨b, t0, x⟩ ⟨hB, hkx, hts⟩ (fun a w hs => J5 hs) ?_
      clear hcall hl hB hts hkx ho hm hget hk hks
      rintro ⟨bb, t, u⟩ ⟨hB, hkt, hsz, hsh⟩
      dsimp only at hB hkt hsz hsh ⊢
      have hot := hkt.one
      obtain ⟨A2, c2, rfl, hlc2, hget⟩ := hkt.form
      have hlen := bK t
      have hcall := fun (w : World) (μc : Mem) (hw : MOk μc w) (hle : MLe μ μc) => nI t _ w μc hw (hkt.mono hle) hsz hsh.s
      cases hl : cW t
      · rw [rN (wP hl)] at hB
        subst hB
        rw [hl] at hcall
        repeat' (first | refine KO ?_ | ((with_reducible apply C1); exact rfl; exact EN; exact fun w μc hw hse => hcall w μc hw hse.le) | refine KI ?_ | fail)
        all_goals exact aB rfl rfl rfl
      · rw [hl] at hcall
        by_cases hn1 : t.n = 1
        · rw [BU (.one hl hn1)] at hB
          subst hB
          repeat' (first | refine KO ?_ | ((with_reducible apply C1); exact rfl; exact EN; exact fun w μc hw hse => hcall w μc hw hse.le) | refine KI ?_ | fail)
          all_goals exact aB rfl rfl rfl
        · by_cases h0 : t.kids.length = 0
          · rw [rN (VW hn1 (by rw [List.getElem?_eq_none_iff]; omega))] at hB
            subst hB
            repeat' (first | refine KO ?_ | ((with_reducible apply C1); exact rfl; exact EN; exact fun w μc hw hse => hcall w μc hw hse.le) | refine KI ?_ | fail)
            all_goals exact aB rfl rfl rfl
          · have hk0 : t.kids[0]? = some t.kids[0] := List.getElem?_eq_getElem (by omega)
            generalize t.kids[0] = k at hk0
            obtain ⟨ad2, x2, rfl, hm2, ho2, hkx2⟩ := hget 0 k hk0
            have hks := T.dH hk0
            have hBk : chB k = B := by
              by_cases hc : iI k
              · rw [BU hc, ← hB, BU ((DX hl hn1 hk0).2 hc)]
              · rw [rN hc, ← hB, rN fun h => hc ((DX hl hn1 hk0).1 h)]
            have hshk := hsh.kid (List.mem_of_getElem? hk0)
            repeat' (first | refine KO ?_ | ((with_reducible apply C1); exact rfl; exact EN; exact fun w μc hw hse => hcall w μc hw hse.le) | (refine KV (b := by first | exact U1 0 | exact U4 hm2) (c := ?_)) | refine KI ?_ | refine NB fun b => ?_ | fail)
            all_goals first
              | exact J2 ⟨_, k, x2⟩ ⟨hBk, hkx2, (by show k.size ≤ 100000; omega), hshk⟩ hks
              | (exfalso; omega)
  · have hg : mC ks = false := by
      unfold mC
      split
      · exact absurd hkn.symm h1
      · rfl
    rw [hg]
    repeat' (first | refine KO ?_ | refine KG ?_ | fail)
    all_goals exact aB rfl rfl rfl
end Go.Proofs.YtocidaibmadekaaGreatDoor
namespace Go.Proofs.YtocidaibmadekaaGreatDoor
open Go.RowKit Go.Vcg
theorem aL.gK {μ : Mem} {vs : List Value} {ps : List (T → Bool)} (h : aL μ vs ps) : ∀ v ∈ vs, ∃ (f : FuncId) (cap : List Value), v = .func (.func f) #[] cap.toArray := fun v hv => by
  obtain ⟨i, hi⟩ := List.mem_iff_getElem?.1 hv
  have hlt := (List.getElem?_eq_some_iff.1 hi).1
  have hlt2 : i < ps.length := by rw [← h.1]; exact hlt
  exact (h.2 i v ps[i] hi (List.getElem?_eq_getElem hlt2)).form
def Rws (μ : Mem) (parts : List (Value × Int)) (rows : List ((T → Bool) × Int)) : Prop := parts.length = rows.length ∧ ∀ (i : Nat) (x : Value × Int) (y : (T → Bool) × Int), parts[i]? = some x → rows[i]? = some y → x.2 = y.2 ∧ Cls μ x.1 y.1
theorem Rws.nil (μ : Mem) : Rws μ [] [] := ⟨rfl, fun i x y h => by simp at h⟩
theorem Rws.cons {μ : Mem} {v : Value} {p : T → Bool} {m : Int} {ps : List (Value × Int)} {rs : List ((T → Bool) × Int)} (h : Cls μ v p) (hr : Rws μ ps rs) : Rws μ ((v, m) :: ps) ((p, m) :: rs) :=
  ⟨by simp [hr.1], fun i x y hx hy => by
    cases i with
    | zero => simp at hx hy; subst hx; subst hy; exact ⟨rfl, h⟩
    | succ i => exact hr.2 i x y (by simpa using hx) (by simpa using hy)⟩
theorem Rws.each {μ : Mem} {vs : List Value} {ps : List (T → Bool)} (h : aL μ vs ps) : Rws μ (vs.map fun v => (v, (0 : Int))) (ps.map fun p => (p, (0 : Int))) :=
  ⟨by simp [h.1], fun i x y hx hy => by
    rw [List.getElem?_map] at hx hy
    cases hv : vs[i]? with
    | none => rw [hv] at hx; cases hx
    | some v =>
      cases hp : ps[i]? with
      | none => rw [hp] at hy; cases hy
      | some p =>
        rw [hv] at hx
        rw [hp] at hy
        cases hx
        cases hy
        exact ⟨rfl, h.2 i v p hv hp⟩⟩
theorem gT (parts : List (Value × Int)) (rows : List ((T → Bool) × Int)) (ks : List T) (A B : Option Addr) (c m d : Nat) (w : World) (μ : Mem) (hμ : MOk μ w) {n : Nat} (hk : KR μ ks (.slice A n c)) (hkn : ks.length = n) (hn : n ≤ 100000) (hS : Sl iM 2 μ B m parts) (_hl : parts.length = m) (hm : m ≤ 1000) (hr : Rws μ parts rows) (hks : ∀ k ∈ ks, T.size k ≤ 100000 ∧ k.s.size ≤ 65536) :
    Calls Tryz.prog 124 #[.slice A n c, .slice B m d] w fun e w' => e = .returned (.bool (bC rows ks)) ∧ Below w.heap.size w w' :=
  QK parts rows ks A B n c m d w μ hμ hk hkn hn hS hm (by rw [← hr.1]; exact hS.1) hr.2 hks
def bM (ps : List (T → Bool)) : List ((T → Bool) × Int) := ps.map fun p => (p, (0 : Int))
theorem cE (vs : List Value) (ps : List (T → Bool)) (ks : List T) (A B : Option Addr) (c m d : Nat) (w : World) (μ : Mem) (hμ : MOk μ w) {n : Nat} (hk : KR μ ks (.slice A n c)) (hkn : ks.length = n) (hn : n ≤ 100000) (hS : Sl iM 2 μ B m (vs.map fun v => (v, (0 : Int)))) (_hl : vs.length = m) (hm : m ≤ 1000) (hr : aL μ vs ps) (hks : ∀ k ∈ ks, T.size k ≤ 100000 ∧ k.s.size ≤ 65536) :
    Calls Tryz.prog 124 #[.slice A n c, .slice B m d] w fun e w' => e = .returned (.bool (bC (bM ps) ks)) ∧ Below w.heap.size w w' :=
  gT _ _ ks A B c m d w μ hμ hk hkn hn hS (by simpa using _hl) hm (Rws.each hr) hks
theorem dK (μ : Mem) : Cls μ (.func (.func 127) #[] #[]) aV := Cls.of uV (by kernel_rfl) μ
theorem aM (μ : Mem) : Cls μ (.func (.func 121) #[] #[]) aK := Cls.of kV (by kernel_rfl) μ
theorem cC (μ : Mem) : Cls μ (.func (.func 131) #[] #[]) cB := Cls.of wW (by kernel_rfl) μ
theorem oJ (μ : Mem) : Cls μ (.func (.func 126) #[] #[]) dS := Cls.of uX (by kernel_rfl) μ
theorem HS (μ : Mem) : Cls μ (.func (.func 133) #[] #[]) nK := Cls.of PD (by kernel_rfl) μ
theorem yZ (μ : Mem) : Cls μ (.func (.func 157) #[] #[]) uL := Cls.of HA (by kernel_rfl) μ
theorem yX (μ : Mem) : Cls μ (.func (.func 158) #[] #[]) rU := Cls.of EU (by kernel_rfl) μ
theorem yY (μ : Mem) : Cls μ (.func (.func 159) #[] #[]) rF := Cls.of GB (by kernel_rfl) μ
theorem BT (μ : Mem) : Cls μ (.func (.func 160) #[] #[]) iJ := Cls.of JK (by kernel_rfl) μ
def oS : T → Bool := eiT [aV, ofT [63]]
def fB (t : T) : Bool :=
  if t.op = 60 then bC [(eiT [oS, ofT [40]], 2), (ofT [64], 1)] t.kids
  else if t.op = 61 then bC [(ofT [62], 2), (ofT [64], 1)] t.kids
  else if t.op = 62 then bC (bM [jS t, oS]) t.kids
  else if t.op = 63 then bC (bM [aV, aK]) t.kids
  else if t.op = 64 then bC (bM [aV]) t.kids
  else false
attribute [local irreducible] bC G GC GQ GA bX Calls IntKind.wrap Int.decLt Int.decLe
theorem zQ (t : T) (u : Value) (w : World) (μ : Mem) (hμ : MOk μ w) (hk : KR μ t.kids u) (hs : t.size ≤ 100000) (hks : ∀ k ∈ t.kids, T.size k ≤ 100000 ∧ k.s.size ≤ 65536) :
    Calls Tryz.prog 130 #[.agg (aD t u).toArray] w fun e w' => e = .returned (.bool (fB t)) ∧ Below w.heap.size w w' := by
  have ho := hk.one
  obtain ⟨A, c, rfl, hlc, -⟩ := hk.form
  have hlen := bK t
  have hkk : ∀ {μc : Mem}, MLe μ μc → KR μc t.kids (.slice A t.kids.length c) := fun h => hk.mono h
  refine aA (args := [.agg (aD t (.slice A t.kids.length c)).toArray]) Tryz.func130 rfl Tryz.ntmps130 (by simp) hμ ?_
  unfold fB
  by_cases h60 : t.op = 60
  · rw [if_pos h60]
    repeat' (first | refine KO ?_ | (refine CF 122 ?_; (fail_if_success (have := hca)); (with_reducible apply aW); exact rfl; intro μsa hlesa hsha; (with_reducible apply aG); (iterate 3 exact rfl); ((with_reducible apply aQ); kernel_rfl; exact rfl); (exact fun w hw => bE [63] _ _ _ w _ hw (aN hsha rfl (by simp) (by repeat first | exact aJ | refine aF rfl ?_)) (by omega)); rintro va μa hlea hca; (obtain ⟨fa, capa, rfl⟩ := Cls.form hca)) | (refine CF 120 ?_; (fail_if_success (have := hci)); (with_reducible apply aW); exact rfl; intro μsi hlesi hshi; (with_reducible apply aG); (iterate 3 exact rfl); ((with_reducible apply aQ); kernel_rfl; exact rfl); (exact fun w hw => dM [.func (.func 127) #[] #[], .func (.func fa) #[] capa.toArray] [aV, ofT [63]] _ _ _ w _ hw (aN hshi rfl (by simp) (by repeat first | exact aJ | refine aF rfl ?_)) (aL.cons (dK _) (aL.cons (Cls.mono hca (by (repeat assumption))) (aL.nil _))) (by omega)); rintro vi μi hlei hci; (obtain ⟨fi, capi, rfl⟩ := Cls.form hci)) | (refine CF 122 ?_; (fail_if_success (have := hcq)); (with_reducible apply aW); exact rfl; intro μsq hlesq hshq; (with_reducible apply aG); (iterate 3 exact rfl); ((with_reducible apply aQ); kernel_rfl; exact rfl); (exact fun w hw => bE [40] _ _ _ w _ hw (aN hshq rfl (by simp) (by repeat first | exact aJ | refine aF rfl ?_)) (by omega)); rintro vq μq hleq hcq; (obtain ⟨fq, capq, rfl⟩ := Cls.form hcq)) | (refine CF 122 ?_; (fail_if_success (have := hcr)); (with_reducible apply aW); exact rfl; intro μsr hlesr hshr; (with_reducible apply aG); (iterate 3 exact rfl); ((with_reducible apply aQ); kernel_rfl; exact rfl); (exact fun w hw => bE [64] _ _ _ w _ hw (aN hshr rfl (by simp) (by repeat first | exact aJ | refine aF rfl ?_)) (by omega)); rintro vr μr hler hcr; (obtain ⟨fr, capr, rfl⟩ := Cls.form hcr)) | (refine CF 120 ?_; (fail_if_success (have := hce)); (with_reducible apply aW); exact rfl; intro μse hlese hshe; (with_reducible apply aG); (iterate 3 exact rfl); ((with_reducible apply aQ); kernel_rfl; exact rfl); (exact fun w hw => dM [.func (.func fi) #[] capi.toArray, .func (.func fq) #[] capq.toArray] [oS, ofT [40]] _ _ _ w _ hw (aN hshe rfl (by simp) (by repeat first | exact aJ | refine aF rfl ?_)) (aL.cons (Cls.mono hci (by (repeat first | assumption | refine MLe.trans ?_ ‹MLe _ _›))) (aL.cons (Cls.mono hcq (by (repeat assumption))) (aL.nil _))) (by omega)); rintro ve μe hlee hce; (obtain ⟨fe, cape, rfl⟩ := Cls.form hce)) | ((with_reducible apply F1 124); exact rfl; exact EN; (exact fun w μc hw hse => by have hle9 := hse.le; exact gT [(.func (.func fe) #[] cape.toArray, 2), (.func (.func fr) #[] capr.toArray, 1)] [(eiT [oS, ofT [40]], 2), (ofT [64], 1)] t.kids _ _ _ _ _ w μc hw (KR.mono (by (repeat first | assumption | refine MLe.trans ?_ ‹MLe _ _›)) hk) rfl (by omega) (aN hse.hd rfl (by simp) (by repeat first | exact aJ | refine aF rfl ?_)) rfl (by decide) (Rws.cons (Cls.mono hce (by (repeat first | assumption | refine MLe.trans ?_ ‹MLe _ _›))) (Rws.cons (Cls.mono hcr (by (repeat assumption))) (Rws.nil _))) hks)) | refine KI ?_ | refine NB fun b => ?_ | fail)
    all_goals exact aB rfl rfl rfl
  rw [if_neg h60]
  by_cases h61 : t.op = 61
  · rw [if_pos h61]
    repeat' (first | refine KO ?_ | (refine CF 122 ?_; (fail_if_success (have := hca)); (with_reducible apply aW); exact rfl; intro μsa hlesa hsha; (with_reducible apply aG); (iterate 3 exact rfl); ((with_reducible apply aQ); kernel_rfl; exact rfl); (exact fun w hw => bE [63] _ _ _ w _ hw (aN hsha rfl (by simp) (by repeat first | exact aJ | refine aF rfl ?_)) (by omega)); rintro va μa hlea hca; (obtain ⟨fa, capa, rfl⟩ := Cls.form hca)) | (refine CF 120 ?_; (fail_if_success (have := hci)); (with_reducible apply aW); exact rfl; intro μsi hlesi hshi; (with_reducible apply aG); (iterate 3 exact rfl); ((with_reducible apply aQ); kernel_rfl; exact rfl); (exact fun w hw => dM [.func (.func 127) #[] #[], .func (.func fa) #[] capa.toArray] [aV, ofT [63]] _ _ _ w _ hw (aN hshi rfl (by simp) (by repeat first | exact aJ | refine aF rfl ?_)) (aL.cons (dK _) (aL.cons (Cls.mono hca (by (repeat assumption))) (aL.nil _))) (by omega)); rintro vi μi hlei hci; (obtain ⟨fi, capi, rfl⟩ := Cls.form hci)) | (refine CF 122 ?_; (fail_if_success (have := hcq)); (with_reducible apply aW); exact rfl; intro μsq hlesq hshq; (with_reducible apply aG); (iterate 3 exact rfl); ((with_reducible apply aQ); kernel_rfl; exact rfl); (exact fun w hw => bE [62] _ _ _ w _ hw (aN hshq rfl (by simp) (by repeat first | exact aJ | refine aF rfl ?_)) (by omega)); rintro vq μq hleq hcq; (obtain ⟨fq, capq, rfl⟩ := Cls.form hcq)) | (refine CF 122 ?_; (fail_if_success (have := hcr)); (with_reducible apply aW); exact rfl; intro μsr hlesr hshr; (with_reducible apply aG); (iterate 3 exact rfl); ((with_reducible apply aQ); kernel_rfl; exact rfl); (exact fun w hw => bE [64] _ _ _ w _ hw (aN hshr rfl (by simp) (by repeat first | exact aJ | refine aF rfl ?_)) (by omega)); rintro vr μr hler hcr; (obtain ⟨fr, capr, rfl⟩ := Cls.form hcr)) | ((with_reducible apply F1 124); exact rfl; exact EN; (exact fun w μc hw hse => by have hle9 := hse.le; exact gT [(.func (.func fq) #[] capq.toArray, 2), (.func (.func fr) #[] capr.toArray, 1)] [(ofT [62], 2), (ofT [64], 1)] t.kids _ _ _ _ _ w μc hw (KR.mono (by (repeat first | assumption | refine MLe.trans ?_ ‹MLe _ _›)) hk) rfl (by omega) (aN hse.hd rfl (by simp) (by repeat first | exact aJ | refine aF rfl ?_)) rfl (by decide) (Rws.cons (Cls.mono hcq (by (repeat first | assumption | refine MLe.trans ?_ ‹MLe _ _›))) (Rws.cons (Cls.mono hcr (by (repeat assumption))) (Rws.nil _))) hks)) | refine KI ?_ | refine NB fun b => ?_ | fail)
    all_goals exact aB rfl rfl rfl
  rw [if_neg h61]
  by_cases h62 : t.op = 62
  · rw [if_pos h62]
    repeat' (first | refine KO ?_ | (refine CF 122 ?_; (fail_if_success (have := hca)); (with_reducible apply aW); exact rfl; intro μsa hlesa hsha; (with_reducible apply aG); (iterate 3 exact rfl); ((with_reducible apply aQ); kernel_rfl; exact rfl); (exact fun w hw => bE [63] _ _ _ w _ hw (aN hsha rfl (by simp) (by repeat first | exact aJ | refine aF rfl ?_)) (by omega)); rintro va μa hlea hca; (obtain ⟨fa, capa, rfl⟩ := Cls.form hca)) | (refine CF 120 ?_; (fail_if_success (have := hci)); (with_reducible apply aW); exact rfl; intro μsi hlesi hshi; (with_reducible apply aG); (iterate 3 exact rfl); ((with_reducible apply aQ); kernel_rfl; exact rfl); (exact fun w hw => dM [.func (.func 127) #[] #[], .func (.func fa) #[] capa.toArray] [aV, ofT [63]] _ _ _ w _ hw (aN hshi rfl (by simp) (by repeat first | exact aJ | refine aF rfl ?_)) (aL.cons (dK _) (aL.cons (Cls.mono hca (by (repeat assumption))) (aL.nil _))) (by omega)); rintro vi μi hlei hci; (obtain ⟨fi, capi, rfl⟩ := Cls.form hci)) | (refine CF 156 ?_; (fail_if_success (have := hck)); (with_reducible apply aG); (iterate 3 exact rfl); ((with_reducible apply aQ); kernel_rfl; exact rfl); (exact fun w hw => pO t _ w _ hw (KR.mono (by (repeat first | assumption | refine MLe.trans ?_ ‹MLe _ _›)) hk)); rintro vk μk hlek hck; (obtain ⟨fk, capk, rfl⟩ := Cls.form hck)) | ((with_reducible apply F3 125); exact rfl; exact EN; (exact fun w μc hw hse => by have hle9 := hse.le; exact cF [.func (.func fk) #[] capk.toArray, .func (.func fi) #[] capi.toArray] _ _ _ w μc hw (aN hse.hd rfl (by simp) (by repeat first | exact aJ | refine aF rfl ?_)) (aL.gK (μ := μc) (ps := [jS t, oS]) (aL.cons (Cls.mono hck (by (repeat assumption))) (aL.cons (Cls.mono hci (by (repeat first | assumption | refine MLe.trans ?_ ‹MLe _ _›))) (aL.nil _)))) (by omega)); intro v9; (with_reducible apply cP 0); exact rfl; rintro A9 c9 rfl hok9) | ((with_reducible apply F1 124); exact rfl; exact EN; (exact fun w μc hw hse => by have hle9 := hse.le; exact cE [.func (.func fk) #[] capk.toArray, .func (.func fi) #[] capi.toArray] [jS t, oS] t.kids _ _ _ _ _ w μc hw (KR.mono (by (repeat first | assumption | refine MLe.trans ?_ ‹MLe _ _›)) hk) rfl (by omega) (bS (enc := iM) (xs := [.func (.func fk) #[] capk.toArray, .func (.func fi) #[] capi.toArray].map fun v => (v, (0 : Int))) hse.hd rfl (by simp) rfl) rfl (by decide) (aL.cons (Cls.mono hck (by (repeat assumption))) (aL.cons (Cls.mono hci (by (repeat first | assumption | refine MLe.trans ?_ ‹MLe _ _›))) (aL.nil _))) hks)) | refine KI ?_ | refine NB fun b => ?_ | fail)
    all_goals exact aB rfl rfl rfl
  rw [if_neg h62]
  by_cases h63 : t.op = 63
  · rw [if_pos h63]
    repeat' (first | refine KO ?_ | (refine CF 122 ?_; (fail_if_success (have := hca)); (with_reducible apply aW); exact rfl; intro μsa hlesa hsha; (with_reducible apply aG); (iterate 3 exact rfl); ((with_reducible apply aQ); kernel_rfl; exact rfl); (exact fun w hw => bE [63] _ _ _ w _ hw (aN hsha rfl (by simp) (by repeat first | exact aJ | refine aF rfl ?_)) (by omega)); rintro va μa hlea hca; (obtain ⟨fa, capa, rfl⟩ := Cls.form hca)) | (refine CF 120 ?_; (fail_if_success (have := hci)); (with_reducible apply aW); exact rfl; intro μsi hlesi hshi; (with_reducible apply aG); (iterate 3 exact rfl); ((with_reducible apply aQ); kernel_rfl; exact rfl); (exact fun w hw => dM [.func (.func 127) #[] #[], .func (.func fa) #[] capa.toArray] [aV, ofT [63]] _ _ _ w _ hw (aN hshi rfl (by simp) (by repeat first | exact aJ | refine aF rfl ?_)) (aL.cons (dK _) (aL.cons (Cls.mono hca (by (repeat assumption))) (aL.nil _))) (by omega)); rintro vi μi hlei hci; (obtain ⟨fi, capi, rfl⟩ := Cls.form hci)) | ((with_reducible apply F3 125); exact rfl; exact EN; (exact fun w μc hw hse => by have hle9 := hse.le; exact cF [.func (.func 127) #[] #[], .func (.func 121) #[] #[]] _ _ _ w μc hw (aN hse.hd rfl (by simp) (by repeat first | exact aJ | refine aF rfl ?_)) (aL.gK (μ := μc) (ps := [aV, aK]) (aL.cons (dK _) (aL.cons (aM _) (aL.nil _)))) (by omega)); intro v9; (with_reducible apply cP 0); exact rfl; rintro A9 c9 rfl hok9) | ((with_reducible apply F1 124); exact rfl; exact EN; (exact fun w μc hw hse => by have hle9 := hse.le; exact cE [.func (.func 127) #[] #[], .func (.func 121) #[] #[]] [aV, aK] t.kids _ _ _ _ _ w μc hw (KR.mono (by (repeat first | assumption | refine MLe.trans ?_ ‹MLe _ _›)) hk) rfl (by omega) (bS (enc := iM) (xs := [.func (.func 127) #[] #[], .func (.func 121) #[] #[]].map fun v => (v, (0 : Int))) hse.hd rfl (by simp) rfl) rfl (by decide) (aL.cons (dK _) (aL.cons (aM _) (aL.nil _))) hks)) | refine KI ?_ | refine NB fun b => ?_ | fail)
    all_goals exact aB rfl rfl rfl
  rw [if_neg h63]
  by_cases h64 : t.op = 64
  · rw [if_pos h64]
    repeat' (first | refine KO ?_ | (refine CF 122 ?_; (fail_if_success (have := hca)); (with_reducible apply aW); exact rfl; intro μsa hlesa hsha; (with_reducible apply aG); (iterate 3 exact rfl); ((with_reducible apply aQ); kernel_rfl; exact rfl); (exact fun w hw => bE [63] _ _ _ w _ hw (aN hsha rfl (by simp) (by repeat first | exact aJ | refine aF rfl ?_)) (by omega)); rintro va μa hlea hca; (obtain ⟨fa, capa, rfl⟩ := Cls.form hca)) | (refine CF 120 ?_; (fail_if_success (have := hci)); (with_reducible apply aW); exact rfl; intro μsi hlesi hshi; (with_reducible apply aG); (iterate 3 exact rfl); ((with_reducible apply aQ); kernel_rfl; exact rfl); (exact fun w hw => dM [.func (.func 127) #[] #[], .func (.func fa) #[] capa.toArray] [aV, ofT [63]] _ _ _ w _ hw (aN hshi rfl (by simp) (by repeat first | exact aJ | refine aF rfl ?_)) (aL.cons (dK _) (aL.cons (Cls.mono hca (by (repeat assumption))) (aL.nil _))) (by omega)); rintro vi μi hlei hci; (obtain ⟨fi, capi, rfl⟩ := Cls.form hci)) | ((with_reducible apply F3 125); exact rfl; exact EN; (exact fun w μc hw hse => by have hle9 := hse.le; exact cF [.func (.func 127) #[] #[]] _ _ _ w μc hw (aN hse.hd rfl (by simp) (by repeat first | exact aJ | refine aF rfl ?_)) (aL.gK (μ := μc) (ps := [aV]) (aL.cons (dK _) (aL.nil _))) (by omega)); intro v9; (with_reducible apply cP 0); exact rfl; rintro A9 c9 rfl hok9) | ((with_reducible apply F1 124); exact rfl; exact EN; (exact fun w μc hw hse => by have hle9 := hse.le; exact cE [.func (.func 127) #[] #[]] [aV] t.kids _ _ _ _ _ w μc hw (KR.mono (by (repeat first | assumption | refine MLe.trans ?_ ‹MLe _ _›)) hk) rfl (by omega) (bS (enc := iM) (xs := [.func (.func 127) #[] #[]].map fun v => (v, (0 : Int))) hse.hd rfl (by simp) rfl) rfl (by decide) (aL.cons (dK _) (aL.nil _)) hks)) | refine KI ?_ | refine NB fun b => ?_ | fail)
    all_goals exact aB rfl rfl rfl
  rw [if_neg h64]
  repeat' (first | refine KO ?_ | (refine CF 122 ?_; (fail_if_success (have := hca)); (with_reducible apply aW); exact rfl; intro μsa hlesa hsha; (with_reducible apply aG); (iterate 3 exact rfl); ((with_reducible apply aQ); kernel_rfl; exact rfl); (exact fun w hw => bE [63] _ _ _ w _ hw (aN hsha rfl (by simp) (by repeat first | exact aJ | refine aF rfl ?_)) (by omega)); rintro va μa hlea hca; (obtain ⟨fa, capa, rfl⟩ := Cls.form hca)) | (refine CF 120 ?_; (fail_if_success (have := hci)); (with_reducible apply aW); exact rfl; intro μsi hlesi hshi; (with_reducible apply aG); (iterate 3 exact rfl); ((with_reducible apply aQ); kernel_rfl; exact rfl); (exact fun w hw => dM [.func (.func 127) #[] #[], .func (.func fa) #[] capa.toArray] [aV, ofT [63]] _ _ _ w _ hw (aN hshi rfl (by simp) (by repeat first | exact aJ | refine aF rfl ?_)) (aL.cons (dK _) (aL.cons (Cls.mono hca (by (repeat assumption))) (aL.nil _))) (by omega)); rintro vi μi hlei hci; (obtain ⟨fi, capi, rfl⟩ := Cls.form hci)) | refine KI ?_ | refine NB fun b => ?_ | fail)
  all_goals exact aB rfl rfl rfl
end Go.Proofs.YtocidaibmadekaaGreatDoor
namespace Go.Proofs.YtocidaibmadekaaGreatDoor
open Go.RowKit Go.Vcg
noncomputable def kY (t : T) : Bool :=
  if t.n = 0 then bC (bM [jS t, aK]) t.kids
  else if t.n = 1 then bC (bM [jS t, uL]) t.kids
  else if t.n = 2 then bC (bM [jS t, rU]) t.kids
  else if t.n = 5 then bC (bM [jS t, rF]) t.kids
  else if t.n = 3 then bC (bM [iJ]) t.kids
  else bC (bM [aK]) t.kids
attribute [local irreducible] bC G GC GQ GA bX Calls IntKind.wrap Int.decLt Int.decLe
theorem OO (t : T) (u : Value) (w : World) (μ : Mem) (hμ : MOk μ w) (hk : KR μ t.kids u) (hs : t.size ≤ 100000) (hks : ∀ k ∈ t.kids, T.size k ≤ 100000 ∧ k.s.size ≤ 65536) :
    Calls Tryz.prog 123 #[.agg (aD t u).toArray] w fun e w' => e = .returned (.bool (kY t)) ∧ Below w.heap.size w w' := by
  have ho := hk.one
  obtain ⟨A, c, rfl, hlc, -⟩ := hk.form
  have hlen := bK t
  refine aA (args := [.agg (aD t (.slice A t.kids.length c)).toArray]) Tryz.func123 rfl Tryz.ntmps123 (by simp) hμ ?_
  unfold kY
  by_cases h0 : t.n = 0
  · rw [if_pos h0]
    repeat' (first | refine KK ?_ | refine NB fun b => ?_ | fail)
    refine aC 8 _ (by kernel_rfl) rfl (List.Sublist.cons_cons _ (List.nil_sublist _)) ?_
    all_goals refine DD 0 ?_
    all_goals refine DD 1 ?_
    all_goals refine DD 2 ?_
    all_goals ((refine D3 3 ?_; refine D5 ?_; ((refine CF 156 ?_; (fail_if_success (have := hck)); (with_reducible apply aG); (iterate 3 exact rfl); ((with_reducible apply aQ); kernel_rfl; exact rfl); (exact fun w hw => pO t _ w _ hw (KR.mono (by (repeat exact MLe.refl _)) hk)); rintro vk μk hlek hck; (obtain ⟨fk, capk, rfl⟩ := Cls.form hck))); refine D9 ?_))
    all_goals ((refine D3 4 ?_; refine D5 ?_; refine NB fun b => ?_; refine D9 ?_))
    all_goals ((refine D3 5 ?_; refine D5 ?_; (((with_reducible apply F3 125); exact rfl; exact EN; (exact fun w μc hw hse => by have hle9 := hse.le; exact cF [.func (.func fk) #[] capk.toArray, .func (.func 121) #[] #[]] _ _ _ w μc hw (aN hse.hd rfl (by simp) (by repeat first | exact aJ | refine aF rfl ?_)) (aL.gK (μ := μc) (ps := [jS t, aK]) (aL.cons (Cls.mono hck (by (repeat assumption))) (aL.cons (aM _) (aL.nil _)))) (by omega)); intro v9; (with_reducible apply cP 0); exact rfl; rintro A9 c9 rfl hok9)); refine D9 ?_))
    all_goals ((refine D3 6 ?_; refine D5 ?_; (((with_reducible apply F1 124); exact rfl; exact EN; (exact fun w μc hw hse => by have hle9 := hse.le; exact cE [.func (.func fk) #[] capk.toArray, .func (.func 121) #[] #[]] [jS t, aK] t.kids _ _ _ _ _ w μc hw (KR.mono (by (repeat first | assumption | refine MLe.trans ?_ ‹MLe _ _›)) hk) rfl (by omega) (bS (enc := iM) (xs := [.func (.func fk) #[] capk.toArray, .func (.func 121) #[] #[]].map fun v => (v, (0 : Int))) hse.hd rfl (by simp) rfl) rfl (by decide) (aL.cons (Cls.mono hck (by (repeat assumption))) (aL.cons (aM _) (aL.nil _))) hks))); refine D9 ?_))
    all_goals refine DD 7 ?_
    all_goals refine D8 ?_
    repeat' (first | refine KK ?_ | fail)
    all_goals exact aB rfl rfl rfl
  rw [if_neg h0]
  by_cases h1 : t.n = 1
  · rw [if_pos h1]
    repeat' (first | refine KK ?_ | refine NB fun b => ?_ | fail)
    refine aC 8 _ (by kernel_rfl) rfl (List.Sublist.cons_cons _ (List.nil_sublist _)) ?_
    all_goals refine DD 0 ?_
    all_goals refine DD 1 ?_
    all_goals refine DD 2 ?_
    all_goals ((refine D3 3 ?_; refine D5 ?_; ((refine CF 156 ?_; (fail_if_success (have := hck)); (with_reducible apply aG); (iterate 3 exact rfl); ((with_reducible apply aQ); kernel_rfl; exact rfl); (exact fun w hw => pO t _ w _ hw (KR.mono (by (repeat exact MLe.refl _)) hk)); rintro vk μk hlek hck; (obtain ⟨fk, capk, rfl⟩ := Cls.form hck))); refine D9 ?_))
    all_goals ((refine D3 4 ?_; refine D5 ?_; refine NB fun b => ?_; refine D9 ?_))
    all_goals ((refine D3 5 ?_; refine D5 ?_; (((with_reducible apply F3 125); exact rfl; exact EN; (exact fun w μc hw hse => by have hle9 := hse.le; exact cF [.func (.func fk) #[] capk.toArray, .func (.func 157) #[] #[]] _ _ _ w μc hw (aN hse.hd rfl (by simp) (by repeat first | exact aJ | refine aF rfl ?_)) (aL.gK (μ := μc) (ps := [jS t, uL]) (aL.cons (Cls.mono hck (by (repeat assumption))) (aL.cons (yZ _) (aL.nil _)))) (by omega)); intro v9; (with_reducible apply cP 0); exact rfl; rintro A9 c9 rfl hok9)); refine D9 ?_))
    all_goals ((refine D3 6 ?_; refine D5 ?_; (((with_reducible apply F1 124); exact rfl; exact EN; (exact fun w μc hw hse => by have hle9 := hse.le; exact cE [.func (.func fk) #[] capk.toArray, .func (.func 157) #[] #[]] [jS t, uL] t.kids _ _ _ _ _ w μc hw (KR.mono (by (repeat first | assumption | refine MLe.trans ?_ ‹MLe _ _›)) hk) rfl (by omega) (bS (enc := iM) (xs := [.func (.func fk) #[] capk.toArray, .func (.func 157) #[] #[]].map fun v => (v, (0 : Int))) hse.hd rfl (by simp) rfl) rfl (by decide) (aL.cons (Cls.mono hck (by (repeat assumption))) (aL.cons (yZ _) (aL.nil _))) hks))); refine D9 ?_))
    all_goals refine DD 7 ?_
    all_goals refine D8 ?_
    repeat' (first | refine KK ?_ | fail)
    all_goals exact aB rfl rfl rfl
  rw [if_neg h1]
  by_cases h2 : t.n = 2
  · rw [if_pos h2]
    repeat' (first | refine KK ?_ | refine NB fun b => ?_ | fail)
    refine aC 8 _ (by kernel_rfl) rfl (List.Sublist.cons_cons _ (List.nil_sublist _)) ?_
    all_goals refine DD 0 ?_
    all_goals refine DD 1 ?_
    all_goals refine DD 2 ?_
    all_goals ((refine D3 3 ?_; refine D5 ?_; ((refine CF 156 ?_; (fail_if_success (have := hck)); (with_reducible apply aG); (iterate 3 exact rfl); ((with_reducible apply aQ); kernel_rfl; exact rfl); (exact fun w hw => pO t _ w _ hw (KR.mono (by (repeat exact MLe.refl _)) hk)); rintro vk μk hlek hck; (obtain ⟨fk, capk, rfl⟩ := Cls.form hck))); refine D9 ?_))
    all_goals ((refine D3 4 ?_; refine D5 ?_; refine NB fun b => ?_; refine D9 ?_))
    all_goals ((refine D3 5 ?_; refine D5 ?_; (((with_reducible apply F3 125); exact rfl; exact EN; (exact fun w μc hw hse => by have hle9 := hse.le; exact cF [.func (.func fk) #[] capk.toArray, .func (.func 158) #[] #[]] _ _ _ w μc hw (aN hse.hd rfl (by simp) (by repeat first | exact aJ | refine aF rfl ?_)) (aL.gK (μ := μc) (ps := [jS t, rU]) (aL.cons (Cls.mono hck (by (repeat assumption))) (aL.cons (yX _) (aL.nil _)))) (by omega)); intro v9; (with_reducible apply cP 0); exact rfl; rintro A9 c9 rfl hok9)); refine D9 ?_))
    all_goals ((refine D3 6 ?_; refine D5 ?_; (((with_reducible apply F1 124); exact rfl; exact EN; (exact fun w μc hw hse => by have hle9 := hse.le; exact cE [.func (.func fk) #[] capk.toArray, .func (.func 158) #[] #[]] [jS t, rU] t.kids _ _ _ _ _ w μc hw (KR.mono (by (repeat first | assumption | refine MLe.trans ?_ ‹MLe _ _›)) hk) rfl (by omega) (bS (enc := iM) (xs := [.func (.func fk) #[] capk.toArray, .func (.func 158) #[] #[]].map fun v => (v, (0 : Int))) hse.hd rfl (by simp) rfl) rfl (by decide) (aL.cons (Cls.mono hck (by (repeat assumption))) (aL.cons (yX _) (aL.nil _))) hks))); refine D9 ?_))
    all_goals refine DD 7 ?_
    all_goals refine D8 ?_
    repeat' (first | refine KK ?_ | fail)
    all_goals exact aB rfl rfl rfl
  rw [if_neg h2]
  by_cases h5 : t.n = 5
  · rw [if_pos h5]
    repeat' (first | refine KK ?_ | refine NB fun b => ?_ | fail)
    refine aC 8 _ (by kernel_rfl) rfl (List.Sublist.cons_cons _ (List.nil_sublist _)) ?_
    all_goals refine DD 0 ?_
    all_goals refine DD 1 ?_
    all_goals refine DD 2 ?_
    all_goals ((refine D3 3 ?_; refine D5 ?_; ((refine CF 156 ?_; (fail_if_success (have := hck)); (with_reducible apply aG); (iterate 3 exact rfl); ((with_reducible apply aQ); kernel_rfl; exact rfl); (exact fun w hw => pO t _ w _ hw (KR.mono (by (repeat exact MLe.refl _)) hk)); rintro vk μk hlek hck; (obtain ⟨fk, capk, rfl⟩ := Cls.form hck))); refine D9 ?_))
    all_goals ((refine D3 4 ?_; refine D5 ?_; refine NB fun b => ?_; refine D9 ?_))
    all_goals ((refine D3 5 ?_; refine D5 ?_; (((with_reducible apply F3 125); exact rfl; exact EN; (exact fun w μc hw hse => by have hle9 := hse.le; exact cF [.func (.func fk) #[] capk.toArray, .func (.func 159) #[] #[]] _ _ _ w μc hw (aN hse.hd rfl (by simp) (by repeat first | exact aJ | refine aF rfl ?_)) (aL.gK (μ := μc) (ps := [jS t, rF]) (aL.cons (Cls.mono hck (by (repeat assumption))) (aL.cons (yY _) (aL.nil _)))) (by omega)); intro v9; (with_reducible apply cP 0); exact rfl; rintro A9 c9 rfl hok9)); refine D9 ?_))
    all_goals ((refine D3 6 ?_; refine D5 ?_; (((with_reducible apply F1 124); exact rfl; exact EN; (exact fun w μc hw hse => by have hle9 := hse.le; exact cE [.func (.func fk) #[] capk.toArray, .func (.func 159) #[] #[]] [jS t, rF] t.kids _ _ _ _ _ w μc hw (KR.mono (by (repeat first | assumption | refine MLe.trans ?_ ‹MLe _ _›)) hk) rfl (by omega) (bS (enc := iM) (xs := [.func (.func fk) #[] capk.toArray, .func (.func 159) #[] #[]].map fun v => (v, (0 : Int))) hse.hd rfl (by simp) rfl) rfl (by decide) (aL.cons (Cls.mono hck (by (repeat assumption))) (aL.cons (yY _) (aL.nil _))) hks))); refine D9 ?_))
    all_goals refine DD 7 ?_
    all_goals refine D8 ?_
    repeat' (first | refine KK ?_ | fail)
    all_goals exact aB rfl rfl rfl
  rw [if_neg h5]
  by_cases h3 : t.n = 3
  · rw [if_pos h3]
    repeat' (first | refine KK ?_ | refine NB fun b => ?_ | fail)
    refine aC 6 _ (by kernel_rfl) rfl (List.Sublist.cons_cons _ (List.nil_sublist _)) ?_
    all_goals refine DD 0 ?_
    all_goals refine DD 1 ?_
    all_goals ((refine D3 2 ?_; refine D5 ?_; refine NB fun b => ?_; refine D9 ?_))
    all_goals ((refine D3 3 ?_; refine D5 ?_; (((with_reducible apply F3 125); exact rfl; exact EN; (exact fun w μc hw hse => by have hle9 := hse.le; exact cF [.func (.func 160) #[] #[]] _ _ _ w μc hw (aN hse.hd rfl (by simp) (by repeat first | exact aJ | refine aF rfl ?_)) (aL.gK (μ := μc) (ps := [iJ]) (aL.cons (BT _) (aL.nil _))) (by omega)); intro v9; (with_reducible apply cP 0); exact rfl; rintro A9 c9 rfl hok9)); refine D9 ?_))
    all_goals ((refine D3 4 ?_; refine D5 ?_; (((with_reducible apply F1 124); exact rfl; exact EN; (exact fun w μc hw hse => by have hle9 := hse.le; exact cE [.func (.func 160) #[] #[]] [iJ] t.kids _ _ _ _ _ w μc hw (KR.mono (by (repeat assumption)) hk) rfl (by omega) (bS (enc := iM) (xs := [.func (.func 160) #[] #[]].map fun v => (v, (0 : Int))) hse.hd rfl (by simp) rfl) rfl (by decide) (aL.cons (BT _) (aL.nil _)) hks))); refine D9 ?_))
    all_goals refine DD 5 ?_
    all_goals refine D8 ?_
    repeat' (first | refine KK ?_ | fail)
    all_goals exact aB rfl rfl rfl
  rw [if_neg h3]
  repeat' (first | refine KK ?_ | refine NB fun b => ?_ | fail)
  refine aC 6 _ (by kernel_rfl) rfl (List.Sublist.cons_cons _ (List.nil_sublist _)) ?_
  all_goals refine DD 0 ?_
  all_goals refine DD 1 ?_
  all_goals ((refine D3 2 ?_; refine D5 ?_; refine NB fun b => ?_; refine D9 ?_))
  all_goals ((refine D3 3 ?_; refine D5 ?_; (((with_reducible apply F3 125); exact rfl; exact EN; (exact fun w μc hw hse => by have hle9 := hse.le; exact cF [.func (.func 121) #[] #[]] _ _ _ w μc hw (aN hse.hd rfl (by simp) (by repeat first | exact aJ | refine aF rfl ?_)) (aL.gK (μ := μc) (ps := [aK]) (aL.cons (aM _) (aL.nil _))) (by omega)); intro v9; (with_reducible apply cP 0); exact rfl; rintro A9 c9 rfl hok9)); refine D9 ?_))
  all_goals ((refine D3 4 ?_; refine D5 ?_; (((with_reducible apply F1 124); exact rfl; exact EN; (exact fun w μc hw hse => by have hle9 := hse.le; exact cE [.func (.func 121) #[] #[]] [aK] t.kids _ _ _ _ _ w μc hw (KR.mono (by (repeat assumption)) hk) rfl (by omega) (bS (enc := iM) (xs := [.func (.func 121) #[] #[]].map fun v => (v, (0 : Int))) hse.hd rfl (by simp) rfl) rfl (by decide) (aL.cons (aM _) (aL.nil _)) hks))); refine D9 ?_))
  all_goals refine DD 5 ?_
  all_goals refine D8 ?_
  repeat' (first | refine KK ?_ | fail)
  all_goals exact aB rfl rfl rfl
end Go.Proofs.YtocidaibmadekaaGreatDoor
namespace Go.Proofs.YtocidaibmadekaaGreatDoor
open Go.RowKit Go.Vcg
attribute [local irreducible] bC dQ G GC GQ GA bX Calls IntKind.wrap Int.decLt Int.decLe
theorem WY (t : T) (u : Value) (w : World) (μ : Mem) (hμ : MOk μ w) (hk : KR μ t.kids u) (hs : t.size ≤ 100000) (hks : ∀ k ∈ t.kids, T.size k ≤ 100000 ∧ k.s.size ≤ 65536) (hop : t.op = 1 ∨ t.op = 6) :
    Calls Tryz.prog 80 #[.agg (aD t u).toArray] w fun e w' => e = .returned (.bool (dQ cB 0 (-1) t.kids)) ∧ Below w.heap.size w w' := by
  have ho := hk.one
  obtain ⟨A, c, rfl, hlc, -⟩ := hk.form
  have hlen := bK t
  refine aA (args := [.agg (aD t (.slice A t.kids.length c)).toArray]) Tryz.func80 rfl Tryz.ntmps80 (by simp) hμ ?_
  repeat' (first | refine KO ?_ | (refine CF 122 ?_; (fail_if_success (have := hce)); (with_reducible apply aW); exact rfl; intro μse hlese hshe; (with_reducible apply aG); (iterate 3 exact rfl); ((with_reducible apply aQ); kernel_rfl; exact rfl); (exact fun w hw => bE [7] _ _ _ w _ hw (aN hshe rfl (by simp) (by repeat first | exact aJ | refine aF rfl ?_)) (by omega)); rintro ve μe hlee hce; (obtain ⟨fe, cape, rfl⟩ := Cls.form hce)) | ((with_reducible apply F1 119); exact rfl; exact EN; (exact fun w μc hw hse => by have hle9 := hse.le; exact fL (cB) _ _ _ t.kids _ _ _ w μc hw (cC _) (KR.mono (by (repeat first | assumption | refine MLe.trans ?_ ‹MLe _ _›)) hk) rfl (by omega) hks)) | refine KI ?_ | refine NB fun b => ?_ | ((refine KB ?_ ?_ <;> intro hp)) | fail)
  all_goals exact aB rfl rfl rfl
theorem aBb (t : T) (u : Value) (w : World) (μ : Mem) (hμ : MOk μ w) (hk : KR μ t.kids u) (hs : t.size ≤ 100000) (hks : ∀ k ∈ t.kids, T.size k ≤ 100000 ∧ k.s.size ≤ 65536) (hop : t.op = 2) :
    Calls Tryz.prog 80 #[.agg (aD t u).toArray] w fun e w' => e = .returned (.bool (dQ (ofT [3]) 1 (-1) t.kids)) ∧ Below w.heap.size w w' := by
  have ho := hk.one
  obtain ⟨A, c, rfl, hlc, -⟩ := hk.form
  have hlen := bK t
  refine aA (args := [.agg (aD t (.slice A t.kids.length c)).toArray]) Tryz.func80 rfl Tryz.ntmps80 (by simp) hμ ?_
  repeat' (first | refine KO ?_ | (refine CF 122 ?_; (fail_if_success (have := hce)); (with_reducible apply aW); exact rfl; intro μse hlese hshe; (with_reducible apply aG); (iterate 3 exact rfl); ((with_reducible apply aQ); kernel_rfl; exact rfl); (exact fun w hw => bE [7] _ _ _ w _ hw (aN hshe rfl (by simp) (by repeat first | exact aJ | refine aF rfl ?_)) (by omega)); rintro ve μe hlee hce; (obtain ⟨fe, cape, rfl⟩ := Cls.form hce)) | (refine CF 122 ?_; (fail_if_success (have := hcq)); (with_reducible apply aW); exact rfl; intro μsq hlesq hshq; (with_reducible apply aG); (iterate 3 exact rfl); ((with_reducible apply aQ); kernel_rfl; exact rfl); (exact fun w hw => bE [3] _ _ _ w _ hw (aN hshq rfl (by simp) (by repeat first | exact aJ | refine aF rfl ?_)) (by omega)); rintro vq μq hleq hcq; (obtain ⟨fq, capq, rfl⟩ := Cls.form hcq)) | ((with_reducible apply F1 119); exact rfl; exact EN; (exact fun w μc hw hse => by have hle9 := hse.le; exact fL (ofT [3]) _ _ _ t.kids _ _ _ w μc hw (Cls.mono hcq (by (repeat assumption))) (KR.mono (by (repeat first | assumption | refine MLe.trans ?_ ‹MLe _ _›)) hk) rfl (by omega) hks)) | refine KI ?_ | refine NB fun b => ?_ | fail)
  all_goals exact aB rfl rfl rfl
theorem XC (t : T) (u : Value) (w : World) (μ : Mem) (hμ : MOk μ w) (hk : KR μ t.kids u) (hs : t.size ≤ 100000) (hks : ∀ k ∈ t.kids, T.size k ≤ 100000 ∧ k.s.size ≤ 65536) (hop : t.op = 3) :
    Calls Tryz.prog 80 #[.agg (aD t u).toArray] w fun e w' => e = .returned (.bool (bC [(aV, 0), (aK, 1)] t.kids)) ∧ Below w.heap.size w w' := by
  have ho := hk.one
  obtain ⟨A, c, rfl, hlc, -⟩ := hk.form
  have hlen := bK t
  refine aA (args := [.agg (aD t (.slice A t.kids.length c)).toArray]) Tryz.func80 rfl Tryz.ntmps80 (by simp) hμ ?_
  repeat' (first | refine KO ?_ | (refine CF 122 ?_; (fail_if_success (have := hce)); (with_reducible apply aW); exact rfl; intro μse hlese hshe; (with_reducible apply aG); (iterate 3 exact rfl); ((with_reducible apply aQ); kernel_rfl; exact rfl); (exact fun w hw => bE [7] _ _ _ w _ hw (aN hshe rfl (by simp) (by repeat first | exact aJ | refine aF rfl ?_)) (by omega)); rintro ve μe hlee hce; (obtain ⟨fe, cape, rfl⟩ := Cls.form hce)) | ((with_reducible apply F1 124); exact rfl; exact EN; (exact fun w μc hw hse => by have hle9 := hse.le; exact gT [(.func (.func 127) #[] #[], 0), (.func (.func 121) #[] #[], 1)] [(aV, 0), (aK, 1)] t.kids _ _ _ _ _ w μc hw (KR.mono (by (repeat first | assumption | refine MLe.trans ?_ ‹MLe _ _›)) hk) rfl (by omega) (aN hse.hd rfl (by simp) (by repeat first | exact aJ | refine aF rfl ?_)) rfl (by decide) (Rws.cons (dK _) (Rws.cons (aM _) (Rws.nil _))) hks)) | refine KI ?_ | refine NB fun b => ?_ | fail)
  all_goals exact aB rfl rfl rfl
theorem XA (t : T) (u : Value) (w : World) (μ : Mem) (hμ : MOk μ w) (hk : KR μ t.kids u) (hs : t.size ≤ 100000) (hks : ∀ k ∈ t.kids, T.size k ≤ 100000 ∧ k.s.size ≤ 65536) (hop : t.op = 4) :
    Calls Tryz.prog 80 #[.agg (aD t u).toArray] w fun e w' => e = .returned (.bool (bC (bM [ofT [5], rO t]) t.kids)) ∧ Below w.heap.size w w' := by
  have ho := hk.one
  obtain ⟨A, c, rfl, hlc, -⟩ := hk.form
  have hlen := bK t
  refine aA (args := [.agg (aD t (.slice A t.kids.length c)).toArray]) Tryz.func80 rfl Tryz.ntmps80 (by simp) hμ ?_
  repeat' (first | refine KO ?_ | (refine CF 122 ?_; (fail_if_success (have := hce)); (with_reducible apply aW); exact rfl; intro μse hlese hshe; (with_reducible apply aG); (iterate 3 exact rfl); ((with_reducible apply aQ); kernel_rfl; exact rfl); (exact fun w hw => bE [7] _ _ _ w _ hw (aN hshe rfl (by simp) (by repeat first | exact aJ | refine aF rfl ?_)) (by omega)); rintro ve μe hlee hce; (obtain ⟨fe, cape, rfl⟩ := Cls.form hce)) | refine KI ?_ | refine NB fun b => ?_ | fail)
  refine aC 9 _ (by kernel_rfl) rfl (List.Sublist.cons_cons _ (List.nil_sublist _)) ?_
  all_goals refine DD 0 ?_
  all_goals refine DD 3 ?_
  all_goals ((refine D3 1 ?_; refine D5 ?_; refine NB fun b => ?_; refine D9 ?_))
  all_goals ((refine D3 2 ?_; refine D5 ?_; ((refine CF 122 ?_; (fail_if_success (have := hcq)); (with_reducible apply aW); exact rfl; intro μsq hlesq hshq; (with_reducible apply aG); (iterate 3 exact rfl); ((with_reducible apply aQ); kernel_rfl; exact rfl); (exact fun w hw => bE [5] _ _ _ w _ hw (aN hshq rfl (by simp) (by repeat first | exact aJ | refine aF rfl ?_)) (by omega)); rintro vq μq hleq hcq; (obtain ⟨fq, capq, rfl⟩ := Cls.form hcq))); refine D9 ?_))
  all_goals ((refine D3 4 ?_; refine D5 ?_; ((refine CF 132 ?_; (fail_if_success (have := hck)); (with_reducible apply aG); (iterate 3 exact rfl); ((with_reducible apply aQ); kernel_rfl; exact rfl); (exact fun w hw => QW t _ w _ hw (KR.mono (by (repeat first | assumption | refine MLe.trans ?_ ‹MLe _ _›)) hk) hs); rintro vk μk hlek hck; (obtain ⟨fk, capk, rfl⟩ := Cls.form hck))); refine D9 ?_))
  all_goals ((refine D3 5 ?_; refine D5 ?_; refine NB fun b => ?_; refine D9 ?_))
  all_goals ((refine D3 6 ?_; refine D5 ?_; (((with_reducible apply F3 125); exact rfl; exact EN; (exact fun w μc hw hse => by have hle9 := hse.le; exact cF [.func (.func fq) #[] capq.toArray, .func (.func fk) #[] capk.toArray] _ _ _ w μc hw (aN hse.hd rfl (by simp) (by repeat first | exact aJ | refine aF rfl ?_)) (aL.gK (μ := μc) (ps := [ofT [5], rO t]) (aL.cons (Cls.mono hcq (by (repeat first | assumption | refine MLe.trans ?_ ‹MLe _ _›))) (aL.cons (Cls.mono hck (by (repeat assumption))) (aL.nil _)))) (by omega)); intro v9; (with_reducible apply cP 0); exact rfl; rintro A9 c9 rfl hok9)); refine D9 ?_))
  all_goals ((refine D3 7 ?_; refine D5 ?_; (((with_reducible apply F1 124); exact rfl; exact EN; (exact fun w μc hw hse => by have hle9 := hse.le; exact cE [.func (.func fq) #[] capq.toArray, .func (.func fk) #[] capk.toArray] [ofT [5], rO t] t.kids _ _ _ _ _ w μc hw (KR.mono (by (repeat first | assumption | refine MLe.trans ?_ ‹MLe _ _›)) hk) rfl (by omega) (bS (enc := iM) (xs := [.func (.func fq) #[] capq.toArray, .func (.func fk) #[] capk.toArray].map fun v => (v, (0 : Int))) hse.hd rfl (by simp) rfl) rfl (by decide) (aL.cons (Cls.mono hcq (by (repeat first | assumption | refine MLe.trans ?_ ‹MLe _ _›))) (aL.cons (Cls.mono hck (by (repeat assumption))) (aL.nil _))) hks))); refine D9 ?_))
  all_goals refine DD 8 ?_
  all_goals refine D8 ?_
  repeat' (first | refine KK ?_ | fail)
  all_goals exact aB rfl rfl rfl
theorem OF (t : T) (u : Value) (w : World) (μ : Mem) (hμ : MOk μ w) (hk : KR μ t.kids u) (hs : t.size ≤ 100000) (hks : ∀ k ∈ t.kids, T.size k ≤ 100000 ∧ k.s.size ≤ 65536) (hop : t.op = 5) :
    Calls Tryz.prog 80 #[.agg (aD t u).toArray] w fun e w' => e = .returned (.bool (bC [(eiT [aV, ofT [63]], 2), (ofT [64], 1)] t.kids)) ∧ Below w.heap.size w w' := by
  have ho := hk.one
  obtain ⟨A, c, rfl, hlc, -⟩ := hk.form
  have hlen := bK t
  refine aA (args := [.agg (aD t (.slice A t.kids.length c)).toArray]) Tryz.func80 rfl Tryz.ntmps80 (by simp) hμ ?_
  repeat' (first | refine KO ?_ | (refine CF 122 ?_; (fail_if_success (have := hce)); (with_reducible apply aW); exact rfl; intro μse hlese hshe; (with_reducible apply aG); (iterate 3 exact rfl); ((with_reducible apply aQ); kernel_rfl; exact rfl); (exact fun w hw => bE [7] _ _ _ w _ hw (aN hshe rfl (by simp) (by repeat first | exact aJ | refine aF rfl ?_)) (by omega)); rintro ve μe hlee hce; (obtain ⟨fe, cape, rfl⟩ := Cls.form hce)) | (refine CF 122 ?_; (fail_if_success (have := hca)); (with_reducible apply aW); exact rfl; intro μsa hlesa hsha; (with_reducible apply aG); (iterate 3 exact rfl); ((with_reducible apply aQ); kernel_rfl; exact rfl); (exact fun w hw => bE [63] _ _ _ w _ hw (aN hsha rfl (by simp) (by repeat first | exact aJ | refine aF rfl ?_)) (by omega)); rintro va μa hlea hca; (obtain ⟨fa, capa, rfl⟩ := Cls.form hca)) | (refine CF 120 ?_; (fail_if_success (have := hci)); (with_reducible apply aW); exact rfl; intro μsi hlesi hshi; (with_reducible apply aG); (iterate 3 exact rfl); ((with_reducible apply aQ); kernel_rfl; exact rfl); (exact fun w hw => dM [.func (.func 127) #[] #[], .func (.func fa) #[] capa.toArray] [aV, ofT [63]] _ _ _ w _ hw (aN hshi rfl (by simp) (by repeat first | exact aJ | refine aF rfl ?_)) (aL.cons (dK _) (aL.cons (Cls.mono hca (by (repeat assumption))) (aL.nil _))) (by omega)); rintro vi μi hlei hci; (obtain ⟨fi, capi, rfl⟩ := Cls.form hci)) | (refine CF 122 ?_; (fail_if_success (have := hcr)); (with_reducible apply aW); exact rfl; intro μsr hlesr hshr; (with_reducible apply aG); (iterate 3 exact rfl); ((with_reducible apply aQ); kernel_rfl; exact rfl); (exact fun w hw => bE [64] _ _ _ w _ hw (aN hshr rfl (by simp) (by repeat first | exact aJ | refine aF rfl ?_)) (by omega)); rintro vr μr hler hcr; (obtain ⟨fr, capr, rfl⟩ := Cls.form hcr)) | ((with_reducible apply F1 124); exact rfl; exact EN; (exact fun w μc hw hse => by have hle9 := hse.le; exact gT [(.func (.func fi) #[] capi.toArray, 2), (.func (.func fr) #[] capr.toArray, 1)] [(eiT [aV, ofT [63]], 2), (ofT [64], 1)] t.kids _ _ _ _ _ w μc hw (KR.mono (by (repeat first | assumption | refine MLe.trans ?_ ‹MLe _ _›)) hk) rfl (by omega) (aN hse.hd rfl (by simp) (by repeat first | exact aJ | refine aF rfl ?_)) rfl (by decide) (Rws.cons (Cls.mono hci (by (repeat first | assumption | refine MLe.trans ?_ ‹MLe _ _›))) (Rws.cons (Cls.mono hcr (by (repeat assumption))) (Rws.nil _))) hks)) | refine KI ?_ | refine NB fun b => ?_ | fail)
  all_goals exact aB rfl rfl rfl
theorem WZ (t : T) (u : Value) (w : World) (μ : Mem) (hμ : MOk μ w) (hk : KR μ t.kids u) (hs : t.size ≤ 100000) (hks : ∀ k ∈ t.kids, T.size k ≤ 100000 ∧ k.s.size ≤ 65536) (hop : t.op = 7 ∨ t.op = 15 ∨ t.op = 16) :
    Calls Tryz.prog 80 #[.agg (aD t u).toArray] w fun e w' => e = .returned (.bool (decide (t.kids.length = 0))) ∧ Below w.heap.size w w' := by
  have ho := hk.one
  obtain ⟨A, c, rfl, hlc, -⟩ := hk.form
  have hlen := bK t
  refine aA (args := [.agg (aD t (.slice A t.kids.length c)).toArray]) Tryz.func80 rfl Tryz.ntmps80 (by simp) hμ ?_
  repeat' (first | refine KO ?_ | (refine CF 122 ?_; (fail_if_success (have := hce)); (with_reducible apply aW); exact rfl; intro μse hlese hshe; (with_reducible apply aG); (iterate 3 exact rfl); ((with_reducible apply aQ); kernel_rfl; exact rfl); (exact fun w hw => bE [7] _ _ _ w _ hw (aN hshe rfl (by simp) (by repeat first | exact aJ | refine aF rfl ?_)) (by omega)); rintro ve μe hlee hce; (obtain ⟨fe, cape, rfl⟩ := Cls.form hce)) | refine KI ?_ | refine NB fun b => ?_ | ((refine KB ?_ ?_ <;> intro hp)) | fail)
  all_goals (refine aB rfl rfl ?_; simp)
theorem XB (t : T) (u : Value) (w : World) (μ : Mem) (hμ : MOk μ w) (hk : KR μ t.kids u) (hs : t.size ≤ 100000) (hks : ∀ k ∈ t.kids, T.size k ≤ 100000 ∧ k.s.size ≤ 65536) (hop : t.op = 8 ∨ t.op = 18) :
    Calls Tryz.prog 80 #[.agg (aD t u).toArray] w fun e w' => e = .returned (.bool (bC (bM [aK]) t.kids)) ∧ Below w.heap.size w w' := by
  have ho := hk.one
  obtain ⟨A, c, rfl, hlc, -⟩ := hk.form
  have hlen := bK t
  refine aA (args := [.agg (aD t (.slice A t.kids.length c)).toArray]) Tryz.func80 rfl Tryz.ntmps80 (by simp) hμ ?_
  repeat' (first | refine KO ?_ | (refine CF 122 ?_; (fail_if_success (have := hce)); (with_reducible apply aW); exact rfl; intro μse hlese hshe; (with_reducible apply aG); (iterate 3 exact rfl); ((with_reducible apply aQ); kernel_rfl; exact rfl); (exact fun w hw => bE [7] _ _ _ w _ hw (aN hshe rfl (by simp) (by repeat first | exact aJ | refine aF rfl ?_)) (by omega)); rintro ve μe hlee hce; (obtain ⟨fe, cape, rfl⟩ := Cls.form hce)) | ((with_reducible apply F3 125); exact rfl; exact EN; (exact fun w μc hw hse => by have hle9 := hse.le; exact cF [.func (.func 121) #[] #[]] _ _ _ w μc hw (aN hse.hd rfl (by simp) (by repeat first | exact aJ | refine aF rfl ?_)) (aL.gK (μ := μc) (ps := [aK]) (aL.cons (aM _) (aL.nil _))) (by omega)); intro v9; (with_reducible apply cP 0); exact rfl; rintro A9 c9 rfl hok9) | ((with_reducible apply F1 124); exact rfl; exact EN; (exact fun w μc hw hse => by have hle9 := hse.le; exact cE [.func (.func 121) #[] #[]] [aK] t.kids _ _ _ _ _ w μc hw (KR.mono (by (repeat first | assumption | refine MLe.trans ?_ ‹MLe _ _›)) hk) rfl (by omega) (bS (enc := iM) (xs := [.func (.func 121) #[] #[]].map fun v => (v, (0 : Int))) hse.hd rfl (by simp) rfl) rfl (by decide) (aL.cons (aM _) (aL.nil _)) hks)) | refine KI ?_ | refine NB fun b => ?_ | ((refine KB ?_ ?_ <;> intro hp)) | fail)
  all_goals exact aB rfl rfl rfl
theorem aDr (t : T) (u : Value) (w : World) (μ : Mem) (hμ : MOk μ w) (hk : KR μ t.kids u) (hs : t.size ≤ 100000) (hks : ∀ k ∈ t.kids, T.size k ≤ 100000 ∧ k.s.size ≤ 65536) (hop : t.op = 9) :
    Calls Tryz.prog 80 #[.agg (aD t u).toArray] w fun e w' => e = .returned (.bool (bC [(aK, 0), (cB, 0), (cB, 1)] t.kids)) ∧ Below w.heap.size w w' := by
  have ho := hk.one
  obtain ⟨A, c, rfl, hlc, -⟩ := hk.form
  have hlen := bK t
  refine aA (args := [.agg (aD t (.slice A t.kids.length c)).toArray]) Tryz.func80 rfl Tryz.ntmps80 (by simp) hμ ?_
  repeat' (first | refine KO ?_ | (refine CF 122 ?_; (fail_if_success (have := hce)); (with_reducible apply aW); exact rfl; intro μse hlese hshe; (with_reducible apply aG); (iterate 3 exact rfl); ((with_reducible apply aQ); kernel_rfl; exact rfl); (exact fun w hw => bE [7] _ _ _ w _ hw (aN hshe rfl (by simp) (by repeat first | exact aJ | refine aF rfl ?_)) (by omega)); rintro ve μe hlee hce; (obtain ⟨fe, cape, rfl⟩ := Cls.form hce)) | ((with_reducible apply F1 124); exact rfl; exact EN; (exact fun w μc hw hse => by have hle9 := hse.le; exact gT [(.func (.func 121) #[] #[], 0), (.func (.func 131) #[] #[], 0), (.func (.func 131) #[] #[], 1)] [(aK, 0), (cB, 0), (cB, 1)] t.kids _ _ _ _ _ w μc hw (KR.mono (by (repeat first | assumption | refine MLe.trans ?_ ‹MLe _ _›)) hk) rfl (by omega) (aN hse.hd rfl (by simp) (by repeat first | exact aJ | refine aF rfl ?_)) rfl (by decide) (Rws.cons (aM _) (Rws.cons (cC _) (Rws.cons (cC _) (Rws.nil _)))) hks)) | refine KI ?_ | refine NB fun b => ?_ | fail)
  all_goals exact aB rfl rfl rfl
theorem aBe (t : T) (u : Value) (w : World) (μ : Mem) (hμ : MOk μ w) (hk : KR μ t.kids u) (hs : t.size ≤ 100000) (hks : ∀ k ∈ t.kids, T.size k ≤ 100000 ∧ k.s.size ≤ 65536) (hop : t.op = 10) :
    Calls Tryz.prog 80 #[.agg (aD t u).toArray] w fun e w' => e = .returned (.bool (bC (bM [ofT [2, 8, 7], eiT [aK, ofT [7]], eiT [aK, ofT [7]], cB]) t.kids)) ∧ Below w.heap.size w w' := by
  have ho := hk.one
  obtain ⟨A, c, rfl, hlc, -⟩ := hk.form
  have hlen := bK t
  refine aA (args := [.agg (aD t (.slice A t.kids.length c)).toArray]) Tryz.func80 rfl Tryz.ntmps80 (by simp) hμ ?_
  repeat' (first | refine KO ?_ | (refine CF 122 ?_; (fail_if_success (have := hce)); (with_reducible apply aW); exact rfl; intro μse hlese hshe; (with_reducible apply aG); (iterate 3 exact rfl); ((with_reducible apply aQ); kernel_rfl; exact rfl); (exact fun w hw => bE [7] _ _ _ w _ hw (aN hshe rfl (by simp) (by repeat first | exact aJ | refine aF rfl ?_)) (by omega)); rintro ve μe hlee hce; (obtain ⟨fe, cape, rfl⟩ := Cls.form hce)) | (refine CF 122 ?_; (fail_if_success (have := hcq)); (with_reducible apply aW); exact rfl; intro μsq hlesq hshq; (with_reducible apply aG); (iterate 3 exact rfl); ((with_reducible apply aQ); kernel_rfl; exact rfl); (exact fun w hw => bE [2, 8, 7] _ _ _ w _ hw (aN hshq rfl (by simp) (by repeat first | exact aJ | refine aF rfl ?_)) (by omega)); rintro vq μq hleq hcq; (obtain ⟨fq, capq, rfl⟩ := Cls.form hcq)) | (refine CF 120 ?_; (fail_if_success (have := hcx)); (with_reducible apply aW); exact rfl; intro μsx hlesx hshx; (with_reducible apply aG); (iterate 3 exact rfl); ((with_reducible apply aQ); kernel_rfl; exact rfl); (exact fun w hw => dM [.func (.func 121) #[] #[], .func (.func fe) #[] cape.toArray] [aK, ofT [7]] _ _ _ w _ hw (aN hshx rfl (by simp) (by repeat first | exact aJ | refine aF rfl ?_)) (aL.cons (aM _) (aL.cons (Cls.mono hce (by (repeat first | assumption | refine MLe.trans ?_ ‹MLe _ _›))) (aL.nil _))) (by omega)); rintro vx μx hlex hcx; (obtain ⟨fx, capx, rfl⟩ := Cls.form hcx)) | (refine CF 120 ?_; (fail_if_success (have := hcy)); (with_reducible apply aW); exact rfl; intro μsy hlesy hshy; (with_reducible apply aG); (iterate 3 exact rfl); ((with_reducible apply aQ); kernel_rfl; exact rfl); (exact fun w hw => dM [.func (.func 121) #[] #[], .func (.func fe) #[] cape.toArray] [aK, ofT [7]] _ _ _ w _ hw (aN hshy rfl (by simp) (by repeat first | exact aJ | refine aF rfl ?_)) (aL.cons (aM _) (aL.cons (Cls.mono hce (by (repeat first | assumption | refine MLe.trans ?_ ‹MLe _ _›))) (aL.nil _))) (by omega)); rintro vy μy hley hcy; (obtain ⟨fy, capy, rfl⟩ := Cls.form hcy)) | ((with_reducible apply F3 125); exact rfl; exact EN; (exact fun w μc hw hse => by have hle9 := hse.le; exact cF [.func (.func fq) #[] capq.toArray, .func (.func fx) #[] capx.toArray, .func (.func fy) #[] capy.toArray, .func (.func 131) #[] #[]] _ _ _ w μc hw (aN hse.hd rfl (by simp) (by repeat first | exact aJ | refine aF rfl ?_)) (aL.gK (μ := μc) (ps := [ofT [2, 8, 7], eiT [aK, ofT [7]], eiT [aK, ofT [7]], cB]) (aL.cons (Cls.mono hcq (by (repeat first | assumption | refine MLe.trans ?_ ‹MLe _ _›))) (aL.cons (Cls.mono hcx (by (repeat first | assumption | refine MLe.trans ?_ ‹MLe _ _›))) (aL.cons (Cls.mono hcy (by (repeat assumption))) (aL.cons (cC _) (aL.nil _)))))) (by omega)); intro v9; (with_reducible apply cP 0); exact rfl; rintro A9 c9 rfl hok9) | ((with_reducible apply F1 124); exact rfl; exact EN; (exact fun w μc hw hse => by have hle9 := hse.le; exact cE [.func (.func fq) #[] capq.toArray, .func (.func fx) #[] capx.toArray, .func (.func fy) #[] capy.toArray, .func (.func 131) #[] #[]] [ofT [2, 8, 7], eiT [aK, ofT [7]], eiT [aK, ofT [7]], cB] t.kids _ _ _ _ _ w μc hw (KR.mono (by (repeat first | assumption | refine MLe.trans ?_ ‹MLe _ _›)) hk) rfl (by omega) (bS (enc := iM) (xs := [.func (.func fq) #[] capq.toArray, .func (.func fx) #[] capx.toArray, .func (.func fy) #[] capy.toArray, .func (.func 131) #[] #[]].map fun v => (v, (0 : Int))) hse.hd rfl (by simp) rfl) rfl (by decide) (aL.cons (Cls.mono hcq (by (repeat first | assumption | refine MLe.trans ?_ ‹MLe _ _›))) (aL.cons (Cls.mono hcx (by (repeat first | assumption | refine MLe.trans ?_ ‹MLe _ _›))) (aL.cons (Cls.mono hcy (by (repeat assumption))) (aL.cons (cC _) (aL.nil _))))) hks)) | refine KI ?_ | refine NB fun b => ?_ | fail)
  all_goals exact aB rfl rfl rfl
theorem RW (t : T) (u : Value) (w : World) (μ : Mem) (hμ : MOk μ w) (hk : KR μ t.kids u) (hs : t.size ≤ 100000) (hks : ∀ k ∈ t.kids, T.size k ≤ 100000 ∧ k.s.size ≤ 65536) (hop : t.op = 11 ∨ t.op = 12) :
    Calls Tryz.prog 80 #[.agg (aD t u).toArray] w fun e w' => e = .returned (.bool (bC (bM [nK, aK, cB]) t.kids)) ∧ Below w.heap.size w w' := by
  have ho := hk.one
  obtain ⟨A, c, rfl, hlc, -⟩ := hk.form
  have hlen := bK t
  refine aA (args := [.agg (aD t (.slice A t.kids.length c)).toArray]) Tryz.func80 rfl Tryz.ntmps80 (by simp) hμ ?_
  repeat' (first | refine KO ?_ | (refine CF 122 ?_; (fail_if_success (have := hce)); (with_reducible apply aW); exact rfl; intro μse hlese hshe; (with_reducible apply aG); (iterate 3 exact rfl); ((with_reducible apply aQ); kernel_rfl; exact rfl); (exact fun w hw => bE [7] _ _ _ w _ hw (aN hshe rfl (by simp) (by repeat first | exact aJ | refine aF rfl ?_)) (by omega)); rintro ve μe hlee hce; (obtain ⟨fe, cape, rfl⟩ := Cls.form hce)) | ((with_reducible apply F3 125); exact rfl; exact EN; (exact fun w μc hw hse => by have hle9 := hse.le; exact cF [.func (.func 133) #[] #[], .func (.func 121) #[] #[], .func (.func 131) #[] #[]] _ _ _ w μc hw (aN hse.hd rfl (by simp) (by repeat first | exact aJ | refine aF rfl ?_)) (aL.gK (μ := μc) (ps := [nK, aK, cB]) (aL.cons (HS _) (aL.cons (aM _) (aL.cons (cC _) (aL.nil _))))) (by omega)); intro v9; (with_reducible apply cP 0); exact rfl; rintro A9 c9 rfl hok9) | ((with_reducible apply F1 124); exact rfl; exact EN; (exact fun w μc hw hse => by have hle9 := hse.le; exact cE [.func (.func 133) #[] #[], .func (.func 121) #[] #[], .func (.func 131) #[] #[]] [nK, aK, cB] t.kids _ _ _ _ _ w μc hw (KR.mono (by (repeat first | assumption | refine MLe.trans ?_ ‹MLe _ _›)) hk) rfl (by omega) (bS (enc := iM) (xs := [.func (.func 133) #[] #[], .func (.func 121) #[] #[], .func (.func 131) #[] #[]].map fun v => (v, (0 : Int))) hse.hd rfl (by simp) rfl) rfl (by decide) (aL.cons (HS _) (aL.cons (aM _) (aL.cons (cC _) (aL.nil _)))) hks)) | refine KI ?_ | refine NB fun b => ?_ | ((refine KB ?_ ?_ <;> intro hp)) | fail)
  all_goals exact aB rfl rfl rfl
theorem RU (t : T) (u : Value) (w : World) (μ : Mem) (hμ : MOk μ w) (hk : KR μ t.kids u) (hs : t.size ≤ 100000) (hks : ∀ k ∈ t.kids, T.size k ≤ 100000 ∧ k.s.size ≤ 65536) (hop : t.op = 13) :
    Calls Tryz.prog 80 #[.agg (aD t u).toArray] w fun e w' => e = .returned (.bool (bC (bM [aK, cB]) t.kids)) ∧ Below w.heap.size w w' := by
  have ho := hk.one
  obtain ⟨A, c, rfl, hlc, -⟩ := hk.form
  have hlen := bK t
  refine aA (args := [.agg (aD t (.slice A t.kids.length c)).toArray]) Tryz.func80 rfl Tryz.ntmps80 (by simp) hμ ?_
  repeat' (first | refine KO ?_ | (refine CF 122 ?_; (fail_if_success (have := hce)); (with_reducible apply aW); exact rfl; intro μse hlese hshe; (with_reducible apply aG); (iterate 3 exact rfl); ((with_reducible apply aQ); kernel_rfl; exact rfl); (exact fun w hw => bE [7] _ _ _ w _ hw (aN hshe rfl (by simp) (by repeat first | exact aJ | refine aF rfl ?_)) (by omega)); rintro ve μe hlee hce; (obtain ⟨fe, cape, rfl⟩ := Cls.form hce)) | ((with_reducible apply F3 125); exact rfl; exact EN; (exact fun w μc hw hse => by have hle9 := hse.le; exact cF [.func (.func 121) #[] #[], .func (.func 131) #[] #[]] _ _ _ w μc hw (aN hse.hd rfl (by simp) (by repeat first | exact aJ | refine aF rfl ?_)) (aL.gK (μ := μc) (ps := [aK, cB]) (aL.cons (aM _) (aL.cons (cC _) (aL.nil _)))) (by omega)); intro v9; (with_reducible apply cP 0); exact rfl; rintro A9 c9 rfl hok9) | ((with_reducible apply F1 124); exact rfl; exact EN; (exact fun w μc hw hse => by have hle9 := hse.le; exact cE [.func (.func 121) #[] #[], .func (.func 131) #[] #[]] [aK, cB] t.kids _ _ _ _ _ w μc hw (KR.mono (by (repeat first | assumption | refine MLe.trans ?_ ‹MLe _ _›)) hk) rfl (by omega) (bS (enc := iM) (xs := [.func (.func 121) #[] #[], .func (.func 131) #[] #[]].map fun v => (v, (0 : Int))) hse.hd rfl (by simp) rfl) rfl (by decide) (aL.cons (aM _) (aL.cons (cC _) (aL.nil _))) hks)) | refine KI ?_ | refine NB fun b => ?_ | fail)
  all_goals exact aB rfl rfl rfl
theorem aDs (t : T) (u : Value) (w : World) (μ : Mem) (hμ : MOk μ w) (hk : KR μ t.kids u) (hs : t.size ≤ 100000) (hks : ∀ k ∈ t.kids, T.size k ≤ 100000 ∧ k.s.size ≤ 65536) (hop : t.op = 14) :
    Calls Tryz.prog 80 #[.agg (aD t u).toArray] w fun e w' => e = .returned (.bool (bC (bM [cB, aK]) t.kids)) ∧ Below w.heap.size w w' := by
  have ho := hk.one
  obtain ⟨A, c, rfl, hlc, -⟩ := hk.form
  have hlen := bK t
  refine aA (args := [.agg (aD t (.slice A t.kids.length c)).toArray]) Tryz.func80 rfl Tryz.ntmps80 (by simp) hμ ?_
  repeat' (first | refine KO ?_ | (refine CF 122 ?_; (fail_if_success (have := hce)); (with_reducible apply aW); exact rfl; intro μse hlese hshe; (with_reducible apply aG); (iterate 3 exact rfl); ((with_reducible apply aQ); kernel_rfl; exact rfl); (exact fun w hw => bE [7] _ _ _ w _ hw (aN hshe rfl (by simp) (by repeat first | exact aJ | refine aF rfl ?_)) (by omega)); rintro ve μe hlee hce; (obtain ⟨fe, cape, rfl⟩ := Cls.form hce)) | ((with_reducible apply F3 125); exact rfl; exact EN; (exact fun w μc hw hse => by have hle9 := hse.le; exact cF [.func (.func 131) #[] #[], .func (.func 121) #[] #[]] _ _ _ w μc hw (aN hse.hd rfl (by simp) (by repeat first | exact aJ | refine aF rfl ?_)) (aL.gK (μ := μc) (ps := [cB, aK]) (aL.cons (cC _) (aL.cons (aM _) (aL.nil _)))) (by omega)); intro v9; (with_reducible apply cP 0); exact rfl; rintro A9 c9 rfl hok9) | ((with_reducible apply F1 124); exact rfl; exact EN; (exact fun w μc hw hse => by have hle9 := hse.le; exact cE [.func (.func 131) #[] #[], .func (.func 121) #[] #[]] [cB, aK] t.kids _ _ _ _ _ w μc hw (KR.mono (by (repeat first | assumption | refine MLe.trans ?_ ‹MLe _ _›)) hk) rfl (by omega) (bS (enc := iM) (xs := [.func (.func 131) #[] #[], .func (.func 121) #[] #[]].map fun v => (v, (0 : Int))) hse.hd rfl (by simp) rfl) rfl (by decide) (aL.cons (cC _) (aL.cons (aM _) (aL.nil _))) hks)) | refine KI ?_ | refine NB fun b => ?_ | fail)
  all_goals exact aB rfl rfl rfl
theorem aBd (t : T) (u : Value) (w : World) (μ : Mem) (hμ : MOk μ w) (hk : KR μ t.kids u) (hs : t.size ≤ 100000) (hks : ∀ k ∈ t.kids, T.size k ≤ 100000 ∧ k.s.size ≤ 65536) (hop : t.op = 17) :
    Calls Tryz.prog 80 #[.agg (aD t u).toArray] w fun e w' => e = .returned (.bool (dQ aK 0 1 t.kids)) ∧ Below w.heap.size w w' := by
  have ho := hk.one
  obtain ⟨A, c, rfl, hlc, -⟩ := hk.form
  have hlen := bK t
  refine aA (args := [.agg (aD t (.slice A t.kids.length c)).toArray]) Tryz.func80 rfl Tryz.ntmps80 (by simp) hμ ?_
  repeat' (first | refine KO ?_ | (refine CF 122 ?_; (fail_if_success (have := hce)); (with_reducible apply aW); exact rfl; intro μse hlese hshe; (with_reducible apply aG); (iterate 3 exact rfl); ((with_reducible apply aQ); kernel_rfl; exact rfl); (exact fun w hw => bE [7] _ _ _ w _ hw (aN hshe rfl (by simp) (by repeat first | exact aJ | refine aF rfl ?_)) (by omega)); rintro ve μe hlee hce; (obtain ⟨fe, cape, rfl⟩ := Cls.form hce)) | ((with_reducible apply F1 119); exact rfl; exact EN; (exact fun w μc hw hse => by have hle9 := hse.le; exact fL (aK) _ _ _ t.kids _ _ _ w μc hw (aM _) (KR.mono (by (repeat first | assumption | refine MLe.trans ?_ ‹MLe _ _›)) hk) rfl (by omega) hks)) | refine KI ?_ | refine NB fun b => ?_ | fail)
  all_goals exact aB rfl rfl rfl
theorem RX (t : T) (u : Value) (w : World) (μ : Mem) (hμ : MOk μ w) (hk : KR μ t.kids u) (hs : t.size ≤ 100000) (hks : ∀ k ∈ t.kids, T.size k ≤ 100000 ∧ k.s.size ≤ 65536) (hop : t.op = 20) :
    Calls Tryz.prog 80 #[.agg (aD t u).toArray] w fun e w' => e = .returned (.bool (bC (bM [eiT [aV, ofT [7]], ofT [6]]) t.kids)) ∧ Below w.heap.size w w' := by
  have ho := hk.one
  obtain ⟨A, c, rfl, hlc, -⟩ := hk.form
  have hlen := bK t
  refine aA (args := [.agg (aD t (.slice A t.kids.length c)).toArray]) Tryz.func80 rfl Tryz.ntmps80 (by simp) hμ ?_
  repeat' (first | refine KO ?_ | (refine CF 122 ?_; (fail_if_success (have := hce)); (with_reducible apply aW); exact rfl; intro μse hlese hshe; (with_reducible apply aG); (iterate 3 exact rfl); ((with_reducible apply aQ); kernel_rfl; exact rfl); (exact fun w hw => bE [7] _ _ _ w _ hw (aN hshe rfl (by simp) (by repeat first | exact aJ | refine aF rfl ?_)) (by omega)); rintro ve μe hlee hce; (obtain ⟨fe, cape, rfl⟩ := Cls.form hce)) | (refine CF 120 ?_; (fail_if_success (have := hcx)); (with_reducible apply aW); exact rfl; intro μsx hlesx hshx; (with_reducible apply aG); (iterate 3 exact rfl); ((with_reducible apply aQ); kernel_rfl; exact rfl); (exact fun w hw => dM [.func (.func 127) #[] #[], .func (.func fe) #[] cape.toArray] [aV, ofT [7]] _ _ _ w _ hw (aN hshx rfl (by simp) (by repeat first | exact aJ | refine aF rfl ?_)) (aL.cons (dK _) (aL.cons (Cls.mono hce (by (repeat assumption))) (aL.nil _))) (by omega)); rintro vx μx hlex hcx; (obtain ⟨fx, capx, rfl⟩ := Cls.form hcx)) | (refine CF 122 ?_; (fail_if_success (have := hcq)); (with_reducible apply aW); exact rfl; intro μsq hlesq hshq; (with_reducible apply aG); (iterate 3 exact rfl); ((with_reducible apply aQ); kernel_rfl; exact rfl); (exact fun w hw => bE [6] _ _ _ w _ hw (aN hshq rfl (by simp) (by repeat first | exact aJ | refine aF rfl ?_)) (by omega)); rintro vq μq hleq hcq; (obtain ⟨fq, capq, rfl⟩ := Cls.form hcq)) | ((with_reducible apply F3 125); exact rfl; exact EN; (exact fun w μc hw hse => by have hle9 := hse.le; exact cF [.func (.func fx) #[] capx.toArray, .func (.func fq) #[] capq.toArray] _ _ _ w μc hw (aN hse.hd rfl (by simp) (by repeat first | exact aJ | refine aF rfl ?_)) (aL.gK (μ := μc) (ps := [eiT [aV, ofT [7]], ofT [6]]) (aL.cons (Cls.mono hcx (by (repeat first | assumption | refine MLe.trans ?_ ‹MLe _ _›))) (aL.cons (Cls.mono hcq (by (repeat assumption))) (aL.nil _)))) (by omega)); intro v9; (with_reducible apply cP 0); exact rfl; rintro A9 c9 rfl hok9) | ((with_reducible apply F1 124); exact rfl; exact EN; (exact fun w μc hw hse => by have hle9 := hse.le; exact cE [.func (.func fx) #[] capx.toArray, .func (.func fq) #[] capq.toArray] [eiT [aV, ofT [7]], ofT [6]] t.kids _ _ _ _ _ w μc hw (KR.mono (by (repeat first | assumption | refine MLe.trans ?_ ‹MLe _ _›)) hk) rfl (by omega) (bS (enc := iM) (xs := [.func (.func fx) #[] capx.toArray, .func (.func fq) #[] capq.toArray].map fun v => (v, (0 : Int))) hse.hd rfl (by simp) rfl) rfl (by decide) (aL.cons (Cls.mono hcx (by (repeat first | assumption | refine MLe.trans ?_ ‹MLe _ _›))) (aL.cons (Cls.mono hcq (by (repeat assumption))) (aL.nil _))) hks)) | refine KI ?_ | refine NB fun b => ?_ | fail)
  all_goals exact aB rfl rfl rfl
theorem OE (t : T) (u : Value) (w : World) (μ : Mem) (hμ : MOk μ w) (hk : KR μ t.kids u) (hs : t.size ≤ 100000) (hks : ∀ k ∈ t.kids, T.size k ≤ 100000 ∧ k.s.size ≤ 65536) (hop : t.op = 21) :
    Calls Tryz.prog 80 #[.agg (aD t u).toArray] w fun e w' => e = .returned (.bool (bC [(aK, 0), (ofT [22], 2)] t.kids)) ∧ Below w.heap.size w w' := by
  have ho := hk.one
  obtain ⟨A, c, rfl, hlc, -⟩ := hk.form
  have hlen := bK t
  refine aA (args := [.agg (aD t (.slice A t.kids.length c)).toArray]) Tryz.func80 rfl Tryz.ntmps80 (by simp) hμ ?_
  repeat' (first | refine KO ?_ | (refine CF 122 ?_; (fail_if_success (have := hce)); (with_reducible apply aW); exact rfl; intro μse hlese hshe; (with_reducible apply aG); (iterate 3 exact rfl); ((with_reducible apply aQ); kernel_rfl; exact rfl); (exact fun w hw => bE [7] _ _ _ w _ hw (aN hshe rfl (by simp) (by repeat first | exact aJ | refine aF rfl ?_)) (by omega)); rintro ve μe hlee hce; (obtain ⟨fe, cape, rfl⟩ := Cls.form hce)) | (refine CF 122 ?_; (fail_if_success (have := hcq)); (with_reducible apply aW); exact rfl; intro μsq hlesq hshq; (with_reducible apply aG); (iterate 3 exact rfl); ((with_reducible apply aQ); kernel_rfl; exact rfl); (exact fun w hw => bE [22] _ _ _ w _ hw (aN hshq rfl (by simp) (by repeat first | exact aJ | refine aF rfl ?_)) (by omega)); rintro vq μq hleq hcq; (obtain ⟨fq, capq, rfl⟩ := Cls.form hcq)) | ((with_reducible apply F1 124); exact rfl; exact EN; (exact fun w μc hw hse => by have hle9 := hse.le; exact gT [(.func (.func 121) #[] #[], 0), (.func (.func fq) #[] capq.toArray, 2)] [(aK, 0), (ofT [22], 2)] t.kids _ _ _ _ _ w μc hw (KR.mono (by (repeat first | assumption | refine MLe.trans ?_ ‹MLe _ _›)) hk) rfl (by omega) (aN hse.hd rfl (by simp) (by repeat first | exact aJ | refine aF rfl ?_)) rfl (by decide) (Rws.cons (aM _) (Rws.cons (Cls.mono hcq (by (repeat assumption))) (Rws.nil _))) hks)) | refine KI ?_ | refine NB fun b => ?_ | fail)
  all_goals exact aB rfl rfl rfl
theorem XD (t : T) (u : Value) (w : World) (μ : Mem) (hμ : MOk μ w) (hk : KR μ t.kids u) (hs : t.size ≤ 100000) (hks : ∀ k ∈ t.kids, T.size k ≤ 100000 ∧ k.s.size ≤ 65536) (hop : t.op = 22) :
    Calls Tryz.prog 80 #[.agg (aD t u).toArray] w fun e w' => e = .returned (.bool ((if t.n = 1 then dQ cB 0 (-1) t.kids else bC [(aK, 0), (cB, 2)] t.kids))) ∧ Below w.heap.size w w' := by
  have ho := hk.one
  obtain ⟨A, c, rfl, hlc, -⟩ := hk.form
  have hlen := bK t
  refine aA (args := [.agg (aD t (.slice A t.kids.length c)).toArray]) Tryz.func80 rfl Tryz.ntmps80 (by simp) hμ ?_
  by_cases hn1 : t.n = 1
  · rw [if_pos hn1]
    repeat' (first | refine KO ?_ | (refine CF 122 ?_; (fail_if_success (have := hce)); (with_reducible apply aW); exact rfl; intro μse hlese hshe; (with_reducible apply aG); (iterate 3 exact rfl); ((with_reducible apply aQ); kernel_rfl; exact rfl); (exact fun w hw => bE [7] _ _ _ w _ hw (aN hshe rfl (by simp) (by repeat first | exact aJ | refine aF rfl ?_)) (by omega)); rintro ve μe hlee hce; (obtain ⟨fe, cape, rfl⟩ := Cls.form hce)) | ((with_reducible apply F1 119); exact rfl; exact EN; (exact fun w μc hw hse => by have hle9 := hse.le; exact fL (cB) _ _ _ t.kids _ _ _ w μc hw (cC _) (KR.mono (by (repeat first | assumption | refine MLe.trans ?_ ‹MLe _ _›)) hk) rfl (by omega) hks)) | refine KI ?_ | refine NB fun b => ?_ | fail)
    all_goals exact aB rfl rfl rfl
  · rw [if_neg hn1]
    repeat' (first | refine KO ?_ | (refine CF 122 ?_; (fail_if_success (have := hce)); (with_reducible apply aW); exact rfl; intro μse hlese hshe; (with_reducible apply aG); (iterate 3 exact rfl); ((with_reducible apply aQ); kernel_rfl; exact rfl); (exact fun w hw => bE [7] _ _ _ w _ hw (aN hshe rfl (by simp) (by repeat first | exact aJ | refine aF rfl ?_)) (by omega)); rintro ve μe hlee hce; (obtain ⟨fe, cape, rfl⟩ := Cls.form hce)) | ((with_reducible apply F1 124); exact rfl; exact EN; (exact fun w μc hw hse => by have hle9 := hse.le; exact gT [(.func (.func 121) #[] #[], 0), (.func (.func 131) #[] #[], 2)] [(aK, 0), (cB, 2)] t.kids _ _ _ _ _ w μc hw (KR.mono (by (repeat first | assumption | refine MLe.trans ?_ ‹MLe _ _›)) hk) rfl (by omega) (aN hse.hd rfl (by simp) (by repeat first | exact aJ | refine aF rfl ?_)) rfl (by decide) (Rws.cons (aM _) (Rws.cons (cC _) (Rws.nil _))) hks)) | refine KI ?_ | refine NB fun b => ?_ | fail)
    all_goals exact aB rfl rfl rfl
theorem WX (t : T) (u : Value) (w : World) (μ : Mem) (hμ : MOk μ w) (hk : KR μ t.kids u) (hs : t.size ≤ 100000) (hks : ∀ k ∈ t.kids, T.size k ≤ 100000 ∧ k.s.size ≤ 65536) (hop : t.op ≠ 1 ∧ t.op ≠ 2 ∧ t.op ≠ 3 ∧ t.op ≠ 4 ∧ t.op ≠ 5 ∧ t.op ≠ 6 ∧ t.op ≠ 7 ∧ t.op ≠ 8 ∧ t.op ≠ 9 ∧ t.op ≠ 10 ∧ t.op ≠ 11 ∧ t.op ≠ 12 ∧ t.op ≠ 13 ∧ t.op ≠ 14 ∧ t.op ≠ 15 ∧ t.op ≠ 16 ∧ t.op ≠ 17 ∧ t.op ≠ 18 ∧ t.op ≠ 19 ∧ t.op ≠ 20 ∧ t.op ≠ 21 ∧ t.op ≠ 22) :
    Calls Tryz.prog 80 #[.agg (aD t u).toArray] w fun e w' => e = .returned (.bool (bC (bM [cB]) t.kids)) ∧ Below w.heap.size w w' := by
  have ho := hk.one
  obtain ⟨A, c, rfl, hlc, -⟩ := hk.form
  have hlen := bK t
  refine aA (args := [.agg (aD t (.slice A t.kids.length c)).toArray]) Tryz.func80 rfl Tryz.ntmps80 (by simp) hμ ?_
  repeat' (first | refine KO ?_ | (refine CF 122 ?_; (fail_if_success (have := hce)); (with_reducible apply aW); exact rfl; intro μse hlese hshe; (with_reducible apply aG); (iterate 3 exact rfl); ((with_reducible apply aQ); kernel_rfl; exact rfl); (exact fun w hw => bE [7] _ _ _ w _ hw (aN hshe rfl (by simp) (by repeat first | exact aJ | refine aF rfl ?_)) (by omega)); rintro ve μe hlee hce; (obtain ⟨fe, cape, rfl⟩ := Cls.form hce)) | ((with_reducible apply F3 125); exact rfl; exact EN; (exact fun w μc hw hse => by have hle9 := hse.le; exact cF [.func (.func 131) #[] #[]] _ _ _ w μc hw (aN hse.hd rfl (by simp) (by repeat first | exact aJ | refine aF rfl ?_)) (aL.gK (μ := μc) (ps := [cB]) (aL.cons (cC _) (aL.nil _))) (by omega)); intro v9; (with_reducible apply cP 0); exact rfl; rintro A9 c9 rfl hok9) | ((with_reducible apply F1 124); exact rfl; exact EN; (exact fun w μc hw hse => by have hle9 := hse.le; exact cE [.func (.func 131) #[] #[]] [cB] t.kids _ _ _ _ _ w μc hw (KR.mono (by (repeat first | assumption | refine MLe.trans ?_ ‹MLe _ _›)) hk) rfl (by omega) (bS (enc := iM) (xs := [.func (.func 131) #[] #[]].map fun v => (v, (0 : Int))) hse.hd rfl (by simp) rfl) rfl (by decide) (aL.cons (cC _) (aL.nil _)) hks)) | refine KI ?_ | refine NB fun b => ?_ | fail)
  all_goals exact aB rfl rfl rfl
end Go.Proofs.YtocidaibmadekaaGreatDoor
