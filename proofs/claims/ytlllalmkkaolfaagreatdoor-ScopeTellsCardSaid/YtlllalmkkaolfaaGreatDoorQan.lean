/- tree.Right. -/
import Derived.Test.YtlllalmkkaolfaaGreatDoorQam
set_option maxRecDepth 20000
set_option maxHeartbeats 2000000
namespace Go.Proofs.YtlllalmkkaolfaaGreatDoor
section
open Go.RowKit Go.Vcg
noncomputable def bC (t : T) : Bool := if t.op ≤ 23 then stB t else exB t
def onT (t : T) (i : Nat) (k : T) (spine : Bool) : Bool := decide (i = 0) && gU k && (decide (t.op = 53) || spine && gU t)
def Nd (t : T) (spine : Bool) : Prop := rS t.op = true ∧ lZ t = true ∧ ¬(gU t = true ∧ t.n = 1 ∧ spine = false)
inductive Rt : T → Nat → Bool → Prop
 | mk {t : T} {deep : Nat} {spine : Bool} (hd : deep ≤ 200) (hn : Nd t spine) (hk : bC t = true) (hr : ∀ (i : Nat) (k : T), t.kids[i]? = some k → Rt k (deep + 1) (onT t i k spine)) : Rt t deep spine
noncomputable def rtB (t : T) (deep : Nat) (spine : Bool) : Bool := dB (Rt t deep spine)
theorem ZH {t : T} {d : Nat} {s : Bool} (h : Rt t d s) : rtB t d s = true := by unfold rtB; exact aGw h
theorem sS {t : T} {d : Nat} {s : Bool} (h : ¬Rt t d s) : rtB t d s = false := by unfold rtB; exact aGx h
theorem iJ {t : T} {d : Nat} {s : Bool} (h : rtB t d s = true) : Rt t d s := by unfold rtB at h; exact CX h
theorem lL {t : T} {d : Nat} {s : Bool} (h : rtB t d s = false) : ¬Rt t d s := by unfold rtB at h; exact UJ h
theorem uB {t k : T} (h : Sh t) (hk : k ∈ t.kids) : Sh k := by
 cases h with
 | mk _ _ _ _ h => exact h k hk
theorem aKm {t : T} (h : Sh t) : kO t.op := by cases h; assumption
theorem KS {t : T} (h : Sh t) : t.s.size ≤ 4000 := by cases h; assumption
theorem aD2 : ∀ {t : T}, Sh t → Sh' t := fun {t} => T.XA (p := fun t => Sh t → Sh' t) (fun t ih h => .mk (by have := KS h; omega) fun k hk => ih k hk (uB h hk)) t
attribute [local irreducible] rS lZ stB exB rtB G GC GQ GA eN Calls IntKind.wrap Int.decLt Int.decLe
theorem VV : ∀ (n : Nat), n ≤ 100000 → ∀ (t : T) (u : Value) (deep : Nat) (spine : Bool) (w : World) (μ : Mem), MOk μ w → KR μ t.kids u → t.size ≤ n → deep ≤ 201 → Sh t → qX μ →
 aV 61 #[.agg (aY t u).toArray, .int .i64 deep, .bool spine] w (.bool (rtB t deep spine)) := by
 intro n
 induction n with
 | zero => intro _ t u d s w μ hμ hk hn; exact absurd hn (by rw [T.size_eq]; omega)
 | succ n ih =>
   intro ay t u deep spine w μ hμ hk hn a1 ag hT
   have ho := hk.one
   have ar := aKm ag
   unfold kO at ar
   have ax := KS ag
   have ap : ∀ k ∈ t.kids, T.size k ≤ 100000 ∧ k.s.size ≤ 65536 := fun k hk => by
    obtain ⟨i, hi⟩ := List.mem_iff_getElem?.1 hk
    have h1 := T.fN hi
    have h2 := KS (uB ag hk)
    exact ⟨by omega, by omega⟩
   have an : ∀ k ∈ t.kids, Sh' k := fun k hk => aD2 (uB ag hk)
   have hlen := eL t
   obtain ⟨A, c, rfl, az, aj⟩ := hk.form
   have c1 := fun w μc hw (hle : MLe μ μc) => WU t.op ar w μc hw (hT.mono hle)
   have c2 := fun w μc hw (hle : MLe μ μc) => PK t _ w μc hw (hk.mono hle) (by omega) (by omega) (hT.mono hle)
   have c3 := fun w μc hw (hle : MLe μ μc) => uR t _ w μc hw (hk.mono hle) (by omega) (by omega)
   have c4 := fun w μc hw (hle : MLe μ μc) => FN t _ w μc hw (hk.mono hle) (by omega) ap
   have c5 := fun w μc hw (hle : MLe μ μc) => EC t _ w μc hw (hk.mono hle) (by omega) ap an
   refine aE (args := [.agg (aY t (.slice A t.kids.length c)).toArray, .int .i64 deep, .bool spine]) Tryz.func61 rfl Tryz.ntmps61 (by simp) hμ ?_
   by_cases h1 : deep ≤ 200 ∧ Nd t spine
   ·obtain ⟨hd, ao⟩ := h1
    obtain ⟨aw, hf, hl⟩ := id ao
    rw [aw] at c1
    rw [hf] at c2
    cases ab : bC t
    ·have z : rtB t deep spine = false := sS fun h => by
      cases h with
      | mk _ _ h2 _ => rw [ab] at h2; cases h2
     rw [z]
     unfold bC at ab
     try repeat' (first | ((with_reducible show GC _ _ (Code.seq (Code.region 3 _ _) _) _ _ _ _); (apply dF)) | refine KO ?_ | refine K2 76 c1 ?_ | refine K2 77 c2 ?_ | refine K2 78 c3 ?_ | refine KZ ?_ | refine NB fun b => ?_ | (refine KB ?_ ?_ <;> intro hp))
     all_goals try (exfalso; apply hl; refine ⟨?_, ?_, ?_⟩ <;> assumption)
     all_goals
      refine gcs ?_
      by_cases al : t.op ≤ 23
      ·rw [if_pos al] at ab
       rw [ab] at c4
       try repeat' (first | refine KZ ?_ | ((with_reducible apply C1); exact rfl; exact EN; exact fun w μc hw g => c4 w μc hw g.le))
       all_goals exact aJ rfl rfl rfl
      ·rw [if_neg al] at ab
       rw [ab] at c5
       try repeat' (first | refine KZ ?_ | ((with_reducible apply C1); exact rfl; exact EN; exact fun w μc hw g => c5 w μc hw g.le))
       all_goals exact aJ rfl rfl rfl
    ·have af := ab
     unfold bC at af
     try repeat' (first | ((with_reducible show GC _ _ (Code.seq (Code.seq (Code.region 1 _ _) _) _) _ _ _ _); (apply dF)) | refine KZ ?_ | refine NB fun b => ?_)
     refine gcs (iB (ι := Unit) (fun _ => True) (fun _ => μ) (fun _ => [(1, .int .i64 deep), (2, .bool spine), (3, .pointer (some ⟨b, 0, none⟩))]) (fun _ => [.inl ⟨b, 24, 6, idx 0 (aY t (.slice A t.kids.length c))⟩]) ?_ ?_)
     ·try repeat' (first | refine KO ?_ | refine K2 76 c1 ?_ | refine K2 77 c2 ?_ | refine K2 78 c3 ?_ | refine KZ ?_ | (refine KB ?_ ?_ <;> intro hp))
      all_goals try (exfalso; apply hl; refine ⟨?_, ?_, ?_⟩ <;> assumption)
      all_goals exact J1 () trivial
     intro _ _
     by_cases al : t.op ≤ 23
     ·rw [if_pos al] at af
      rw [af] at c4
      try repeat' (first | refine KZ ?_ | ((with_reducible apply C1); exact rfl; exact EN; exact fun w μc hw g => c4 w μc hw g.le))
      all_goals try (exfalso; omega)
      refine bW (ι := Nat) (fun i => i ≤ t.kids.length ∧ ∀ (j : Nat) (k : T), j < i → t.kids[j]? = some k → Rt k (deep + 1) (onT t j k spine)) (fun i => t.kids.length - i) (fun _ => μ) (fun i => [(47, .int .i64 i), (46, .int .i64 t.kids.length), (45, .slice A t.kids.length c), (1, .int .i64 deep), (2, .bool spine), (3, .pointer (some ⟨b, 0, none⟩))]) (fun _ => [.inl ⟨b, 24, 6, idx 0 (aY t (.slice A t.kids.length c))⟩]) 0 ⟨by omega, fun j _ h => absurd h (by omega)⟩ (fun a w hs => J5 hs) ?_
      rintro i ⟨hi, ai⟩
      by_cases hlt : i < t.kids.length
      ·have v : t.kids[i]? = some t.kids[i] := aA hlt
       generalize t.kids[i] = k at v
       obtain ⟨ad, x, rfl, hm, av, q⟩ := aj i k v
       have au := T.fN v
       have f := uB ag (aB v)
       have aq := KS f
       have ck := fun w μc hw (hle : MLe μ μc) => uR k _ w μc hw (q.mono hle) (by omega) (by omega)
       have p : Rt k (deep + 1) (onT t i k spine) → ∀ (j : Nat) (k : T), j < i + 1 → t.kids[j]? = some k → Rt k (deep + 1) (onT t j k spine) := fun h j k' hj ah => by
        rcases cY j i with h1 | h1
        ·exact ai j k' h1 ah
        ·obtain rfl : j = i := by omega
         rw [v] at ah
         cases ah
         exact h
       by_cases ak : i = 0
       ·subst ak
        cases y : gU k
        ·rw [y] at ck
         have l : onT t 0 k spine = false := by simp [onT, y]
         cases o : rtB k (deep + 1) false
         ·have z : rtB t deep spine = false := sS fun h => lL o (by cases h with | mk _ _ _ h4 => exact l ▸ h4 0 k v)
          rw [z]
          have e := fun (w : World) (μc : Mem) (hw : MOk μc w) (hle : MLe μ μc) => o ▸ ih (by omega) k x (deep + 1) false w μc hw (q.mono hle) (by omega) (by omega) f (hT.mono hle)
          try repeat' (first | refine KO ?_ | refine K2 78 ck ?_ | refine K2 61 e ?_ | (refine KV (b := by first | exact U1 0 | exact U4 hm) (c := ?_)) | refine KZ ?_ | refine NB fun b => ?_)
          all_goals exact aJ rfl rfl rfl
         ·have r := p (by rw [l]; exact iJ o)
          have e := fun (w : World) (μc : Mem) (hw : MOk μc w) (hle : MLe μ μc) => o ▸ ih (by omega) k x (deep + 1) false w μc hw (q.mono hle) (by omega) (by omega) f (hT.mono hle)
          try repeat' (first | refine KO ?_ | refine K2 78 ck ?_ | refine K2 61 e ?_ | (refine KV (b := by first | exact U1 0 | exact U4 hm) (c := ?_)) | refine KZ ?_ | refine NB fun b => ?_)
          all_goals exact J2 (0 + 1) ⟨by omega, r⟩ (by omega)
        ·rw [y] at ck
         by_cases ae : t.op = 53
         ·have l : onT t 0 k spine = true := by simp [onT, y, ae]
          cases o : rtB k (deep + 1) true
          ·have z : rtB t deep spine = false := sS fun h => lL o (by cases h with | mk _ _ _ h4 => exact l ▸ h4 0 k v)
           rw [z]
           have e := fun (w : World) (μc : Mem) (hw : MOk μc w) (hle : MLe μ μc) => o ▸ ih (by omega) k x (deep + 1) true w μc hw (q.mono hle) (by omega) (by omega) f (hT.mono hle)
           try repeat' (first | refine KO ?_ | refine K2 78 ck ?_ | refine K2 61 e ?_ | (refine KV (b := by first | exact U1 0 | exact U4 hm) (c := ?_)) | refine KZ ?_ | refine NB fun b => ?_)
           all_goals exact aJ rfl rfl rfl
          ·have r := p (by rw [l]; exact iJ o)
           have e := fun (w : World) (μc : Mem) (hw : MOk μc w) (hle : MLe μ μc) => o ▸ ih (by omega) k x (deep + 1) true w μc hw (q.mono hle) (by omega) (by omega) f (hT.mono hle)
           try repeat' (first | refine KO ?_ | refine K2 78 ck ?_ | refine K2 61 e ?_ | (refine KV (b := by first | exact U1 0 | exact U4 hm) (c := ?_)) | refine KZ ?_ | refine NB fun b => ?_)
           all_goals exact J2 (0 + 1) ⟨by omega, r⟩ (by omega)
         ·cases spine
          ·skip
           have l : onT t 0 k false = false := by simp [onT, y, ae]
           cases o : rtB k (deep + 1) false
           ·have z : rtB t deep false = false := sS fun h => lL o (by cases h with | mk _ _ _ h4 => exact l ▸ h4 0 k v)
            rw [z]
            have e := fun (w : World) (μc : Mem) (hw : MOk μc w) (hle : MLe μ μc) => o ▸ ih (by omega) k x (deep + 1) false w μc hw (q.mono hle) (by omega) (by omega) f (hT.mono hle)
            try repeat' (first | refine KO ?_ | refine K2 78 ck ?_ | refine K2 61 e ?_ | (refine KV (b := by first | exact U1 0 | exact U4 hm) (c := ?_)) | refine KZ ?_ | refine NB fun b => ?_)
            all_goals exact aJ rfl rfl rfl
           ·have r := p (by rw [l]; exact iJ o)
            have e := fun (w : World) (μc : Mem) (hw : MOk μc w) (hle : MLe μ μc) => o ▸ ih (by omega) k x (deep + 1) false w μc hw (q.mono hle) (by omega) (by omega) f (hT.mono hle)
            try repeat' (first | refine KO ?_ | refine K2 78 ck ?_ | refine K2 61 e ?_ | (refine KV (b := by first | exact U1 0 | exact U4 hm) (c := ?_)) | refine KZ ?_ | refine NB fun b => ?_)
            all_goals exact J2 (0 + 1) ⟨by omega, r⟩ (by omega)
          ·cases aa : gU t
           ·rw [aa] at c3
            have l : onT t 0 k true = false := by simp [onT, y, ae, aa]
            cases o : rtB k (deep + 1) false
            ·have z : rtB t deep true = false := sS fun h => lL o (by cases h with | mk _ _ _ h4 => exact l ▸ h4 0 k v)
             rw [z]
             have e := fun (w : World) (μc : Mem) (hw : MOk μc w) (hle : MLe μ μc) => o ▸ ih (by omega) k x (deep + 1) false w μc hw (q.mono hle) (by omega) (by omega) f (hT.mono hle)
             try repeat' (first | refine KO ?_ | ((with_reducible apply F1 78); exact rfl; exact EN; first | (exact fun w μc hw g => ck w μc hw g.le) | (exact fun w μc hw g => c3 w μc hw g.le)) | refine K2 61 e ?_ | (refine KV (b := by first | exact U1 0 | exact U4 hm) (c := ?_)) | refine KZ ?_ | refine NB fun b => ?_)
             all_goals exact aJ rfl rfl rfl
            ·have r := p (by rw [l]; exact iJ o)
             have e := fun (w : World) (μc : Mem) (hw : MOk μc w) (hle : MLe μ μc) => o ▸ ih (by omega) k x (deep + 1) false w μc hw (q.mono hle) (by omega) (by omega) f (hT.mono hle)
             try repeat' (first | refine KO ?_ | ((with_reducible apply F1 78); exact rfl; exact EN; first | (exact fun w μc hw g => ck w μc hw g.le) | (exact fun w μc hw g => c3 w μc hw g.le)) | refine K2 61 e ?_ | (refine KV (b := by first | exact U1 0 | exact U4 hm) (c := ?_)) | refine KZ ?_ | refine NB fun b => ?_)
             all_goals exact J2 (0 + 1) ⟨by omega, r⟩ (by omega)
           ·rw [aa] at c3
            have l : onT t 0 k true = true := by simp [onT, y, ae, aa]
            cases o : rtB k (deep + 1) true
            ·have z : rtB t deep true = false := sS fun h => lL o (by cases h with | mk _ _ _ h4 => exact l ▸ h4 0 k v)
             rw [z]
             have e := fun (w : World) (μc : Mem) (hw : MOk μc w) (hle : MLe μ μc) => o ▸ ih (by omega) k x (deep + 1) true w μc hw (q.mono hle) (by omega) (by omega) f (hT.mono hle)
             try repeat' (first | refine KO ?_ | ((with_reducible apply F1 78); exact rfl; exact EN; first | (exact fun w μc hw g => ck w μc hw g.le) | (exact fun w μc hw g => c3 w μc hw g.le)) | refine K2 61 e ?_ | (refine KV (b := by first | exact U1 0 | exact U4 hm) (c := ?_)) | refine KZ ?_ | refine NB fun b => ?_)
             all_goals exact aJ rfl rfl rfl
            ·have r := p (by rw [l]; exact iJ o)
             have e := fun (w : World) (μc : Mem) (hw : MOk μc w) (hle : MLe μ μc) => o ▸ ih (by omega) k x (deep + 1) true w μc hw (q.mono hle) (by omega) (by omega) f (hT.mono hle)
             try repeat' (first | refine KO ?_ | ((with_reducible apply F1 78); exact rfl; exact EN; first | (exact fun w μc hw g => ck w μc hw g.le) | (exact fun w μc hw g => c3 w μc hw g.le)) | refine K2 61 e ?_ | (refine KV (b := by first | exact U1 0 | exact U4 hm) (c := ?_)) | refine KZ ?_ | refine NB fun b => ?_)
             all_goals exact J2 (0 + 1) ⟨by omega, r⟩ (by omega)
       ·skip
        have l : onT t i k spine = false := by simp [onT, ak]
        cases o : rtB k (deep + 1) false
        ·have z : rtB t deep spine = false := sS fun h => lL o (by cases h with | mk _ _ _ h4 => exact l ▸ h4 i k v)
         rw [z]
         have e := fun (w : World) (μc : Mem) (hw : MOk μc w) (hle : MLe μ μc) => o ▸ ih (by omega) k x (deep + 1) false w μc hw (q.mono hle) (by omega) (by omega) f (hT.mono hle)
         try repeat' (first | refine KO ?_ | refine K2 61 e ?_ | (refine KV (b := by first | exact U1 i | exact U4 hm) (c := ?_)) | refine KZ ?_ | refine NB fun b => ?_)
         all_goals exact aJ rfl rfl rfl
        ·have r := p (by rw [l]; exact iJ o)
         have e := fun (w : World) (μc : Mem) (hw : MOk μc w) (hle : MLe μ μc) => o ▸ ih (by omega) k x (deep + 1) false w μc hw (q.mono hle) (by omega) (by omega) f (hT.mono hle)
         try repeat' (first | refine KO ?_ | refine K2 61 e ?_ | (refine KV (b := by first | exact U1 i | exact U4 hm) (c := ?_)) | refine KZ ?_ | refine NB fun b => ?_)
         all_goals exact J2 (i + 1) ⟨by omega, r⟩ (by omega)
      ·have z : rtB t deep spine = true := ZH (.mk hd ao ab fun j k hj => ai j k (by have := (List.getElem?_eq_some_iff.1 hj).1; omega) hj)
       rw [z]
       try repeat' (refine KZ ?_)
       all_goals exact aJ rfl rfl rfl
     ·rw [if_neg al] at af
      rw [af] at c5
      try repeat' (first | refine KZ ?_ | ((with_reducible apply C1); exact rfl; exact EN; exact fun w μc hw g => c5 w μc hw g.le))
      all_goals try (exfalso; omega)
      refine bW (ι := Nat) (fun i => i ≤ t.kids.length ∧ ∀ (j : Nat) (k : T), j < i → t.kids[j]? = some k → Rt k (deep + 1) (onT t j k spine)) (fun i => t.kids.length - i) (fun _ => μ) (fun i => [(47, .int .i64 i), (46, .int .i64 t.kids.length), (45, .slice A t.kids.length c), (1, .int .i64 deep), (2, .bool spine), (3, .pointer (some ⟨b, 0, none⟩))]) (fun _ => [.inl ⟨b, 24, 6, idx 0 (aY t (.slice A t.kids.length c))⟩]) 0 ⟨by omega, fun j _ h => absurd h (by omega)⟩ (fun a w hs => J5 hs) ?_
      rintro i ⟨hi, ai⟩
      by_cases hlt : i < t.kids.length
      ·have v : t.kids[i]? = some t.kids[i] := aA hlt
       generalize t.kids[i] = k at v
       obtain ⟨ad, x, rfl, hm, av, q⟩ := aj i k v
       have au := T.fN v
       have f := uB ag (aB v)
       have aq := KS f
       have ck := fun w μc hw (hle : MLe μ μc) => uR k _ w μc hw (q.mono hle) (by omega) (by omega)
       have p : Rt k (deep + 1) (onT t i k spine) → ∀ (j : Nat) (k : T), j < i + 1 → t.kids[j]? = some k → Rt k (deep + 1) (onT t j k spine) := fun h j k' hj ah => by
        rcases cY j i with h1 | h1
        ·exact ai j k' h1 ah
        ·obtain rfl : j = i := by omega
         rw [v] at ah
         cases ah
         exact h
       by_cases ak : i = 0
       ·subst ak
        cases y : gU k
        ·rw [y] at ck
         have l : onT t 0 k spine = false := by simp [onT, y]
         cases o : rtB k (deep + 1) false
         ·have z : rtB t deep spine = false := sS fun h => lL o (by cases h with | mk _ _ _ h4 => exact l ▸ h4 0 k v)
          rw [z]
          have e := fun (w : World) (μc : Mem) (hw : MOk μc w) (hle : MLe μ μc) => o ▸ ih (by omega) k x (deep + 1) false w μc hw (q.mono hle) (by omega) (by omega) f (hT.mono hle)
          try repeat' (first | refine KO ?_ | refine K2 78 ck ?_ | refine K2 61 e ?_ | (refine KV (b := by first | exact U1 0 | exact U4 hm) (c := ?_)) | refine KZ ?_ | refine NB fun b => ?_)
          all_goals exact aJ rfl rfl rfl
         ·have r := p (by rw [l]; exact iJ o)
          have e := fun (w : World) (μc : Mem) (hw : MOk μc w) (hle : MLe μ μc) => o ▸ ih (by omega) k x (deep + 1) false w μc hw (q.mono hle) (by omega) (by omega) f (hT.mono hle)
          try repeat' (first | refine KO ?_ | refine K2 78 ck ?_ | refine K2 61 e ?_ | (refine KV (b := by first | exact U1 0 | exact U4 hm) (c := ?_)) | refine KZ ?_ | refine NB fun b => ?_)
          all_goals exact J2 (0 + 1) ⟨by omega, r⟩ (by omega)
        ·rw [y] at ck
         by_cases ae : t.op = 53
         ·have l : onT t 0 k spine = true := by simp [onT, y, ae]
          cases o : rtB k (deep + 1) true
          ·have z : rtB t deep spine = false := sS fun h => lL o (by cases h with | mk _ _ _ h4 => exact l ▸ h4 0 k v)
           rw [z]
           have e := fun (w : World) (μc : Mem) (hw : MOk μc w) (hle : MLe μ μc) => o ▸ ih (by omega) k x (deep + 1) true w μc hw (q.mono hle) (by omega) (by omega) f (hT.mono hle)
           try repeat' (first | refine KO ?_ | refine K2 78 ck ?_ | refine K2 61 e ?_ | (refine KV (b := by first | exact U1 0 | exact U4 hm) (c := ?_)) | refine KZ ?_ | refine NB fun b => ?_)
           all_goals exact aJ rfl rfl rfl
          ·have r := p (by rw [l]; exact iJ o)
           have e := fun (w : World) (μc : Mem) (hw : MOk μc w) (hle : MLe μ μc) => o ▸ ih (by omega) k x (deep + 1) true w μc hw (q.mono hle) (by omega) (by omega) f (hT.mono hle)
           try repeat' (first | refine KO ?_ | refine K2 78 ck ?_ | refine K2 61 e ?_ | (refine KV (b := by first | exact U1 0 | exact U4 hm) (c := ?_)) | refine KZ ?_ | refine NB fun b => ?_)
           all_goals exact J2 (0 + 1) ⟨by omega, r⟩ (by omega)
         ·cases spine
          ·skip
           have l : onT t 0 k false = false := by simp [onT, y, ae]
           cases o : rtB k (deep + 1) false
           ·have z : rtB t deep false = false := sS fun h => lL o (by cases h with | mk _ _ _ h4 => exact l ▸ h4 0 k v)
            rw [z]
            have e := fun (w : World) (μc : Mem) (hw : MOk μc w) (hle : MLe μ μc) => o ▸ ih (by omega) k x (deep + 1) false w μc hw (q.mono hle) (by omega) (by omega) f (hT.mono hle)
            try repeat' (first | refine KO ?_ | refine K2 78 ck ?_ | refine K2 61 e ?_ | (refine KV (b := by first | exact U1 0 | exact U4 hm) (c := ?_)) | refine KZ ?_ | refine NB fun b => ?_)
            all_goals exact aJ rfl rfl rfl
           ·have r := p (by rw [l]; exact iJ o)
            have e := fun (w : World) (μc : Mem) (hw : MOk μc w) (hle : MLe μ μc) => o ▸ ih (by omega) k x (deep + 1) false w μc hw (q.mono hle) (by omega) (by omega) f (hT.mono hle)
            try repeat' (first | refine KO ?_ | refine K2 78 ck ?_ | refine K2 61 e ?_ | (refine KV (b := by first | exact U1 0 | exact U4 hm) (c := ?_)) | refine KZ ?_ | refine NB fun b => ?_)
            all_goals exact J2 (0 + 1) ⟨by omega, r⟩ (by omega)
          ·cases aa : gU t
           ·rw [aa] at c3
            have l : onT t 0 k true = false := by simp [onT, y, ae, aa]
            cases o : rtB k (deep + 1) false
            ·have z : rtB t deep true = false := sS fun h => lL o (by cases h with | mk _ _ _ h4 => exact l ▸ h4 0 k v)
             rw [z]
             have e := fun (w : World) (μc : Mem) (hw : MOk μc w) (hle : MLe μ μc) => o ▸ ih (by omega) k x (deep + 1) false w μc hw (q.mono hle) (by omega) (by omega) f (hT.mono hle)
             try repeat' (first | refine KO ?_ | ((with_reducible apply F1 78); exact rfl; exact EN; first | (exact fun w μc hw g => ck w μc hw g.le) | (exact fun w μc hw g => c3 w μc hw g.le)) | refine K2 61 e ?_ | (refine KV (b := by first | exact U1 0 | exact U4 hm) (c := ?_)) | refine KZ ?_ | refine NB fun b => ?_)
             all_goals exact aJ rfl rfl rfl
            ·have r := p (by rw [l]; exact iJ o)
             have e := fun (w : World) (μc : Mem) (hw : MOk μc w) (hle : MLe μ μc) => o ▸ ih (by omega) k x (deep + 1) false w μc hw (q.mono hle) (by omega) (by omega) f (hT.mono hle)
             try repeat' (first | refine KO ?_ | ((with_reducible apply F1 78); exact rfl; exact EN; first | (exact fun w μc hw g => ck w μc hw g.le) | (exact fun w μc hw g => c3 w μc hw g.le)) | refine K2 61 e ?_ | (refine KV (b := by first | exact U1 0 | exact U4 hm) (c := ?_)) | refine KZ ?_ | refine NB fun b => ?_)
             all_goals exact J2 (0 + 1) ⟨by omega, r⟩ (by omega)
           ·rw [aa] at c3
            have l : onT t 0 k true = true := by simp [onT, y, ae, aa]
            cases o : rtB k (deep + 1) true
            ·have z : rtB t deep true = false := sS fun h => lL o (by cases h with | mk _ _ _ h4 => exact l ▸ h4 0 k v)
             rw [z]
             have e := fun (w : World) (μc : Mem) (hw : MOk μc w) (hle : MLe μ μc) => o ▸ ih (by omega) k x (deep + 1) true w μc hw (q.mono hle) (by omega) (by omega) f (hT.mono hle)
             try repeat' (first | refine KO ?_ | ((with_reducible apply F1 78); exact rfl; exact EN; first | (exact fun w μc hw g => ck w μc hw g.le) | (exact fun w μc hw g => c3 w μc hw g.le)) | refine K2 61 e ?_ | (refine KV (b := by first | exact U1 0 | exact U4 hm) (c := ?_)) | refine KZ ?_ | refine NB fun b => ?_)
             all_goals exact aJ rfl rfl rfl
            ·have r := p (by rw [l]; exact iJ o)
             have e := fun (w : World) (μc : Mem) (hw : MOk μc w) (hle : MLe μ μc) => o ▸ ih (by omega) k x (deep + 1) true w μc hw (q.mono hle) (by omega) (by omega) f (hT.mono hle)
             try repeat' (first | refine KO ?_ | ((with_reducible apply F1 78); exact rfl; exact EN; first | (exact fun w μc hw g => ck w μc hw g.le) | (exact fun w μc hw g => c3 w μc hw g.le)) | refine K2 61 e ?_ | (refine KV (b := by first | exact U1 0 | exact U4 hm) (c := ?_)) | refine KZ ?_ | refine NB fun b => ?_)
             all_goals exact J2 (0 + 1) ⟨by omega, r⟩ (by omega)
       ·skip
        have l : onT t i k spine = false := by simp [onT, ak]
        cases o : rtB k (deep + 1) false
        ·have z : rtB t deep spine = false := sS fun h => lL o (by cases h with | mk _ _ _ h4 => exact l ▸ h4 i k v)
         rw [z]
         have e := fun (w : World) (μc : Mem) (hw : MOk μc w) (hle : MLe μ μc) => o ▸ ih (by omega) k x (deep + 1) false w μc hw (q.mono hle) (by omega) (by omega) f (hT.mono hle)
         try repeat' (first | refine KO ?_ | refine K2 61 e ?_ | (refine KV (b := by first | exact U1 i | exact U4 hm) (c := ?_)) | refine KZ ?_ | refine NB fun b => ?_)
         all_goals exact aJ rfl rfl rfl
        ·have r := p (by rw [l]; exact iJ o)
         have e := fun (w : World) (μc : Mem) (hw : MOk μc w) (hle : MLe μ μc) => o ▸ ih (by omega) k x (deep + 1) false w μc hw (q.mono hle) (by omega) (by omega) f (hT.mono hle)
         try repeat' (first | refine KO ?_ | refine K2 61 e ?_ | (refine KV (b := by first | exact U1 i | exact U4 hm) (c := ?_)) | refine KZ ?_ | refine NB fun b => ?_)
         all_goals exact J2 (i + 1) ⟨by omega, r⟩ (by omega)
      ·have z : rtB t deep spine = true := ZH (.mk hd ao ab fun j k hj => ai j k (by have := (List.getElem?_eq_some_iff.1 hj).1; omega) hj)
       rw [z]
       try repeat' (refine KZ ?_)
       all_goals exact aJ rfl rfl rfl
   ·have z : rtB t deep spine = false := sS fun h => by
     cases h with
     | mk h2 h3 _ _ => exact h1 ⟨h2, h3⟩
    rw [z]
    unfold Nd at h1
    try repeat' (first | ((with_reducible show GC _ _ (Code.seq (Code.region 3 _ _) _) _ _ _ _); (apply dF)) | refine KO ?_ | refine K2 76 c1 ?_ | refine K2 77 c2 ?_ | refine K2 78 c3 ?_ | refine KZ ?_ | refine NB fun b => ?_ | (refine KB ?_ ?_ <;> intro hp))
    all_goals first | exact aJ rfl rfl rfl | (exfalso; clear c1 c2 c3 c4 c5 hk aj hμ hT ap an ag ih; simp_all; omega)
end
section
open Go.RowKit Go.Vcg
def OkF (t : T) : Prop := t.op = 4 → 0 ≤ t.n ∧ t.n ≤ 255
def chk (f : Int → Bool) : Bool := (List.range 256).all fun k => f (k : Int)
theorem aNf {f : Int → Bool} (h : chk f = true) {n : Int} (h0 : 0 ≤ n) (h1 : n ≤ 255) : f n = true := by
 obtain ⟨k, rfl⟩ := kE h0
 exact eD.1 h k (List.mem_range.2 (by omega))
def tF (n m : Int) : Bool := decide (aKd n m ≠ 0)
def aH8 (n m : Int) : Bool := decide ((IntKind.i64.wrap (n.tdiv m)).tmod 2 = 1)
def aPh (n : Int) : Bool := ([1, 2, 4, 8, 16, 32, 128] : List Int).all (fun m => tF n m == aH8 n m) && ((tF n 57 == (tF n 1 || tF n 8 || tF n 16 || tF n 32)) && (tF n 50 == (tF n 2 || tF n 16 || tF n 32)))
theorem aJ8 : chk aPh = true := by decide +kernel
theorem rB {t : T} {m : Int} (h4 : t.op = 4) : fT t m = tF t.n m := by unfold fT tF; rw [decide_eq_true h4, cH]
theorem aAs {t : T} {m : Int} (h4 : t.op = 4) (h0 : 0 ≤ t.n) : fK t m = aH8 t.n m := by unfold fK aH8; rw [decide_eq_true h4, decide_eq_true h0, cH, cH]
theorem PX {n : Int} (h0 : 0 ≤ n) (h1 : n ≤ 255) : (∀ m ∈ ([1, 2, 4, 8, 16, 32, 128] : List Int), tF n m = aH8 n m) ∧ tF n 57 = (tF n 1 || tF n 8 || tF n 16 || tF n 32) ∧ tF n 50 = (tF n 2 || tF n 16 || tF n 32) := by
 have h := aNf aJ8 h0 h1
 unfold aPh at h
 rw [aS, aS, eD] at h
 exact ⟨fun m hm => eq_of_beq (h.1 m hm), eq_of_beq h.2.1, eq_of_beq h.2.2⟩
theorem lQ {t : T} (h : OkF t) {m : Int} (hm : m ∈ ([1, 2, 4, 8, 16, 32, 128] : List Int)) : fT t m = fK t m := by
 by_cases h4 : t.op = 4
 ·obtain ⟨h0, h1⟩ := h h4
  rw [rB h4, aAs h4 h0]
  exact (PX h0 h1).1 m hm
 ·unfold fT fK
  rw [decide_eq_false h4, dX, dX, dX]
theorem aO0 {t : T} (h : OkF t) : fT t 57 = (fK t 1 || fK t 8 || fK t 16 || fK t 32) := by
 rw [← lQ h (by simp), ← lQ h (by simp), ← lQ h (by simp), ← lQ h (by simp)]
 by_cases h4 : t.op = 4
 ·obtain ⟨h0, h1⟩ := h h4
  rw [rB h4, rB h4, rB h4, rB h4, rB h4]
  exact (PX h0 h1).2.1
 ·unfold fT
  rw [decide_eq_false h4]
  rfl
theorem aO1 {t : T} (h : OkF t) : fT t 50 = (fK t 2 || fK t 16 || fK t 32) := by
 rw [← lQ h (by simp), ← lQ h (by simp), ← lQ h (by simp)]
 by_cases h4 : t.op = 4
 ·obtain ⟨h0, h1⟩ := h h4
  rw [rB h4, rB h4, rB h4, rB h4]
  exact (PX h0 h1).2.2
 ·unfold fT
  rw [decide_eq_false h4]
  rfl
attribute [local irreducible] fT fK
theorem aNl {t : T} {m : Int} (h4 : ¬t.op = 4) : fK t m = false := by
 unfold fK
 rw [decide_eq_false h4, dX, dX]
theorem aHs {t : T} (h : OkF t) : fJ t = vI t := by
 unfold fJ vI
 by_cases h4 : t.op = 4
 ·rw [if_pos h4, lQ h (by simp), h4]
  simp
 ·rw [if_neg h4, aNl h4]
  cases decide (t.op = 2) <;> cases decide (t.op = 21) <;> cases decide (t.op = 23) <;> cases decide (6 ≤ t.op) <;> cases decide (t.op ≤ 19) <;> rfl
theorem CT {t : T} (h : OkF t) : bR t = kU t := by
 unfold bR kU
 by_cases h4 : t.op = 4
 ·rw [if_pos h4, if_pos h4, aO0 h]
  cases fK t 1 <;> cases fK t 8 <;> cases fK t 16 <;> cases fK t 32 <;> rfl
 ·rw [if_neg h4, if_neg h4]
attribute [local irreducible] fJ vI bR kU cW iE gU nO FU FO
theorem aP1 (t : T) : isT 83 t = (vI t) := by
 unfold isT
 (repeat rw [if_pos (by decide)])
theorem aQb (t : T) : isT 69 t = (kU t) := by
 unfold isT
 (repeat first | rw [if_pos (by decide)] | rw [if_neg (by decide)])
theorem aP0 (t : T) : isT 84 t = (cW t) := by
 unfold isT
 (repeat first | rw [if_pos (by decide)] | rw [if_neg (by decide)])
theorem aOu (t : T) : isT 116 t = (iE t) := by
 unfold isT
 (repeat first | rw [if_pos (by decide)] | rw [if_neg (by decide)])
theorem aPw (t : T) : isT 99 t = (gU t) := by
 unfold isT
 (repeat first | rw [if_pos (by decide)] | rw [if_neg (by decide)])
theorem aP8 (t : T) : isT 73 t = (decide (t.op = 2) || decide (t.op = 8) || decide (t.op = 7)) := by
 unfold isT
 (repeat first | rw [if_pos (by decide)] | rw [if_neg (by decide)])
theorem aP5 (t : T) : isT 77 t = (kU t || decide (t.op = 7)) := by
 unfold isT
 (repeat first | rw [if_pos (by decide)] | rw [if_neg (by decide)])
theorem aP6 (t : T) : isT 76 t = (cW t || CD t) := by
 unfold isT
 (repeat first | rw [if_pos (by decide)] | rw [if_neg (by decide)])
theorem aPz (t : T) : isT 89 t = (decide (t.op = 6) || decide (t.op = 7)) := by
 unfold isT
 (repeat first | rw [if_pos (by decide)] | rw [if_neg (by decide)])
theorem aQd (t : T) : isT 67 t = (decide (t.op = 20) || decide (t.op = 7)) := by
 unfold isT
 (repeat first | rw [if_pos (by decide)] | rw [if_neg (by decide)])
theorem aQa (t : T) : isT 71 t = (cW t || decide (t.op = 7)) := by
 unfold isT
 (repeat first | rw [if_pos (by decide)] | rw [if_neg (by decide)])
theorem aQf (t : T) : isT 65 t = (kU t || decide (t.op = 40) || decide (t.op = 41)) := by
 unfold isT
 (repeat first | rw [if_pos (by decide)] | rw [if_neg (by decide)])
theorem aPx (t : T) : isT 97 t = (kU t || decide (t.op = 41)) := by
 unfold isT
 (repeat first | rw [if_pos (by decide)] | rw [if_neg (by decide)])
theorem aOs (t : T) : isT 70 t = (cW t || decide (t.op = 63)) := by
 unfold isT
 (repeat rw [if_neg (by decide)])
 unfold oO
 (repeat rw [if_pos (by decide)])
theorem aP9 (t : T) : isT 72 t = (cW t || decide (t.op = 63) || decide (t.op = 40)) := by
 unfold isT
 (repeat rw [if_neg (by decide)])
 unfold oO
 (repeat first | rw [if_pos (by decide)] | rw [if_neg (by decide)])
theorem aOx (t : T) : isT 107 t = (decide (t.op = 31) || decide (t.op = 30)) := by
 unfold isT
 (repeat rw [if_neg (by decide)])
 unfold oO
 (repeat first | rw [if_pos (by decide)] | rw [if_neg (by decide)])
theorem aOt (t : T) : isT 119 t = (nO t) := by
 unfold isT
 (repeat rw [if_neg (by decide)])
 unfold oO
 (repeat first | rw [if_pos (by decide)] | rw [if_neg (by decide)])
theorem aOy (t : T) : isT 103 t = (fK t 16 && FU t 0) := by
 unfold isT
 (repeat rw [if_neg (by decide)])
 unfold oO
 (repeat first | rw [if_pos (by decide)] | rw [if_neg (by decide)])
theorem aOv (t : T) : isT 115 t = (fK t 32 && FO t) := by
 unfold isT
 (repeat rw [if_neg (by decide)])
 unfold oO
 (repeat first | rw [if_pos (by decide)] | rw [if_neg (by decide)])
theorem aOw (t : T) : isT 109 t = (fK t 8) := by
 unfold isT
 (repeat rw [if_neg (by decide)])
 unfold oO
 (repeat first | rw [if_pos (by decide)] | rw [if_neg (by decide)])
theorem aQc (t : T) : isT 68 t = decide (t.op = 3) := by
 unfold isT
 (repeat rw [if_neg (by decide)])
 unfold oO
 (repeat rw [if_neg (by decide)])
 rfl
theorem aP4 (t : T) : isT 80 t = decide (t.op = 5) := by
 unfold isT
 (repeat rw [if_neg (by decide)])
 unfold oO
 (repeat rw [if_neg (by decide)])
 rfl
theorem aQe (t : T) : isT 66 t = decide (t.op = 6) := by
 unfold isT
 (repeat rw [if_neg (by decide)])
 unfold oO
 (repeat rw [if_neg (by decide)])
 rfl
theorem aP7 (t : T) : isT 75 t = decide (t.op = 22) := by
 unfold isT
 (repeat rw [if_neg (by decide)])
 unfold oO
 (repeat rw [if_neg (by decide)])
 rfl
theorem aP2 (t : T) : isT 82 t = decide (t.op = 39) := by
 unfold isT
 (repeat rw [if_neg (by decide)])
 unfold oO
 (repeat rw [if_neg (by decide)])
 rfl
theorem aP3 (t : T) : isT 81 t = decide (t.op = 62) := by
 unfold isT
 (repeat rw [if_neg (by decide)])
 unfold oO
 (repeat rw [if_neg (by decide)])
 rfl
theorem aPy (t : T) : isT 90 t = decide (t.op = 64) := by
 unfold isT
 (repeat rw [if_neg (by decide)])
 unfold oO
 (repeat rw [if_neg (by decide)])
 rfl
theorem FT (a : Int) (t : T) : ofT [a] t = decide (t.op = a) := by unfold ofT; simp
theorem aIc (a b : Int) (t : T) : ofT [a, b] t = (decide (t.op = a) || decide (t.op = b)) := by unfold ofT; simp
theorem aPs (a b c : Int) (t : T) : ofT [a, b, c] t = (decide (t.op = a) || (decide (t.op = b) || decide (t.op = c))) := by unfold ofT; simp
theorem ei2 (p q : T → Bool) (t : T) : eiT [p, q] t = (p t || q t) := by unfold eiT; simp
def CE (p : T → Bool) (c : Int) : Prop := ∀ t : T, OkF t → p t = isT c t
theorem ceS : CE fJ 83 := fun t h => by rw [aP1, aHs h]
theorem ceE : CE bR 69 := fun t h => by rw [aQb, CT h]
theorem ceT : CE cW 84 := fun t _ => by rw [aP0]
theorem cet : CE iE 116 := fun t _ => by rw [aOu]
theorem ceI : CE (ofT [2, 8, 7]) 73 := fun t _ => by rw [aP8, aPs, Bool.or_assoc]
theorem ceM : CE (eiT [bR, ofT [7]]) 77 := fun t h => by rw [aP5, ei2, FT, CT h]
theorem ceL : CE rX 76 := fun t _ => by rw [aP6]; unfold rX CD; rw [Bool.and_assoc]
theorem ceY : CE (ofT [6, 7]) 89 := fun t _ => by rw [aPz, aIc]
theorem ceC : CE (ofT [20, 7]) 67 := fun t _ => by rw [aQd, aIc]
theorem ceG : CE (eiT [cW, ofT [7]]) 71 := fun t _ => by rw [aQa, ei2, FT]
theorem ceA : CE (eiT [bR, ofT [40, 41]]) 65 := fun t h => by rw [aQf, ei2, aIc, CT h, Bool.or_assoc]
theorem cea : CE FM 97 := fun t h => by unfold FM; rw [aPx, ei2, FT, CT h]
theorem ceF : CE tR 70 := fun t _ => by unfold tR; rw [aOs, ei2, FT]
theorem ceH : CE (eiT [tR, ofT [40]]) 72 := fun t h => by rw [aP9, ei2, FT, ceF t h, aOs]
theorem cek : CE (ofT [31, 30]) 107 := fun t _ => by rw [aOx, aIc]
theorem cew : CE nO 119 := fun t _ => by rw [aOt]
theorem ceg : CE CK 103 := fun t h => by unfold CK; rw [aOy, lQ h (by simp)]
theorem ces : CE zJ 115 := fun t h => by unfold zJ; rw [aOv, lQ h (by simp)]
theorem cem : CE zU 109 := fun t h => by unfold zU; rw [aOw, lQ h (by simp)]
theorem ceD : CE (ofT [3]) 68 := fun t _ => by rw [aQc, FT]
theorem ceP : CE (ofT [5]) 80 := fun t _ => by rw [aP4, FT]
theorem ceB : CE (ofT [6]) 66 := fun t _ => by rw [aQe, FT]
theorem ceK : CE (ofT [22]) 75 := fun t _ => by rw [aP7, FT]
theorem ceR : CE (ofT [39]) 82 := fun t _ => by rw [aP2, FT]
theorem ceQ : CE (ofT [62]) 81 := fun t _ => by rw [aP3, FT]
theorem ceZ : CE (ofT [64]) 90 := fun t _ => by rw [aPy, FT]
attribute [local irreducible] isT
theorem aPf (p : T → Bool) : ∀ (l : List T) (n : Nat), (mW p 2 n l).2 = l.dropWhile p
 | [], _ => rfl
 | k :: r, n => by
   cases h : p k
   ·rw [mW, if_neg (by simp [h]), iD, if_neg (by simp [h])]
   ·rw [mW, if_pos ⟨h, .inr rfl⟩, iD, if_pos h]
    exact aPf p r _
theorem aAo (p : T → Bool) (m : Int) (hm : m ≠ 2) (l : List T) : mW p m 1 l = (1, l) := by
 cases l with
 | nil => rfl
 | cons k r => rw [mW, if_neg (by simp [hm])]
theorem lN (l : List T) : dK [] l = decide (l.length = 0) := rfl
theorem XK (p : T → Bool) (r : List ((T → Bool) × Int)) (l : List T) : dK ((p, 2) :: r) l = dK r (l.dropWhile p) := by rw [dK, if_neg (by simp), aPf]
theorem PI (p : T → Bool) (r : List ((T → Bool) × Int)) (l : List T) : dK ((p, 1) :: r) l = dK r (match l with | k :: r => if p k = true then r else k :: r | [] => []) := by
 rw [dK, if_neg (by simp)]
 cases l with
 | nil => rfl
 | cons k t =>
   cases h : p k
   ·rw [mW, if_neg (by simp [h])]; simp [h]
   ·rw [mW, if_pos ⟨h, .inl rfl⟩, aAo p 1 (by decide)]; simp [h]
theorem qQ (p : T → Bool) (r : List ((T → Bool) × Int)) (l : List T) : dK ((p, 0) :: r) l = match l with | k :: t => if p k = true then dK r t else false | [] => false := by
 rw [dK]
 cases l with
 | nil => simp [mW]
 | cons k t =>
   cases h : p k
   ·have e : mW p 0 0 (k :: t) = (0, k :: t) := by rw [mW, if_neg (by simp [h])]
    rw [e]; simp [h]
   ·have e : mW p 0 0 (k :: t) = (1, t) := by rw [mW, if_pos ⟨h, .inl rfl⟩, aAo p 0 (by decide)]
    rw [e]; simp [h]
def RF (s : List UInt8) (rows : List ((T → Bool) × Int)) : Prop := ∀ l, oN s l = dK rows l
theorem eO : RF [] [] := fun l => by rw [HP, lN]
theorem oU {s : List UInt8} {rows : List ((T → Bool) × Int)} (c : UInt8) (h : RF s rows) : RF (c :: 42 :: s) ((isT (c.toNat : Int), 2) :: rows) := fun l => by rw [LV, XK, h]
theorem VX {s : List UInt8} {rows : List ((T → Bool) × Int)} (c : UInt8) (h : RF s rows) : RF (c :: 63 :: s) ((isT (c.toNat : Int), 1) :: rows) := fun l => by
 rw [aEa, PI, h]
 cases l <;> rfl
theorem gW {rows : List ((T → Bool) × Int)} (c : UInt8) (h : RF [] rows) : RF [c] ((isT (c.toNat : Int), 0) :: rows) := fun l => by
 rw [aEd, qQ]
 cases l with
 | nil => rfl
 | cons k t => simp only [h t]
theorem mK {d : UInt8} {s : List UInt8} {rows : List ((T → Bool) × Int)} (c : UInt8) (h1 : d ≠ 42) (h2 : d ≠ 63) (h : RF (d :: s) rows) : RF (c :: d :: s) ((isT (c.toNat : Int), 0) :: rows) := fun l => by
 rw [aEc h1 h2, qQ]
 cases l with
 | nil => rfl
 | cons k t => simp only [h t]
inductive RE : List ((T → Bool) × Int) → List ((T → Bool) × Int) → Prop
 | nil : RE [] []
 | cons {p q : T → Bool} {m : Int} {r r' : List ((T → Bool) × Int)} (h : ∀ t, OkF t → p t = q t) (hr : RE r r') : RE ((p, m) :: r) ((q, m) :: r')
theorem aAn (p : T → Bool) (m : Int) : ∀ (l : List T) (n : Nat) (k : T), k ∈ (mW p m n l).2 → k ∈ l
 | [], _, _, h => h
 | x :: r, n, k, h => by
   rw [mW] at h
   split at h
   ·exact cK (aAn p m r _ k h)
   ·exact h
theorem NF {p q : T → Bool} (m : Int) : ∀ (l : List T) (n : Nat), (∀ k ∈ l, p k = q k) → mW p m n l = mW q m n l
 | [], _, _ => rfl
 | x :: r, n, h => by
   rw [mW, mW, h x (.head _), NF m r _ fun k hk => h k (.tail _ hk)]
theorem cU {r r' : List ((T → Bool) × Int)} (h : RE r r') : ∀ (l : List T), (∀ k ∈ l, OkF k) → dK r l = dK r' l := by
 induction h with
 | nil => exact fun _ _ => rfl
 | cons h hr ih =>
   rename_i p q m rr rr'
   intro l hl
   have e := NF m l 0 fun k hk => h k (hl k hk)
   rw [dK, dK, e, ih _ fun k hk => hl k (aAn q m l 0 k hk)]
theorem aE3 (l : List T) : decide (l.length = 0) = l.isEmpty := by cases l <;> simp
theorem aHa (p : T → Bool) : ∀ l : List T, (l.dropWhile p).isEmpty = l.all p
 | [] => rfl
 | k :: r => by
   rw [iD, kT]
   cases h : p k
   ·simp
   ·simp only [if_pos, cH]
    exact aHa p r
theorem aGb (p : T → Bool) (l : List T) : iS p 0 (-1) l = dK [(p, 2)] l := by
 rw [XK, lN, aE3, aHa]
 unfold iS
 simp
theorem aPd (p : T → Bool) (l : List T) : iS p 1 (-1) l = dK [(p, 0), (p, 2)] l := by
 rw [qQ]
 cases l with
 | nil => rfl
 | cons k r =>
   simp only [← aGb]
   unfold iS
   cases h : p k <;> simp [h]
   try omega
theorem aQl (p : T → Bool) (l : List T) : iS p 2 (-1) l = dK [(p, 0), (p, 0), (p, 2)] l := by
 rw [qQ]
 cases l with
 | nil => rfl
 | cons k r =>
   simp only [← aPd]
   unfold iS
   cases h : p k <;> simp [h]
   rw [show decide (2 ≤ (r.length : Int) + 1) = decide (1 ≤ (r.length : Int)) from decide_eq_decide.2 (by omega)]
theorem aGa (p : T → Bool) (l : List T) : iS p 1 1 l = dK [(p, 0)] l := by
 rw [qQ]
 cases l with
 | nil => rfl
 | cons k r =>
   simp only [lN]
   unfold iS
   cases r with
   | nil => cases h : p k <;> simp [h]
   | cons k2 r =>
     cases h : p k <;> simp [h]
     try omega
theorem aK3 (p : T → Bool) (l : List T) : iS p 2 2 l = dK [(p, 0), (p, 0)] l := by
 rw [qQ]
 cases l with
 | nil => rfl
 | cons k r =>
   simp only [← aGa]
   unfold iS
   cases h : p k <;> simp [h]
   rw [show decide (2 ≤ (r.length : Int) + 1) = decide (1 ≤ (r.length : Int)) from decide_eq_decide.2 (by omega), show decide ((r.length : Int) + 1 ≤ 2) = decide ((r.length : Int) ≤ 1) from decide_eq_decide.2 (by omega)]
theorem aPc (p : T → Bool) (l : List T) : iS p 3 3 l = dK [(p, 0), (p, 0), (p, 0)] l := by
 rw [qQ]
 cases l with
 | nil => rfl
 | cons k r =>
   simp only [← aK3]
   unfold iS
   cases h : p k <;> simp [h]
   rw [show decide (3 ≤ (r.length : Int) + 1) = decide (2 ≤ (r.length : Int)) from decide_eq_decide.2 (by omega), show decide ((r.length : Int) + 1 ≤ 3) = decide ((r.length : Int) ≤ 2) from decide_eq_decide.2 (by omega)]
theorem aK4 (p : T → Bool) (l : List T) : iS p 0 1 l = dK [(p, 1)] l := by
 rw [PI]
 cases l with
 | nil => rfl
 | cons k r =>
   unfold iS
   cases r with
   | nil => cases h : p k <;> simp [h, lN]
   | cons k2 r =>
     cases h : p k <;> simp [h, lN]
     try omega
noncomputable def pN (t : T) : Bool := if t.op = 36 then mJ kU t.kids else decide (bL t ≠ ⟨#[33]⟩) && oN (bl (bL t)) t.kids
noncomputable def tA (t : T) : Bool := (if t.op = 19 then (match t.kids with | [_, y, z] => decide (y.op ≠ 7) || decide (z.op ≠ 7) | _ => false) else true) && (if t.op = 53 then (match t.kids with | [k] => chB k | _ => false) else true)
noncomputable def dS (t : T) : Bool := pN t && tA t
theorem BB {t : T} (h1 : t.op ≠ 19) (h2 : t.op ≠ 53) : tA t = true := by unfold tA; rw [if_neg h1, if_neg h2]; rfl
theorem eZ {t : T} {s : ByteArray} (h1 : t.op ≠ 19) (h2 : t.op ≠ 53) (h3 : t.op ≠ 36) (hs : bL t = s) (hne : s ≠ ⟨#[33]⟩) : dS t = oN (bl s) t.kids := by
 unfold dS pN
 rw [BB h1 h2, if_neg h3, hs, decide_eq_true hne, cH, jL]
attribute [local irreducible] dK oN iS mJ chB
theorem aIo (t : T) (a : t.op = 1 ∨ t.op = 6) (hk : ∀ k ∈ t.kids, OkF k) : bC t = dS t := by
 have e1 : bC t = iS fJ 0 (-1) t.kids := by
  unfold bC
  rw [if_pos (by omega)]
  unfold stB
  (repeat rw [if_pos (by omega)])
 have e2 : bL t = ⟨#[83, 42]⟩ := by
  unfold bL
  (repeat rw [if_pos (by omega)])
 rw [e1, eZ (by omega) (by omega) (by omega) e2 (by decide), show bl ⟨#[83, 42]⟩ = [83, 42] from rfl, (oU 83 eO)]
 rw [aGb]
 exact cU (.cons ceS .nil) _ hk
theorem aMk (t : T) (a : t.op = 2) (hk : ∀ k ∈ t.kids, OkF k) : bC t = dS t := by
 have e1 : bC t = iS (ofT [3]) 1 (-1) t.kids := by
  unfold bC
  rw [if_pos (by omega)]
  unfold stB
  (repeat first | rw [if_pos (by omega)] | rw [if_neg (by omega)])
 have e2 : bL t = ⟨#[68, 68, 42]⟩ := by
  unfold bL
  (repeat first | rw [if_pos (by omega)] | rw [if_neg (by omega)])
 rw [e1, eZ (by omega) (by omega) (by omega) e2 (by decide), show bl ⟨#[68, 68, 42]⟩ = [68, 68, 42] from rfl, (mK 68 (by decide) (by decide) (oU 68 eO))]
 rw [aPd]
 exact cU (.cons ceD (.cons ceD .nil)) _ hk
theorem aIs (t : T) (a : t.op = 3) (hk : ∀ k ∈ t.kids, OkF k) : bC t = dS t := by
 have e1 : bC t = dK [(cW, 0), (bR, 1)] t.kids := by
  unfold bC
  rw [if_pos (by omega)]
  unfold stB
  (repeat first | rw [if_pos (by omega)] | rw [if_neg (by omega)])
 have e2 : bL t = ⟨#[84, 69, 63]⟩ := by
  unfold bL
  (repeat first | rw [if_pos (by omega)] | rw [if_neg (by omega)])
 rw [e1, eZ (by omega) (by omega) (by omega) e2 (by decide), show bl ⟨#[84, 69, 63]⟩ = [84, 69, 63] from rfl, (mK 84 (by decide) (by decide) (VX 69 eO))]
 exact cU (.cons ceT (.cons ceE .nil)) _ hk
theorem aCh (t : T) (a : t.op = 5) (hk : ∀ k ∈ t.kids, OkF k) : bC t = dS t := by
 have e1 : bC t = dK [(eiT [cW, ofT [63]], 2), (ofT [64], 1)] t.kids := by
  unfold bC
  rw [if_pos (by omega)]
  unfold stB
  (repeat first | rw [if_pos (by omega)] | rw [if_neg (by omega)])
 have e2 : bL t = ⟨#[70, 42, 90, 63]⟩ := by
  unfold bL
  (repeat first | rw [if_pos (by omega)] | rw [if_neg (by omega)])
 rw [e1, eZ (by omega) (by omega) (by omega) e2 (by decide), show bl ⟨#[70, 42, 90, 63]⟩ = [70, 42, 90, 63] from rfl, (oU 70 (VX 90 eO))]
 exact cU (.cons ceF (.cons ceZ .nil)) _ hk
theorem aIp (t : T) (a : t.op = 7 ∨ t.op = 15 ∨ t.op = 16) (hk : ∀ k ∈ t.kids, OkF k) : bC t = dS t := by
 have e1 : bC t = decide (t.kids.length = 0) := by
  unfold bC
  rw [if_pos (by omega)]
  unfold stB
  (repeat first | rw [if_pos (by omega)] | rw [if_neg (by omega)])
 have e2 : bL t = ⟨#[]⟩ := by
  unfold bL
  (repeat first | rw [if_pos (by omega)] | rw [if_neg (by omega)])
 rw [e1, eZ (by omega) (by omega) (by omega) e2 (by decide), show bl ⟨#[]⟩ = [] from rfl, eO]
 rw [lN]
theorem aIr (t : T) (a : t.op = 8 ∨ t.op = 18) (hk : ∀ k ∈ t.kids, OkF k) : bC t = dS t := by
 have e1 : bC t = dK (eI [bR]) t.kids := by
  unfold bC
  rw [if_pos (by omega)]
  unfold stB
  (repeat first | rw [if_pos (by omega)] | rw [if_neg (by omega)])
 have e2 : bL t = ⟨#[69]⟩ := by
  unfold bL
  (repeat first | rw [if_pos (by omega)] | rw [if_neg (by omega)])
 rw [e1, eZ (by omega) (by omega) (by omega) e2 (by decide), show bl ⟨#[69]⟩ = [69] from rfl, (gW 69 eO)]
 exact cU (.cons ceE .nil) _ hk
theorem aOq (t : T) (a : t.op = 9) (hk : ∀ k ∈ t.kids, OkF k) : bC t = dS t := by
 have e1 : bC t = dK [(bR, 0), (fJ, 0), (fJ, 1)] t.kids := by
  unfold bC
  rw [if_pos (by omega)]
  unfold stB
  (repeat first | rw [if_pos (by omega)] | rw [if_neg (by omega)])
 have e2 : bL t = ⟨#[69, 83, 83, 63]⟩ := by
  unfold bL
  (repeat first | rw [if_pos (by omega)] | rw [if_neg (by omega)])
 rw [e1, eZ (by omega) (by omega) (by omega) e2 (by decide), show bl ⟨#[69, 83, 83, 63]⟩ = [69, 83, 83, 63] from rfl, (mK 69 (by decide) (by decide) (mK 83 (by decide) (by decide) (VX 83 eO)))]
 exact cU (.cons ceE (.cons ceS (.cons ceS .nil))) _ hk
theorem aMp (t : T) (a : t.op = 10) (hk : ∀ k ∈ t.kids, OkF k) : bC t = dS t := by
 have e1 : bC t = dK (eI [ofT [2, 8, 7], eiT [bR, ofT [7]], eiT [bR, ofT [7]], fJ]) t.kids := by
  unfold bC
  rw [if_pos (by omega)]
  unfold stB
  (repeat first | rw [if_pos (by omega)] | rw [if_neg (by omega)])
 have e2 : bL t = ⟨#[73, 77, 77, 83]⟩ := by
  unfold bL
  (repeat first | rw [if_pos (by omega)] | rw [if_neg (by omega)])
 rw [e1, eZ (by omega) (by omega) (by omega) e2 (by decide), show bl ⟨#[73, 77, 77, 83]⟩ = [73, 77, 77, 83] from rfl, (mK 73 (by decide) (by decide) (mK 77 (by decide) (by decide) (mK 77 (by decide) (by decide) (gW 83 eO))))]
 exact cU (.cons ceI (.cons ceM (.cons ceM (.cons ceS .nil)))) _ hk
theorem aFb (t : T) (a : t.op = 11 ∨ t.op = 12) (hk : ∀ k ∈ t.kids, OkF k) : bC t = dS t := by
 have e1 : bC t = dK (eI [rX, bR, fJ]) t.kids := by
  unfold bC
  rw [if_pos (by omega)]
  unfold stB
  (repeat first | rw [if_pos (by omega)] | rw [if_neg (by omega)])
 have e2 : bL t = ⟨#[76, 69, 83]⟩ := by
  unfold bL
  (repeat first | rw [if_pos (by omega)] | rw [if_neg (by omega)])
 rw [e1, eZ (by omega) (by omega) (by omega) e2 (by decide), show bl ⟨#[76, 69, 83]⟩ = [76, 69, 83] from rfl, (mK 76 (by decide) (by decide) (mK 69 (by decide) (by decide) (gW 83 eO)))]
 exact cU (.cons ceL (.cons ceE (.cons ceS .nil))) _ hk
theorem aE8 (t : T) (a : t.op = 13) (hk : ∀ k ∈ t.kids, OkF k) : bC t = dS t := by
 have e1 : bC t = dK (eI [bR, fJ]) t.kids := by
  unfold bC
  rw [if_pos (by omega)]
  unfold stB
  (repeat first | rw [if_pos (by omega)] | rw [if_neg (by omega)])
 have e2 : bL t = ⟨#[69, 83]⟩ := by
  unfold bL
  (repeat first | rw [if_pos (by omega)] | rw [if_neg (by omega)])
 rw [e1, eZ (by omega) (by omega) (by omega) e2 (by decide), show bl ⟨#[69, 83]⟩ = [69, 83] from rfl, (mK 69 (by decide) (by decide) (gW 83 eO))]
 exact cU (.cons ceE (.cons ceS .nil)) _ hk
theorem aOr (t : T) (a : t.op = 14) (hk : ∀ k ∈ t.kids, OkF k) : bC t = dS t := by
 have e1 : bC t = dK (eI [fJ, bR]) t.kids := by
  unfold bC
  rw [if_pos (by omega)]
  unfold stB
  (repeat first | rw [if_pos (by omega)] | rw [if_neg (by omega)])
 have e2 : bL t = ⟨#[83, 69]⟩ := by
  unfold bL
  (repeat first | rw [if_pos (by omega)] | rw [if_neg (by omega)])
 rw [e1, eZ (by omega) (by omega) (by omega) e2 (by decide), show bl ⟨#[83, 69]⟩ = [83, 69] from rfl, (mK 83 (by decide) (by decide) (gW 69 eO))]
 exact cU (.cons ceS (.cons ceE .nil)) _ hk
theorem aMn (t : T) (a : t.op = 17) (hk : ∀ k ∈ t.kids, OkF k) : bC t = dS t := by
 have e1 : bC t = iS bR 0 1 t.kids := by
  unfold bC
  rw [if_pos (by omega)]
  unfold stB
  (repeat first | rw [if_pos (by omega)] | rw [if_neg (by omega)])
 have e2 : bL t = ⟨#[69, 63]⟩ := by
  unfold bL
  (repeat first | rw [if_pos (by omega)] | rw [if_neg (by omega)])
 rw [e1, eZ (by omega) (by omega) (by omega) e2 (by decide), show bl ⟨#[69, 63]⟩ = [69, 63] from rfl, (VX 69 eO)]
 rw [aK4]
 exact cU (.cons ceE .nil) _ hk
theorem aFc (t : T) (a : t.op = 20) (hk : ∀ k ∈ t.kids, OkF k) : bC t = dS t := by
 have e1 : bC t = dK (eI [eiT [cW, ofT [7]], ofT [6]]) t.kids := by
  unfold bC
  rw [if_pos (by omega)]
  unfold stB
  (repeat first | rw [if_pos (by omega)] | rw [if_neg (by omega)])
 have e2 : bL t = ⟨#[71, 66]⟩ := by
  unfold bL
  (repeat first | rw [if_pos (by omega)] | rw [if_neg (by omega)])
 rw [e1, eZ (by omega) (by omega) (by omega) e2 (by decide), show bl ⟨#[71, 66]⟩ = [71, 66] from rfl, (mK 71 (by decide) (by decide) (gW 66 eO))]
 exact cU (.cons ceG (.cons ceB .nil)) _ hk
theorem aB7 (t : T) (a : t.op = 21) (hk : ∀ k ∈ t.kids, OkF k) : bC t = dS t := by
 have e1 : bC t = dK [(bR, 0), (ofT [22], 2)] t.kids := by
  unfold bC
  rw [if_pos (by omega)]
  unfold stB
  (repeat first | rw [if_pos (by omega)] | rw [if_neg (by omega)])
 have e2 : bL t = ⟨#[69, 75, 42]⟩ := by
  unfold bL
  (repeat rw [if_neg (by omega)])
  unfold jD
  (repeat rw [if_pos (by omega)])
 rw [e1, eZ (by omega) (by omega) (by omega) e2 (by decide), show bl ⟨#[69, 75, 42]⟩ = [69, 75, 42] from rfl, (mK 69 (by decide) (by decide) (oU 75 eO))]
 exact cU (.cons ceE (.cons ceK .nil)) _ hk
theorem aFe (t : T) (a : t.op = 22) (hn : t.n = 1) (hk : ∀ k ∈ t.kids, OkF k) : bC t = dS t := by
 have e1 : bC t = iS fJ 0 (-1) t.kids := by
  unfold bC
  rw [if_pos (by omega)]
  unfold stB
  (repeat first | rw [if_pos (by omega)] | rw [if_neg (by omega)])
 have e2 : bL t = ⟨#[83, 42]⟩ := by
  unfold bL
  (repeat rw [if_neg (by omega)])
  unfold jD
  (repeat first | rw [if_pos (by omega)] | rw [if_neg (by omega)])
 rw [e1, eZ (by omega) (by omega) (by omega) e2 (by decide), show bl ⟨#[83, 42]⟩ = [83, 42] from rfl, (oU 83 eO)]
 rw [aGb]
 exact cU (.cons ceS .nil) _ hk
theorem aFd (t : T) (a : t.op = 22) (hn : t.n ≠ 1) (hk : ∀ k ∈ t.kids, OkF k) : bC t = dS t := by
 have e1 : bC t = dK [(bR, 0), (fJ, 2)] t.kids := by
  unfold bC
  rw [if_pos (by omega)]
  unfold stB
  (repeat first | rw [if_pos (by omega)] | rw [if_neg (by omega)])
 have e2 : bL t = ⟨#[69, 83, 42]⟩ := by
  unfold bL
  (repeat rw [if_neg (by omega)])
  unfold jD
  (repeat first | rw [if_pos (by omega)] | rw [if_neg (by omega)])
 rw [e1, eZ (by omega) (by omega) (by omega) e2 (by decide), show bl ⟨#[69, 83, 42]⟩ = [69, 83, 42] from rfl, (mK 69 (by decide) (by decide) (oU 83 eO))]
 exact cU (.cons ceE (.cons ceS .nil)) _ hk
theorem aFa (t : T) (a : t.op = 23) (hk : ∀ k ∈ t.kids, OkF k) : bC t = dS t := by
 have e1 : bC t = dK (eI [fJ]) t.kids := by
  unfold bC
  rw [if_pos (by omega)]
  unfold stB
  (repeat rw [if_neg (by omega)])
 have e2 : bL t = ⟨#[83]⟩ := by
  unfold bL
  (repeat rw [if_neg (by omega)])
  unfold jD
  (repeat first | rw [if_pos (by omega)] | rw [if_neg (by omega)])
 rw [e1, eZ (by omega) (by omega) (by omega) e2 (by decide), show bl ⟨#[83]⟩ = [83] from rfl, (gW 83 eO)]
 exact cU (.cons ceS .nil) _ hk
theorem aMo (t : T) (a : t.op = 30 ∨ t.op = 31 ∨ t.op = 32 ∨ t.op = 33 ∨ t.op = 34 ∨ t.op = 35 ∨ t.op = 40) (hk : ∀ k ∈ t.kids, OkF k) : bC t = dS t := by
 have e1 : bC t = decide (t.kids.length = 0) := by
  unfold bC
  rw [if_neg (by omega)]
  unfold exB
  (repeat rw [if_pos (by omega)])
 have e2 : bL t = ⟨#[]⟩ := by
  unfold bL
  (repeat first | rw [if_pos (by omega)] | rw [if_neg (by omega)])
 rw [e1, eZ (by omega) (by omega) (by omega) e2 (by decide), show bl ⟨#[]⟩ = [] from rfl, eO]
 rw [lN]
theorem aFf (t : T) (a : t.op = 37) (hk : ∀ k ∈ t.kids, OkF k) : bC t = dS t := by
 have e1 : bC t = iS (eiT [bR, ofT [40, 41]]) 0 (-1) t.kids := by
  unfold bC
  rw [if_neg (by omega)]
  unfold exB
  (repeat first | rw [if_pos (by omega)] | rw [if_neg (by omega)])
 have e2 : bL t = ⟨#[65, 42]⟩ := by
  unfold bL
  (repeat rw [if_neg (by omega)])
  unfold jD
  (repeat first | rw [if_pos (by omega)] | rw [if_neg (by omega)])
 rw [e1, eZ (by omega) (by omega) (by omega) e2 (by decide), show bl ⟨#[65, 42]⟩ = [65, 42] from rfl, (oU 65 eO)]
 rw [aGb]
 exact cU (.cons ceA .nil) _ hk
theorem aCj (t : T) (a : t.op = 38) (hk : ∀ k ∈ t.kids, OkF k) : bC t = dS t := by
 have e1 : bC t = iS (ofT [39]) 0 (-1) t.kids := by
  unfold bC
  rw [if_neg (by omega)]
  unfold exB
  (repeat first | rw [if_pos (by omega)] | rw [if_neg (by omega)])
 have e2 : bL t = ⟨#[82, 42]⟩ := by
  unfold bL
  (repeat rw [if_neg (by omega)])
  unfold jD
  (repeat first | rw [if_pos (by omega)] | rw [if_neg (by omega)])
 rw [e1, eZ (by omega) (by omega) (by omega) e2 (by decide), show bl ⟨#[82, 42]⟩ = [82, 42] from rfl, (oU 82 eO)]
 rw [aGb]
 exact cU (.cons ceR .nil) _ hk
theorem aB8 (t : T) (a : t.op = 41 ∨ t.op = 42) (hk : ∀ k ∈ t.kids, OkF k) : bC t = dS t := by
 have e1 : bC t = dK (eI [bR]) t.kids := by
  unfold bC
  rw [if_neg (by omega)]
  unfold exB
  (repeat first | rw [if_pos (by omega)] | rw [if_neg (by omega)])
 have e2 : bL t = ⟨#[69]⟩ := by
  unfold bL
  (repeat first | rw [if_pos (by omega)] | rw [if_neg (by omega)])
 rw [e1, eZ (by omega) (by omega) (by omega) e2 (by decide), show bl ⟨#[69]⟩ = [69] from rfl, (gW 69 eO)]
 exact cU (.cons ceE .nil) _ hk
theorem aB6 (t : T) (a : t.op = 43) (hk : ∀ k ∈ t.kids, OkF k) : bC t = dS t := by
 have e1 : bC t = dK (eI [iE]) t.kids := by
  unfold bC
  rw [if_neg (by omega)]
  unfold exB
  (repeat first | rw [if_pos (by omega)] | rw [if_neg (by omega)])
 have e2 : bL t = ⟨#[116]⟩ := by
  unfold bL
  (repeat rw [if_neg (by omega)])
  unfold jD
  (repeat first | rw [if_pos (by omega)] | rw [if_neg (by omega)])
 rw [e1, eZ (by omega) (by omega) (by omega) e2 (by decide), show bl ⟨#[116]⟩ = [116] from rfl, (gW 116 eO)]
 exact cU (.cons cet .nil) _ hk
theorem aMr (t : T) (a : t.op = 44 ∨ t.op = 45 ∨ t.op = 52) (hk : ∀ k ∈ t.kids, OkF k) : bC t = dS t := by
 have e1 : bC t = iS bR 2 2 t.kids := by
  unfold bC
  rw [if_neg (by omega)]
  unfold exB
  (repeat first | rw [if_pos (by omega)] | rw [if_neg (by omega)])
 have e2 : bL t = ⟨#[69, 69]⟩ := by
  unfold bL
  (repeat rw [if_neg (by omega)])
  unfold jD
  (repeat first | rw [if_pos (by omega)] | rw [if_neg (by omega)])
 rw [e1, eZ (by omega) (by omega) (by omega) e2 (by decide), show bl ⟨#[69, 69]⟩ = [69, 69] from rfl, (mK 69 (by decide) (by decide) (gW 69 eO))]
 rw [aK3]
 exact cU (.cons ceE (.cons ceE .nil)) _ hk
theorem aIw (t : T) (a : t.op = 46) (hs : t.s = ⟨#[61]⟩) (hk : ∀ k ∈ t.kids, OkF k) : bC t = dS t := by
 have e1 : bC t = dK (eI [cW, bR]) t.kids := by
  unfold bC
  rw [if_neg (by omega)]
  unfold exB
  (repeat first | rw [if_pos (by omega)] | rw [if_neg (by omega)])
  (try rw [if_pos hs])
 have e2 : bL t = ⟨#[84, 69]⟩ := by
  unfold bL
  (repeat rw [if_neg (by omega)])
  unfold jD
  (repeat first | rw [if_pos (by omega)] | rw [if_neg (by omega)])
  (try rw [if_pos hs])
 rw [e1, eZ (by omega) (by omega) (by omega) e2 (by decide), show bl ⟨#[84, 69]⟩ = [84, 69] from rfl, (mK 84 (by decide) (by decide) (gW 69 eO))]
 exact cU (.cons ceT (.cons ceE .nil)) _ hk
theorem aIv (t : T) (a : t.op = 46) (hs : ¬t.s = ⟨#[61]⟩) (hk : ∀ k ∈ t.kids, OkF k) : bC t = dS t := by
 have e1 : bC t = dK (eI [iE, bR]) t.kids := by
  unfold bC
  rw [if_neg (by omega)]
  unfold exB
  (repeat first | rw [if_pos (by omega)] | rw [if_neg (by omega)])
  (try rw [if_neg hs])
 have e2 : bL t = ⟨#[116, 69]⟩ := by
  unfold bL
  (repeat rw [if_neg (by omega)])
  unfold jD
  (repeat first | rw [if_pos (by omega)] | rw [if_neg (by omega)])
  (try rw [if_neg hs])
 rw [e1, eZ (by omega) (by omega) (by omega) e2 (by decide), show bl ⟨#[116, 69]⟩ = [116, 69] from rfl, (mK 116 (by decide) (by decide) (gW 69 eO))]
 exact cU (.cons cet (.cons ceE .nil)) _ hk
theorem aIt (t : T) (a : t.op = 47) (hk : ∀ k ∈ t.kids, OkF k) : bC t = dS t := by
 have e1 : bC t = iS bR 3 3 t.kids := by
  unfold bC
  rw [if_neg (by omega)]
  unfold exB
  (repeat first | rw [if_pos (by omega)] | rw [if_neg (by omega)])
 have e2 : bL t = ⟨#[69, 69, 69]⟩ := by
  unfold bL
  (repeat rw [if_neg (by omega)])
  unfold jD
  (repeat first | rw [if_pos (by omega)] | rw [if_neg (by omega)])
 rw [e1, eZ (by omega) (by omega) (by omega) e2 (by decide), show bl ⟨#[69, 69, 69]⟩ = [69, 69, 69] from rfl, (mK 69 (by decide) (by decide) (mK 69 (by decide) (by decide) (gW 69 eO)))]
 rw [aPc]
 exact cU (.cons ceE (.cons ceE (.cons ceE .nil))) _ hk
theorem aMm (t : T) (a : t.op = 48) (hk : ∀ k ∈ t.kids, OkF k) : bC t = dS t := by
 have e1 : bC t = iS bR 2 (-1) t.kids := by
  unfold bC
  rw [if_neg (by omega)]
  unfold exB
  (repeat first | rw [if_pos (by omega)] | rw [if_neg (by omega)])
 have e2 : bL t = ⟨#[69, 69, 69, 42]⟩ := by
  unfold bL
  (repeat rw [if_neg (by omega)])
  unfold jD
  (repeat first | rw [if_pos (by omega)] | rw [if_neg (by omega)])
 rw [e1, eZ (by omega) (by omega) (by omega) e2 (by decide), show bl ⟨#[69, 69, 69, 42]⟩ = [69, 69, 69, 42] from rfl, (mK 69 (by decide) (by decide) (mK 69 (by decide) (by decide) (oU 69 eO)))]
 rw [aQl]
 exact cU (.cons ceE (.cons ceE (.cons ceE .nil))) _ hk
theorem aIu (t : T) (a : t.op = 49 ∨ t.op = 50) (hk : ∀ k ∈ t.kids, OkF k) : bC t = dS t := by
 have e1 : bC t = dK [(bR, 0), (FM, 2)] t.kids := by
  unfold bC
  rw [if_neg (by omega)]
  unfold exB
  (repeat first | rw [if_pos (by omega)] | rw [if_neg (by omega)])
 have e2 : bL t = ⟨#[69, 97, 42]⟩ := by
  unfold bL
  (repeat rw [if_neg (by omega)])
  unfold jD
  (repeat first | rw [if_pos (by omega)] | rw [if_neg (by omega)])
 rw [e1, eZ (by omega) (by omega) (by omega) e2 (by decide), show bl ⟨#[69, 97, 42]⟩ = [69, 97, 42] from rfl, (mK 69 (by decide) (by decide) (oU 97 eO))]
 exact cU (.cons ceE (.cons cea .nil)) _ hk
theorem aMq (t : T) (a : t.op = 51) (hk : ∀ k ∈ t.kids, OkF k) : bC t = dS t := by
 have e1 : bC t = iS bR 1 1 t.kids := by
  unfold bC
  rw [if_neg (by omega)]
  unfold exB
  (repeat first | rw [if_pos (by omega)] | rw [if_neg (by omega)])
 have e2 : bL t = ⟨#[69]⟩ := by
  unfold bL
  (repeat rw [if_neg (by omega)])
  unfold jD
  (repeat first | rw [if_pos (by omega)] | rw [if_neg (by omega)])
 rw [e1, eZ (by omega) (by omega) (by omega) e2 (by decide), show bl ⟨#[69]⟩ = [69] from rfl, (gW 69 eO)]
 rw [aGa]
 exact cU (.cons ceE .nil) _ hk
theorem aB4 (t : T) (a : t.op = 54) (hn : t.n = 1) (hk : ∀ k ∈ t.kids, OkF k) : bC t = dS t := by
 have e1 : bC t = iS bR 1 1 t.kids := by
  unfold bC
  rw [if_neg (by omega)]
  unfold exB
  (repeat first | rw [if_pos (by omega)] | rw [if_neg (by omega)])
  rw [hn]
 have e2 : bL t = ⟨#[69]⟩ := by
  unfold bL
  (repeat rw [if_neg (by omega)])
  unfold jD
  (repeat first | rw [if_pos (by omega)] | rw [if_neg (by omega)])
 rw [e1, eZ (by omega) (by omega) (by omega) e2 (by decide), show bl ⟨#[69]⟩ = [69] from rfl, (gW 69 eO)]
 rw [aGa]
 exact cU (.cons ceE .nil) _ hk
theorem aB5 (t : T) (a : t.op = 54) (hn : t.n = 0) (hk : ∀ k ∈ t.kids, OkF k) : bC t = dS t := by
 have e1 : bC t = iS bR 0 1 t.kids := by
  unfold bC
  rw [if_neg (by omega)]
  unfold exB
  (repeat first | rw [if_pos (by omega)] | rw [if_neg (by omega)])
  rw [hn]
 have e2 : bL t = ⟨#[69, 63]⟩ := by
  unfold bL
  (repeat rw [if_neg (by omega)])
  unfold jD
  (repeat first | rw [if_pos (by omega)] | rw [if_neg (by omega)])
 rw [e1, eZ (by omega) (by omega) (by omega) e2 (by decide), show bl ⟨#[69, 63]⟩ = [69, 63] from rfl, (VX 69 eO)]
 rw [aK4]
 exact cU (.cons ceE .nil) _ hk
theorem aCk (t : T) (a : t.op = 60) (hk : ∀ k ∈ t.kids, OkF k) : bC t = dS t := by
 have e1 : bC t = dK [(eiT [tR, ofT [40]], 2), (ofT [64], 1)] t.kids := by
  unfold bC
  rw [if_neg (by omega)]
  unfold exB
  (repeat rw [if_neg (by omega)])
  unfold kG
  (repeat rw [if_pos (by omega)])
 have e2 : bL t = ⟨#[72, 42, 90, 63]⟩ := by
  unfold bL
  (repeat rw [if_neg (by omega)])
  unfold jD
  (repeat first | rw [if_pos (by omega)] | rw [if_neg (by omega)])
 rw [e1, eZ (by omega) (by omega) (by omega) e2 (by decide), show bl ⟨#[72, 42, 90, 63]⟩ = [72, 42, 90, 63] from rfl, (oU 72 (VX 90 eO))]
 exact cU (.cons ceH (.cons ceZ .nil)) _ hk
theorem aCi (t : T) (a : t.op = 61) (hk : ∀ k ∈ t.kids, OkF k) : bC t = dS t := by
 have e1 : bC t = dK [(ofT [62], 2), (ofT [64], 1)] t.kids := by
  unfold bC
  rw [if_neg (by omega)]
  unfold exB
  (repeat rw [if_neg (by omega)])
  unfold kG
  (repeat first | rw [if_pos (by omega)] | rw [if_neg (by omega)])
 have e2 : bL t = ⟨#[81, 42, 90, 63]⟩ := by
  unfold bL
  (repeat rw [if_neg (by omega)])
  unfold jD
  (repeat first | rw [if_pos (by omega)] | rw [if_neg (by omega)])
 rw [e1, eZ (by omega) (by omega) (by omega) e2 (by decide), show bl ⟨#[81, 42, 90, 63]⟩ = [81, 42, 90, 63] from rfl, (oU 81 (VX 90 eO))]
 exact cU (.cons ceQ (.cons ceZ .nil)) _ hk
theorem SX (t : T) (a : t.op = 62) (hm : t.m = 1) (hk : ∀ k ∈ t.kids, OkF k) : bC t = dS t := by
 have e1 : bC t = dK (eI [bR, tR]) t.kids := by
  unfold bC
  rw [if_neg (by omega)]
  unfold exB
  (repeat rw [if_neg (by omega)])
  unfold kG
  (repeat first | rw [if_pos (by omega)] | rw [if_neg (by omega)])
  unfold pL
  (repeat rw [if_pos (by omega)])
 have e2 : bL t = ⟨#[69, 70]⟩ := by
  unfold bL
  (repeat rw [if_neg (by omega)])
  unfold jD
  (repeat first | rw [if_pos (by omega)] | rw [if_neg (by omega)])
 rw [e1, eZ (by omega) (by omega) (by omega) e2 (by decide), show bl ⟨#[69, 70]⟩ = [69, 70] from rfl, (mK 69 (by decide) (by decide) (gW 70 eO))]
 exact cU (.cons ceE (.cons ceF .nil)) _ hk
theorem SY (t : T) (a : t.op = 62) (hm : t.m ≠ 1) (hk : ∀ k ∈ t.kids, OkF k) : bC t = dS t := by
 have e1 : bC t = dK (eI [ofT [31, 30], tR]) t.kids := by
  unfold bC
  rw [if_neg (by omega)]
  unfold exB
  (repeat rw [if_neg (by omega)])
  unfold kG
  (repeat first | rw [if_pos (by omega)] | rw [if_neg (by omega)])
  unfold pL
  (repeat rw [if_neg (by omega)])
 have e2 : bL t = ⟨#[107, 70]⟩ := by
  unfold bL
  (repeat rw [if_neg (by omega)])
  unfold jD
  (repeat first | rw [if_pos (by omega)] | rw [if_neg (by omega)])
 rw [e1, eZ (by omega) (by omega) (by omega) e2 (by decide), show bl ⟨#[107, 70]⟩ = [107, 70] from rfl, (mK 107 (by decide) (by decide) (gW 70 eO))]
 exact cU (.cons cek (.cons ceF .nil)) _ hk
theorem WT (t : T) (a : t.op = 63) (hk : ∀ k ∈ t.kids, OkF k) : bC t = dS t := by
 have e1 : bC t = dK (eI [cW, bR]) t.kids := by
  unfold bC
  rw [if_neg (by omega)]
  unfold exB
  (repeat rw [if_neg (by omega)])
  unfold kG
  (repeat first | rw [if_pos (by omega)] | rw [if_neg (by omega)])
 have e2 : bL t = ⟨#[84, 69]⟩ := by
  unfold bL
  (repeat rw [if_neg (by omega)])
  unfold jD
  (repeat first | rw [if_pos (by omega)] | rw [if_neg (by omega)])
 rw [e1, eZ (by omega) (by omega) (by omega) e2 (by decide), show bl ⟨#[84, 69]⟩ = [84, 69] from rfl, (mK 84 (by decide) (by decide) (gW 69 eO))]
 exact cU (.cons ceT (.cons ceE .nil)) _ hk
theorem aIn (t : T) (a : t.op = 64) (hk : ∀ k ∈ t.kids, OkF k) : bC t = dS t := by
 have e1 : bC t = dK (eI [cW]) t.kids := by
  unfold bC
  rw [if_neg (by omega)]
  unfold exB
  (repeat rw [if_neg (by omega)])
  unfold kG
  (repeat first | rw [if_pos (by omega)] | rw [if_neg (by omega)])
 have e2 : bL t = ⟨#[84]⟩ := by
  unfold bL
  (repeat rw [if_neg (by omega)])
  unfold jD
  (repeat first | rw [if_pos (by omega)] | rw [if_neg (by omega)])
 rw [e1, eZ (by omega) (by omega) (by omega) e2 (by decide), show bl ⟨#[84]⟩ = [84] from rfl, (gW 84 eO)]
 exact cU (.cons ceT .nil) _ hk
theorem aCf (t : T) (a : t.op = 39) (hn : t.n = 0) (hm : t.m ≠ 1) (hk : ∀ k ∈ t.kids, OkF k) : bC t = dS t := by
 have e1 : bC t = dK (eI [ofT [31, 30], bR]) t.kids := by
  unfold bC
  rw [if_neg (by omega)]
  unfold exB
  (repeat first | rw [if_pos (by omega)] | rw [if_neg (by omega)])
  unfold pZ
  (repeat rw [if_pos (by omega)])
  unfold pL
  (repeat rw [if_neg (by omega)])
 have e2 : bL t = ⟨#[107, 69]⟩ := by
  unfold bL
  (repeat rw [if_neg (by omega)])
  unfold jD
  (repeat first | rw [if_pos (by omega)] | rw [if_neg (by omega)])
  unfold rW
  (repeat rw [if_pos (by omega)])
  unfold oJ
  (repeat rw [if_neg (by omega)])
  rfl
 rw [e1, eZ (by omega) (by omega) (by omega) e2 (by decide), show bl ⟨#[107, 69]⟩ = [107, 69] from rfl, (mK 107 (by decide) (by decide) (gW 69 eO))]
 exact cU (.cons cek (.cons ceE .nil)) _ hk
theorem aCg (t : T) (a : t.op = 39) (hn : t.n = 0) (hm : t.m = 1) (hk : ∀ k ∈ t.kids, OkF k) : bC t = dS t := by
 have e1 : bC t = dK (eI [bR, bR]) t.kids := by
  unfold bC
  rw [if_neg (by omega)]
  unfold exB
  (repeat first | rw [if_pos (by omega)] | rw [if_neg (by omega)])
  unfold pZ
  (repeat rw [if_pos (by omega)])
  unfold pL
  (repeat rw [if_pos (by omega)])
 have e2 : bL t = ⟨#[69, 69]⟩ := by
  unfold bL
  (repeat rw [if_neg (by omega)])
  unfold jD
  (repeat first | rw [if_pos (by omega)] | rw [if_neg (by omega)])
  unfold rW
  (repeat rw [if_pos (by omega)])
  unfold oJ
  (repeat rw [if_pos (by omega)])
  rfl
 rw [e1, eZ (by omega) (by omega) (by omega) e2 (by decide), show bl ⟨#[69, 69]⟩ = [69, 69] from rfl, (mK 69 (by decide) (by decide) (gW 69 eO))]
 exact cU (.cons ceE (.cons ceE .nil)) _ hk
theorem aCd (t : T) (a : t.op = 39) (hn : t.n = 1) (hm : t.m ≠ 1) (hk : ∀ k ∈ t.kids, OkF k) : bC t = dS t := by
 have e1 : bC t = dK (eI [ofT [31, 30], CK]) t.kids := by
  unfold bC
  rw [if_neg (by omega)]
  unfold exB
  (repeat first | rw [if_pos (by omega)] | rw [if_neg (by omega)])
  unfold pZ
  (repeat first | rw [if_pos (by omega)] | rw [if_neg (by omega)])
  unfold pL
  (repeat rw [if_neg (by omega)])
 have e2 : bL t = ⟨#[107, 103]⟩ := by
  unfold bL
  (repeat rw [if_neg (by omega)])
  unfold jD
  (repeat first | rw [if_pos (by omega)] | rw [if_neg (by omega)])
  unfold rW
  (repeat first | rw [if_pos (by omega)] | rw [if_neg (by omega)])
  unfold oJ
  (repeat rw [if_neg (by omega)])
  rfl
 rw [e1, eZ (by omega) (by omega) (by omega) e2 (by decide), show bl ⟨#[107, 103]⟩ = [107, 103] from rfl, (mK 107 (by decide) (by decide) (gW 103 eO))]
 exact cU (.cons cek (.cons ceg .nil)) _ hk
theorem aCe (t : T) (a : t.op = 39) (hn : t.n = 1) (hm : t.m = 1) (hk : ∀ k ∈ t.kids, OkF k) : bC t = dS t := by
 have e1 : bC t = dK (eI [bR, CK]) t.kids := by
  unfold bC
  rw [if_neg (by omega)]
  unfold exB
  (repeat first | rw [if_pos (by omega)] | rw [if_neg (by omega)])
  unfold pZ
  (repeat first | rw [if_pos (by omega)] | rw [if_neg (by omega)])
  unfold pL
  (repeat rw [if_pos (by omega)])
 have e2 : bL t = ⟨#[69, 103]⟩ := by
  unfold bL
  (repeat rw [if_neg (by omega)])
  unfold jD
  (repeat first | rw [if_pos (by omega)] | rw [if_neg (by omega)])
  unfold rW
  (repeat first | rw [if_pos (by omega)] | rw [if_neg (by omega)])
  unfold oJ
  (repeat rw [if_pos (by omega)])
  rfl
 rw [e1, eZ (by omega) (by omega) (by omega) e2 (by decide), show bl ⟨#[69, 103]⟩ = [69, 103] from rfl, (mK 69 (by decide) (by decide) (gW 103 eO))]
 exact cU (.cons ceE (.cons ceg .nil)) _ hk
theorem aCb (t : T) (a : t.op = 39) (hn : t.n = 2) (hm : t.m ≠ 1) (hk : ∀ k ∈ t.kids, OkF k) : bC t = dS t := by
 have e1 : bC t = dK (eI [ofT [31, 30], zJ]) t.kids := by
  unfold bC
  rw [if_neg (by omega)]
  unfold exB
  (repeat first | rw [if_pos (by omega)] | rw [if_neg (by omega)])
  unfold pZ
  (repeat first | rw [if_pos (by omega)] | rw [if_neg (by omega)])
  unfold pL
  (repeat rw [if_neg (by omega)])
 have e2 : bL t = ⟨#[107, 115]⟩ := by
  unfold bL
  (repeat rw [if_neg (by omega)])
  unfold jD
  (repeat first | rw [if_pos (by omega)] | rw [if_neg (by omega)])
  unfold rW
  (repeat first | rw [if_pos (by omega)] | rw [if_neg (by omega)])
  unfold oJ
  (repeat rw [if_neg (by omega)])
  rfl
 rw [e1, eZ (by omega) (by omega) (by omega) e2 (by decide), show bl ⟨#[107, 115]⟩ = [107, 115] from rfl, (mK 107 (by decide) (by decide) (gW 115 eO))]
 exact cU (.cons cek (.cons ces .nil)) _ hk
theorem aCc (t : T) (a : t.op = 39) (hn : t.n = 2) (hm : t.m = 1) (hk : ∀ k ∈ t.kids, OkF k) : bC t = dS t := by
 have e1 : bC t = dK (eI [bR, zJ]) t.kids := by
  unfold bC
  rw [if_neg (by omega)]
  unfold exB
  (repeat first | rw [if_pos (by omega)] | rw [if_neg (by omega)])
  unfold pZ
  (repeat first | rw [if_pos (by omega)] | rw [if_neg (by omega)])
  unfold pL
  (repeat rw [if_pos (by omega)])
 have e2 : bL t = ⟨#[69, 115]⟩ := by
  unfold bL
  (repeat rw [if_neg (by omega)])
  unfold jD
  (repeat first | rw [if_pos (by omega)] | rw [if_neg (by omega)])
  unfold rW
  (repeat first | rw [if_pos (by omega)] | rw [if_neg (by omega)])
  unfold oJ
  (repeat rw [if_pos (by omega)])
  rfl
 rw [e1, eZ (by omega) (by omega) (by omega) e2 (by decide), show bl ⟨#[69, 115]⟩ = [69, 115] from rfl, (mK 69 (by decide) (by decide) (gW 115 eO))]
 exact cU (.cons ceE (.cons ces .nil)) _ hk
theorem aB9 (t : T) (a : t.op = 39) (hn : t.n = 5) (hm : t.m ≠ 1) (hk : ∀ k ∈ t.kids, OkF k) : bC t = dS t := by
 have e1 : bC t = dK (eI [ofT [31, 30], zU]) t.kids := by
  unfold bC
  rw [if_neg (by omega)]
  unfold exB
  (repeat first | rw [if_pos (by omega)] | rw [if_neg (by omega)])
  unfold pZ
  (repeat first | rw [if_pos (by omega)] | rw [if_neg (by omega)])
  unfold pL
  (repeat rw [if_neg (by omega)])
 have e2 : bL t = ⟨#[107, 109]⟩ := by
  unfold bL
  (repeat rw [if_neg (by omega)])
  unfold jD
  (repeat first | rw [if_pos (by omega)] | rw [if_neg (by omega)])
  unfold rW
  (repeat first | rw [if_pos (by omega)] | rw [if_neg (by omega)])
  unfold oJ
  (repeat rw [if_neg (by omega)])
  rfl
 rw [e1, eZ (by omega) (by omega) (by omega) e2 (by decide), show bl ⟨#[107, 109]⟩ = [107, 109] from rfl, (mK 107 (by decide) (by decide) (gW 109 eO))]
 exact cU (.cons cek (.cons cem .nil)) _ hk
theorem aCa (t : T) (a : t.op = 39) (hn : t.n = 5) (hm : t.m = 1) (hk : ∀ k ∈ t.kids, OkF k) : bC t = dS t := by
 have e1 : bC t = dK (eI [bR, zU]) t.kids := by
  unfold bC
  rw [if_neg (by omega)]
  unfold exB
  (repeat first | rw [if_pos (by omega)] | rw [if_neg (by omega)])
  unfold pZ
  (repeat first | rw [if_pos (by omega)] | rw [if_neg (by omega)])
  unfold pL
  (repeat rw [if_pos (by omega)])
 have e2 : bL t = ⟨#[69, 109]⟩ := by
  unfold bL
  (repeat rw [if_neg (by omega)])
  unfold jD
  (repeat first | rw [if_pos (by omega)] | rw [if_neg (by omega)])
  unfold rW
  (repeat first | rw [if_pos (by omega)] | rw [if_neg (by omega)])
  unfold oJ
  (repeat rw [if_pos (by omega)])
  rfl
 rw [e1, eZ (by omega) (by omega) (by omega) e2 (by decide), show bl ⟨#[69, 109]⟩ = [69, 109] from rfl, (mK 69 (by decide) (by decide) (gW 109 eO))]
 exact cU (.cons ceE (.cons cem .nil)) _ hk
theorem SW (t : T) (a : t.op = 39) (hn : t.n = 3) (hk : ∀ k ∈ t.kids, OkF k) : bC t = dS t := by
 have e1 : bC t = dK (eI [nO]) t.kids := by
  unfold bC
  rw [if_neg (by omega)]
  unfold exB
  (repeat first | rw [if_pos (by omega)] | rw [if_neg (by omega)])
  unfold pZ
  (repeat first | rw [if_pos (by omega)] | rw [if_neg (by omega)])
 have e2 : bL t = ⟨#[119]⟩ := by
  unfold bL
  (repeat rw [if_neg (by omega)])
  unfold jD
  (repeat first | rw [if_pos (by omega)] | rw [if_neg (by omega)])
  unfold rW
  (repeat first | rw [if_pos (by omega)] | rw [if_neg (by omega)])
 rw [e1, eZ (by omega) (by omega) (by omega) e2 (by decide), show bl ⟨#[119]⟩ = [119] from rfl, (gW 119 eO)]
 exact cU (.cons cew .nil) _ hk
theorem SV (t : T) (a : t.op = 39) (hn : t.n = 4) (hk : ∀ k ∈ t.kids, OkF k) : bC t = dS t := by
 have e1 : bC t = dK (eI [bR]) t.kids := by
  unfold bC
  rw [if_neg (by omega)]
  unfold exB
  (repeat first | rw [if_pos (by omega)] | rw [if_neg (by omega)])
  unfold pZ
  (repeat rw [if_neg (by omega)])
 have e2 : bL t = ⟨#[69]⟩ := by
  unfold bL
  (repeat rw [if_neg (by omega)])
  unfold jD
  (repeat first | rw [if_pos (by omega)] | rw [if_neg (by omega)])
  unfold rW
  (repeat first | rw [if_pos (by omega)] | rw [if_neg (by omega)])
 rw [e1, eZ (by omega) (by omega) (by omega) e2 (by decide), show bl ⟨#[69]⟩ = [69] from rfl, (gW 69 eO)]
 exact cU (.cons ceE .nil) _ hk
end
end Go.Proofs.YtlllalmkkaolfaaGreatDoor
namespace Go.Vcg
section
open Go.RowKit
end
section
open Go.RowKit
end
end Go.Vcg
namespace Go.Proofs.YtlllalmkkaolfaaGreatDoor
open Go.RowKit Go.Vcg
namespace T
def yA (l : List Nat) : Nat := l.foldr max 0
def depth : T → Nat | mk _ _ _ _ _ ks => 1 + yA (ks.attach.map fun ⟨k, _⟩ => k.depth)
theorem JR (t : T) : t.depth = 1 + yA (t.kids.map depth) := by
 cases t with
 | mk o a n m s ks => rw [depth]; simp [kids]
theorem aAq {l : List Nat} {n : Nat} (h : ∀ x ∈ l, x ≤ n) : yA l ≤ n := by
 induction l with
 | nil => exact aI _
 | cons y l ih =>
   show max y (yA l) ≤ n
   have h1 := h y (aF ..)
   have h2 := ih fun x a => h x (cK a)
   omega
theorem JQ : ∀ (n : Nat) (t : T), t.size ≤ n → t.depth ≤ t.size
 | 0, t, h => by rw [size_eq] at h; omega
 | n + 1, t, h => by
   rw [JR]
   have : yA (t.kids.map depth) ≤ (t.kids.map size).sum := aAq fun x a => by
    obtain ⟨k, hk, rfl⟩ := List.mem_map.1 a
    obtain ⟨i, hi⟩ := List.mem_iff_getElem?.1 hk
    have h1 := fN hi
    have h2 := JQ n k (by omega)
    have := eF (List.mem_map.2 ⟨k, hk, rfl⟩ : k.size ∈ t.kids.map size)
    omega
   rw [size_eq]
   omega
end T
theorem T.aE4 (t : T) : t.kids.length < t.size := by
 rw [T.size_eq]
 have : ∀ l : List T, l.length ≤ (l.map T.size).sum := fun l => by
  induction l with
  | nil => simp
  | cons a r ih =>
    have : 1 ≤ a.size := by rw [T.size_eq]; omega
    simp; omega
 have := this t.kids
 omega
attribute [local irreducible] G GC GQ GA eN GI Calls IntKind.wrap Int.decLt Int.decLe
end Go.Proofs.YtlllalmkkaolfaaGreatDoor
