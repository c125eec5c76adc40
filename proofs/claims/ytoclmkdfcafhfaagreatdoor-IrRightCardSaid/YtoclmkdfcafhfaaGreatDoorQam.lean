/- A machine for closed runs: maps, and slices whose place becomes unknown. -/
import Derived.Test.YtoclmkdfcafhfaaGreatDoorQal
import Derived.Deep.OwnRows
set_option maxRecDepth 20000
namespace Go.Rex
open Go.RowKit Go.MapKept
open Go.Vcg (Keep beq_ne aggOf sizeT zeroT bytesT add_lit callable run_zeroValue lookV run_lookup_own run_mapUpdate_new keyS findS run_lookup_ownS run_mapUpdate_newS okVs eqVs)
attribute [local irreducible] capU
section
variable {P : Program} {N : Nat} {w0 : World} {ρ : Env} {h : Heap} {l : Sls} {a : Act} {w : World} {nx : Nat}
variable {ds : Option Nat} {ty : TypeId} {pos : String} {af : Array Edge} {gd : Option (Nat × Bool)}
def emkmap (h : Heap) (b0 nx : Nat) : Option Eff := some (.val (.map (some b0)) (hset h b0 (some (.map []))) nx)
theorem emkmap_sound {b0 nx' : Nat} (r : Rel w0 ρ h nx w) (hf : Fresh ρ nx b0 nx') {t : TypeId} {f : Eff} (e : emkmap h b0 nx' = some f) : Does P w0 ρ h b0 a w ⟨ds, .makeMap t none, ty, pos, af, gd⟩ f := by
  unfold emkmap at e
  cases e
  refine ⟨_, .map (some w.heap.size), _, ext_le hf.free, ext_other, Pr.set (Nat.lt_of_lt_of_le hf.lt hf.small) _, by simp [rv, ext_same], r.put (C := 0) hf rfl (fr_alloc w (.map #[] 0)) r.keep.size r.noSize ⟨[], by simp [rvp], ?_⟩, ?_⟩
  · rw [heap_alloc_new]; simp [ents]
  · simp [execOp, run_makeMap]
def isKeyB : TypeDesc → Value → Bool
  | .bool, .bool _ => true
  | .string, .string _ => true
  | .int k, .int k' _ => decide (k' = k)
  | _, _ => false
theorem isKeyB_sound {d : TypeDesc} {k : Value} (h : isKeyB d k = true) : IsKey d k ∧ flat k = true := by
  unfold isKeyB at h
  split at h
  · exact ⟨trivial, rfl⟩
  · exact ⟨trivial, rfl⟩
  · have h2 := of_decide_eq_true h
    exact ⟨h2, rfl⟩
  · cases h
def mfind (d : TypeDesc) (k : Value) : List (Value × Value) → Option (Option Value)
  | [] => some none
  | (k', v) :: r => match Instr.sameNow d k k' with
    | some true => some (some v)
    | some false => mfind d k r
    | none => none
theorem sameNow_flat {d : TypeDesc} {k k' : Value} {b : Bool} (h : Instr.sameNow d k k' = some b) : flat k' = true := by
  unfold Instr.sameNow at h
  split at h
  · rfl
  · rfl
  · rfl
  · cases h
theorem mfind_sound {d : TypeDesc} {k : Value} : ∀ {es ES : List (Value × Value)} {x : Option Value} {j i : Nat}, rvp ρ es = some ES → mfind d k es = some x →
    (x = none ∧ Instr.findNow d k (ents j ES) i = some none) ∨ ∃ v V n, x = some v ∧ rv ρ v = some V ∧ Instr.findNow d k (ents j ES) i = some (some (n, V))
  | [], ES, x, j, i, h, e => by
    simp [rvp] at h; subst h
    unfold mfind at e; cases e
    exact .inl ⟨rfl, rfl⟩
  | (k', v) :: r, ES, x, j, i, h, e => by
    unfold rvp at h
    split at h
    · rename_i K V R hK hV hR
      cases h
      unfold mfind at e
      split at e
      · rename_i hs
        cases e
        cases rv_nil hK (sameNow_flat hs)
        exact .inr ⟨v, V, i, rfl, hV, by simp [ents, Instr.findNow, hs]⟩
      · rename_i hs
        cases rv_nil hK (sameNow_flat hs)
        rcases mfind_sound (j := j + 1) (i := i + 1) hR e with ⟨h1, h2⟩ | ⟨v', V', n, h1, h2, h3⟩
        · exact .inl ⟨h1, by simp [ents, Instr.findNow, hs, h2]⟩
        · exact .inr ⟨v', V', n, h1, h2, by simp [ents, Instr.findNow, hs, h3]⟩
      · cases e
    · cases h
def mfindS (xs : List Value) : List (Value × Value) → Option (Option Value)
  | [] => some none
  | (k', v) :: r => match k' with
    | .agg ⟨ys⟩ => match flats ys with
      | true => match okVs xs ys with
        | true => match eqVs xs ys with
          | true => some (some v)
          | false => mfindS xs r
        | false => none
      | false => none
    | _ => none
theorem mfindS_sound {xs : List Value} : ∀ {es ES : List (Value × Value)} {x : Option Value} {j i : Nat}, rvp ρ es = some ES → mfindS xs es = some x →
    (x = none ∧ findS xs (ents j ES) i = some none) ∨ ∃ v V n, x = some v ∧ rv ρ v = some V ∧ findS xs (ents j ES) i = some (some (n, V))
  | [], ES, x, j, i, h, e => by
    simp [rvp] at h; subst h
    unfold mfindS at e; cases e
    exact .inl ⟨rfl, rfl⟩
  | (k', v) :: r, ES, x, j, i, h, e => by
    unfold rvp at h
    split at h
    · rename_i K V R hK hV hR
      cases h
      unfold mfindS at e
      split at e
      · rename_i ys
        split at e
        · rename_i hfl
          have hKK : K = .agg ⟨ys⟩ := rv_flat2_eq (by simpa [flat2] using hfl) hK
          subst hKK
          split at e
          · rename_i hok
            split at e
            · rename_i heq
              cases e
              exact .inr ⟨v, V, i, rfl, hV, by simp [ents, findS, hok, heq]⟩
            · rename_i heq
              rcases mfindS_sound (j := j + 1) (i := i + 1) hR e with ⟨h1, h2⟩ | ⟨v', V', n, h1, h2, h3⟩
              · exact .inl ⟨h1, by simp [ents, findS, hok, heq, h2]⟩
              · exact .inr ⟨v', V', n, h1, h2, by simp [ents, findS, hok, heq, h3]⟩
          · cases e
        · cases e
      · cases e
    · cases h
def qlookup (P : Program) (h : Heap) (t : TypeId) (u k : Value) (ok : Bool) : Option Value := match P.underlying t with
  | some (.map kt et) => match P.underlying kt with
    | some dk => match isKeyB dk k with
      | true => match u with
        | .map (some b) => match hget h b with
          | some (.map es) => match mfind dk k es with
            | some (some v) => match ok with
              | true => some (.tuple ⟨[v, .bool true]⟩)
              | false => some v
            | some none => match zeroT P et with
              | some z => match flat2 z with
                | true => match ok with
                  | true => some (.tuple ⟨[z, .bool false]⟩)
                  | false => some z
                | false => none
              | none => none
            | none => none
          | _ => none
        | _ => none
      | false => match k with
        | .agg ⟨xs⟩ => match flats xs with
          | true => match keyS P kt xs with
            | true => match u with
              | .map (some b) => match hget h b with
                | some (.map es) => match mfindS xs es with
                  | some (some v) => match ok with
                    | true => some (.tuple ⟨[v, .bool true]⟩)
                    | false => some v
                  | some none => match zeroT P et with
                    | some z => match flat2 z with
                      | true => match ok with
                        | true => some (.tuple ⟨[z, .bool false]⟩)
                        | false => some z
                      | false => none
                    | none => none
                  | none => none
                | _ => none
              | _ => none
            | false => none
          | false => none
        | _ => none
    | none => none
  | _ => none
theorem qlookup_sound (hk : HeapOk ρ h w) {t : TypeId} {u k v U K : Value} {ok : Bool} (hu : rv ρ u = some U) (hkk : rv ρ k = some K) (e : qlookup P h t u k ok = some v) : ∃ V, rv ρ v = some V ∧ (Instr.lookup t U K ok).run P w = .ok V w := by
  unfold qlookup at e
  split at e
  · rename_i kt et hT
    split at e
    · rename_i dk hK
      split at e
      · rename_i hkey
        obtain ⟨hkey, hkf⟩ := isKeyB_sound hkey
        cases rv_nil hkk hkf
        split at e
        · rename_i b
          split at e
          · rename_i es hg
            obtain ⟨B, C, hB, ES, g1, g2⟩ := hk b _ hg
            obtain ⟨B', C', O', hb', rfl⟩ := rv_map_some hu
            rw [hB] at hb'; cases hb'
            split at e
            · rename_i v' hf
              rcases mfind_sound (j := 0) (i := 0) g1 hf with ⟨h1, _⟩ | ⟨v2, V, n, h1, h2, h3⟩
              · cases h1
              · cases h1
                have hr := run_lookup_own (P := P) (w := w) (c := ok) hT hK hkey g2 (v := V) (ok := true) (by rw [h3]; rfl)
                split at e
                · cases e; exact ⟨.tuple #[V, .bool true], by simp [rv, rvs, h2], by simpa using hr⟩
                · cases e; exact ⟨V, h2, by simpa using hr⟩
            · rename_i hf
              split at e
              · rename_i z hz
                split at e
                · rename_i hzf
                  rcases mfind_sound (j := 0) (i := 0) g1 hf with ⟨_, h2⟩ | ⟨v2, V, n, h1, _, _⟩
                  · have hr := run_lookup_own (P := P) (w := w) (c := ok) hT hK hkey g2 (v := z) (ok := false) (by rw [h2]; simp [lookV, hz])
                    split at e
                    · cases e; exact ⟨.tuple #[z, .bool false], by simp [rv, rvs, rv_flat2 hzf], by simpa using hr⟩
                    · cases e; exact ⟨_, rv_flat2 hzf, by simpa using hr⟩
                  · cases h1
                · cases e
              · cases e
            · cases e
          · cases e
        · cases e
      · split at e
        · rename_i xs hq0
          split at e
          · rename_i hfl
            have hKK : K = .agg ⟨xs⟩ := rv_flat2_eq (by simpa [flat2] using hfl) hkk
            subst hKK
            split at e
            · rename_i hks
              split at e
              · rename_i b
                split at e
                · rename_i es hg
                  obtain ⟨B, C, hB, ES, g1, g2⟩ := hk b _ hg
                  obtain ⟨B', C', O', hb', rfl⟩ := rv_map_some hu
                  rw [hB] at hb'; cases hb'
                  split at e
                  · rename_i v' hf
                    rcases mfindS_sound (j := 0) (i := 0) g1 hf with ⟨h1, _⟩ | ⟨v2, V, n, h1, h2, h3⟩
                    · cases h1
                    · cases h1
                      have hr := run_lookup_ownS (P := P) (w := w) (c := ok) hT hks g2 (v := V) (ok := true) (by rw [h3]; rfl)
                      split at e
                      · cases e; exact ⟨.tuple #[V, .bool true], by simp [rv, rvs, h2], by simpa using hr⟩
                      · cases e; exact ⟨V, h2, by simpa using hr⟩
                  · rename_i hf
                    split at e
                    · rename_i z hz
                      split at e
                      · rename_i hzf
                        rcases mfindS_sound (j := 0) (i := 0) g1 hf with ⟨_, h2⟩ | ⟨v2, V, n, h1, _, _⟩
                        · have hr := run_lookup_ownS (P := P) (w := w) (c := ok) hT hks g2 (v := z) (ok := false) (by rw [h2]; simp [lookV, hz])
                          split at e
                          · cases e; exact ⟨.tuple #[z, .bool false], by simp [rv, rvs, rv_flat2 hzf], by simpa using hr⟩
                          · cases e; exact ⟨_, rv_flat2 hzf, by simpa using hr⟩
                        · cases h1
                      · cases e
                    · cases e
                  · cases e
                · cases e
              · cases e
            · cases e
          · cases e
        · cases e
    · cases e
  · cases e
def mset (d : TypeDesc) (k v : Value) : List (Value × Value) → Option (List (Value × Value))
  | [] => some [(k, v)]
  | (k', v') :: r => match Instr.sameNow d k k' with
    | some true => some ((k, v) :: r)
    | some false => match mset d k v r with
      | some r' => some ((k', v') :: r')
      | none => none
    | none => none
theorem sameNow_eq {d : TypeDesc} {k k' : Value} (hk : IsKey d k) (h : Instr.sameNow d k k' = some true) : k' = k := by
  have h2 : IsKey d k' := by
    unfold Instr.sameNow at h
    split at h
    · rename_i kk x kk' y
      split at h
      · rename_i e; subst e; exact hk
      · cases h
    · trivial
    · trivial
    · cases h
  obtain ⟨r, h3, h4⟩ := sameNow_of_keys hk h2
  rw [h] at h3; cases h3
  exact (h4.1 rfl).symm
theorem mset_sound {d : TypeDesc} {k v V : Value} (hk : IsKey d k) (hkf : flat k = true) (hv : rv ρ v = some V) : ∀ {es es' ES : List (Value × Value)} {j i : Nat}, rvp ρ es = some ES → mset d k v es = some es' →
    ∃ ES', rvp ρ es' = some ES' ∧ ((Instr.findNow d k (ents j ES) i = some none ∧ ents j ES' = ents j ES ++ [MapEntry.mk k V (j + ES.length)] ∧ ES'.length = ES.length + 1) ∨
      ∃ n v0 e0, Instr.findNow d k (ents j ES) i = some (some (i + n, v0)) ∧ (ents j ES)[n]? = some e0 ∧ e0.key = k ∧ ents j ES' = (ents j ES).modify n (fun e => { e with key := k, val := V }) ∧ ES'.length = ES.length)
  | [], es', ES, j, i, h, e => by
    simp [rvp] at h; subst h
    unfold mset at e; cases e
    exact ⟨[(k, V)], by simp [rvp, rv_flat hkf, hv], .inl ⟨rfl, by simp [ents], rfl⟩⟩
  | (k', v') :: r, es', ES, j, i, h, e => by
    unfold rvp at h
    split at h
    · rename_i K V' R hK hV hR
      cases h
      unfold mset at e
      split at e
      · rename_i hs
        cases e
        cases rv_nil hK (sameNow_flat hs)
        have hkk := sameNow_eq hk hs
        subst hkk
        refine ⟨(k', V) :: R, by simp [rvp, rv_flat hkf, hv, hR], .inr ⟨0, V', ⟨k', V', j⟩, by simp [ents, Instr.findNow, hs], by simp [ents], rfl, by simp [ents], rfl⟩⟩
      · rename_i hs
        cases rv_nil hK (sameNow_flat hs)
        split at e
        · rename_i r' hr'
          cases e
          obtain ⟨ES', g1, g2⟩ := mset_sound hk hkf hv (j := j + 1) (i := i + 1) hR hr'
          refine ⟨(k', V') :: ES', by simp [rvp, hK, hV, g1], ?_⟩
          rcases g2 with ⟨f1, f2, f3⟩ | ⟨n, v0, e0, f1, f2, f3, f4, f5⟩
          · exact .inl ⟨by simp [ents, Instr.findNow, hs, f1], by simp [ents, f2]; omega, by simp [f3]⟩
          · exact .inr ⟨n + 1, v0, e0, by simp [ents, Instr.findNow, hs, f1]; omega, by simpa [ents] using f2, f3, by simp [ents, f4], by simp [f5]⟩
        · cases e
      · cases e
    · cases h
theorem run_mapUpdate_old {t kt et : TypeId} {dk : TypeDesc} {b ck n : Nat} {es : List MapEntry} {k v v0 : Value} {e0 : MapEntry} (ht : P.underlying t = some (.map kt et)) (hk : P.underlying kt = some dk) (hkey : IsKey dk k)
    (hb : w.heap[b]? = some (.map es.toArray ck)) (hf : Instr.findNow dk k es 0 = some (some (n, v0))) (h0 : es[n]? = some e0) (hk0 : e0.key = k) :
    (Instr.mapUpdate t (.map (some b)) k v).run P w = .ok () { w with heap := w.heap.setIfInBounds b (.map (es.modify n fun e => { e with key := k, val := v }).toArray ck) } := by
  simp [Instr.mapUpdate, run_underlying ht, MapKept.run_getObj_map hb, MapKept.run_checkKey hk hkey, MapKept.run_findKey hk hf, h0, hk0, MapKept.run_keyThatStays hkey, MapKept.run_setObj_map _ hb]
def emapset (P : Program) (h : Heap) (nx : Nat) (t : TypeId) (u k v : Value) : Option Eff := match P.underlying t with
  | some (.map kt _) => match P.underlying kt with
    | some dk => match isKeyB dk k with
      | true => match u with
        | .map (some b) => match hget h b with
          | some (.map es) => match mset dk k v es with
            | some es' => some (.skip (hset h b (some (.map es'))) nx)
            | none => none
          | _ => none
        | _ => none
      | false => match k with
        | .agg ⟨xs⟩ => match flats xs with
          | true => match keyS P kt xs with
            | true => match u with
              | .map (some b) => match hget h b with
                | some (.map es) => match mfindS xs es with
                  | some none => some (.skip (hset h b (some (.map (es ++ [(.agg ⟨xs⟩, v)])))) nx)
                  | _ => none
                | _ => none
              | _ => none
            | false => none
          | false => none
        | _ => none
    | none => none
  | _ => none
theorem ents_app : ∀ (l : List (Value × Value)) (j : Nat) (k v : Value), ents j (l ++ [(k, v)]) = ents j l ++ [MapEntry.mk k v (j + l.length)]
  | [], j, k, v => rfl
  | (a, b) :: r, j, k, v => by
    have := ents_app r (j + 1) k v
    simp only [List.cons_append, ents, this, List.length_cons]
    rw [show j + 1 + r.length = j + (r.length + 1) by omega]
theorem rvp_app {k v V : Value} (hk : rv ρ k = some k) (hv : rv ρ v = some V) : ∀ {es ES : List (Value × Value)}, rvp ρ es = some ES → rvp ρ (es ++ [(k, v)]) = some (ES ++ [(k, V)])
  | [], ES, h => by
    simp [rvp] at h; subst h
    simp [rvp, hk, hv]
  | (a, b) :: r, ES, h => by
    unfold rvp at h
    split at h
    · rename_i K B R h1 h2 h3
      cases h
      have ih := rvp_app hk hv h3
      simp only [List.cons_append]
      unfold rvp
      rw [h1, h2, ih]
    · cases h
theorem emapset_sound (r : Rel w0 ρ h nx w) {t : TypeId} {m x y : Operand} {u k v : Value} {f : Eff} {op : Op} (hop : op = .insert t m x y ∨ op = .mapUpdate t m x y) (hu : rv ρ u = some (a.eval m)) (hkk : rv ρ k = some (a.eval x)) (hv : rv ρ v = some (a.eval y)) {b0 : Nat} (e : emapset P h nx t u k v = some f) :
    Does P w0 ρ h b0 a w ⟨ds, op, ty, pos, af, gd⟩ f := by
  unfold emapset at e
  split at e
  · rename_i kt et hT
    split at e
    · rename_i dk hK
      split at e
      · rename_i hkey
        obtain ⟨hkey, hkf⟩ := isKeyB_sound hkey
        have hke := rv_nil hkk hkf
        split at e
        · rename_i b
          split at e
          · rename_i es hg
            obtain ⟨B, C, hB, ES, g1, g2⟩ := r.ok b _ hg
            obtain ⟨B', C', O', hb', hue⟩ := rv_map_some hu
            rw [hB] at hb'; cases hb'
            split at e
            · rename_i es' hset'
              cases e
              obtain ⟨ES', k1, k2⟩ := mset_sound hkey hkf hv (j := 0) (i := 0) g1 hset'
              have hBlt := (Array.getElem?_eq_some_iff.1 g2).1
              have upd : ∀ ob : Obj, ob = .map (ents 0 ES').toArray ES'.length → Rel w0 ρ (hset h b (some (.map es'))) nx { w with heap := w.heap.setIfInBounds B ob } := fun ob hob =>
                r.upd hg rfl rfl hB ⟨rfl, rfl, rfl, by simp, fun c _ hc => by simp [Array.getElem?_setIfInBounds_ne (Ne.symm hc)]⟩ ⟨ES', k1, by
                  show (w.heap.setIfInBounds B ob)[B]? = _
                  rw [Array.getElem?_setIfInBounds_self_of_lt hBlt, hob]⟩
              rcases k2 with ⟨f1, f2, f3⟩ | ⟨n, v0, e0, f1, f2, f3, f4, f5⟩
              · have hr := run_mapUpdate_new (P := P) (w := w) (v := a.eval y) hT hK hkey g2 f1
                refine ⟨_, Pr.set (hget_lt hg) _, upd (.map (ents 0 ES ++ [MapEntry.mk k (a.eval y) ES.length]).toArray (ES.length + 1)) ?_, ?_⟩
                · rw [f2, f3, Nat.zero_add]
                · generalize a.eval = ev at hke hue hr
                  rcases hop with rfl | rfl <;> simp [execOp, hke, hue, hr]
              · have hr := run_mapUpdate_old (P := P) (w := w) (v := a.eval y) hT hK hkey g2 (by simpa using f1) f2 f3
                refine ⟨_, Pr.set (hget_lt hg) _, upd (.map ((ents 0 ES).modify n fun e => { e with key := k, val := a.eval y }).toArray ES.length) ?_, ?_⟩
                · rw [f4, f5]
                · generalize a.eval = ev at hke hue hr
                  rcases hop with rfl | rfl <;> simp [execOp, hke, hue, hr]
            · cases e
          · cases e
        · cases e
      · split at e
        · rename_i xs hq0
          split at e
          · rename_i hfl
            have hfk : rv ρ (.agg ⟨xs⟩) = some (.agg ⟨xs⟩) := rv_flat2 (by simpa [flat2] using hfl)
            have hke : a.eval x = .agg ⟨xs⟩ := rv_flat2_eq (by simpa [flat2] using hfl) hkk
            split at e
            · rename_i hks
              split at e
              · rename_i b
                split at e
                · rename_i es hg
                  obtain ⟨B, C, hB, ES, g1, g2⟩ := r.ok b _ hg
                  obtain ⟨B', C', O', hb', hue⟩ := rv_map_some hu
                  rw [hB] at hb'; cases hb'
                  split at e
                  · rename_i hf
                    cases e
                    rcases mfindS_sound (j := 0) (i := 0) g1 hf with ⟨_, f1⟩ | ⟨v2, V, n, h1, _, _⟩
                    · have hBlt := (Array.getElem?_eq_some_iff.1 g2).1
                      have hr : (Instr.mapUpdate t (.map (some B)) (.agg ⟨xs⟩) (a.eval y)).run P w = .ok () { w with heap := w.heap.setIfInBounds B (.map (ents 0 ES ++ [MapEntry.mk (.agg ⟨xs⟩) (a.eval y) ES.length]).toArray (ES.length + 1)) } := run_mapUpdate_newS (P := P) (w := w) (v := a.eval y) hT hks g2 f1
                      have upd : Rel w0 ρ (hset h b (some (.map (es ++ [(.agg ⟨xs⟩, v)])))) nx { w with heap := w.heap.setIfInBounds B (.map (ents 0 ES ++ [MapEntry.mk (.agg ⟨xs⟩) (a.eval y) ES.length]).toArray (ES.length + 1)) } :=
                        r.upd hg rfl rfl hB ⟨rfl, rfl, rfl, by simp, fun c _ hc => by simp [Array.getElem?_setIfInBounds_ne (Ne.symm hc)]⟩ ⟨ES ++ [(.agg ⟨xs⟩, a.eval y)], rvp_app hfk hv g1, by
                          show (w.heap.setIfInBounds B _)[B]? = _
                          rw [Array.getElem?_setIfInBounds_self_of_lt hBlt, ents_app, Nat.zero_add, List.length_append]
                          rfl⟩
                      refine ⟨_, Pr.set (hget_lt hg) _, upd, ?_⟩
                      generalize a.eval = ev at hke hue hr upd ⊢
                      rcases hop with rfl | rfl <;> simp [execOp, hke, hue, hr]
                    · cases h1
                  · cases e
                · cases e
              · cases e
            · cases e
          · cases e
        · cases e
    · cases e
  · cases e
def eend (P : Program) (h : Heap) (b0 nx : Nat) (t : TypeId) (u : Value) (lo hi : Option Value) : Option Eff := match P.underlying t with
    | some (.slice e) => match sizeT P e with
      | some _ => match u with
        | .slice (some ⟨_, _, none⟩) n c => match Nat.blt c capU with
          | true => none
          | false => match boundOf lo 0 with
            | some i => match boundOf hi n with
              | some j => match Nat.beq i n with
                | true => match Nat.beq j n with
                  | true => some (.val (.slice (some ⟨b0, 0, none⟩) 0 capU) h nx)
                  | false => none
                | false => none
              | none => none
            | none => none
        | _ => none
      | none => none
    | _ => none
theorem eend_sound {b0 nx' : Nat} (r : Rel w0 ρ h nx w) (hf : Fresh ρ nx b0 nx') {t : TypeId} {u U : Value} {lo hi : Option Value} {f : Eff} (hu : rv ρ u = some U) (e : eend P h b0 nx' t u lo hi = some f) :
    ∃ v V ρ', f = .val v h nx' ∧ ELe ρ ρ' ∧ (∀ c, c ≠ b0 → ρ' c = ρ c) ∧ rv ρ' v = some V ∧ Rel w0 ρ' h nx' w ∧ (Instr.sliceAt t U lo hi none).run P w = .ok V w := by
  unfold eend at e
  by_cases hdummy : True
  · split at e
    · rename_i el ht
      split at e
      · rename_i s hs
        split at e
        · rename_i b o n c
          obtain ⟨B, C, O, hb, hU⟩ := rv_slice hu
          split at e
          · cases e
          · rename_i hc
            have hc := blt_f hc
            rcases hU with ⟨hlt, _⟩ | ⟨_, hnC, rfl⟩
            · omega
            split at e
            · rename_i i hi'
              split at e
              · rename_i j hj
                split at e
                · rename_i hin
                  split at e
                  · rename_i hjn
                    cases e
                    have hin := Nat.eq_of_beq_eq_true hin
                    have hjn := Nat.eq_of_beq_eq_true hjn
                    subst hin
                    subst hjn
                    have hr := run_sliceAt (P := P) (w := w) (A := some ⟨B, O + o, none⟩) (n := j) (c := C - (c - capU)) ht hs hi' hj (Nat.le_refl _) (by omega)
                    have hx : ∃ O', (if C - (c - capU) = j then (some ⟨B, O + o, none⟩ : Option Addr) else (some ⟨B, O + o, none⟩ : Option Addr).map (·.add (j * s))) = some ⟨B, O', none⟩ := by
                      split
                      · exact ⟨_, rfl⟩
                      · exact ⟨O + o + j * s, by simp only [Option.map_some, add_lit]⟩
                    obtain ⟨O', hx⟩ := hx
                    rw [hx, Nat.sub_self] at hr
                    refine ⟨_, _, ext ρ b0 (B, C - (c - capU) - j, O'), rfl, ext_le hf.free, ext_other, ?_, r.name hf _, hr⟩
                    have := rv_slice_mku (ρ := ext ρ b0 (B, C - (c - capU) - j, O')) (b := b0) (o := 0) (n := 0) (c := capU) ext_same (Nat.le_refl _) (by rw [Nat.sub_self]; omega)
                    rw [this]
                    simp
                  · cases e
                · cases e
              · cases e
            · cases e
        · cases e
      · cases e
    · cases e
  · exact absurd trivial hdummy
def emake (P : Program) (h : Heap) (b0 nx : Nat) (t : TypeId) (u v : Value) : Option Eff := match u with
  | .int .i64 (.ofNat n) => match v with
    | .int .i64 (.ofNat m) => match Nat.beq n m with
      | true => match P.underlying t with
        | some (.slice e) => match sizeT P e with
          | some s => match Nat.beq s 1 with
            | true => match zeroT P e with
              | some z => match flat z with
                | true => match bytesT P e with
                  | some bytes => match Nat.ble (bytes * n) 16777216 with
                    | true => match Nat.ble n 16777216 with
                      | true => some (.val (.slice (some ⟨b0, 0, none⟩) n n) (hset h b0 (some (.cells (List.replicate n z) e false))) nx)
                      | false => none
                    | false => none
                  | none => none
                | false => none
              | none => none
            | false => none
          | none => none
        | _ => none
      | false => none
    | _ => none
  | _ => none
theorem flat_one {z : Value} (h : flat z = true) : z.cells = #[z] := by
  unfold flat at h
  split at h <;> first | rfl | cases h
theorem flats_replicate {z : Value} (h : flat z = true) : ∀ n, flats (List.replicate n z) = true
  | 0 => rfl
  | n + 1 => by rw [List.replicate_succ, flats, h]; exact flats_replicate h n
theorem emake_sound {b0 nx' : Nat} (r : Rel w0 ρ h nx w) (hf : Fresh ρ nx b0 nx') {t : TypeId} {x y : Operand} {u v : Value} {f : Eff} (hu : rv ρ u = some (a.eval x)) (hv : rv ρ v = some (a.eval y)) (e : emake P h b0 nx' t u v = some f) : Does P w0 ρ h b0 a w ⟨ds, .makeSlice t x y, ty, pos, af, gd⟩ f := by
  unfold emake at e
  split at e
  · rename_i n
    split at e
    · rename_i m
      split at e
      · rename_i hnm
        have hnm := Nat.eq_of_beq_eq_true hnm
        subst hnm
        split at e
        · rename_i el hT
          split at e
          · rename_i s hs
            split at e
            · rename_i hs1
              have hs1 := Nat.eq_of_beq_eq_true hs1
              subst hs1
              split at e
              · rename_i z hz
                split at e
                · rename_i hfl
                  split at e
                  · rename_i bytes hby
                    split at e
                    · rename_i hb1
                      have hb1 := ble_t hb1
                      split at e
                      · rename_i hb2
                        have hb2 := ble_t hb2
                        cases e
                        have hinfo : (P.info? el).map (fun i => (i.zero, i.size, i.bytes)) = some (some z, 1, bytes) := by
                          unfold sizeT at hs
                          unfold zeroT at hz
                          unfold bytesT at hby
                          cases hi : P.info? el with
                          | none => simp [hi] at hs
                          | some i =>
                            simp [hi, Go.Vcg.nat16_eq] at hs
                            simp [hi] at hz
                            simp [hi, Go.Vcg.natB_eq] at hby
                            simp [hs, hz, hby]
                        have hr := run_make_row' (P := P) t el z bytes hT hinfo (flat_one hfl) .i64 .i64 n (by omega) (by omega) w
                        have e1 := rv_nil hu rfl
                        have e2 := rv_nil hv rfl
                        have hcs : rvs ρ (List.replicate n z) = some (List.replicate n z) := rvs_flats (flats_replicate hfl n)
                        have hmade : madeCells #[z] n = (List.replicate n z).toArray := by
                          rw [← Array.toList_inj]
                          simp [toList_madeCells_one]
                        rw [hmade] at hr
                        refine ⟨_, .slice (some ⟨w.heap.size, 0 + 0, none⟩) n n, _, ext_le hf.free, ext_other, Pr.set (Nat.lt_of_lt_of_le hf.lt hf.small) _, rv_slice_mk ext_same (by have := capU_big; omega), r.cells hf hcs el, ?_⟩
                        generalize a.eval = ev at e1 e2
                        simp [execOp, e1, e2, hr]
                      · cases e
                    · cases e
                  · cases e
                · cases e
              · cases e
            · cases e
          · cases e
        · cases e
      · cases e
    · cases e
  · cases e
end
end Go.Rex
namespace Go.Proofs.YtoclmkdfcafhfaaGreatDoor
end Go.Proofs.YtoclmkdfcafhfaaGreatDoor
