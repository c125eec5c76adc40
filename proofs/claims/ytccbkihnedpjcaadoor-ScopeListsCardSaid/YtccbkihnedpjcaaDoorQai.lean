/- A machine for closed runs: a string is appended; unsafe.SliceData, unsafe.String. -/
import Derived.Test.YtccbkihnedpjcaaDoorQah
import Derived.Lib.UnsafeStr
import Derived.Lib.AppendStr
import Derived.Lib.FrozenHead
import Derived.Defers
set_option maxRecDepth 20000
set_option maxHeartbeats 2000000
namespace Go.Rex
section
open Go.RowKit Go.MapKept
open Go.Vcg (Keep beq_ne aggOf sizeT zeroT bytesT add_lit callable nat16_eq natB_eq)
attribute [local irreducible] capU
section
variable {P : Program} {N : Nat} {w0 : World} {ρ : Env} {h : Heap} {l : Sls} {a : Act} {w : World} {nx : Nat}
variable {ds : Option Nat} {ty : TypeId} {pos : String} {af : Array Edge} {gd : Option (Nat × Bool)}
theorem rvs_flats_eq' {vs VS : List Value} (hf : flats vs = true) (e : rvs ρ vs = some VS) : VS = vs := by rw [rvs_flats hf] at e; cases e; rfl
theorem strCells_flats (s : ByteArray) : flats (Lib.strCells s) = true := by
  unfold Lib.strCells
  generalize s.data.toList = l
  induction l with
  | nil => rfl
  | cons x r ih => simp only [List.map_cons, flats, flat, ih]
theorem row_grown {b0 nx' : Nat} (r : Rel w0 ρ h nx w) (hf : Fresh ρ nx b0 nx') {el s n' : Nat} {b B C : Nat} {cs cs' CS' : List Value} {V' : Value} {w' : World} (hg : hget h b = some (.row cs el s)) (hb : ρ b = some (B, C, 0))
    (hcs : rvs ρ cs' = some CS') (r2 : w'.ownsRow 0 el s V' n' CS') (hn' : 0 < n') (r3 : w.grownBy w' (some B)) (r4 : V'.ownBlock = some B ∨ V'.ownBlock = some w.heap.size) :
    ∃ ρ', ELe ρ ρ' ∧ (∀ c, c ≠ b0 → ρ' c = ρ c) ∧ rv ρ' (.slice (some ⟨b0, 0, none⟩) n' capU) = some V' ∧ Rel w0 ρ' (hset (hset h b none) b0 (some (.row cs' el s))) nx' w' := by
  have hB0 := r.own b _ hg rfl B C hb
  rcases r2.2 with ⟨h1, h2⟩ | ⟨g, cap, cur, hv', _, k1, k2, k3, k4, k5⟩
  · omega
  subst hv'
  have hgB : g = B ∨ g = w.heap.size := by
    rcases r4 with r4 | r4
    · left; simp only [Value.ownBlock, Option.some.injEq] at r4; exact r4
    · right; simp only [Value.ownBlock, Option.some.injEq] at r4; exact r4
  have fr : Fr2 g B w w' := ⟨r3.os, r3.tape, r3.output, r3.size, fun k hk _ hkB => r3.block k hk (by simp only [ne_eq, Option.some.injEq]; exact fun e => hkB (by omega))⟩
  have hfreeB : ∀ c o C', hget (hset h b none) c = some o → ρ c = some (B, C', 0) → False := fun c o C' e1 e2 => by
    by_cases hcb : c = b
    · subst hcb; rw [hget_set_same (hget_lt hg)] at e1; cases e1
    · rw [hget_set_other (hget_lt hg) hcb] at e1
      exact hcb (r.inj c b o _ B C' C e1 hg e2 hb)
  have hfreeg : ∀ c o C', hget (hset h b none) c = some o → ρ c = some (g, C', 0) → False := fun c o C' e1 e2 => by
    rcases hgB with rfl | rfl
    · exact hfreeB c o C' e1 e2
    · exact (r.drop (hget_lt hg)).noSize c o C' e1 e2
  have hg0 : w0.heap.size ≤ g := by
    rcases hgB with rfl | rfl
    · exact hB0
    · exact r.keep.size
  have hle := ext_le (x := (g, cap, 0)) hf.free
  have hobj' : ObjOk (ext ρ b0 (g, cap, 0)) cap (.row cs' el s) w'.heap[g]? :=
    ⟨CS', cur, rvs_mono hle hcs, k1, k4, k3, by rw [r2.1, k4]; exact Nat.mul_le_mul_right _ k2, by rw [r2.1]; exact k5⟩
  refine ⟨_, hle, ext_other, ?_, (r.drop (hget_lt hg)).put2 hf rfl fr hg0 hB0 hfreeB hfreeg hobj'⟩
  have := rv_slice_mku (ρ := ext ρ b0 (g, cap, 0)) (b := b0) (o := 0) (n := n') (c := capU) ext_same (Nat.le_refl _) (by rw [Nat.sub_self]; omega)
  rw [this]
  simp
def eappS (P : Program) (h : Heap) (b0 nx : Nat) (t t' : TypeId) (u v : Value) : Option Eff := match P.underlying t with
  | some (.slice e) => match P.underlying t' with
    | some .string => match v with
      | .string s => match Nat.blt 0 s.size with
        | true => match sizeT P e with
          | some 1 => match bytesT P e with
            | some 1 => match zeroT P e with
              | some (.int .u8 0) => match u with
                | .slice none 0 0 => match Nat.ble s.size 16777216 with
                  | true => some (.val (.slice (some ⟨b0, 0, none⟩) s.size capU) (hset h b0 (some (.row (Lib.strCells s) e 1))) nx)
                  | false => none
                | .slice (some ⟨b, o, none⟩) n c => match Nat.ble (n + s.size) 16777216 with
                  | true => match Nat.beq c capU with
                    | true => match hget h b with
                      | some (.row cs e' s') => match Nat.beq o 0 with
                        | true => match Nat.beq e' e with
                          | true => match Nat.beq s' 1 with
                            | true => match Nat.beq cs.length n with
                              | true => some (.val (.slice (some ⟨b0, 0, none⟩) (n + s.size) capU) (hset (hset h b none) b0 (some (.row (cs ++ Lib.strCells s) e 1))) nx)
                              | false => none
                            | false => none
                          | false => none
                        | false => none
                      | _ => none
                    | false => none
                  | false => none
                | _ => none
              | _ => none
            | _ => none
          | _ => none
        | false => none
      | _ => none
    | _ => none
  | _ => none
theorem run_app_call {p q : Operand} {t t' : TypeId} {v x v' : Value} {w' : World} {ρ : Operand → Value} {ds : Option Nat} (hp : ρ p = v) (hq : ρ q = x) (hr : (Builtin.append_ #[t, t'] ty #[v, x]).run P w = .ok v' w') :
    (execOp ρ ⟨ds, .call { callee := .builtin .append, args := #[p, q], argTypes := #[t, t'] }, ty, pos, af, gd⟩).run P w = .ok (.value v') w' := by
  simp only [execOp, resolve, invoke, builtin, Sem.run_bind, Sem.run_pure, Result.andThen_ok, List.map_toArray, List.map_cons, List.map_nil, hp, hq, hr]
theorem info_of {e : TypeId} {s bytes : Nat} {z : Value} (hs : sizeT P e = some s) (hz : zeroT P e = some z) (hby : bytesT P e = some bytes) : ∃ i, P.info? e = some i ∧ i.zero = some z ∧ i.size = s ∧ i.bytes = bytes := by
  unfold sizeT at hs
  unfold zeroT at hz
  unfold bytesT at hby
  cases hi : P.info? e with
  | none => simp [hi] at hs
  | some i =>
    simp [hi, nat16_eq] at hs
    simp [hi] at hz
    simp [hi, natB_eq] at hby
    exact ⟨i, rfl, hz, hs, hby⟩
set_option maxHeartbeats 1000000 in
theorem eappS_sound {b0 nx' : Nat} (r : Rel w0 ρ h nx w) (hf : Fresh ρ nx b0 nx') {t t' : TypeId} {x y : Operand} {u v : Value} {f : Eff} (hu : rv ρ u = some (a.eval x)) (hv : rv ρ v = some (a.eval y)) (e : eappS P h b0 nx' t t' u v = some f) :
    Does P w0 ρ h b0 a w ⟨ds, .call { callee := .builtin .append, args := #[x, y], argTypes := #[t, t'] }, ty, pos, af, gd⟩ f := by
  have call : ∀ {V' w'}, (Builtin.append_ #[t, t'] ty #[a.eval x, a.eval y]).run P w = .ok V' w' → (execOp a.eval ⟨ds, .call { callee := .builtin .append, args := #[x, y], argTypes := #[t, t'] }, ty, pos, af, gd⟩).run P w = .ok (.value V') w' :=
    fun hr => run_app_call rfl rfl hr
  have hbs : b0 < 1048576 := Nat.lt_of_lt_of_le hf.lt hf.small
  unfold eappS at e
  split at e
  · rename_i el hT
    split at e
    · rename_i hT'
      split at e
      · rename_i s
        have hV := rv_nil hv rfl
        split at e
        · rename_i hpos
          have hpos := blt_t hpos
          split at e
          · rename_i hs
            split at e
            · rename_i hby
              split at e
              · rename_i hz
                obtain ⟨i, hi, hiz, his, hib⟩ := info_of hs hz hby
                have hsl := Lib.strCells_length s
                split at e
                · split at e
                  · rename_i hle
                    have hle := ble_t hle
                    cases e
                    have hU := rv_nil hu rfl
                    have hr := run_append_nil_string (P := P) w t t' ty el i (.int .u8 0) hT hT' hi hiz s (by omega) (by omega) (by rw [hib]; omega)
                    have e1 : (s.data.map fun b => Value.int .u8 b.toNat) = (Lib.strCells s).toArray := by
                      apply Array.ext'
                      simp [Lib.strCells]
                    rw [e1] at hr
                    have hC1 := grownCap_ge w s.size 0 el
                    have hC2 := grownCap_le_maxLen w s.size 0 el (by simp only [maxLen]; omega)
                    obtain ⟨q1, q2, q3⟩ := row_new (z := .int .u8 0) (s := 1) rfl (by rw [hsl, Nat.mul_one]) hC1
                    refine ⟨_, _, _, ext_le hf.free, ext_other, Pr.set hbs _, ?_, r.row hf (rvs_flats (strCells_flats s)) el q1 hC2 q2 q3, call (by rw [hV, hU]; exact hr)⟩
                    have := rv_slice_mku (ρ := ext ρ b0 (w.heap.size, grownCap w s.size 0 el, 0)) (b := b0) (o := 0) (n := s.size) (c := capU) ext_same (Nat.le_refl _) (by rw [Nat.sub_self]; omega)
                    rw [this]
                    simp
                  · cases e
                · rename_i b o n c
                  obtain ⟨B, C, O, hb, hU⟩ := rv_slice hu
                  split at e
                  · rename_i hle
                    have hle := ble_t hle
                    split at e
                    · rename_i hc
                      have hc := Nat.eq_of_beq_eq_true hc
                      subst hc
                      split at e
                      · rename_i cs e' s' hg
                        split at e
                        · rename_i ho
                          split at e
                          · rename_i he'
                            split at e
                            · rename_i hs'
                              split at e
                              · rename_i hcl
                                have ho := Nat.eq_of_beq_eq_true ho
                                have he' := Nat.eq_of_beq_eq_true he'
                                have hs' := Nat.eq_of_beq_eq_true hs'
                                have hcl := Nat.eq_of_beq_eq_true hcl
                                subst ho; subst he'; subst hs'
                                cases e
                                rcases hU with ⟨hlt, _⟩ | ⟨_, hnC, hU⟩
                                · exact absurd hlt (Nat.lt_irrefl _)
                                rw [Nat.sub_self, Nat.add_zero] at hnC
                                rw [Nat.sub_self, Nat.sub_zero, Nat.add_zero] at hU
                                obtain ⟨B', C', hB', CS, arr, g1, g2, g3, g4, g5, g6⟩ := r.ok b _ hg
                                rw [hb] at hB'
                                cases hB'
                                have hCl := rvs_length g1
                                have hrow := rvs_append g1 (rvs_flats (ρ := ρ) (strCells_flats s))
                                have hll : (CS ++ Lib.strCells s).length = (n + s.size) * 1 := by rw [List.length_append, hsl, hCl, hcl, Nat.mul_one]
                                have hCl' : CS.length = n := by omega
                                have g3' : arr.size = C := by omega
                                by_cases hroom : n + s.size ≤ C
                                · have hr := Lib.run_append_room_string (P := P) w t t' ty e' i hT hT' hi his B n C arr g2 s hroom (by omega)
                                  obtain ⟨ρ', q1, q2, q3, q4⟩ := row_grown (w' := w.setRow B (arr.toList.take n ++ Lib.strCells s ++ arr.toList.drop (n + s.size)).toArray) (V' := .slice (some ⟨B, 0, none⟩) (n + s.size) C) r hf hg hb hrow (n' := n + s.size)
                                    ⟨hll, .inr ⟨B, C, _, rfl, Nat.zero_le _, setRow_heap w B arr _ e' _ g2, hroom, g4, by simp only [List.size_toArray, List.length_append, List.length_take, List.length_drop, Array.length_toList, hsl]; omega, by
                                      rw [hCl'] at g6
                                      rw [g6, ← hll]
                                      exact List.take_left⟩⟩ (by omega)
                                    ⟨rfl, rfl, rfl, by simp, fun k _ hk => setRow_other w B k _ (fun e => hk (by simp [e]))⟩ (.inl rfl)
                                  exact ⟨ρ', _, _, q1, q2, (Pr.set (hget_lt hg) _).trans (Pr.set hbs _), q3, q4, call (by rw [hV, hU]; exact hr)⟩
                                · have hcell : ∀ j V, CS[j]? = some V → w.cell? ((⟨B, 0, none⟩ : Addr).add j) = some V := fun j V hj => by
                                    rw [add_lit, Nat.zero_add]
                                    have : (arr.toList.take CS.length)[j]? = some V := by rw [g6]; exact hj
                                    rw [List.getElem?_take] at this
                                    split at this
                                    · simp [World.cell?, g2]
                                      simpa using this
                                    · cases this
                                  have hr := Lib.run_append_grow_string (P := P) w t t' ty e' i (.int .u8 0) hT hT' hi hiz ⟨B, 0, none⟩ n C CS (by rw [his]; omega) hcell s (by omega) (by omega) (growslice_fits (by omega) (by rw [hib]; omega))
                                  have hge := grownCap_ge w (n + s.size) C e'
                                  have hcm := grownCap_le_maxLen w (n + s.size) C e' (by simp only [maxLen]; omega)
                                  obtain ⟨q1, q2, q3⟩ := row_new (z := .int .u8 0) (s := 1) rfl hll hge
                                  have eA : CS.toArray ++ (Lib.strCells s).toArray = (CS ++ Lib.strCells s).toArray := by simp
                                  rw [eA] at hr
                                  obtain ⟨ρ', p1, p2, p3, p4⟩ := row_grown (V' := .slice (some ⟨w.heap.size, 0, none⟩) (n + s.size) (grownCap w (n + s.size) C e')) r hf hg hb hrow (n' := n + s.size)
                                    ⟨hll, .inr ⟨w.heap.size, _, _, rfl, Nat.zero_le _, heap_alloc_new w.drew _, hge, hcm, q1, by rw [← hll]; exact q3⟩⟩ (by omega)
                                    ⟨rfl, rfl, rfl, by simp, fun k hk _ => heap_alloc_old w.drew _ hk⟩ (.inr rfl)
                                  exact ⟨ρ', _, _, p1, p2, (Pr.set (hget_lt hg) _).trans (Pr.set hbs _), p3, p4, call (by rw [hV, hU]; exact hr)⟩
                              · cases e
                            · cases e
                          · cases e
                        · cases e
                      · cases e
                    · cases e
                  · cases e
                · cases e
              · cases e
            · cases e
          · cases e
        · cases e
      · cases e
    · cases e
  · cases e
def qsdata (u : Value) : Option Value := match u with
  | .slice (some ⟨b, o, none⟩) n c => match Nat.beq c capU with
    | true => match Nat.blt 0 n with
      | true => some (.pointer (some ⟨b, o, none⟩))
      | false => none
    | false => none
  | _ => none
theorem qsdata_sound {u v U : Value} (hu : rv ρ u = some U) (e : qsdata u = some v) (ts : Array TypeId) (ty : TypeId) : ∃ V, rv ρ v = some V ∧ (Builtin.unsafeSliceData_ ts ty #[U]).run P w = .ok V w := by
  unfold qsdata at e
  split at e
  · rename_i b o n c
    split at e
    · rename_i hc
      have hc := Nat.eq_of_beq_eq_true hc
      subst hc
      split at e
      · rename_i hn
        have hn := blt_t hn
        cases e
        obtain ⟨B, C, O, hb, hU⟩ := rv_slice hu
        rcases hU with ⟨hlt, _⟩ | ⟨_, hnC, rfl⟩
        · exact absurd hlt (Nat.lt_irrefl _)
        rw [Nat.sub_self] at hnC ⊢
        refine ⟨_, ?_, Lib.run_unsafeSliceData_row (P := P) w ts ty _ _ _ (by omega)⟩
        simp [rv, hb]
      · cases e
    · cases e
  · cases e
def byteOf (v : Value) : Option UInt8 := match v with
  | .int .u8 (.ofNat m) => match Nat.blt m 256 with
    | true => some (UInt8.ofNat m)
    | false => none
  | _ => none
def bytesOf : List Value → Option (List UInt8)
  | [] => some []
  | v :: r => match byteOf v with
    | some b => match bytesOf r with
      | some l => some (b :: l)
      | none => none
    | none => none
theorem bytesOf_sound : ∀ {cs : List Value} {l : List UInt8}, bytesOf cs = some l → cs = l.map fun b => Value.int .u8 b.toNat
  | [], l, e => by simp [bytesOf] at e; simp [e]
  | v :: r, l, e => by
    unfold bytesOf at e
    split at e
    · rename_i b hb
      split at e
      · rename_i l' hl
        cases e
        have := bytesOf_sound hl
        subst this
        unfold byteOf at hb
        split at hb
        · rename_i m
          split at hb
          · rename_i hm
            have hm := blt_t hm
            cases hb
            simp only [List.map_cons, List.cons.injEq, and_true]
            congr 1
            show ((m : Nat) : Int) = _
            rw [UInt8.toNat_ofNat', Nat.mod_eq_of_lt (by omega)]
          · cases hb
        · cases hb
      · cases e
    · cases e
def eustr (P : Program) (h : Heap) (nx : Nat) (pt : TypeId) (u v : Value) : Option Eff := match u with
  | .pointer (some ⟨b, o, none⟩) => match v with
    | .int .i64 (.ofNat n) => match Nat.beq o 0 with
      | true => match Nat.blt 0 n with
        | true => match hget h b with
          | some (.row cs e s) => match Nat.beq s 1 with
            | true => match Nat.beq cs.length n with
              | true => match P.underlying pt with
                | some (.pointer e') => match Nat.beq e' e with
                  | true => match Nat.beq (P.cellsOf e) 1 with
                    | true => match Nat.ble n 16777216 with
                      | true => match bytesOf cs with
                        | some bs => some (.val (.string ⟨⟨bs⟩⟩) (hset h b none) nx)
                        | none => none
                      | false => none
                    | false => none
                  | false => none
                | _ => none
              | false => none
            | false => none
          | _ => none
        | false => none
      | false => none
    | _ => none
  | _ => none
theorem eustr_sound (r : Rel w0 ρ h nx w) {b0 : Nat} {pt it : TypeId} {x y : Operand} {u v : Value} {f : Eff} (hu : rv ρ u = some (a.eval x)) (hv : rv ρ v = some (a.eval y)) (e : eustr P h nx pt u v = some f) :
    Does P w0 ρ h b0 a w ⟨ds, .call { callee := .builtin .unsafeString, args := #[x, y], argTypes := #[pt, it] }, ty, pos, af, gd⟩ f := by
  unfold eustr at e
  split at e
  · rename_i b o
    split at e
    · rename_i n
      have hV := rv_nil hv rfl
      split at e
      · rename_i ho
        split at e
        · rename_i hn
          have hn := blt_t hn
          split at e
          · rename_i cs el s hg
            split at e
            · rename_i hs
              split at e
              · rename_i hcl
                split at e
                · rename_i e' hpt
                  split at e
                  · rename_i hee
                    split at e
                    · rename_i hce
                      split at e
                      · rename_i hnb
                        have hnb := ble_t hnb
                        split at e
                        · rename_i bs hbs
                          cases e
                          have ho := Nat.eq_of_beq_eq_true ho
                          have hs := Nat.eq_of_beq_eq_true hs
                          have hcl := Nat.eq_of_beq_eq_true hcl
                          have hee := Nat.eq_of_beq_eq_true hee
                          have hce := Nat.eq_of_beq_eq_true hce
                          subst ho; subst hs; subst hee
                          obtain ⟨B, C, O, hb, hU⟩ := rv_ptr' hu
                          obtain ⟨B', C', hB', CS, arr, g1, g2, g3, g4, g5, g6⟩ := r.ok b _ hg
                          rw [hb] at hB'
                          cases hB'
                          have hcs := bytesOf_sound hbs
                          have hbl : bs.length = n := by rw [← hcl, hcs, List.length_map]
                          have hfl : flats cs = true := by
                            rw [hcs]
                            have := strCells_flats ⟨⟨bs⟩⟩
                            unfold Lib.strCells at this
                            exact this
                          have hCS := rvs_flats_eq' hfl g1
                          subst hCS
                          have hcell : ∀ j z, bs[j]? = some z → w.cell? ((⟨B, 0, none⟩ : Addr).add j) = some (.int .u8 z.toNat) := fun j z hj => by
                            have hj2 : CS[j]? = some (.int .u8 z.toNat) := by rw [hcs, List.getElem?_map, hj]; rfl
                            have hjl := (List.getElem?_eq_some_iff.1 hj2).1
                            rw [add_lit, Nat.zero_add]
                            have : (arr.toList.take CS.length)[j]? = some (.int .u8 z.toNat) := by rw [g6]; exact hj2
                            rw [List.getElem?_take, if_pos hjl] at this
                            simp [World.cell?, g2]
                            simpa using this
                          have hr := Lib.run_unsafeString_row (P := P) w pt it ty e' hpt hce B arr.size (by simp [World.shape?, g2]) bs (by intro hh; rw [hh] at hbl; simp at hbl; omega) (by omega) (by omega) hcell
                          have hB0 := r.own b _ hg rfl B C hb
                          have fr : Fr B w (w.freeze ⟨B, 0, none⟩ bs.length) := by
                            unfold World.freeze
                            split
                            · exact ⟨rfl, rfl, rfl, Nat.le_refl _, fun _ _ _ => rfl⟩
                            · exact ⟨rfl, rfl, rfl, by simp, fun k _ hk => by
                                simp only [Array.getElem?_modify]
                                rw [if_neg (by omega)]⟩
                          have rel' : Rel w0 ρ (hset h b none) nx (w.freeze ⟨B, 0, none⟩ bs.length) := by
                            have rd := r.drop (hget_lt hg)
                            refine ⟨fun c o1 e1 => ?_, rd.inj, rd.new, rd.small, rd.own, rd.old, fr.keep r hB0⟩
                            obtain ⟨B1, C1, q1, q2⟩ := rd.ok c o1 e1
                            have hne : B1 ≠ B := fun e2 => by
                              subst e2
                              by_cases hcb : c = b
                              · subst hcb; rw [hget_set_same (hget_lt hg)] at e1; cases e1
                              · rw [hget_set_other (hget_lt hg) hcb] at e1
                                exact hcb (r.inj c b o1 _ B1 C1 C e1 hg q1 hb)
                            exact ⟨B1, C1, q1, by rw [fr.block B1 q2.lt hne]; exact q2⟩
                          refine ⟨ρ, _, _, ELe.refl _, fun _ _ => rfl, Pr.set (hget_lt hg) _, rv_flat2 rfl, rel', ?_⟩
                          rw [Nat.zero_add] at hU
                          rw [hbl] at hr
                          have hVn : a.eval y = .int .i64 (n : Int) := hV
                          generalize a.eval = ev at hU hVn
                          simp only [execOp, resolve, invoke, builtin, Sem.run_bind, Sem.run_pure, Result.andThen_ok, List.map_toArray, List.map_cons, List.map_nil, hU, hVn, hr, hbl]
                        · cases e
                      · cases e
                    · cases e
                  · cases e
                · cases e
              · cases e
            · cases e
          · cases e
        · cases e
      · cases e
    · cases e
  · cases e
end
end
section
open Go.RowKit Go.MapKept
open Go.Vcg (Keep beq_ne aggOf sizeT zeroT bytesT add_lit callable run_call run_callv)
attribute [local irreducible] capU
section
variable {P : Program} {N : Nat} {w0 : World} {ρ : Env} {h : Heap} {l : Sls} {a : Act} {w : World} {nx : Nat}
def qnilc (u : Value) : Option Value := match u with
  | .pointer (some ⟨b, o, none⟩) => some (.pointer (some ⟨b, o, none⟩))
  | .func (.func f) p q => some (.func (.func f) p q)
  | _ => none
def aevO (N : Nat) (l : Sls) : Option Operand → Option (Option Value)
  | none => some none
  | some x => match aev N l x with
    | some v => match flat v with
      | true => some (some v)
      | false => none
    | none => none
theorem aevO_sound (hs : Sl N ρ l a) {x : Option Operand} {v : Option Value} (e : aevO N l x = some v) : x.map a.eval = v := by
  unfold aevO at e
  split at e
  · cases e; rfl
  · split at e
    · rename_i u hu
      split at e
      · rename_i hf
        cases e
        have := rv_nil (aev_sound hs hu) hf
        simp [this]
      · cases e
    · cases e
def isSl (P : Program) (t : TypeId) : Bool := match P.underlying t with
  | some (.slice _) => true
  | _ => false
def orE (x : Option Value) (y : Unit → Option Value) : Option Value := match x with
  | some v => some v
  | none => y ()
theorem orE_sound {x : Option Value} {y : Unit → Option Value} {v : Value} (e : orE x y = some v) : x = some v ∨ y () = some v := by
  unfold orE at e
  split at e
  · exact .inl e
  · exact .inr e
def pnext (P : Program) (s : Sem Next) : Option Value := match psem P s with
  | some (.value r) => match flat2 r with
    | true => some r
    | false => none
  | _ => none
theorem pnext_sound {s : Sem Next} {v : Value} (e : pnext P s = some v) : (∀ w : World, s.run P w = .ok (.value v) w) ∧ ∀ ρ, rv ρ v = some v := by
  unfold pnext at e
  split at e
  · rename_i r hr
    split at e
    · rename_i hf; cases e; exact ⟨psem_run hr, fun ρ => rv_flat2 hf⟩
    · cases e
  · cases e
theorem rvs_flats_eq {vs VS : List Value} (hf : flats vs = true) (e : rvs ρ vs = some VS) : VS = vs := by rw [rvs_flats hf] at e; cases e; rfl
def rop (P : Program) (N : Nat) (h : Heap) (l : Sls) (o : Oper) : Option Value := match o.op with
  | .move x => aev N l x
  | .assign x => aev N l x
  | .pick c x y => match aev N l c with
    | some (.bool true) => aev N l x
    | some (.bool false) => aev N l y
    | _ => none
  | .load t x => match aev N l x with
    | some u => ald P h t u
    | none => none
  | .nilCheck x => match aev N l x with
    | some u => qnilc u
    | none => none
  | .binOp op t x y _ => match aev N l x with
    | some u => match aev N l y with
      | some v => orE (qbin P op t x y u v) fun _ => qnil P op t u v
      | none => none
    | none => none
  | .unOp op _ x => match aev N l x with
    | some u => f1 u fun _ => pflat P (Op.unary op u)
    | none => none
  | .convert s d x => match aev N l x with
    | some u => f1 u fun _ => pflat P (convert s d u)
    | none => none
  | .makeInterface t x => match aev N l x with
    | some u => match P.underlying t with
      | some (.interface _) => none
      | some _ => some (.iface t u)
      | none => none
    | none => none
  | .makeFunc (.func f) ⟨xs⟩ ⟨ys⟩ => match aevs N l xs with
    | some us => match aevs N l ys with
      | some vs => some (.func (.func f) ⟨us⟩ ⟨vs⟩)
      | none => none
    | none => none
  | .slice t x lo hi mx => match aev N l x with
    | some u => match aevO N l lo with
      | some lo => match aevO N l hi with
        | some hi => match aevO N l mx with
          | some mx => orE (qslice P t u lo hi mx) fun _ => match isSl P t with
            | true => none
            | false => f1 u fun _ => pflat P (Instr.sliceAt t u lo hi mx)
          | none => none
        | none => none
      | none => none
    | none => none
  | .fieldAddr t x i => match aev N l x with
    | some u => qfaddr P t u i
    | none => none
  | .field t x i => match aev N l x with
    | some u => qfield P t u i
    | none => none
  | .indexAddr t x i => match aev N l x with
    | some u => match aev N l i with
      | some v => match flat v with
        | true => orE (qiaddr P t u v) fun _ => qiarr P t u v
        | false => none
      | none => none
    | none => none
  | .index t x i => match aev N l x with
    | some u => match aev N l i with
      | some v => f1 u fun _ => f1 v fun _ => pflat P (Instr.index t u v)
      | none => none
    | none => none
  | .lookup t x i ok => match aev N l x with
    | some u => match aev N l i with
      | some v => qlookup P h t u v ok
      | none => none
    | none => none
  | .extract x i => match aev N l x with
    | some (.tuple ⟨vs⟩) => nth vs i
    | _ => none
  | .build t ⟨ps⟩ => qbuild P N l t ps
  | .call { callee := .builtin .len, args := ⟨[x]⟩, argTypes := ⟨ts⟩ } => match aev N l x with
    | some u => orE (qlen P ts u) fun _ => f1 u fun _ => pnext P (builtin .len ⟨ts⟩ o.type ((⟨[x]⟩ : Array Operand).map fun | .const _ => true | _ => false) ⟨[u]⟩)
    | none => none
  | .call { callee := .builtin .unsafeSliceData, args := ⟨[x]⟩, argTypes := ⟨ts⟩ } => match aev N l x with
    | some u => orE (qsdata u) fun _ => f1 u fun _ => pnext P (builtin .unsafeSliceData ⟨ts⟩ o.type ((⟨[x]⟩ : Array Operand).map fun | .const _ => true | _ => false) ⟨[u]⟩)
    | none => none
  | .call { callee := .builtin b, args := ⟨xs⟩, argTypes := ts } => match aevs N l xs with
    | some us => match flats us with
      | true => pnext P (builtin b ts o.type ((⟨xs⟩ : Array Operand).map fun | .const _ => true | _ => false) ⟨us⟩)
      | false => none
    | none => none
  | _ => none
theorem yes_of {o : Oper} {v : Value} {s : Sem Value} (hx : execOp a.eval o = (do pure (.value (← s)))) (hr : ∃ V, rv ρ v = some V ∧ s.run P w = .ok V w) : Yes P ρ a w o v := by
  obtain ⟨V, h1, h2⟩ := hr
  exact ⟨V, h1, by rw [hx]; simp only [Sem.run_bind, h2, Result.andThen_ok]; rfl⟩
theorem pf {s : Sem Value} {v : Value} (e : pflat P s = some v) : ∃ V, rv ρ v = some V ∧ s.run P w = .ok V w := ⟨v, (pflat_sound e).2 ρ, (pflat_sound e).1 w⟩
theorem rop_sound (hs : Sl N ρ l a) (hk : HeapOk ρ h w) {o : Oper} {v : Value} (e : rop P N h l o = some v) : Yes P ρ a w o v := by
  obtain ⟨ds, op, ty, pos, af, gd⟩ := o
  unfold rop at e
  dsimp only at e
  split at e
  · exact ⟨_, aev_sound hs e, rfl⟩
  · exact ⟨_, aev_sound hs e, rfl⟩
  · rename_i c x y
    split at e
    · rename_i hc
      have hc := rv_nil (aev_sound hs hc) rfl
      exact ⟨_, aev_sound hs e, by simp [execOp, hc, asBool]⟩
    · rename_i hc
      have hc := rv_nil (aev_sound hs hc) rfl
      exact ⟨_, aev_sound hs e, by simp [execOp, hc, asBool]⟩
    · cases e
  · rename_i t x
    split at e
    · rename_i u hu
      exact yes_of rfl (ald_sound hk (aev_sound hs hu) e)
    · cases e
  · rename_i x
    split at e
    · rename_i u hu
      have hu := aev_sound hs hu
      unfold qnilc at e
      split at e
      · cases e
        obtain ⟨A, hA⟩ := rv_pointer_some hu
        exact ⟨_, hu, by simp [execOp, hA]⟩
      · cases e
        obtain ⟨X, Y, _, _, hA⟩ := rv_func hu
        exact ⟨_, hu, by simp [execOp, hA]⟩
      · cases e
    · cases e
  · rename_i op t x y t2
    split at e
    · rename_i u hu
      split at e
      · rename_i v' hv
        rcases orE_sound e with e | e
        · exact qbin_sound (aev_sound hs hu) (aev_sound hs hv) e
        · exact qnil_sound (aev_sound hs hu) (aev_sound hs hv) e
      · cases e
    · cases e
  · rename_i op t x
    split at e
    · rename_i u hu
      obtain ⟨h1, h2⟩ := f1_sound (aev_sound hs hu) e
      exact yes_of (s := Op.unary op u) (by simp only [execOp, h1]) (pf h2)
    · cases e
  · rename_i s d x
    split at e
    · rename_i u hu
      obtain ⟨h1, h2⟩ := f1_sound (aev_sound hs hu) e
      exact yes_of (s := convert s d u) (by simp only [execOp, h1]) (pf h2)
    · cases e
  · rename_i t x
    split at e
    · rename_i u hu
      have hu := aev_sound hs hu
      split at e
      · cases e
      · rename_i de hde hni
        cases e
        refine ⟨.iface t (a.eval x), by simp [rv, hu], ?_⟩
        cases de <;> first | (simp [execOp, Instr.makeInterface, run_underlying hni]; done) | exact (hde _ hni).elim | exact (hde _ rfl).elim | simp_all
      · cases e
    · cases e
  · rename_i f xs ys
    split at e
    · rename_i us hu
      split at e
      · rename_i vs hv
        cases e
        have h1 := aevs_sound hs hu
        have h2 := aevs_sound hs hv
        exact ⟨.func (.func f) ⟨xs.map a.eval⟩ ⟨ys.map a.eval⟩, by simp [rv, h1, h2], by simp [execOp, Instr.makeFunc]⟩
      · cases e
    · cases e
  · rename_i t x lo hi mx
    split at e
    · rename_i u hu
      split at e
      · rename_i lo' hlo
        split at e
        · rename_i hi' hhi
          split at e
          · rename_i mx' hmx
            have h1 := aevO_sound hs hlo
            have h2 := aevO_sound hs hhi
            have h3 := aevO_sound hs hmx
            rcases orE_sound e with e | e
            · refine yes_of (s := Instr.sliceAt t (a.eval x) lo' hi' mx') (by simp only [execOp, h1, h2, h3]) (qslice_sound (aev_sound hs hu) e)
            · split at e
              · cases e
              · obtain ⟨h4, h5⟩ := f1_sound (aev_sound hs hu) e
                exact yes_of (s := Instr.sliceAt t u lo' hi' mx') (by simp only [execOp, h1, h2, h3, h4]) (pf h5)
          · cases e
        · cases e
      · cases e
    · cases e
  · rename_i t x i
    split at e
    · rename_i u hu
      exact yes_of rfl (qfaddr_sound (aev_sound hs hu) e)
    · cases e
  · rename_i t x i
    split at e
    · rename_i u hu
      exact yes_of rfl (qfield_sound (aev_sound hs hu) e)
    · cases e
  · rename_i t x i
    split at e
    · rename_i u hu
      split at e
      · rename_i v' hv
        split at e
        · rename_i hf
          have hi := rv_nil (aev_sound hs hv) hf
          rcases orE_sound e with e | e
          · exact yes_of (s := Instr.indexAt t (a.eval x) v') (by simp only [execOp, hi]) (qiaddr_sound (aev_sound hs hu) e)
          · exact yes_of (s := Instr.indexAt t (a.eval x) v') (by simp only [execOp, hi]) (qiarr_sound (aev_sound hs hu) e)
        · cases e
      · cases e
    · cases e
  · rename_i t x i
    split at e
    · rename_i u hu
      split at e
      · rename_i v' hv
        obtain ⟨h1, h2⟩ := f1_sound (aev_sound hs hu) e
        obtain ⟨h3, h4⟩ := f1_sound (aev_sound hs hv) h2
        exact yes_of (s := Instr.index t u v') (by simp only [execOp, h1, h3]) (pf h4)
      · cases e
    · cases e
  · rename_i t x i ok
    split at e
    · rename_i u hu
      split at e
      · rename_i v' hv
        exact yes_of rfl (qlookup_sound hk (aev_sound hs hu) (aev_sound hs hv) e)
      · cases e
    · cases e
  · rename_i x i
    split at e
    · rename_i vs hu
      obtain ⟨X, hX, hA⟩ := rv_tuple (aev_sound hs hu)
      rw [nth_eq] at e
      obtain ⟨V, h1, h2⟩ := rvs_get hX i v e
      exact yes_of rfl ⟨V, h2, by simp [hA, Instr.extract, h1]⟩
    · cases e
  · exact qbuild_sound hs e
  · rename_i x ts
    split at e
    · rename_i u hu
      rcases orE_sound e with e | e
      · exact qlen_sound (aev_sound hs hu) e
      · obtain ⟨h1, h2⟩ := f1_sound (aev_sound hs hu) e
        obtain ⟨h3, h4⟩ := pnext_sound h2
        refine ⟨v, h4 ρ, ?_⟩
        have := h3 w
        generalize a.eval = ev at h1
        simp only [execOp, resolve, invoke, Sem.run_bind, Sem.run_pure, Result.andThen_ok]
        rw [show (⟨[x]⟩ : Array Operand).map ev = ⟨[u]⟩ by simp [← h1]]
        exact this
    · cases e
  · rename_i x ts
    split at e
    · rename_i u hu
      rcases orE_sound e with e | e
      · obtain ⟨V, g1, g2⟩ := qsdata_sound (P := P) (w := w) (aev_sound hs hu) e ⟨ts⟩ ty
        refine ⟨V, g1, ?_⟩
        generalize a.eval = ev at g2
        simp only [execOp, resolve, invoke, builtin, Sem.run_bind, Sem.run_pure, Result.andThen_ok, List.map_toArray, List.map_cons, List.map_nil, g2]
      · obtain ⟨h1, h2⟩ := f1_sound (aev_sound hs hu) e
        obtain ⟨h3, h4⟩ := pnext_sound h2
        refine ⟨v, h4 ρ, ?_⟩
        have := h3 w
        generalize a.eval = ev at h1
        simp only [execOp, resolve, invoke, Sem.run_bind, Sem.run_pure, Result.andThen_ok]
        rw [show (⟨[x]⟩ : Array Operand).map ev = ⟨[u]⟩ by simp [← h1]]
        exact this
    · cases e
  · rename_i b xs ts _ _
    split at e
    · rename_i us hu
      split at e
      · rename_i hf
        have hx := rvs_flats_eq hf (aevs_sound hs hu)
        obtain ⟨h3, h4⟩ := pnext_sound e
        refine ⟨v, h4 ρ, ?_⟩
        have := h3 w
        generalize a.eval = ev at hx
        simp only [execOp, resolve, invoke, Sem.run_bind, Sem.run_pure, Result.andThen_ok]
        rw [show (⟨xs⟩ : Array Operand).map ev = ⟨us⟩ by simp [← hx]]
        exact this
      · cases e
    · cases e
  · cases e
def eop (P : Program) (N : Nat) (h : Heap) (b0 nx0 nx : Nat) (l : Sls) (o : Oper) : Option Eff := match o.op with
  | .store t x y => match aev N l x with
    | some u => match aev N l y with
      | some v => estore P h nx0 t u v
      | none => none
    | none => none
  | .box t x => match aev N l x with
    | some v => ebox h b0 nx t v
    | none => none
  | .alloc t => ealloc P h b0 nx t
  | .buildSlice t n ⟨ps⟩ => ebuild P N h b0 nx l t n ps
  | .makeMap _ none => emkmap h b0 nx
  | .makeSlice t x y => match aev N l x with
    | some u => match aev N l y with
      | some v => emake P h b0 nx t u v
      | none => none
    | none => none
  | .insert t m x y => match aev N l m with
    | some u => match aev N l x with
      | some k => match aev N l y with
        | some v => emapset P h nx0 t u k v
        | none => none
      | none => none
    | none => none
  | .mapUpdate t m x y => match aev N l m with
    | some u => match aev N l x with
      | some k => match aev N l y with
        | some v => emapset P h nx0 t u k v
        | none => none
      | none => none
    | none => none
  | .slice t x lo hi none => match aev N l x with
    | some u => match aevO N l lo with
      | some lo => match aevO N l hi with
        | some hi => eend P h b0 nx t u lo hi
        | none => none
      | none => none
    | none => none
  | .call { callee := .builtin .append, args := ⟨[x, y]⟩, argTypes := ⟨[t, t']⟩ } => match aev N l x with
    | some u => match aev N l y with
      | some v => match Nat.beq t t' with
        | true => eappend P h b0 nx0 nx t u v
        | false => eappS P h b0 nx t t' u v
      | none => none
    | none => none
  | .call { callee := .builtin .unsafeString, args := ⟨[x, y]⟩, argTypes := ⟨[pt, _]⟩ } => match aev N l x with
    | some u => match aev N l y with
      | some v => eustr P h nx0 pt u v
      | none => none
    | none => none
  | _ => none
theorem eop_sound {b0 nx' : Nat} (r : Rel w0 ρ h nx w) (hf : Fresh ρ nx b0 nx') (hs : Sl N ρ l a) {o : Oper} {f : Eff} (e : eop P N h b0 nx nx' l o = some f) : Does P w0 ρ h b0 a w o f := by
  obtain ⟨ds, op, ty, pos, af, gd⟩ := o
  unfold eop at e
  dsimp only at e
  split at e
  · rename_i t x y
    split at e
    · rename_i u hu
      split at e
      · rename_i v hv
        exact estore_sound r (aev_sound hs hu) (aev_sound hs hv) e
      · cases e
    · cases e
  · rename_i t x
    split at e
    · rename_i v hv
      exact ebox_sound r hf (aev_sound hs hv) e
    · cases e
  · exact ealloc_sound r hf e
  · exact ebuild_sound r hf hs e
  · exact emkmap_sound r hf e
  · rename_i t x y
    split at e
    · rename_i u hu
      split at e
      · rename_i v hv
        exact emake_sound r hf (aev_sound hs hu) (aev_sound hs hv) e
      · cases e
    · cases e
  · rename_i t m x y
    split at e
    · rename_i u hu
      split at e
      · rename_i k hkk
        split at e
        · rename_i v hv
          exact emapset_sound r (.inl rfl) (aev_sound hs hu) (aev_sound hs hkk) (aev_sound hs hv) e
        · cases e
      · cases e
    · cases e
  · rename_i t m x y
    split at e
    · rename_i u hu
      split at e
      · rename_i k hkk
        split at e
        · rename_i v hv
          exact emapset_sound r (.inr rfl) (aev_sound hs hu) (aev_sound hs hkk) (aev_sound hs hv) e
        · cases e
      · cases e
    · cases e
  · rename_i t x lo hi
    split at e
    · rename_i u hu
      split at e
      · rename_i lo' hlo
        split at e
        · rename_i hi' hhi
          have h1 := aevO_sound hs hlo
          have h2 := aevO_sound hs hhi
          obtain ⟨v, V, ρ', rfl, g1, g2, g3, g4, g5⟩ := eend_sound (P := P) r hf (aev_sound hs hu) e
          refine ⟨ρ', V, w, g1, g2, Pr.refl _, g3, g4, ?_⟩
          simp only [execOp, h1, h2, Option.map_none, Sem.run_bind, g5, Result.andThen_ok]
          rfl
        · cases e
      · cases e
    · cases e
  · rename_i x y t t'
    split at e
    · rename_i u hu
      split at e
      · rename_i v hv
        split at e
        · rename_i ht
          have ht := Nat.eq_of_beq_eq_true ht
          subst ht
          exact eappend_sound r hf (aev_sound hs hu) (aev_sound hs hv) e
        · exact eappS_sound r hf (aev_sound hs hu) (aev_sound hs hv) e
      · cases e
    · cases e
  · rename_i x y pt it
    split at e
    · rename_i u hu
      split at e
      · rename_i v hv
        exact eustr_sound r (aev_sound hs hu) (aev_sound hs hv) e
      · cases e
    · cases e
  · cases e
def cop (P : Program) (N : Nat) (l : Sls) (o : Oper) : Option (FuncId × List Value) := match o.op with
  | .call { callee := .value (.func f), args := ⟨xs⟩, .. } => match aevs N l xs with
    | some vs => match callable P f with
      | true => some (f, vs)
      | false => none
    | none => none
  | .call { callee := .value q, args := ⟨xs⟩, .. } => match aev N l q with
    | some (.func (.func f) ⟨[]⟩ ⟨cs⟩) => match aevs N l xs with
      | some vs => match callable P f with
        | true => some (f, vs ++ cs)
        | false => none
      | none => none
    | _ => none
  | _ => none
theorem cop_sound (hs : Sl N ρ l a) {o : Oper} {f : FuncId} {vs : List Value} (e : cop P N l o = some (f, vs)) : callable P f = true ∧ ∃ VS, rvs ρ vs = some VS ∧ (execOp a.eval o).run P w = .ok (.enter f VS.toArray) w := by
  obtain ⟨ds, op, ty, pos, af, gd⟩ := o
  unfold cop at e
  dsimp only at e
  split at e
  · rename_i g xs ts
    split at e
    · rename_i us hu
      split at e
      · rename_i hc
        cases e
        refine ⟨hc, _, aevs_sound hs hu, ?_⟩
        rw [run_call hc rfl]
        simp
      · cases e
    · cases e
  · rename_i q xs ts _
    split at e
    · rename_i g cs hq
      split at e
      · rename_i us hu
        split at e
        · rename_i hc
          cases e
          obtain ⟨X, Y, h1, h2, h3⟩ := rv_func (aev_sound hs hq)
          simp [rvs] at h1
          subst h1
          refine ⟨hc, _, rvs_append (aevs_sound hs hu) h2, ?_⟩
          rw [run_callv hc h3]
          simp
        · cases e
      · cases e
    · cases e
  · cases e
end
end
section
open Go.RowKit
open Go.Vcg (Keep callable)
def Ext (n : Nat) (ρ ρ' : Env) : Prop := ∀ c, c < n → ρ' c = ρ c
structure Ev (ρ : Env) (h : Heap) (nx : Nat) (ρ' : Env) (h' : Heap) (nx' : Nat) : Prop where
  ext : Ext nx ρ ρ'
  le : nx ≤ nx'
  pr : Pr h h'
theorem Ev.refl (ρ : Env) (h : Heap) (nx : Nat) : Ev ρ h nx ρ h nx := ⟨fun _ _ => rfl, Nat.le_refl _, Pr.refl _⟩
theorem Ev.trans {ρ ρ' ρ'' : Env} {h h' h'' : Heap} {nx nx' nx'' : Nat} (p : Ev ρ h nx ρ' h' nx') (q : Ev ρ' h' nx' ρ'' h'' nx'') : Ev ρ h nx ρ'' h'' nx'' :=
  ⟨fun c hc => (q.ext c (Nat.lt_of_lt_of_le hc p.le)).trans (p.ext c hc), Nat.le_trans p.le q.le, p.pr.trans q.pr⟩
section
variable {P : Program} {qs : List FuncId} {N : Nat} {w0 : World} {ρ ρ' : Env} {h h' : Heap} {l : Sls} {a : Act} {w w' : World} {nx nx' : Nat}
theorem Ev.ele (r : Rel w0 ρ h nx w) (e : Ev ρ h nx ρ' h' nx') : ELe ρ ρ' := fun b x hb => by
  rcases Nat.lt_or_ge b nx with h1 | h1
  · rw [e.ext b h1]; exact hb
  · rw [r.new b h1] at hb; cases hb
def QuietF (P : Program) (f : FuncId) : Prop := ∀ (args : Array Value) (w : World), CallsD P f args .returning w fun e u' w' => (∃ v, e = .returned v) ∧ u' = .returning ∧ Below w.heap.size w w'
def QuietD (P : Program) (qs : List FuncId) (d : Deferred) : Prop := ∃ f cap, f ∈ qs ∧ d.target = .fn (.func f) cap ∧ callable P f = true ∧ QuietF P f
structure R (P : Program) (qs : List FuncId) (w0 : World) (N : Nat) (ρ : Env) (h : Heap) (nx : Nat) (l : Sls) (a : Act) (w : World) : Prop where
  rel : Rel w0 ρ h nx w
  sl : Sl N ρ l a
  df : ∀ d ∈ a.defers, QuietD P qs d
def putL (l : Sls) (d : Option Nat) (v : Value) : Sls := match d with
  | some d => sset l d v
  | none => l
theorem TR.put {t : Array Value} (ht : TR ρ l t) {v V : Value} (hv : rv ρ v = some V) (d : Nat) : TR ρ (sset l d v) (t.setIfInBounds d V) := by
  obtain ⟨ln, lt⟩ := l
  have old : ∀ i u, i ≠ d → sget ⟨ln, lt⟩ i = some u → isHole u = false → ∃ V', (t.setIfInBounds d V)[i]? = some V' ∧ rv ρ u = some V' := fun i u hi hu hh => by
    obtain ⟨V', h1, h2⟩ := ht.2 i u hu hh
    exact ⟨V', by rw [Array.getElem?_setIfInBounds_ne (Ne.symm hi)]; exact h1, h2⟩
  by_cases hn : Nat.blt d ln = true
  · by_cases hs : Nat.blt d 512 = true
    · have e : sset ⟨ln, lt⟩ d v = ⟨ln, tset 9 lt d (some v)⟩ := by simp [sset, hn, hs]
      rw [e]
      refine ⟨by simpa using ht.1, fun i u hu hh => ?_⟩
      by_cases hi : i = d
      · subst hi
        have : u = v := by
          unfold sget at hu
          rw [hs] at hu
          simp only [tget_set_same] at hu
          cases hu; rfl
        subst this
        exact ⟨V, by rw [Array.getElem?_setIfInBounds_self_of_lt (by rw [ht.1]; exact blt_t hn)], hv⟩
      · refine old i u hi ?_ hh
        unfold sget at hu ⊢
        split at hu
        · rename_i hi5
          rw [tget_set_other 9 lt d i (some v) (blt_t hs) (blt_t hi5) hi] at hu
          exact hu
        · cases hu
    · have e : sset ⟨ln, lt⟩ d v = ⟨ln, lt⟩ := by simp [sset, hn, hs]
      have hs' : ¬ d < 512 := fun h => hs (by rw [Nat.blt, Nat.ble_eq]; exact h)
      rw [e]
      refine ⟨by simpa using ht.1, fun i u hu hh => old i u (fun hi => ?_) hu hh⟩
      subst hi
      unfold sget at hu
      split at hu
      · rename_i h5; exact hs (h5)
      · cases hu
  · have e : sset ⟨ln, lt⟩ d v = ⟨ln, lt⟩ := by simp [sset, hn]
    rw [e]
    refine ⟨by simpa using ht.1, fun i u hu hh => old i u (fun hi => ?_) hu hh⟩
    subst hi
    obtain ⟨V', h1, _⟩ := ht.2 i u hu hh
    have := (Array.getElem?_eq_some_iff.1 h1).1
    rw [ht.1] at this
    exact hn (by rw [Nat.blt, Nat.ble_eq]; exact this)
theorem R.put (r : R P qs w0 N ρ h nx l a w) {v V : Value} (hv : rv ρ v = some V) (d : Option Nat) : R P qs w0 N ρ h nx (putL l d v) (a.put d V) w := by
  cases d with
  | none => exact r
  | some d => exact ⟨r.rel, ⟨r.sl.glob, r.sl.tmps.put hv d⟩, r.df⟩
theorem R.go (r : R P qs w0 N ρ h nx l a w) (hle : ELe ρ ρ') (hr : Rel w0 ρ' h' nx' w') : R P qs w0 N ρ' h' nx' l a w' := ⟨hr, ⟨r.sl.glob.mono hle, r.sl.tmps.mono hle⟩, r.df⟩
def undefV : Value := .tuple ⟨[]⟩
theorem rv_undef : rv ρ undefV = some undef := by simp [undefV, undef, rv, rvs]
def gwants (ops : List Oper) (l : Sls) (o : Oper) : Option Bool := match o.guard with
  | none => some true
  | some (g, want) => match nth ops g with
    | some o' => match o'.dst with
      | some t => match sget l t with
        | some (.bool b) => some (b == want)
        | some (.tuple ⟨[]⟩) => some false
        | _ => none
      | none => none
    | none => none
theorem gwants_sound (hs : Sl N ρ l a) {ops : List Oper} {o : Oper} {b : Bool} (e : gwants ops l o = some b) : Region.wanted o (yielded ops.toArray a.tmps) = b := by
  unfold gwants at e
  unfold Region.wanted
  split at e
  · rename_i hg; cases e; simp [hg]
  · rename_i g want hg
    split at e
    · rename_i o' ho
      rw [nth_eq] at ho
      split at e
      · rename_i t ht
        have hy : (((ops.toArray[g]?).bind (·.dst)) : Option Nat) = some t := by simp [ho, ht]
        split at e
        · rename_i b' hb
          cases e
          obtain ⟨V, h1, h2⟩ := hs.tmps.2 t _ hb rfl
          cases rv_nil h2 rfl
          simp only [hg, yielded, hy, Option.bind_some, h1]
          cases b' <;> cases want <;> rfl
        · rename_i hb
          cases e
          obtain ⟨V, h1, h2⟩ := hs.tmps.2 t _ hb rfl
          have : V = .tuple ⟨[]⟩ := rv_flat2_eq rfl h2
          subst this
          simp only [hg, yielded, hy, Option.bind_some, h1]
          rfl
        · cases e
      · cases e
    · cases e
abbrev CallF := FuncId → List Value → Heap → Nat → Option (Value × Heap × Nat)
def CallOk (P : Program) (w0 : World) (N : Nat) (call : CallF) : Prop :=
  ∀ ρ h nx f vs VS w v h' nx', call f vs h nx = some (v, h', nx') → Rel w0 ρ h nx w → Glob N ρ → rvs ρ vs = some VS →
    ∀ R' : Ending → World → Prop, (∀ ρ' V w', Ev ρ h nx ρ' h' nx' → rv ρ' v = some V → Rel w0 ρ' h' nx' w' → R' (.returned V) w') → Calls P f VS.toArray w R'
theorem Rel.fresh (r : Rel w0 ρ h nx w) (hn : nx < 1048576) : Fresh ρ nx nx (nx + 1) := ⟨r.new nx (Nat.le_refl _), Nat.le_succ _, Nat.lt_succ_self _, hn⟩
theorem ev_of {b0 : Nat} (hb : nx ≤ b0) (ho : ∀ c, c ≠ b0 → ρ' c = ρ c) (hn : nx ≤ nx') (hp : Pr h h') : Ev ρ h nx ρ' h' nx' :=
  ⟨fun c hc => ho c (by omega), hn, hp⟩
def dop (P : Program) (N : Nat) (qs : List FuncId) (l : Sls) (o : Oper) : Bool := match o.op with
  | .defer { callee := .value q, args := ⟨[]⟩, .. } => match aev N l q with
    | some (.func (.func f) ⟨[]⟩ _) => match qs.any (Nat.beq f) with
      | true => callable P f
      | false => false
    | _ => false
  | _ => false
theorem dop_sound (hq : ∀ f ∈ qs, QuietF P f) (hs : Sl N ρ l a) {o : Oper} (e : dop P N qs l o = true) : ∃ d, QuietD P qs d ∧ (execOp a.eval o).run P w = .ok (.defer d) w := by
  obtain ⟨ds, op, ty, pos, af, gd⟩ := o
  unfold dop at e
  dsimp only at e
  split at e
  · rename_i q ts
    split at e
    · rename_i f cs hf
      split at e
      · rename_i hany
        obtain ⟨g, hg, hfg⟩ := List.any_eq_true.1 hany
        have hfg := Nat.eq_of_beq_eq_true hfg
        subst hfg
        obtain ⟨X, Y, h1, h2, h3⟩ := rv_func (aev_sound hs hf)
        simp [rvs] at h1
        subst h1
        refine ⟨{ target := .fn (.func f) ⟨Y⟩, args := #[] }, ⟨f, ⟨Y⟩, hg, rfl, e, hq f hg⟩, ?_⟩
        generalize a.eval = ev at h3
        simp [execOp, resolve, h3, Deferred.ofValue]
      · cases e
    · cases e
  · cases e
def runOps (P : Program) (N : Nat) (qs : List FuncId) (call : CallF) (ops : List Oper) : List Oper → Heap → Nat → Sls → Option (Heap × Nat × Sls)
  | [], h, nx, l => some (h, nx, l)
  | o :: r, h, nx, l => match gwants ops l o with
    | some true => match rop P N h l o with
      | some v => runOps P N qs call ops r h nx (putL l o.dst v)
      | none => match cop P N l o with
        | some (f, vs) => match call f vs h nx with
          | some (v, h', nx') => runOps P N qs call ops r h' nx' (putL l o.dst v)
          | none => none
        | none => match Nat.blt nx 1048576 with
          | true => match eop P N h nx nx (nx + 1) l o with
            | some (.val v h' nx') => match Nat.ble nx nx' with
              | true => runOps P N qs call ops r h' nx' (putL l o.dst v)
              | false => none
            | some (.skip h' nx') => match Nat.ble nx nx' with
              | true => runOps P N qs call ops r h' nx' (putL l o.dst undefV)
              | false => none
            | none => match dop P N qs l o with
              | true => runOps P N qs call ops r h nx (putL l o.dst undefV)
              | false => none
          | false => none
    | some false => runOps P N qs call ops r h nx (putL l o.dst undefV)
    | none => none
theorem runOps_sound {call : CallF} (hc : CallOk P w0 N call) (hq : ∀ f ∈ qs, QuietF P f) {ops : List Oper} {h' : Heap} {nx' : Nat} {l' : Sls} : ∀ {r : List Oper} {h : Heap} {nx : Nat} {l : Sls} {ρ : Env} {a : Act} {w : World} {Q : Exit → Act → World → Prop},
    runOps P N qs call ops r h nx l = some (h', nx', l') → R P qs w0 N ρ h nx l a w → (∀ ρ' a' w', Ev ρ h nx ρ' h' nx' → R P qs w0 N ρ' h' nx' l' a' w' → Q .normal a' w') → wpList P ops.toArray Q r a w
  | [], h, nx, l, ρ, a, w, Q, e, r, hQ => by
    unfold runOps at e
    cases e
    exact hQ ρ a w (Ev.refl _ _ _) r
  | o :: rest, h, nx, l, ρ, a, w, Q, e, r, hQ => by
    unfold runOps at e
    unfold wpList
    split at e
    · rename_i hg
      rw [if_pos (gwants_sound r.sl hg)]
      split at e
      · rename_i v hv
        obtain ⟨V, h1, h2⟩ := rop_sound r.sl r.rel.ok hv
        refine .inl ?_
        unfold Oper.wp
        rw [h2, Oper.upon_value]
        exact runOps_sound hc hq e (r.put h1 o.dst) hQ
      · split at e
        · rename_i f vs hf
          obtain ⟨hcl, VS, h1, h2⟩ := cop_sound (w := w) r.sl hf
          split at e
          · rename_i v h1' nx1 hcall
            refine .inl ?_
            unfold Oper.wp
            rw [h2, Oper.upon_enter]
            refine hc ρ h nx f vs VS w v h1' nx1 hcall r.rel r.sl.glob h1 _ fun ρ1 V w1 hev hv hr => ?_
            show wpList P ops.toArray Q rest (a.put o.dst V) w1
            exact runOps_sound hc hq e ((r.go (hev.ele r.rel) hr).put hv o.dst) fun ρ' a' w' hev' hR => hQ ρ' a' w' (hev.trans hev') hR
          · cases e
        · split at e
          · rename_i hn
            have hn := blt_t hn
            split at e
            · rename_i v h1' nx1 he
              split at e
              · rename_i hle
                obtain ⟨ρ1, V, w1, g1, g2, g3, g4, g5, g6⟩ := eop_sound r.rel (r.rel.fresh hn) r.sl he
                have hev : Ev ρ h nx ρ1 h1' nx1 := ev_of (Nat.le_refl _) g2 (ble_t hle) g3
                refine .inl ?_
                unfold Oper.wp
                rw [g6, Oper.upon_value]
                exact runOps_sound hc hq e ((r.go g1 g5).put g4 o.dst) fun ρ' a' w' hev' hR => hQ ρ' a' w' (hev.trans hev') hR
              · cases e
            · rename_i h1' nx1 he
              split at e
              · rename_i hle
                obtain ⟨w1, g3, g5, g6⟩ := eop_sound r.rel (r.rel.fresh hn) r.sl he
                have hev : Ev ρ h nx ρ h1' nx1 := ⟨fun _ _ => rfl, ble_t hle, g3⟩
                refine .inl ?_
                unfold Oper.wp
                rw [g6, Oper.upon_skip]
                exact runOps_sound hc hq e ((r.go (ELe.refl _) g5).put rv_undef o.dst) fun ρ' a' w' hev' hR => hQ ρ' a' w' (hev.trans hev') hR
              · cases e
            · split at e
              · rename_i hd
                obtain ⟨d, hd1, hd2⟩ := dop_sound (w := w) hq r.sl hd
                refine .inl ?_
                unfold Oper.wp
                rw [hd2, Oper.upon_defer]
                have r' : R P qs w0 N ρ h nx l { a with defers := d :: a.defers } w := ⟨r.rel, ⟨r.sl.glob, r.sl.tmps⟩, fun x hx => by
                  rcases List.mem_cons.1 hx with rfl | hx
                  · exact hd1
                  · exact r.df x hx⟩
                exact runOps_sound hc hq e (r'.put rv_undef o.dst) hQ
              · cases e
          · cases e
    · rename_i hg
      rw [if_neg (by rw [gwants_sound r.sl hg]; simp)]
      exact runOps_sound hc hq e (r.put rv_undef o.dst) hQ
    · cases e
end
end
end Go.Rex
namespace Go.Proofs.YtccbkihnedpjcaaDoor
end Go.Proofs.YtccbkihnedpjcaaDoor
