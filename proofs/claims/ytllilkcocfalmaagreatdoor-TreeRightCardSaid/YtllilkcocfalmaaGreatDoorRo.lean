/- A machine for closed runs: a string is appended; unsafe.SliceData, unsafe.String. No statement of the seat is proved here. -/
import Derived.Test.YtllilkcocfalmaaGreatDoorRh
import Derived.Lib.UnsafeStr
import Derived.Lib.AppendStr
import Derived.Lib.FrozenHead
set_option maxRecDepth 20000
namespace Go.Rex
open Go.RowKit Go.MapKept
open Go.Vcg (Keep beq_ne aggOf sizeT zeroT bytesT add_lit callable nat16_eq natB_eq)
attribute [local irreducible] capU
section
variable {P : Program} {N : Nat} {w0 : World} {ρ : Env} {h : Heap} {l : Sls} {a : Act} {w : World} {nx : Nat}
variable {ds : Option Nat} {ty : TypeId} {pos : String} {af : Array Edge} {gd : Option (Nat × Bool)}

theorem rvs_flats_eq' {vs VS : List Value} (hf : flats vs = true) (e : rvs ρ vs = some VS) : VS = vs := by rw [rvs_flats hf] at e; cases e; rfl
theorem strCells_flats (s : ByteArray) : flats (Lib.strCells s) = true := by
  unfold Lib.strCells
  generalize s.data.toList = l
  induction l with
  | nil => rfl
  | cons x r ih => simp only [List.map_cons, flats, flat, ih]
/-- a row has been appended to -/
theorem row_grown {b0 nx' : Nat} (r : Rel w0 ρ h nx w) (hf : Fresh ρ nx b0 nx') {el s n' : Nat} {b B C : Nat} {cs cs' CS' : List Value} {V' : Value} {w' : World} (hg : hget h b = some (.row cs el s)) (hb : ρ b = some (B, C, 0))
    (hcs : rvs ρ cs' = some CS') (r2 : w'.ownsRow 0 el s V' n' CS') (hn' : 0 < n') (r3 : w.grownBy w' (some B)) (r4 : V'.ownBlock = some B ∨ V'.ownBlock = some w.heap.size) :
    ∃ ρ', ELe ρ ρ' ∧ (∀ c, c ≠ b0 → ρ' c = ρ c) ∧ rv ρ' (.slice (some ⟨b0, 0, none⟩) n' capU) = some V' ∧ Rel w0 ρ' (hset (hset h b none) b0 (some (.row cs' el s))) nx' w' := by
  have hB0 := r.own b _ hg rfl B C hb
  rcases r2.2 with ⟨h1, h2⟩ | ⟨g, cap, cur, hv', _, k1, k2, k3, k4, k5⟩
  · omega
  subst hv'
  have hgB : g = B ∨ g = w.heap.size := by
    rcases r4 with r4 | r4
    · left; simp only [Value.ownBlock, Option.some.injEq] at r4; exact r4
    · right; simp only [Value.ownBlock, Option.some.injEq] at r4; exact r4
  have fr : Fr2 g B w w' := ⟨r3.os, r3.tape, r3.output, r3.size, fun k hk _ hkB => r3.block k hk (by simp only [ne_eq, Option.some.injEq]; exact fun e => hkB (by omega))⟩
  have hfreeB : ∀ c o C', hget (hset h b none) c = some o → ρ c = some (B, C', 0) → False := fun c o C' e1 e2 => by
    by_cases hcb : c = b
    · subst hcb; rw [hget_set_same (hget_lt hg)] at e1; cases e1
    · rw [hget_set_other (hget_lt hg) hcb] at e1
      exact hcb (r.inj c b o _ B C' C e1 hg e2 hb)
  have hfreeg : ∀ c o C', hget (hset h b none) c = some o → ρ c = some (g, C', 0) → False := fun c o C' e1 e2 => by
    rcases hgB with rfl | rfl
    · exact hfreeB c o C' e1 e2
    · exact (r.drop (hget_lt hg)).noSize c o C' e1 e2
  have hg0 : w0.heap.size ≤ g := by
    rcases hgB with rfl | rfl
    · exact hB0
    · exact r.keep.size
  have hle := ext_le (x := (g, cap, 0)) hf.free
  have hobj' : ObjOk (ext ρ b0 (g, cap, 0)) cap (.row cs' el s) w'.heap[g]? :=
    ⟨CS', cur, rvs_mono hle hcs, k1, k4, k3, by rw [r2.1, k4]; exact Nat.mul_le_mul_right _ k2, by rw [r2.1]; exact k5⟩
  refine ⟨_, hle, ext_other, ?_, (r.drop (hget_lt hg)).put2 hf rfl fr hg0 hB0 hfreeB hfreeg hobj'⟩
  have := rv_slice_mku (ρ := ext ρ b0 (g, cap, 0)) (b := b0) (o := 0) (n := n') (c := capU) ext_same (Nat.le_refl _) (by rw [Nat.sub_self]; omega)
  rw [this]
  simp

/-- a string's bytes are appended -/
def eappS (P : Program) (h : Heap) (b0 nx : Nat) (t t' : TypeId) (u v : Value) : Option Eff := match P.underlying t with
  | some (.slice e) => match P.underlying t' with
    | some .string => match v with
      | .string s => match Nat.blt 0 s.size with
        | true => match sizeT P e with
          | some 1 => match bytesT P e with
            | some 1 => match zeroT P e with
              | some (.int .u8 0) => match u with
                | .slice none 0 0 => match Nat.ble s.size 16777216 with
                  | true => some (.val (.slice (some ⟨b0, 0, none⟩) s.size capU) (hset h b0 (some (.row (Lib.strCells s) e 1))) nx)
                  | false => none
                | .slice (some ⟨b, o, none⟩) n c => match Nat.ble (n + s.size) 16777216 with
                  | true => match Nat.beq c capU with
                    | true => match hget h b with
                      | some (.row cs e' s') => match Nat.beq o 0 with
                        | true => match Nat.beq e' e with
                          | true => match Nat.beq s' 1 with
                            | true => match Nat.beq cs.length n with
                              | true => some (.val (.slice (some ⟨b0, 0, none⟩) (n + s.size) capU) (hset (hset h b none) b0 (some (.row (cs ++ Lib.strCells s) e 1))) nx)
                              | false => none
                            | false => none
                          | false => none
                        | false => none
                      | _ => none
                    | false => none
                  | false => none
                | _ => none
              | _ => none
            | _ => none
          | _ => none
        | false => none
      | _ => none
    | _ => none
  | _ => none
theorem run_app_call {p q : Operand} {t t' : TypeId} {v x v' : Value} {w' : World} {ρ : Operand → Value} {ds : Option Nat} (hp : ρ p = v) (hq : ρ q = x) (hr : (Builtin.append_ #[t, t'] ty #[v, x]).run P w = .ok v' w') :
    (execOp ρ ⟨ds, .call { callee := .builtin .append, args := #[p, q], argTypes := #[t, t'] }, ty, pos, af, gd⟩).run P w = .ok (.value v') w' := by
  simp only [execOp, resolve, invoke, builtin, Sem.run_bind, Sem.run_pure, Result.andThen_ok, List.map_toArray, List.map_cons, List.map_nil, hp, hq, hr]
theorem info_of {e : TypeId} {s bytes : Nat} {z : Value} (hs : sizeT P e = some s) (hz : zeroT P e = some z) (hby : bytesT P e = some bytes) : ∃ i, P.info? e = some i ∧ i.zero = some z ∧ i.size = s ∧ i.bytes = bytes := by
  unfold sizeT at hs
  unfold zeroT at hz
  unfold bytesT at hby
  cases hi : P.info? e with
  | none => simp [hi] at hs
  | some i =>
    simp [hi, nat16_eq] at hs
    simp [hi] at hz
    simp [hi, natB_eq] at hby
    exact ⟨i, rfl, hz, hs, hby⟩
set_option maxHeartbeats 1000000 in
theorem eappS_sound {b0 nx' : Nat} (r : Rel w0 ρ h nx w) (hf : Fresh ρ nx b0 nx') {t t' : TypeId} {x y : Operand} {u v : Value} {f : Eff} (hu : rv ρ u = some (a.eval x)) (hv : rv ρ v = some (a.eval y)) (e : eappS P h b0 nx' t t' u v = some f) :
    Does P w0 ρ h b0 a w ⟨ds, .call { callee := .builtin .append, args := #[x, y], argTypes := #[t, t'] }, ty, pos, af, gd⟩ f := by
  have call : ∀ {V' w'}, (Builtin.append_ #[t, t'] ty #[a.eval x, a.eval y]).run P w = .ok V' w' → (execOp a.eval ⟨ds, .call { callee := .builtin .append, args := #[x, y], argTypes := #[t, t'] }, ty, pos, af, gd⟩).run P w = .ok (.value V') w' :=
    fun hr => run_app_call rfl rfl hr
  have hbs : b0 < 1048576 := Nat.lt_of_lt_of_le hf.lt hf.small
  unfold eappS at e
  split at e
  · rename_i el hT
    split at e
    · rename_i hT'
      split at e
      · rename_i s
        have hV := rv_nil hv rfl
        split at e
        · rename_i hpos
          have hpos := blt_t hpos
          split at e
          · rename_i hs
            split at e
            · rename_i hby
              split at e
              · rename_i hz
                obtain ⟨i, hi, hiz, his, hib⟩ := info_of hs hz hby
                have hsl := Lib.strCells_length s
                split at e
                · split at e
                  · rename_i hle
                    have hle := ble_t hle
                    cases e
                    have hU := rv_nil hu rfl
                    have hr := run_append_nil_string (P := P) w t t' ty el i (.int .u8 0) hT hT' hi hiz s (by omega) (by omega) (by rw [hib]; omega)
                    have e1 : (s.data.map fun b => Value.int .u8 b.toNat) = (Lib.strCells s).toArray := by
                      apply Array.ext'
                      simp [Lib.strCells]
                    rw [e1] at hr
                    have hC1 := grownCap_ge w s.size 0 el
                    have hC2 := grownCap_le_maxLen w s.size 0 el (by simp only [maxLen]; omega)
                    obtain ⟨q1, q2, q3⟩ := row_new (z := .int .u8 0) (s := 1) rfl (by rw [hsl, Nat.mul_one]) hC1
                    refine ⟨_, _, _, ext_le hf.free, ext_other, Pr.set hbs _, ?_, r.row hf (rvs_flats (strCells_flats s)) el q1 hC2 q2 q3, call (by rw [hV, hU]; exact hr)⟩
                    have := rv_slice_mku (ρ := ext ρ b0 (w.heap.size, grownCap w s.size 0 el, 0)) (b := b0) (o := 0) (n := s.size) (c := capU) ext_same (Nat.le_refl _) (by rw [Nat.sub_self]; omega)
                    rw [this]
                    simp
                  · cases e
                · rename_i b o n c
                  obtain ⟨B, C, O, hb, hU⟩ := rv_slice hu
                  split at e
                  · rename_i hle
                    have hle := ble_t hle
                    split at e
                    · rename_i hc
                      have hc := Nat.eq_of_beq_eq_true hc
                      subst hc
                      split at e
                      · rename_i cs e' s' hg
                        split at e
                        · rename_i ho
                          split at e
                          · rename_i he'
                            split at e
                            · rename_i hs'
                              split at e
                              · rename_i hcl
                                have ho := Nat.eq_of_beq_eq_true ho
                                have he' := Nat.eq_of_beq_eq_true he'
                                have hs' := Nat.eq_of_beq_eq_true hs'
                                have hcl := Nat.eq_of_beq_eq_true hcl
                                subst ho; subst he'; subst hs'
                                cases e
                                rcases hU with ⟨hlt, _⟩ | ⟨_, hnC, hU⟩
                                · exact absurd hlt (Nat.lt_irrefl _)
                                rw [Nat.sub_self, Nat.add_zero] at hnC
                                rw [Nat.sub_self, Nat.sub_zero, Nat.add_zero] at hU
                                obtain ⟨B', C', hB', CS, arr, g1, g2, g3, g4, g5, g6⟩ := r.ok b _ hg
                                rw [hb] at hB'
                                cases hB'
                                have hCl := rvs_length g1
                                have hrow := rvs_append g1 (rvs_flats (ρ := ρ) (strCells_flats s))
                                have hll : (CS ++ Lib.strCells s).length = (n + s.size) * 1 := by rw [List.length_append, hsl, hCl, hcl, Nat.mul_one]
                                have hCl' : CS.length = n := by omega
                                have g3' : arr.size = C := by omega
                                by_cases hroom : n + s.size ≤ C
                                · have hr := Lib.run_append_room_string (P := P) w t t' ty e' i hT hT' hi his B n C arr g2 s hroom (by omega)
                                  obtain ⟨ρ', q1, q2, q3, q4⟩ := row_grown (w' := w.setRow B (arr.toList.take n ++ Lib.strCells s ++ arr.toList.drop (n + s.size)).toArray) (V' := .slice (some ⟨B, 0, none⟩) (n + s.size) C) r hf hg hb hrow (n' := n + s.size)
                                    ⟨hll, .inr ⟨B, C, _, rfl, Nat.zero_le _, setRow_heap w B arr _ e' _ g2, hroom, g4, by simp only [List.size_toArray, List.length_append, List.length_take, List.length_drop, Array.length_toList, hsl]; omega, by
                                      rw [hCl'] at g6
                                      rw [g6, ← hll]
                                      exact List.take_left⟩⟩ (by omega)
                                    ⟨rfl, rfl, rfl, by simp, fun k _ hk => setRow_other w B k _ (fun e => hk (by simp [e]))⟩ (.inl rfl)
                                  exact ⟨ρ', _, _, q1, q2, (Pr.set (hget_lt hg) _).trans (Pr.set hbs _), q3, q4, call (by rw [hV, hU]; exact hr)⟩
                                · have hcell : ∀ j V, CS[j]? = some V → w.cell? ((⟨B, 0, none⟩ : Addr).add j) = some V := fun j V hj => by
                                    rw [add_lit, Nat.zero_add]
                                    have : (arr.toList.take CS.length)[j]? = some V := by rw [g6]; exact hj
                                    rw [List.getElem?_take] at this
                                    split at this
                                    · simp [World.cell?, g2]
                                      simpa using this
                                    · cases this
                                  have hr := Lib.run_append_grow_string (P := P) w t t' ty e' i (.int .u8 0) hT hT' hi hiz ⟨B, 0, none⟩ n C CS (by rw [his]; omega) hcell s (by omega) (by omega) (growslice_fits (by omega) (by rw [hib]; omega))
                                  have hge := grownCap_ge w (n + s.size) C e'
                                  have hcm := grownCap_le_maxLen w (n + s.size) C e' (by simp only [maxLen]; omega)
                                  obtain ⟨q1, q2, q3⟩ := row_new (z := .int .u8 0) (s := 1) rfl hll hge
                                  have eA : CS.toArray ++ (Lib.strCells s).toArray = (CS ++ Lib.strCells s).toArray := by simp
                                  rw [eA] at hr
                                  obtain ⟨ρ', p1, p2, p3, p4⟩ := row_grown (V' := .slice (some ⟨w.heap.size, 0, none⟩) (n + s.size) (grownCap w (n + s.size) C e')) r hf hg hb hrow (n' := n + s.size)
                                    ⟨hll, .inr ⟨w.heap.size, _, _, rfl, Nat.zero_le _, heap_alloc_new w.drew _, hge, hcm, q1, by rw [← hll]; exact q3⟩⟩ (by omega)
                                    ⟨rfl, rfl, rfl, by simp, fun k hk _ => heap_alloc_old w.drew _ hk⟩ (.inr rfl)
                                  exact ⟨ρ', _, _, p1, p2, (Pr.set (hget_lt hg) _).trans (Pr.set hbs _), p3, p4, call (by rw [hV, hU]; exact hr)⟩
                              · cases e
                            · cases e
                          · cases e
                        · cases e
                      · cases e
                    · cases e
                  · cases e
                · cases e
              · cases e
            · cases e
          · cases e
        · cases e
      · cases e
    · cases e
  · cases e

/-- unsafe.SliceData -/
def qsdata (u : Value) : Option Value := match u with
  | .slice (some ⟨b, o, none⟩) n c => match Nat.beq c capU with
    | true => match Nat.blt 0 n with
      | true => some (.pointer (some ⟨b, o, none⟩))
      | false => none
    | false => none
  | _ => none
theorem qsdata_sound {u v U : Value} (hu : rv ρ u = some U) (e : qsdata u = some v) (ts : Array TypeId) (ty : TypeId) : ∃ V, rv ρ v = some V ∧ (Builtin.unsafeSliceData_ ts ty #[U]).run P w = .ok V w := by
  unfold qsdata at e
  split at e
  · rename_i b o n c
    split at e
    · rename_i hc
      have hc := Nat.eq_of_beq_eq_true hc
      subst hc
      split at e
      · rename_i hn
        have hn := blt_t hn
        cases e
        obtain ⟨B, C, O, hb, hU⟩ := rv_slice hu
        rcases hU with ⟨hlt, _⟩ | ⟨_, hnC, rfl⟩
        · exact absurd hlt (Nat.lt_irrefl _)
        rw [Nat.sub_self] at hnC ⊢
        refine ⟨_, ?_, Lib.run_unsafeSliceData_row (P := P) w ts ty _ _ _ (by omega)⟩
        simp [rv, hb]
      · cases e
    · cases e
  · cases e

/-- the bytes of cells -/
def byteOf (v : Value) : Option UInt8 := match v with
  | .int .u8 (.ofNat m) => match Nat.blt m 256 with
    | true => some (UInt8.ofNat m)
    | false => none
  | _ => none
def bytesOf : List Value → Option (List UInt8)
  | [] => some []
  | v :: r => match byteOf v with
    | some b => match bytesOf r with
      | some l => some (b :: l)
      | none => none
    | none => none
theorem bytesOf_sound : ∀ {cs : List Value} {l : List UInt8}, bytesOf cs = some l → cs = l.map fun b => Value.int .u8 b.toNat
  | [], l, e => by simp [bytesOf] at e; simp [e]
  | v :: r, l, e => by
    unfold bytesOf at e
    split at e
    · rename_i b hb
      split at e
      · rename_i l' hl
        cases e
        have := bytesOf_sound hl
        subst this
        unfold byteOf at hb
        split at hb
        · rename_i m
          split at hb
          · rename_i hm
            have hm := blt_t hm
            cases hb
            simp only [List.map_cons, List.cons.injEq, and_true]
            congr 1
            show ((m : Nat) : Int) = _
            rw [UInt8.toNat_ofNat', Nat.mod_eq_of_lt (by omega)]
          · cases hb
        · cases hb
      · cases e
    · cases e
/-- unsafe.String of a row that is known: its block is let go -/
def eustr (P : Program) (h : Heap) (nx : Nat) (pt : TypeId) (u v : Value) : Option Eff := match u with
  | .pointer (some ⟨b, o, none⟩) => match v with
    | .int .i64 (.ofNat n) => match Nat.beq o 0 with
      | true => match Nat.blt 0 n with
        | true => match hget h b with
          | some (.row cs e s) => match Nat.beq s 1 with
            | true => match Nat.beq cs.length n with
              | true => match P.underlying pt with
                | some (.pointer e') => match Nat.beq e' e with
                  | true => match Nat.beq (P.cellsOf e) 1 with
                    | true => match Nat.ble n 16777216 with
                      | true => match bytesOf cs with
                        | some bs => some (.val (.string ⟨⟨bs⟩⟩) (hset h b none) nx)
                        | none => none
                      | false => none
                    | false => none
                  | false => none
                | _ => none
              | false => none
            | false => none
          | _ => none
        | false => none
      | false => none
    | _ => none
  | _ => none
theorem eustr_sound (r : Rel w0 ρ h nx w) {b0 : Nat} {pt it : TypeId} {x y : Operand} {u v : Value} {f : Eff} (hu : rv ρ u = some (a.eval x)) (hv : rv ρ v = some (a.eval y)) (e : eustr P h nx pt u v = some f) :
    Does P w0 ρ h b0 a w ⟨ds, .call { callee := .builtin .unsafeString, args := #[x, y], argTypes := #[pt, it] }, ty, pos, af, gd⟩ f := by
  unfold eustr at e
  split at e
  · rename_i b o
    split at e
    · rename_i n
      have hV := rv_nil hv rfl
      split at e
      · rename_i ho
        split at e
        · rename_i hn
          have hn := blt_t hn
          split at e
          · rename_i cs el s hg
            split at e
            · rename_i hs
              split at e
              · rename_i hcl
                split at e
                · rename_i e' hpt
                  split at e
                  · rename_i hee
                    split at e
                    · rename_i hce
                      split at e
                      · rename_i hnb
                        have hnb := ble_t hnb
                        split at e
                        · rename_i bs hbs
                          cases e
                          have ho := Nat.eq_of_beq_eq_true ho
                          have hs := Nat.eq_of_beq_eq_true hs
                          have hcl := Nat.eq_of_beq_eq_true hcl
                          have hee := Nat.eq_of_beq_eq_true hee
                          have hce := Nat.eq_of_beq_eq_true hce
                          subst ho; subst hs; subst hee
                          obtain ⟨B, C, O, hb, hU⟩ := rv_ptr' hu
                          obtain ⟨B', C', hB', CS, arr, g1, g2, g3, g4, g5, g6⟩ := r.ok b _ hg
                          rw [hb] at hB'
                          cases hB'
                          have hcs := bytesOf_sound hbs
                          have hbl : bs.length = n := by rw [← hcl, hcs, List.length_map]
                          have hfl : flats cs = true := by
                            rw [hcs]
                            have := strCells_flats ⟨⟨bs⟩⟩
                            unfold Lib.strCells at this
                            exact this
                          have hCS := rvs_flats_eq' hfl g1
                          subst hCS
                          have hcell : ∀ j z, bs[j]? = some z → w.cell? ((⟨B, 0, none⟩ : Addr).add j) = some (.int .u8 z.toNat) := fun j z hj => by
                            have hj2 : CS[j]? = some (.int .u8 z.toNat) := by rw [hcs, List.getElem?_map, hj]; rfl
                            have hjl := (List.getElem?_eq_some_iff.1 hj2).1
                            rw [add_lit, Nat.zero_add]
                            have : (arr.toList.take CS.length)[j]? = some (.int .u8 z.toNat) := by rw [g6]; exact hj2
                            rw [List.getElem?_take, if_pos hjl] at this
                            simp [World.cell?, g2]
                            simpa using this
                          have hr := Lib.run_unsafeString_row (P := P) w pt it ty e' hpt hce B arr.size (by simp [World.shape?, g2]) bs (by intro hh; rw [hh] at hbl; simp at hbl; omega) (by omega) (by omega) hcell
                          have hB0 := r.own b _ hg rfl B C hb
                          have fr : Fr B w (w.freeze ⟨B, 0, none⟩ bs.length) := by
                            unfold World.freeze
                            split
                            · exact ⟨rfl, rfl, rfl, Nat.le_refl _, fun _ _ _ => rfl⟩
                            · exact ⟨rfl, rfl, rfl, by simp, fun k _ hk => by
                                simp only [Array.getElem?_modify]
                                rw [if_neg (by omega)]⟩
                          have rel' : Rel w0 ρ (hset h b none) nx (w.freeze ⟨B, 0, none⟩ bs.length) := by
                            have rd := r.drop (hget_lt hg)
                            refine ⟨fun c o1 e1 => ?_, rd.inj, rd.new, rd.small, rd.own, rd.old, fr.keep r hB0⟩
                            obtain ⟨B1, C1, q1, q2⟩ := rd.ok c o1 e1
                            have hne : B1 ≠ B := fun e2 => by
                              subst e2
                              by_cases hcb : c = b
                              · subst hcb; rw [hget_set_same (hget_lt hg)] at e1; cases e1
                              · rw [hget_set_other (hget_lt hg) hcb] at e1
                                exact hcb (r.inj c b o1 _ B1 C1 C e1 hg q1 hb)
                            exact ⟨B1, C1, q1, by rw [fr.block B1 q2.lt hne]; exact q2⟩
                          refine ⟨ρ, _, _, ELe.refl _, fun _ _ => rfl, Pr.set (hget_lt hg) _, rv_flat2 rfl, rel', ?_⟩
                          rw [Nat.zero_add] at hU
                          rw [hbl] at hr
                          have hVn : a.eval y = .int .i64 (n : Int) := hV
                          generalize a.eval = ev at hU hVn
                          simp only [execOp, resolve, invoke, builtin, Sem.run_bind, Sem.run_pure, Result.andThen_ok, List.map_toArray, List.map_cons, List.map_nil, hU, hVn, hr, hbl]
                        · cases e
                      · cases e
                    · cases e
                  · cases e
                · cases e
              · cases e
            · cases e
          · cases e
        · cases e
      · cases e
    · cases e
  · cases e
end
end Go.Rex
