/- A machine for closed runs: the operations that leave the world alone. No statement of the seat is proved here. -/
import Derived.Test.YtllilkcocfalmaaGreatDoorRc
set_option maxRecDepth 20000
namespace Go.Rex
open Go.RowKit Go.MapKept
open Go.Vcg (Keep beq_ne aggOf sizeT zeroT bytesT fieldT run_fieldAt run_indexAt add_lit callable run_zeroValue)
attribute [local irreducible] capU
section
variable {P : Program} {N : Nat} {ρ : Env} {h : Heap} {l : Sls} {a : Act} {w : World} {nx : Nat}
variable {ds : Option Nat} {ty : TypeId} {pos : String} {af : Array Edge} {gd : Option (Nat × Bool)}

theorem blt_t {a b : Nat} (h : Nat.blt a b = true) : a < b := by simp [Nat.blt] at h; omega
theorem blt_f {a b : Nat} (h : Nat.blt a b = false) : b ≤ a := Nat.le_of_not_lt fun hlt => by
  rw [show Nat.blt a b = true from (by rw [Nat.blt, Nat.ble_eq]; exact hlt)] at h; cases h
theorem ble_t {a b : Nat} (h : Nat.ble a b = true) : a ≤ b := by simpa using h
/-- a closed computation of a value that bears no block -/
def pflat (P : Program) (s : Sem Value) : Option Value := match psem P s with
  | some r => match flat2 r with
    | true => some r
    | false => none
  | none => none
theorem pflat_sound {s : Sem Value} {v : Value} (e : pflat P s = some v) : (∀ w : World, s.run P w = .ok v w) ∧ ∀ ρ, rv ρ v = some v := by
  unfold pflat at e
  split at e
  · rename_i r hr
    split at e
    · rename_i hf; cases e; exact ⟨psem_run hr, fun ρ => rv_flat2 hf⟩
    · cases e
  · cases e
def f1 (u : Value) (k : Unit → Option Value) : Option Value := match flat2 u with
  | true => k ()
  | false => none
theorem f1_sound {u U v : Value} {k : Unit → Option Value} (hu : rv ρ u = some U) (e : f1 u k = some v) : U = u ∧ k () = some v := by
  unfold f1 at e
  split at e
  · rename_i hf; exact ⟨rv_flat2_eq hf hu, e⟩
  · cases e

def qlen (P : Program) (ts : List TypeId) (u : Value) : Option Value := match ts with
  | [t] => match u with
    | .slice _ n _ => match P.underlying t with
      | some (.slice _) => some (.int .i64 n)
      | _ => none
    | _ => none
  | _ => none
theorem qlen_sound {ts : List TypeId} {x : Operand} {u v : Value} (hu : rv ρ u = some (a.eval x)) (e : qlen P ts u = some v) : Yes P ρ a w ⟨ds, .call { callee := .builtin .len, args := #[x], argTypes := ts.toArray }, ty, pos, af, gd⟩ v := by
  unfold qlen at e
  split at e
  · rename_i t
    split at e
    · rename_i A n c
      split at e
      · rename_i el ht
        cases e
        refine ⟨_, rv_flat rfl, ?_⟩
        have : ∃ A' c', a.eval x = .slice A' n c' := by
          rcases A with _ | ⟨b, o, _ | s⟩
          · exact ⟨_, _, rv_nil hu rfl⟩
          · obtain ⟨A', C, h1⟩ := rv_slice_some hu; exact ⟨_, _, h1⟩
          · simp [rv] at hu
        obtain ⟨A', c', h1⟩ := this
        generalize a.eval = ev at h1
        simp [execOp, h1, resolve, invoke, builtin, Builtin.len_, run_underlying ht, goInt]
      · cases e
    · cases e
  · cases e

def qfield (P : Program) (t : TypeId) (u : Value) (i : Nat) : Option Value := match P.underlying t with
  | some (.struct fs) => match fs[i]? with
    | some f => match u with
      | .agg ⟨cs⟩ => varAt P f.type cs f.offset
      | _ => none
    | none => none
  | _ => none
theorem qfield_sound {t : TypeId} {u U v : Value} {i : Nat} (hu : rv ρ u = some U) (e : qfield P t u i = some v) : ∃ V, rv ρ v = some V ∧ (Instr.field t U i).run P w = .ok V w := by
  unfold qfield at e
  split at e
  · rename_i fs hT
    split at e
    · rename_i f hf
      split at e
      · rename_i cs
        obtain ⟨X, hX, rfl⟩ := rv_agg hu
        obtain ⟨V, h1, h2⟩ := run_part (P := P) (w := w) hX e
        exact ⟨V, h1, by simp [Instr.field, run_underlying hT, hf, asAgg, h2]⟩
      · cases e
    · cases e
  · cases e
def qfaddr (P : Program) (t : TypeId) (u : Value) (i : Nat) : Option Value := match u with
  | .pointer (some ⟨b, o, none⟩) => match fieldT P t i with
    | some (_, off) => some (.pointer (some ⟨b, o + off, none⟩))
    | none => none
  | _ => none
theorem rv_ptr' {b o : Nat} {V : Value} (e : rv ρ (.pointer (some ⟨b, o, none⟩)) = some V) : ∃ B C O, ρ b = some (B, C, O) ∧ V = .pointer (some ⟨B, O + o, none⟩) := by
  unfold rv at e
  split at e
  · rename_i B C O hb; cases e; exact ⟨B, C, O, hb, rfl⟩
  · cases e
theorem qfaddr_sound {t : TypeId} {u U v : Value} {i : Nat} (hu : rv ρ u = some U) (e : qfaddr P t u i = some v) : ∃ V, rv ρ v = some V ∧ (Instr.fieldAt t U i).run P w = .ok V w := by
  unfold qfaddr at e
  split at e
  · rename_i b o
    split at e
    · rename_i ft off hf
      cases e
      obtain ⟨B, C, O, hb, rfl⟩ := rv_ptr' hu
      exact ⟨_, by simp [rv, hb]; rfl, by rw [run_fieldAt hf, add_lit, Nat.add_assoc]⟩
    · cases e
  · cases e
def qiaddr (P : Program) (t : TypeId) (u : Value) (i : Value) : Option Value := match i with
  | .int .i64 (.ofNat k) => match u with
    | .slice (some ⟨b, o, none⟩) n _ => match Nat.blt k n with
      | true => match P.underlying t with
        | some (.slice e) => match sizeT P e with
          | some s => some (.pointer (some ⟨b, o + k * s, none⟩))
          | none => none
        | _ => none
      | false => none
    | _ => none
  | _ => none
def qiarr (P : Program) (t : TypeId) (u : Value) (i : Value) : Option Value := match i with
  | .int _ (.ofNat k) => match u with
    | .pointer (some ⟨b, o, none⟩) => match P.underlying t with
        | some (.array n e) => match Nat.blt k n with
          | true => match sizeT P e with
            | some s => some (.pointer (some ⟨b, o + k * s, none⟩))
            | none => none
          | false => none
        | _ => none
    | _ => none
  | _ => none
theorem qiaddr_sound {t : TypeId} {u U i v : Value} (hu : rv ρ u = some U) (e : qiaddr P t u i = some v) : ∃ V, rv ρ v = some V ∧ (Instr.indexAt t U i).run P w = .ok V w := by
  unfold qiaddr at e
  split at e
  · rename_i k
    split at e
    · rename_i b o n c
      split at e
      · rename_i hk
        split at e
        · rename_i el hT
          split at e
          · rename_i s hs
            cases e
            have hk' : k < n := blt_t hk
            obtain ⟨B, C, O, hb, h1⟩ := rv_slice hu
            have h2 : ∃ c', U = .slice (some ⟨B, O + o, none⟩) n c' := by
              rcases h1 with ⟨_, rfl⟩ | ⟨_, _, rfl⟩ <;> exact ⟨_, rfl⟩
            obtain ⟨c', rfl⟩ := h2
            refine ⟨.pointer (some ⟨B, O + (o + k * s), none⟩), by simp [rv, hb], ?_⟩
            have := run_indexAt (P := P) (A := ⟨B, O + o, none⟩) (cap := c') hT hs hk' w
            rw [add_lit, Nat.add_assoc] at this
            exact this
          · cases e
        · cases e
      · cases e
    · cases e
  · cases e
theorem qiarr_sound {t : TypeId} {u U i v : Value} (hu : rv ρ u = some U) (e : qiarr P t u i = some v) : ∃ V, rv ρ v = some V ∧ (Instr.indexAt t U i).run P w = .ok V w := by
  unfold qiarr at e
  split at e
  · rename_i kd k
    split at e
    · rename_i b o
      split at e
      · rename_i n el hT
        split at e
        · rename_i hk
          split at e
          · rename_i s hs
            cases e
            have hk' : k < n := blt_t hk
            obtain ⟨B, C, O, hb, rfl⟩ := rv_ptr' hu
            refine ⟨.pointer (some ⟨B, O + (o + k * s), none⟩), by simp [rv, hb], ?_⟩
            simp [Instr.indexAt, asIntOf, run_underlying hT, Instr.sureAddr, Go.Vcg.run_sizeOf hs, hk', add_lit, Nat.add_assoc]
          · cases e
        · cases e
      · cases e
    · cases e
  · cases e
/-- a slice of a slice, where no place becomes unknown -/
def boundOf (x : Option Value) (d : Nat) : Option Nat := match x with
  | none => some d
  | some (.int .i64 (.ofNat k)) => some k
  | some _ => none
def boundMax (hi : Option Value) (m : Value) : Option Nat := match hi with
  | none => none
  | some _ => boundOf (some m) 0
def qsliceU (capU : Nat) (P : Program) (t : TypeId) (u : Value) (lo hi mx : Option Value) : Option Value := match P.underlying t with
  | some (.slice e) => match sizeT P e with
    | some s => match u with
      | .slice (some ⟨b, o, none⟩) n c => match boundOf lo 0, boundOf hi n with
        | some i, some j => match mx with
          | none => match Nat.ble i j with
            | true => match Nat.blt c capU with
              | true => match Nat.ble j c with
                | true => match Nat.beq c i with
                  | true => some (.slice (some ⟨b, o, none⟩) (j - i) (c - i))
                  | false => some (.slice (some ⟨b, o + i * s, none⟩) (j - i) (c - i))
                | false => none
              | false => match Nat.ble j n with
                | true => match Nat.beq i 0 with
                  | true => some (.slice (some ⟨b, o, none⟩) (j - i) c)
                  | false => match Nat.blt i n with
                    | true => some (.slice (some ⟨b, o + i * s, none⟩) (j - i) (c + i))
                    | false => none
                | false => none
            | false => none
          | some m => match boundMax hi m with
            | some m => match Nat.ble i j with
              | true => match Nat.ble j m with
                | true => match Nat.ble m n with
                  | true => match Nat.ble m c with
                    | true => match Nat.beq m i with
                      | true => match Nat.blt m capU with
                        | true => some (.slice (some ⟨b, o, none⟩) (j - i) (m - i))
                        | false => none
                      | false => match Nat.blt m capU with
                        | true => some (.slice (some ⟨b, o + i * s, none⟩) (j - i) (m - i))
                        | false => none
                    | false => none
                  | false => none
                | false => none
              | false => none
            | none => none
        | _, _ => none
      | .slice none 0 0 => match boundOf lo 0, boundOf hi 0 with
        | some 0, some 0 => match mx with
          | none => some (.slice none 0 0)
          | some m => match boundMax hi m with
            | some 0 => some (.slice none 0 0)
            | _ => none
        | _, _ => none
      | _ => none
    | none => none
  | _ => none
theorem run_bound {x : Value} {k y : Nat} (e : boundOf (some x) 0 = some k) (hk : k ≤ y) (c : BoundsCode) : (Instr.sliceBound x y c).run P w = .ok k w := by
  unfold boundOf at e
  split at e
  · rename_i h1; cases h1
  · rename_i k' h1
    cases h1; cases e
    have h2 : (0 : Int) ≤ (k : Int) ∧ (k : Int) ≤ (y : Int) := by omega
    simp [Instr.sliceBound, asIntOf, hk]
  · cases e
theorem boundOf_some (u : Value) (n : Nat) : boundOf (some u) n = boundOf (some u) 0 := by
  unfold boundOf
  split <;> simp_all
theorem run_sliceAt {t e : TypeId} {s n c i j : Nat} {A : Option Addr} {lo hi : Option Value} (ht : P.underlying t = some (.slice e)) (hs : sizeT P e = some s) (hi' : boundOf lo 0 = some i) (hj : boundOf hi n = some j) (h1 : i ≤ j) (h2 : j ≤ c) :
    (Instr.sliceAt t (.slice A n c) lo hi none).run P w = .ok (.slice (if c = i then A else A.map (·.add (i * s))) (j - i) (c - i)) w := by
  have hlo : (match lo with | some v => Instr.sliceBound v j .sliceB | none => pure 0 : Sem Nat).run P w = .ok i w := by
    cases lo with
    | none => simp [boundOf] at hi'; simp [hi']
    | some v => exact run_bound hi' h1 _
  cases hi with
  | none =>
    simp [boundOf] at hj
    subst hj
    cases lo with
    | none => simp [boundOf] at hi'; subst hi'; simp [Instr.sliceAt, Instr.slice, run_underlying ht, Instr.sliceBounds, Go.Vcg.run_sizeOf hs]
    | some v => simp [Instr.sliceAt, Instr.slice, run_underlying ht, Instr.sliceBounds, Go.Vcg.run_sizeOf hs, run_bound hi' h1]
  | some u =>
    have hj' : boundOf (some u) 0 = some j := by rw [← boundOf_some u n]; exact hj
    cases lo with
    | none => simp [boundOf] at hi'; subst hi'; simp [Instr.sliceAt, Instr.slice, run_underlying ht, Instr.sliceBounds, Go.Vcg.run_sizeOf hs, run_bound hj' h2]
    | some v => simp [Instr.sliceAt, Instr.slice, run_underlying ht, Instr.sliceBounds, Go.Vcg.run_sizeOf hs, run_bound hi' h1, run_bound hj' h2]
theorem run_sliceAt3 {t e : TypeId} {s n c i j m : Nat} {A : Option Addr} {lo : Option Value} {hv mv : Value} (ht : P.underlying t = some (.slice e)) (hs : sizeT P e = some s) (hi' : boundOf lo 0 = some i) (hj : boundOf (some hv) 0 = some j) (hm : boundOf (some mv) 0 = some m) (h1 : i ≤ j) (h2 : j ≤ m) (h3 : m ≤ c) :
    (Instr.sliceAt t (.slice A n c) lo (some hv) (some mv)).run P w = .ok (.slice (if m = i then A else A.map (·.add (i * s))) (j - i) (m - i)) w := by
  cases lo with
  | none => simp [boundOf] at hi'; subst hi'; simp [Instr.sliceAt, Instr.slice, run_underlying ht, Instr.sliceBounds, Go.Vcg.run_sizeOf hs, run_bound hj h2, run_bound hm h3]
  | some v => simp [Instr.sliceAt, Instr.slice, run_underlying ht, Instr.sliceBounds, Go.Vcg.run_sizeOf hs, run_bound hi' h1, run_bound hj h2, run_bound hm h3]
theorem rv_slice_mk {b o n c B C O : Nat} (hb : ρ b = some (B, C, O)) (hc : c < capU) : rv ρ (.slice (some ⟨b, o, none⟩) n c) = some (.slice (some ⟨B, O + o, none⟩) n c) := by
  simp [rv, hb, hc]
theorem rv_slice_mku {b o n c B C O : Nat} (hb : ρ b = some (B, C, O)) (hc : capU ≤ c) (hn : n + (c - capU) ≤ C) : rv ρ (.slice (some ⟨b, o, none⟩) n c) = some (.slice (some ⟨B, O + o, none⟩) n (C - (c - capU))) := by
  simp [rv, hb, show ¬ c < capU by omega, hn]
theorem qsliceU_sound {U0 : Nat} (mk : ∀ (b o n c B C O : Nat), ρ b = some (B, C, O) → c < U0 → rv ρ (.slice (some ⟨b, o, none⟩) n c) = some (.slice (some ⟨B, O + o, none⟩) n c))
    (mku : ∀ (b o n c B C O : Nat), ρ b = some (B, C, O) → U0 ≤ c → n + (c - U0) ≤ C → rv ρ (.slice (some ⟨b, o, none⟩) n c) = some (.slice (some ⟨B, O + o, none⟩) n (C - (c - U0))))
    (rs : ∀ (b o n c : Nat) (V : Value), rv ρ (.slice (some ⟨b, o, none⟩) n c) = some V → ∃ B C O, ρ b = some (B, C, O) ∧ ((c < U0 ∧ V = .slice (some ⟨B, O + o, none⟩) n c) ∨ (U0 ≤ c ∧ n + (c - U0) ≤ C ∧ V = .slice (some ⟨B, O + o, none⟩) n (C - (c - U0)))))
    {t : TypeId} {u U v : Value} {lo hi mx : Option Value} (hu : rv ρ u = some U) (e : qsliceU U0 P t u lo hi mx = some v) : ∃ V, rv ρ v = some V ∧ (Instr.sliceAt t U lo hi mx).run P w = .ok V w := by
  unfold qsliceU at e
  split at e
  · rename_i el ht
    split at e
    · rename_i s hs
      split at e
      · rename_i b o n c
        split at e
        · rename_i i j hi' hj
          obtain ⟨B, C, O, hb, hU⟩ := rs _ _ _ _ _ hu
          split at e
          · split at e
            · rename_i hij
              have hij' : i ≤ j := ble_t hij
              split at e
              · rename_i hc
                have hc' : c < U0 := blt_t hc
                rcases hU with ⟨_, rfl⟩ | ⟨h', _⟩
                · split at e
                  · rename_i hjc
                    have hjc' : j ≤ c := ble_t hjc
                    have hr := run_sliceAt (P := P) (w := w) (A := some ⟨B, O + o, none⟩) (n := n) ht hs hi' hj hij' hjc'
                    split at e
                    · rename_i hci
                      have hci' : c = i := Nat.eq_of_beq_eq_true hci
                      cases e
                      refine ⟨_, mk _ _ _ _ _ _ _ hb (by omega), ?_⟩
                      rw [hr, if_pos hci']
                    · rename_i hci
                      have hci' : c ≠ i := Nat.ne_of_beq_eq_false hci
                      cases e
                      refine ⟨_, mk _ _ _ _ _ _ _ hb (by omega), ?_⟩
                      rw [hr, if_neg hci']
                      simp [add_lit, Nat.add_assoc]
                  · cases e
                · omega
              · rename_i hc
                have hc' : U0 ≤ c := blt_f hc
                rcases hU with ⟨h', _⟩ | ⟨_, hnC, rfl⟩
                · omega
                · split at e
                  · rename_i hjn
                    have hjn' : j ≤ n := ble_t hjn
                    have hr := run_sliceAt (P := P) (w := w) (A := some ⟨B, O + o, none⟩) (n := n) (c := C - (c - U0)) ht hs hi' hj hij' (by omega)
                    split at e
                    · rename_i h0
                      have h0' : i = 0 := Nat.eq_of_beq_eq_true h0
                      subst h0'
                      cases e
                      refine ⟨_, mku _ _ _ _ _ _ _ hb hc' (by omega), ?_⟩
                      rw [hr]
                      by_cases h0 : C - (c - U0) = 0
                      · rw [if_pos h0]; simp
                      · rw [if_neg h0]; simp [add_lit]
                    · split at e
                      · rename_i hin
                        have hin' : i < n := blt_t hin
                        cases e
                        refine ⟨_, mku _ _ _ _ _ _ _ hb (by omega) (by omega), ?_⟩
                        rw [hr, if_neg (by omega)]
                        simp only [Option.map_some, add_lit, Nat.add_assoc]
                        congr 2
                        omega
                      · cases e
                  · cases e
            · cases e
          · rename_i m0
            split at e
            · rename_i m hm
              unfold boundMax at hm
              split at hm
              · cases hm
              · rename_i hv
                split at e
                · rename_i hij
                  have hij' : i ≤ j := ble_t hij
                  split at e
                  · rename_i hjm
                    have hjm' : j ≤ m := ble_t hjm
                    split at e
                    · rename_i hmn
                      have hmn' : m ≤ n := ble_t hmn
                      split at e
                      · rename_i hmc
                        have hmc' : m ≤ c := ble_t hmc
                        have hU' : ∃ c', U = .slice (some ⟨B, O + o, none⟩) n c' ∧ m ≤ c' := by
                          rcases hU with ⟨_, rfl⟩ | ⟨_, h2, rfl⟩
                          · exact ⟨_, rfl, hmc'⟩
                          · exact ⟨_, rfl, by omega⟩
                        obtain ⟨c', rfl, h3⟩ := hU'
                        have hr := run_sliceAt3 (P := P) (w := w) (A := some ⟨B, O + o, none⟩) (n := n) ht hs hi' (by rw [← boundOf_some hv n]; exact hj) hm hij' hjm' h3
                        split at e
                        · rename_i hmi
                          have hmi' : m = i := Nat.eq_of_beq_eq_true hmi
                          split at e
                          · rename_i hcu
                            have hcu' : m < U0 := blt_t hcu
                            cases e
                            refine ⟨_, mk _ _ _ _ _ _ _ hb (by omega), ?_⟩
                            rw [hr, if_pos hmi']
                          · cases e
                        · rename_i hmi
                          have hmi' : m ≠ i := Nat.ne_of_beq_eq_false hmi
                          split at e
                          · rename_i hcu
                            have hcu' : m < U0 := blt_t hcu
                            cases e
                            refine ⟨_, mk _ _ _ _ _ _ _ hb (by omega), ?_⟩
                            rw [hr, if_neg hmi']
                            simp [add_lit, Nat.add_assoc]
                          · cases e
                      · cases e
                    · cases e
                  · cases e
                · cases e
            · cases e
        · cases e
      · cases rv_nil hu rfl
        split at e
        · rename_i hi' hj
          split at e
          · cases e
            refine ⟨_, rv_flat rfl, ?_⟩
            rw [run_sliceAt ht hs hi' hj (Nat.le_refl _) (Nat.le_refl _)]
            simp
          · split at e
            · rename_i hm
              cases e
              unfold boundMax at hm
              split at hm
              · cases hm
              · refine ⟨_, rv_flat rfl, ?_⟩
                rw [run_sliceAt3 ht hs hi' hj hm (Nat.le_refl _) (Nat.le_refl _) (Nat.le_refl _)]
                simp
            · cases e
        · cases e
      · cases e
    · cases e
  · cases e
def qslice (P : Program) (t : TypeId) (u : Value) (lo hi mx : Option Value) : Option Value := qsliceU capU P t u lo hi mx
theorem qslice_sound {t : TypeId} {u U v : Value} {lo hi mx : Option Value} (hu : rv ρ u = some U) (e : qslice P t u lo hi mx = some v) : ∃ V, rv ρ v = some V ∧ (Instr.sliceAt t U lo hi mx).run P w = .ok V w :=
  qsliceU_sound (fun _ _ _ _ _ _ _ => rv_slice_mk) (fun _ _ _ _ _ _ _ => rv_slice_mku) (fun _ _ _ _ _ => rv_slice) hu e
end
end Go.Rex
