/- A machine for closed runs: the operations that leave the world alone. -/
import Derived.Test.YtoclmkdfcafhfaaGreatDoorZah
import Derived.Test.YtoclmkdfcafhfaaGreatDoorZad
set_option maxRecDepth 20000
namespace Go.Rex
section
open Go.RowKit Go.MapKept
open Go.Vcg (jP jN eU bA cH dF pF jW oP add_lit bW aK)
attribute [local irreducible] dX
section
variable {P : Program} {N : Nat} {ρ : Env} {h : Heap} {l : Sls} {a : Act} {w : World} {nx : Nat}
variable {ds : Option Nat} {ty : TypeId} {pos : String} {af : Array Edge} {gd : Option (Nat × Bool)}
theorem gR {a b : Nat} (h : Nat.blt a b = true) : a < b := by simp [Nat.blt] at h; omega
theorem aDz {a b : Nat} (h : Nat.blt a b = false) : b ≤ a := Nat.le_of_not_lt fun hlt => by
  rw [show Nat.blt a b = true from (by rw [Nat.blt, Nat.ble_eq]; exact hlt)] at h; cases h
theorem eC {a b : Nat} (h : Nat.ble a b = true) : a ≤ b := by simpa using h
def xR (P : Program) (s : Sem Value) : Option Value := match mS P s with
  | some r => match gW r with
    | true => some r
    | false => none
  | none => none
theorem uJ {s : Sem Value} {v : Value} (e : xR P s = some v) : (∀ w : World, s.run P w = .ok v w) ∧ ∀ ρ, rv ρ v = some v := by
  unfold xR at e
  split at e
  · rename_i r hr
    split at e
    · rename_i hf; cases e; exact ⟨oS hr, fun ρ => eB hf⟩
    · cases e
  · cases e
def f1 (u : Value) (k : Unit → Option Value) : Option Value := match gW u with
  | true => k ()
  | false => none
theorem lC {u U v : Value} {k : Unit → Option Value} (hu : rv ρ u = some U) (e : f1 u k = some v) : U = u ∧ k () = some v := by
  unfold f1 at e
  split at e
  · rename_i hf; exact ⟨eP hf hu, e⟩
  · cases e
def aEm (P : Program) (ts : List TypeId) (u : Value) : Option Value := match ts with
  | [t] => match u with
    | .slice _ n _ => match P.underlying t with
      | some (.slice _) => some (.int .i64 n)
      | _ => none
    | _ => none
  | _ => none
theorem OM {ts : List TypeId} {x : Operand} {u v : Value} (hu : rv ρ u = some (a.eval x)) (e : aEm P ts u = some v) : Yes P ρ a w ⟨ds, .call { callee := .builtin .len, args := #[x], argTypes := ts.toArray }, ty, pos, af, gd⟩ v := by
  unfold aEm at e
  split at e
  · rename_i t
    split at e
    · rename_i A n c
      split at e
      · rename_i el ht
        cases e
        refine ⟨_, gZ rfl, ?_⟩
        have : ∃ A' c', a.eval x = .slice A' n c' := by
          rcases A with _ | ⟨b, o, _ | s⟩
          · exact ⟨_, _, bU hu rfl⟩
          · obtain ⟨A', C, h1⟩ := lZ hu; exact ⟨_, _, h1⟩
          · simp [rv] at hu
        obtain ⟨A', c', h1⟩ := this
        generalize a.eval = ev at h1
        simp [execOp, h1, resolve, invoke, builtin, Builtin.len_, run_underlying ht, goInt]
      · cases e
    · cases e
  · cases e
def OO (P : Program) (t : TypeId) (u : Value) (i : Nat) : Option Value := match P.underlying t with
  | some (.struct fs) => match fs[i]? with
    | some f => match u with
      | .agg ⟨cs⟩ => HD P f.type cs f.offset
      | _ => none
    | none => none
  | _ => none
theorem FG {t : TypeId} {u U v : Value} {i : Nat} (hu : rv ρ u = some U) (e : OO P t u i = some v) : ∃ V, rv ρ v = some V ∧ (Instr.field t U i).run P w = .ok V w := by
  unfold OO at e
  split at e
  · rename_i fs hT
    split at e
    · rename_i f hf
      split at e
      · rename_i cs
        obtain ⟨X, hX, rfl⟩ := qW hu
        obtain ⟨V, h1, h2⟩ := YK (P := P) (w := w) hX e
        exact ⟨V, h1, by simp [Instr.field, run_underlying hT, hf, asAgg, h2]⟩
      · cases e
    · cases e
  · cases e
def OP (P : Program) (t : TypeId) (u : Value) (i : Nat) : Option Value := match u with
  | .pointer (some ⟨b, o, none⟩) => match pF P t i with
    | some (_, off) => some (.pointer (some ⟨b, o + off, none⟩))
    | none => none
  | _ => none
theorem pP {b o : Nat} {V : Value} (e : rv ρ (.pointer (some ⟨b, o, none⟩)) = some V) : ∃ B C O, ρ b = some (B, C, O) ∧ V = .pointer (some ⟨B, O + o, none⟩) := by
  unfold rv at e
  split at e
  · rename_i B C O hb; cases e; exact ⟨B, C, O, hb, rfl⟩
  · cases e
theorem FH {t : TypeId} {u U v : Value} {i : Nat} (hu : rv ρ u = some U) (e : OP P t u i = some v) : ∃ V, rv ρ v = some V ∧ (Instr.fieldAt t U i).run P w = .ok V w := by
  unfold OP at e
  split at e
  · rename_i b o
    split at e
    · rename_i ft off hf
      cases e
      obtain ⟨B, C, O, hb, rfl⟩ := pP hu
      exact ⟨_, by simp [rv, hb]; rfl, by rw [jW hf, add_lit, Nat.add_assoc]⟩
    · cases e
  · cases e
def ON (P : Program) (t : TypeId) (u : Value) (i : Value) : Option Value := match i with
  | .int .i64 (.ofNat k) => match u with
    | .slice (some ⟨b, o, none⟩) n _ => match Nat.blt k n with
      | true => match P.underlying t with
        | some (.slice e) => match bA P e with
          | some s => some (.pointer (some ⟨b, o + k * s, none⟩))
          | none => none
        | _ => none
      | false => none
    | _ => none
  | _ => none
def YY (P : Program) (t : TypeId) (u : Value) (i : Value) : Option Value := match i with
  | .int _ (.ofNat k) => match u with
    | .pointer (some ⟨b, o, none⟩) => match P.underlying t with
        | some (.array n e) => match Nat.blt k n with
          | true => match bA P e with
            | some s => some (.pointer (some ⟨b, o + k * s, none⟩))
            | none => none
          | false => none
        | _ => none
    | _ => none
  | _ => none
theorem FF {t : TypeId} {u U i v : Value} (hu : rv ρ u = some U) (e : ON P t u i = some v) : ∃ V, rv ρ v = some V ∧ (Instr.indexAt t U i).run P w = .ok V w := by
  unfold ON at e
  split at e
  · rename_i k
    split at e
    · rename_i b o n c
      split at e
      · rename_i hk
        split at e
        · rename_i el hT
          split at e
          · rename_i s hs
            cases e
            have hk' : k < n := gR hk
            obtain ⟨B, C, O, hb, h1⟩ := iT hu
            have h2 : ∃ c', U = .slice (some ⟨B, O + o, none⟩) n c' := by
              rcases h1 with ⟨_, rfl⟩ | ⟨_, _, rfl⟩ <;> exact ⟨_, rfl⟩
            obtain ⟨c', rfl⟩ := h2
            refine ⟨.pointer (some ⟨B, O + (o + k * s), none⟩), by simp [rv, hb], ?_⟩
            have := oP (P := P) (A := ⟨B, O + o, none⟩) (cap := c') hT hs hk' w
            rw [add_lit, Nat.add_assoc] at this
            exact this
          · cases e
        · cases e
      · cases e
    · cases e
  · cases e
theorem IT {t : TypeId} {u U i v : Value} (hu : rv ρ u = some U) (e : YY P t u i = some v) : ∃ V, rv ρ v = some V ∧ (Instr.indexAt t U i).run P w = .ok V w := by
  unfold YY at e
  split at e
  · rename_i kd k
    split at e
    · rename_i b o
      split at e
      · rename_i n el hT
        split at e
        · rename_i hk
          split at e
          · rename_i s hs
            cases e
            have hk' : k < n := gR hk
            obtain ⟨B, C, O, hb, rfl⟩ := pP hu
            refine ⟨.pointer (some ⟨B, O + (o + k * s), none⟩), by simp [rv, hb], ?_⟩
            simp [Instr.indexAt, asIntOf, run_underlying hT, Instr.sureAddr, Go.Vcg.run_sizeOf hs, hk', add_lit, Nat.add_assoc]
          · cases e
        · cases e
      · cases e
    · cases e
  · cases e
def cZ (x : Option Value) (d : Nat) : Option Nat := match x with
  | none => some d
  | some (.int .i64 (.ofNat k)) => some k
  | some _ => none
def tB (hi : Option Value) (m : Value) : Option Nat := match hi with
  | none => none
  | some _ => cZ (some m) 0
def FC (dX : Nat) (P : Program) (t : TypeId) (u : Value) (lo hi mx : Option Value) : Option Value := match P.underlying t with
  | some (.slice e) => match bA P e with
    | some s => match u with
      | .slice (some ⟨b, o, none⟩) n c => match cZ lo 0, cZ hi n with
        | some i, some j => match mx with
          | none => match Nat.ble i j with
            | true => match Nat.blt c dX with
              | true => match Nat.ble j c with
                | true => match Nat.beq c i with
                  | true => some (.slice (some ⟨b, o, none⟩) (j - i) (c - i))
                  | false => some (.slice (some ⟨b, o + i * s, none⟩) (j - i) (c - i))
                | false => none
              | false => match Nat.ble j n with
                | true => match Nat.beq i 0 with
                  | true => some (.slice (some ⟨b, o, none⟩) (j - i) c)
                  | false => match Nat.blt i n with
                    | true => some (.slice (some ⟨b, o + i * s, none⟩) (j - i) (c + i))
                    | false => none
                | false => none
            | false => none
          | some m => match tB hi m with
            | some m => match Nat.ble i j with
              | true => match Nat.ble j m with
                | true => match Nat.ble m n with
                  | true => match Nat.ble m c with
                    | true => match Nat.beq m i with
                      | true => match Nat.blt m dX with
                        | true => some (.slice (some ⟨b, o, none⟩) (j - i) (m - i))
                        | false => none
                      | false => match Nat.blt m dX with
                        | true => some (.slice (some ⟨b, o + i * s, none⟩) (j - i) (m - i))
                        | false => none
                    | false => none
                  | false => none
                | false => none
              | false => none
            | none => none
        | _, _ => none
      | .slice none 0 0 => match cZ lo 0, cZ hi 0 with
        | some 0, some 0 => match mx with
          | none => some (.slice none 0 0)
          | some m => match tB hi m with
            | some 0 => some (.slice none 0 0)
            | _ => none
        | _, _ => none
      | _ => none
    | none => none
  | _ => none
theorem cP {x : Value} {k y : Nat} (e : cZ (some x) 0 = some k) (hk : k ≤ y) (c : BoundsCode) : (Instr.sliceBound x y c).run P w = .ok k w := by
  unfold cZ at e
  split at e
  · rename_i h1; cases h1
  · rename_i k' h1
    cases h1; cases e
    have h2 : (0 : Int) ≤ (k : Int) ∧ (k : Int) ≤ (y : Int) := by omega
    simp [Instr.sliceBound, asIntOf, hk]
  · cases e
theorem tA (u : Value) (n : Nat) : cZ (some u) n = cZ (some u) 0 := by
  unfold cZ
  split <;> simp_all
theorem lM {t e : TypeId} {s n c i j : Nat} {A : Option Addr} {lo hi : Option Value} (ht : P.underlying t = some (.slice e)) (hs : bA P e = some s) (hi' : cZ lo 0 = some i) (hj : cZ hi n = some j) (h1 : i ≤ j) (h2 : j ≤ c) :
    (Instr.sliceAt t (.slice A n c) lo hi none).run P w = .ok (.slice (if c = i then A else A.map (·.add (i * s))) (j - i) (c - i)) w := by
  have hlo : (match lo with | some v => Instr.sliceBound v j .sliceB | none => pure 0 : Sem Nat).run P w = .ok i w := by
    cases lo with
    | none => simp [cZ] at hi'; simp [hi']
    | some v => exact cP hi' h1 _
  cases hi with
  | none =>
    simp [cZ] at hj
    subst hj
    cases lo with
    | none => simp [cZ] at hi'; subst hi'; simp [Instr.sliceAt, Instr.slice, run_underlying ht, Instr.sliceBounds, Go.Vcg.run_sizeOf hs]
    | some v => simp [Instr.sliceAt, Instr.slice, run_underlying ht, Instr.sliceBounds, Go.Vcg.run_sizeOf hs, cP hi' h1]
  | some u =>
    have hj' : cZ (some u) 0 = some j := by rw [← tA u n]; exact hj
    cases lo with
    | none => simp [cZ] at hi'; subst hi'; simp [Instr.sliceAt, Instr.slice, run_underlying ht, Instr.sliceBounds, Go.Vcg.run_sizeOf hs, cP hj' h2]
    | some v => simp [Instr.sliceAt, Instr.slice, run_underlying ht, Instr.sliceBounds, Go.Vcg.run_sizeOf hs, cP hi' h1, cP hj' h2]
theorem rX {t e : TypeId} {s n c i j m : Nat} {A : Option Addr} {lo : Option Value} {hv mv : Value} (ht : P.underlying t = some (.slice e)) (hs : bA P e = some s) (hi' : cZ lo 0 = some i) (hj : cZ (some hv) 0 = some j) (hm : cZ (some mv) 0 = some m) (h1 : i ≤ j) (h2 : j ≤ m) (h3 : m ≤ c) :
    (Instr.sliceAt t (.slice A n c) lo (some hv) (some mv)).run P w = .ok (.slice (if m = i then A else A.map (·.add (i * s))) (j - i) (m - i)) w := by
  cases lo with
  | none => simp [cZ] at hi'; subst hi'; simp [Instr.sliceAt, Instr.slice, run_underlying ht, Instr.sliceBounds, Go.Vcg.run_sizeOf hs, cP hj h2, cP hm h3]
  | some v => simp [Instr.sliceAt, Instr.slice, run_underlying ht, Instr.sliceBounds, Go.Vcg.run_sizeOf hs, cP hi' h1, cP hj h2, cP hm h3]
theorem oO {b o n c B C O : Nat} (hb : ρ b = some (B, C, O)) (hc : c < dX) : rv ρ (.slice (some ⟨b, o, none⟩) n c) = some (.slice (some ⟨B, O + o, none⟩) n c) := by
  simp [rv, hb, hc]
theorem fI {b o n c B C O : Nat} (hb : ρ b = some (B, C, O)) (hc : dX ≤ c) (hn : n + (c - dX) ≤ C) : rv ρ (.slice (some ⟨b, o, none⟩) n c) = some (.slice (some ⟨B, O + o, none⟩) n (C - (c - dX))) := by
  simp [rv, hb, show ¬ c < dX by omega, hn]
theorem AA {U0 : Nat} (mk : ∀ (b o n c B C O : Nat), ρ b = some (B, C, O) → c < U0 → rv ρ (.slice (some ⟨b, o, none⟩) n c) = some (.slice (some ⟨B, O + o, none⟩) n c))
    (mku : ∀ (b o n c B C O : Nat), ρ b = some (B, C, O) → U0 ≤ c → n + (c - U0) ≤ C → rv ρ (.slice (some ⟨b, o, none⟩) n c) = some (.slice (some ⟨B, O + o, none⟩) n (C - (c - U0))))
    (rs : ∀ (b o n c : Nat) (V : Value), rv ρ (.slice (some ⟨b, o, none⟩) n c) = some V → ∃ B C O, ρ b = some (B, C, O) ∧ ((c < U0 ∧ V = .slice (some ⟨B, O + o, none⟩) n c) ∨ (U0 ≤ c ∧ n + (c - U0) ≤ C ∧ V = .slice (some ⟨B, O + o, none⟩) n (C - (c - U0)))))
    {t : TypeId} {u U v : Value} {lo hi mx : Option Value} (hu : rv ρ u = some U) (e : FC U0 P t u lo hi mx = some v) : ∃ V, rv ρ v = some V ∧ (Instr.sliceAt t U lo hi mx).run P w = .ok V w := by
  unfold FC at e
  split at e
  · rename_i el ht
    split at e
    · rename_i s hs
      split at e
      · rename_i b o n c
        split at e
        · rename_i i j hi' hj
          obtain ⟨B, C, O, hb, hU⟩ := rs _ _ _ _ _ hu
          split at e
          · split at e
            · rename_i hij
              have hij' : i ≤ j := eC hij
              split at e
              · rename_i hc
                have hc' : c < U0 := gR hc
                rcases hU with ⟨_, rfl⟩ | ⟨h', _⟩
                · split at e
                  · rename_i hjc
                    have hjc' : j ≤ c := eC hjc
                    have hr := lM (P := P) (w := w) (A := some ⟨B, O + o, none⟩) (n := n) ht hs hi' hj hij' hjc'
                    split at e
                    · rename_i hci
                      have hci' : c = i := Nat.eq_of_beq_eq_true hci
                      cases e
                      refine ⟨_, mk _ _ _ _ _ _ _ hb (by omega), ?_⟩
                      rw [hr, if_pos hci']
                    · rename_i hci
                      have hci' : c ≠ i := Nat.ne_of_beq_eq_false hci
                      cases e
                      refine ⟨_, mk _ _ _ _ _ _ _ hb (by omega), ?_⟩
                      rw [hr, if_neg hci']
                      simp [add_lit, Nat.add_assoc]
                  · cases e
                · omega
              · rename_i hc
                have hc' : U0 ≤ c := aDz hc
                rcases hU with ⟨h', _⟩ | ⟨_, hnC, rfl⟩
                · omega
                · split at e
                  · rename_i hjn
                    have hjn' : j ≤ n := eC hjn
                    have hr := lM (P := P) (w := w) (A := some ⟨B, O + o, none⟩) (n := n) (c := C - (c - U0)) ht hs hi' hj hij' (by omega)
                    split at e
                    · rename_i h0
                      have h0' : i = 0 := Nat.eq_of_beq_eq_true h0
                      subst h0'
                      cases e
                      refine ⟨_, mku _ _ _ _ _ _ _ hb hc' (by omega), ?_⟩
                      rw [hr]
                      by_cases h0 : C - (c - U0) = 0
                      · rw [if_pos h0]; simp
                      · rw [if_neg h0]; simp [add_lit]
                    · split at e
                      · rename_i hin
                        have hin' : i < n := gR hin
                        cases e
                        refine ⟨_, mku _ _ _ _ _ _ _ hb (by omega) (by omega), ?_⟩
                        rw [hr, if_neg (by omega)]
                        simp only [Option.map_some, add_lit, Nat.add_assoc]
                        congr 2
                        omega
                      · cases e
                  · cases e
            · cases e
          · rename_i m0
            split at e
            · rename_i m hm
              unfold tB at hm
              split at hm
              · cases hm
              · rename_i hv
                split at e
                · rename_i hij
                  have hij' : i ≤ j := eC hij
                  split at e
                  · rename_i hjm
                    have hjm' : j ≤ m := eC hjm
                    split at e
                    · rename_i hmn
                      have hmn' : m ≤ n := eC hmn
                      split at e
                      · rename_i hmc
                        have hmc' : m ≤ c := eC hmc
                        have hU' : ∃ c', U = .slice (some ⟨B, O + o, none⟩) n c' ∧ m ≤ c' := by
                          rcases hU with ⟨_, rfl⟩ | ⟨_, h2, rfl⟩
                          · exact ⟨_, rfl, hmc'⟩
                          · exact ⟨_, rfl, by omega⟩
                        obtain ⟨c', rfl, h3⟩ := hU'
                        have hr := rX (P := P) (w := w) (A := some ⟨B, O + o, none⟩) (n := n) ht hs hi' (by rw [← tA hv n]; exact hj) hm hij' hjm' h3
                        split at e
                        · rename_i hmi
                          have hmi' : m = i := Nat.eq_of_beq_eq_true hmi
                          split at e
                          · rename_i hcu
                            have hcu' : m < U0 := gR hcu
                            cases e
                            refine ⟨_, mk _ _ _ _ _ _ _ hb (by omega), ?_⟩
                            rw [hr, if_pos hmi']
                          · cases e
                        · rename_i hmi
                          have hmi' : m ≠ i := Nat.ne_of_beq_eq_false hmi
                          split at e
                          · rename_i hcu
                            have hcu' : m < U0 := gR hcu
                            cases e
                            refine ⟨_, mk _ _ _ _ _ _ _ hb (by omega), ?_⟩
                            rw [hr, if_neg hmi']
                            simp [add_lit, Nat.add_assoc]
                          · cases e
                      · cases e
                    · cases e
                  · cases e
                · cases e
            · cases e
        · cases e
      · cases bU hu rfl
        split at e
        · rename_i hi' hj
          split at e
          · cases e
            refine ⟨_, gZ rfl, ?_⟩
            rw [lM ht hs hi' hj (Nat.le_refl _) (Nat.le_refl _)]
            simp
          · split at e
            · rename_i hm
              cases e
              unfold tB at hm
              split at hm
              · cases hm
              · refine ⟨_, gZ rfl, ?_⟩
                rw [rX ht hs hi' hj hm (Nat.le_refl _) (Nat.le_refl _) (Nat.le_refl _)]
                simp
            · cases e
        · cases e
      · cases e
    · cases e
  · cases e
def YX (P : Program) (t : TypeId) (u : Value) (lo hi mx : Option Value) : Option Value := FC dX P t u lo hi mx
theorem FB {t : TypeId} {u U v : Value} {lo hi mx : Option Value} (hu : rv ρ u = some U) (e : YX P t u lo hi mx = some v) : ∃ V, rv ρ v = some V ∧ (Instr.sliceAt t U lo hi mx).run P w = .ok V w :=
  AA (fun _ _ _ _ _ _ _ => oO) (fun _ _ _ _ _ _ _ => fI) (fun _ _ _ _ _ => iT) hu e
end
end
section
open Go.RowKit Go.MapKept
open Go.Vcg (jP jN eU bA cH dF add_lit bW aK fC dW kW BP eR jS)
theorem BL (w : World) (B : Nat) (cs : Array Value) : Fr B w (w.setRow B cs) := ⟨rfl, rfl, rfl, by simp, fun b _ hb => setRow_other w B b cs hb⟩
theorem qU {xs vs : List Value} {off i : Nat} (h : off + vs.length ≤ xs.length) : (xs.take off ++ vs ++ xs.drop (off + vs.length))[i]? = if i < off then xs[i]? else if i < off + vs.length then vs[i - off]? else xs[i]? := by
  have e1 : (xs.take off).length = off := by simp; omega
  by_cases h1 : i < off
  · rw [if_pos h1, List.append_assoc, List.getElem?_append_left (by omega), List.getElem?_take, if_pos h1]
  · rw [if_neg h1, List.append_assoc, List.getElem?_append_right (by omega), e1]
    by_cases h2 : i < off + vs.length
    · rw [if_pos h2, List.getElem?_append_left (by omega)]
    · rw [if_neg h2, List.getElem?_append_right (by omega), List.getElem?_drop]
      congr 1
      omega
section
variable {P : Program} {N : Nat} {w0 : World} {ρ : Env} {h : Heap} {l : Sls} {a : Act} {w : World} {nx : Nat}
variable {ds : Option Nat} {ty : TypeId} {pos : String} {af : Array Edge} {gd : Option (Nat × Bool)}
def PX (h : Heap) (b off : Nat) (vs : List Value) : Option Heap := match cL h b with
  | some (.cells cs t false) => match tR off vs cs with
    | some cs' => some (eL h b (some (.cells cs' t false)))
    | none => none
  | some (.row cs t sz) => match tR off vs cs with
    | some cs' => some (eL h b (some (.row cs' t sz)))
    | none => none
  | _ => none
theorem GG (r : Rel w0 ρ h nx w) {b off : Nat} {vs VS : List Value} {h' : Heap} (e : PX h b off vs = some h') (hv : rvs ρ vs = some VS) (h1 : ∀ u ∈ VS, u.oneCell' = true) :
    ∃ B C w', ρ b = some (B, C, 0) ∧ Pr h h' ∧ Rel w0 ρ h' nx w' ∧ ∀ t V, V.cells.toList = VS → bA P t = some VS.length → (Instr.storeAt t (.pointer (some ⟨B, off, none⟩)) V).run P w = .ok () w' := by
  have run : ∀ B (arr : Array Value) et t V, w.heap[B]? = some (.cells arr et (0, 0)) → off + VS.length ≤ arr.size → V.cells.toList = VS → bA P t = some VS.length →
      (Instr.storeAt t (.pointer (some ⟨B, off, none⟩)) V).run P w = .ok () (w.setRow B (arr.toList.take off ++ VS ++ arr.toList.drop (off + VS.length)).toArray) := fun B arr et t V hh hfit hV hsz => by
    have hrow := run_storeCells_at (P := P) B off et VS 0 arr w hh (by omega) h1
    have hl : V.cells.size = VS.length := by rw [← hV]; simp
    have hl' : ¬ V.cells.size ≠ VS.length := by simpa using hl
    simp only [Instr.storeAt, Instr.sureAddr, storeVar, Sem.run_bind, Sem.run_pure, Result.andThen_ok, Go.Vcg.run_sizeOf hsz, if_neg hl', hV]
    simpa using hrow
  unfold PX at e
  split at e
  · rename_i cs t hg
    split at e
    · rename_i cs' hl
      cases e
      obtain ⟨B, C, hB, CS, g1, g2⟩ := r.ok b _ hg
      obtain ⟨k1, k2⟩ := wQ g1 hv hl
      refine ⟨B, C, _, hB, Pr.set (cJ hg) _, r.upd hg rfl rfl hB (BL w B _) ⟨_, k2, ?_⟩, fun t' V hV hsz => run B CS.toArray t t' V g2 (by simpa using k1) hV hsz⟩
      exact setRow_heap w B CS.toArray _ t (0, 0) g2
    · cases e
  · rename_i cs t sz hg
    split at e
    · rename_i cs' hl
      cases e
      obtain ⟨B, C, hB, CS, arr, g1, g2, g3, g4, g5, g6⟩ := r.ok b _ hg
      obtain ⟨k1, k2⟩ := wQ g1 hv hl
      have hlen : (CS.take off ++ VS ++ CS.drop (off + VS.length)).length = CS.length := by simp; omega
      refine ⟨B, C, _, hB, Pr.set (cJ hg) _, r.upd hg rfl rfl hB (BL w B _) ⟨_, _, k2, setRow_heap w B arr (arr.toList.take off ++ VS ++ arr.toList.drop (off + VS.length)).toArray t (0, 0) g2, ?_, g4, ?_, ?_⟩, fun t' V hV hsz => run B arr t t' V g2 (by omega) hV hsz⟩
      · rw [← g3]; simp; omega
      · rw [hlen]; simp; omega
      · rw [hlen]
        apply List.ext_getElem?
        intro i
        have hcs : ∀ i, i < CS.length → CS[i]? = arr[i]? := fun i hi => by rw [← g6, List.getElem?_take, if_pos hi]; simp
        rw [List.getElem?_take]
        by_cases hi : i < CS.length
        · rw [if_pos hi]
          have q1 := qU (xs := arr.toList) (vs := VS) (off := off) (i := i) (by simp; omega)
          have q2 := qU (xs := CS) (vs := VS) (off := off) (i := i) k1
          have q3 := hcs i hi
          rw [q1, q2]
          simp [q3]
        · rw [if_neg hi, List.getElem?_eq_none (by omega)]
    · cases e
  · cases e
inductive Eff where
  | val (v : Value) (h : Heap) (nx : Nat)
  | skip (h : Heap) (nx : Nat)
def vA (P : Program) (w0 : World) (ρ : Env) (h : Heap) (b0 : Nat) (a : Act) (w : World) (o : Oper) : Eff → Prop
  | .val v h' nx' => ∃ ρ' V w', ELe ρ ρ' ∧ (∀ c, c ≠ b0 → ρ' c = ρ c) ∧ Pr h h' ∧ rv ρ' v = some V ∧ Rel w0 ρ' h' nx' w' ∧ (execOp a.eval o).run P w = .ok (.value V) w'
  | .skip h' nx' => ∃ w', Pr h h' ∧ Rel w0 ρ h' nx' w' ∧ (execOp a.eval o).run P w = .ok .skip w'
theorem fG {ρ : Env} {b : Nat} {x : Nat × Nat × Nat} : ∀ c, c ≠ b → ext ρ b x c = ρ c := fun _ hc => lD hc
def QD (P : Program) (h : Heap) (nx : Nat) (t : TypeId) (u v : Value) : Option Eff := match u with
  | .pointer (some ⟨b, o, none⟩) => match bA P t with
    | some n => match Nat.beq (cellsOf v).length n with
      | true => match (cellsOf v).all (·.oneCell') with
        | true => match PX h b o (cellsOf v) with
          | some h' => some (.skip h' nx)
          | none => none
        | false => none
      | false => none
    | none => none
  | _ => none
theorem GL (r : Rel w0 ρ h nx w) {t : TypeId} {x y : Operand} {u v : Value} {f : Eff} (hu : rv ρ u = some (a.eval x)) (hv : rv ρ v = some (a.eval y)) {b0 : Nat} (e : QD P h nx t u v = some f) : vA P w0 ρ h b0 a w ⟨ds, .store t x y, ty, pos, af, gd⟩ f := by
  unfold QD at e
  split at e
  · rename_i b o
    split at e
    · rename_i n hn
      split at e
      · rename_i hl
        split at e
        · rename_i h1
          split at e
          · rename_i h' hs
            cases e
            have hc := mP hv h1
            obtain ⟨B, C, w', g1, gp, g2, g3⟩ := GG (P := P) r hs hc (EI hc h1)
            obtain ⟨B', C', O', g4, g5⟩ := pP hu
            rw [g1] at g4
            cases g4
            have hlen := cW hc
            have hl' := Nat.eq_of_beq_eq_true hl
            have hr := g3 t (a.eval y) rfl (by rw [hn]; congr 1; omega)
            refine ⟨w', gp, g2, ?_⟩
            rw [Nat.zero_add] at g5
            generalize a.eval = ev at g5 hr
            simp [execOp, g5, hr]
          · cases e
        · cases e
      · cases e
    · cases e
  · cases e
def aFh (h : Heap) (b0 nx : Nat) (t : TypeId) (v : Value) : Option Eff := match (cellsOf v).all (·.oneCell') with
  | true => some (.val (.pointer (some ⟨b0, 0, none⟩)) (eL h b0 (some (.cells (cellsOf v) t false))) nx)
  | false => none
theorem BR {B C : Nat} {b : Nat} : rv (ext ρ b (B, C, 0)) (.pointer (some ⟨b, 0, none⟩)) = some (.pointer (some ⟨B, 0, none⟩)) := by simp [rv, eT]
theorem QH {b0 nx' : Nat} (r : Rel w0 ρ h nx w) (hf : jG ρ nx b0 nx') {t : TypeId} {x : Operand} {v : Value} {f : Eff} (hv : rv ρ v = some (a.eval x)) (e : aFh h b0 nx' t v = some f) : vA P w0 ρ h b0 a w ⟨ds, .box t x, ty, pos, af, gd⟩ f := by
  unfold aFh at e
  split at e
  · rename_i h1
    cases e
    have hc := mP hv h1
    refine ⟨_, _, _, iF hf.free, fG, Pr.set (Nat.lt_of_lt_of_le hf.lt hf.small) _, BR, r.cells hf hc t, ?_⟩
    generalize a.eval = ev
    simp [execOp, Instr.box, newVar, newRow]
  · cases e
def QI (P : Program) (h : Heap) (b0 nx : Nat) (t : TypeId) : Option Eff := match cH P t with
  | some z => match gW z with
    | true => match (cellsOf z).all (·.oneCell') with
      | true => some (.val (.pointer (some ⟨b0, 0, none⟩)) (eL h b0 (some (.cells (cellsOf z) t false))) nx)
      | false => none
    | false => none
  | none => none
theorem GP {b0 nx' : Nat} (r : Rel w0 ρ h nx w) (hf : jG ρ nx b0 nx') {t : TypeId} {f : Eff} (e : QI P h b0 nx' t = some f) : vA P w0 ρ h b0 a w ⟨ds, .alloc t, ty, pos, af, gd⟩ f := by
  unfold QI at e
  split at e
  · rename_i z hz
    split at e
    · rename_i hfl
      split at e
      · rename_i h1
        cases e
        have hc := mP (eB (ρ := ρ) hfl) h1
        refine ⟨_, _, _, iF hf.free, fG, Pr.set (Nat.lt_of_lt_of_le hf.lt hf.small) _, BR, r.cells hf hc t, ?_⟩
        generalize a.eval = ev
        simp [execOp, Instr.alloc, aK hz, newVar, newRow]
      · cases e
    · cases e
  · cases e
def xU (N : Nat) (l : Sls) (s : Nat) : Nat → List (Nat × Operand) → Option (List Value)
  | _, [] => some []
  | i, (j, x) :: ps => match Nat.beq j i with
    | true => match aev N l x with
      | some v => match (cellsOf v).all (·.oneCell') with
        | true => match Nat.beq (cellsOf v).length s with
          | true => match xU N l s (i + 1) ps with
            | some r => some (cellsOf v ++ r)
            | none => none
          | false => none
        | false => none
      | none => none
    | false => none
theorem sE (hs : Sl N ρ l a) {s : Nat} : ∀ {ps : List (Nat × Operand)} {i : Nat} {cs : List Value}, xU N l s i ps = some cs →
    ∃ VS : List Value, (ps.map fun (i, x) => (i, a.eval x)) = (VS.zipIdx i).map (fun p => (p.2, p.1)) ∧ rvs ρ cs = some (Go.Vcg.flat VS) ∧ (∀ v ∈ VS, v.cells.size = s) ∧ VS.length = ps.length
  | [], i, cs, e => by unfold xU at e; cases e; exact ⟨[], by simp, by simp [rvs, Go.Vcg.flat], by simp, rfl⟩
  | (j, x) :: ps, i, cs, e => by
    unfold xU at e
    split at e
    · rename_i hj
      split at e
      · rename_i v hv
        split at e
        · rename_i h1
          split at e
          · rename_i hl
            split at e
            · rename_i r hr
              cases e
              obtain ⟨VS, g1, g2, g3, g4⟩ := sE hs hr
              have hx := aG hs hv
              have hc := mP hx h1
              have hji := Nat.eq_of_beq_eq_true hj
              subst hji
              refine ⟨a.eval x :: VS, by simp [g1], ?_, ?_, by simp [g4]⟩
              · have : Go.Vcg.flat (a.eval x :: VS) = (a.eval x).cells.toList ++ Go.Vcg.flat VS := by simp [Go.Vcg.flat]
                rw [this]
                exact gA hc g2
              · intro u hu
                rcases List.mem_cons.1 hu with rfl | hu
                · have := cW hc
                  have h2 := Nat.eq_of_beq_eq_true hl
                  rw [← h2, ← this]; simp
                · exact g3 u hu
            · cases e
          · cases e
        · cases e
      · cases e
    · cases e
def QG (P : Program) (N : Nat) (h : Heap) (b0 nx : Nat) (l : Sls) (t : TypeId) (n : Nat) (ps : List (Nat × Operand)) : Option Eff := match P.underlying t with
  | some (.slice el) => match bA P el with
    | some s => match cH P el with
      | some _ => match Nat.beq ps.length n with
        | true => match Nat.ble (n * s) 16777216 with
          | true => match Nat.blt n dX with
            | true => match xU N l s 0 ps with
              | some cs => some (.val (.slice (some ⟨b0, 0, none⟩) n n) (eL h b0 (some (.cells cs el false))) nx)
              | none => none
            | false => none
          | false => none
        | false => none
      | none => none
    | none => none
  | _ => none
theorem GN {b0 nx' : Nat} (r : Rel w0 ρ h nx w) (hf : jG ρ nx b0 nx') (hs : Sl N ρ l a) {t : TypeId} {n : Nat} {ps : List (Nat × Operand)} {f : Eff} (e : QG P N h b0 nx' l t n ps = some f) : vA P w0 ρ h b0 a w ⟨ds, .buildSlice t n ps.toArray, ty, pos, af, gd⟩ f := by
  unfold QG at e
  split at e
  · rename_i el hT
    split at e
    · rename_i s hsz
      split at e
      · rename_i z hz
        split at e
        · rename_i hl
          split at e
          · rename_i hb
            split at e
            · rename_i hu
              split at e
              · rename_i cs hp
                cases e
                obtain ⟨VS, g1, g2, g3, g4⟩ := sE hs hp
                have hl' := Nat.eq_of_beq_eq_true hl
                refine ⟨_, .slice (some ⟨w.heap.size, 0 + 0, none⟩) n n, _, iF hf.free, fG, Pr.set (Nat.lt_of_lt_of_le hf.lt hf.small) _, oO eT (gR hu), r.cells hf g2 el, ?_⟩
                have hr := kW (P := P) VS hT hsz hz g3 (by rw [g4, hl']; exact eC hb) w
                generalize a.eval = ev at g1
                rw [g4, hl', ← g1] at hr
                simp [execOp, hr]
              · cases e
            · cases e
          · cases e
        · cases e
      · cases e
    · cases e
  · cases e
end
end
section
open Go.RowKit Go.MapKept
open Go.Vcg (jP jN eU bA cH dF add_lit bW aK fC dW lN lO sP eR jS)
section
variable {P : Program} {N : Nat} {w0 : World} {ρ : Env} {h : Heap} {l : Sls} {a : Act} {w : World} {nx : Nat}
variable {ds : Option Nat} {ty : TypeId} {pos : String} {af : Array Edge} {gd : Option (Nat × Bool)}
theorem aAp {off : Nat} {u : Value} {z : List Value} (hf : off + u.cells.size ≤ z.length) : (u.cells.zipIdx.foldl (fun cs (c, j) => cs.setIfInBounds (off + j) c) (⟨z⟩ : Array Value)) = ⟨z.take off ++ u.cells.toList ++ z.drop (off + u.cells.toList.length)⟩ := by
  apply Array.ext_getElem?
  intro k
  have := sP u.cells.toList off 0 ⟨z⟩ k
  have e : u.cells.zipIdx.foldl (fun cs (c, j) => cs.setIfInBounds (off + j) c) (⟨z⟩ : Array Value) = (u.cells.toList.zipIdx 0).foldl (fun (cs : Array Value) (p : Value × Nat) => cs.setIfInBounds (off + p.2) p.1) ⟨z⟩ := by
    rw [← Array.foldl_toList]; simp
  rw [e, this]
  have q := qU (xs := z) (vs := u.cells.toList) (off := off) (i := k) (by simpa using hf)
  simp only [List.getElem?_toArray, Nat.add_zero]
  rw [q]
  have hl : u.cells.toList.length = u.cells.size := by simp
  have hz : (⟨z⟩ : Array Value).size = z.length := rfl
  rw [hl, hz]
  by_cases h1 : off ≤ k ∧ k < off + u.cells.size ∧ k < z.length
  · rw [if_pos h1, if_neg (by omega), if_pos (by omega)]
  · rw [if_neg h1]
    by_cases h2 : k < off
    · rw [if_pos h2]
    · rw [if_neg h2, if_neg (by omega)]
def LK (N : Nat) (l : Sls) (pl : List (Nat × Nat)) : List (Nat × Operand) → List Value → Option (List Value)
  | [], cs => some cs
  | (i, x) :: ps, cs => match nth pl i with
    | some (off, s) => match aev N l x with
      | some v => match (cellsOf v).all (·.oneCell') with
        | true => match Nat.beq (cellsOf v).length s with
          | true => match tR off (cellsOf v) cs with
            | some cs' => LK N l pl ps cs'
            | none => none
          | false => none
        | false => none
      | none => none
    | none => none
theorem uP (hs : Sl N ρ l a) {pl : List (Nat × Nat)} : ∀ {ps : List (Nat × Operand)} {cs cs' CS : List Value}, rvs ρ cs = some CS → LK N l pl ps cs = some cs' →
    ∃ CS', rvs ρ cs' = some CS' ∧ ∀ place : Nat → Option (Nat × Nat), (∀ i x, pl[i]? = some x → place i = some x) → Instr.fill place ⟨CS⟩ (ps.map fun (i, x) => (i, a.eval x)) = some ⟨CS'⟩
  | [], cs, cs', CS, hc, e => by unfold LK at e; cases e; exact ⟨CS, hc, fun _ _ => rfl⟩
  | (i, x) :: ps, cs, cs', CS, hc, e => by
    unfold LK at e
    split at e
    · rename_i off s hp
      split at e
      · rename_i v hv
        split at e
        · rename_i h1
          split at e
          · rename_i hl
            split at e
            · rename_i cs1 hlay
              have hx := mP (aG hs hv) h1
              obtain ⟨k1, k2⟩ := wQ hc hx hlay
              obtain ⟨CS', g1, g2⟩ := uP hs k2 e
              refine ⟨CS', g1, fun place hpl => ?_⟩
              rw [mF] at hp
              have hlen := cW hx
              have hl' := Nat.eq_of_beq_eq_true hl
              have hsz : (a.eval x).cells.size = s := by rw [← hl', ← hlen]; simp
              simp only [List.map_cons, Instr.fill, hpl i _ hp]
              have h3 : (⟨CS⟩ : Array Value).size = CS.length := rfl
              rw [if_neg (by simp only [hsz, h3]; simp at k1; simp; omega), aAp (by simpa using k1)]
              exact g2 place hpl
            · cases e
          · cases e
        · cases e
      · cases e
    · cases e
def OQ (P : Program) (N : Nat) (l : Sls) (t : TypeId) (ps : List (Nat × Operand)) : Option Value := match cH P t with
  | some z => match gW z with
    | true => match (cellsOf z).all (·.oneCell') with
      | true => match lN P t with
        | some pl => match LK N l pl ps (cellsOf z) with
          | some cs => some (.agg ⟨cs⟩)
          | none => none
        | none => none
      | false => none
    | false => none
  | none => none
theorem FI (hs : Sl N ρ l a) {t : TypeId} {ps : List (Nat × Operand)} {v : Value} (e : OQ P N l t ps = some v) : Yes P ρ a w ⟨ds, .build t ps.toArray, ty, pos, af, gd⟩ v := by
  unfold OQ at e
  split at e
  · rename_i z hz
    split at e
    · rename_i hf
      split at e
      · rename_i h1
        split at e
        · rename_i pl hpl
          split at e
          · rename_i cs hc
            cases e
            obtain ⟨CS', g1, key⟩ := uP hs (mP (eB (ρ := ρ) hf) h1) hc
            refine ⟨.agg ⟨CS'⟩, by simp [rv, g1], ?_⟩
            generalize a.eval = ev at key
            have e2 : (ps.toArray.map fun (i, x) => (i, ev x)) = (ps.map fun (i, x) => (i, ev x)).toArray := by simp
            have hzc : (⟨z.cells.toList⟩ : Array Value) = z.cells := by simp
            rw [hzc] at key
            have hr : (Instr.build t (ps.map fun (i, x) => (i, ev x)).toArray).run P w = .ok (.agg ⟨CS'⟩) w := by
              unfold lN at hpl
              cases hu : P.underlying t with
              | none => simp [hu] at hpl
              | some de =>
                cases de <;> simp [hu] at hpl
                · rename_i m e
                  cases hsz : bA P e with
                  | none => simp [hsz] at hpl
                  | some s =>
                    simp only [hsz, Option.some.injEq] at hpl
                    have hk := key (fun i => some (i * s, s)) (fun i x hx => by
                      rw [← hpl] at hx
                      rw [List.getElem?_map] at hx
                      cases hr : (List.range m)[i]? with
                      | none => simp [hr] at hx
                      | some k =>
                        obtain ⟨hk1, hk2⟩ := List.getElem?_eq_some_iff.1 hr
                        rw [List.getElem_range] at hk2
                        subst hk2
                        simp [hr] at hx
                        simp [hx])
                    simp [Instr.build, aK hz, run_underlying hu, Go.Vcg.run_sizeOf hsz, hk]
                · rename_i fields
                  have hm : (fields.mapM (m := Sem) fun f => do pure (f.offset, ← sizeOf f.type)).run P w = .ok pl.toArray w := by
                    rw [Array.mapM_eq_mapM_toList]
                    simp [Go.Vcg.run_places _ _ hpl]
                  have hk := key (fun i => pl.toArray[i]?) (fun i x hx => by simpa using hx)
                  simp only [Instr.build, Sem.run_bind, aK hz, Result.andThen_ok, run_underlying hu, hm, hk]
                  rfl
            simp only [execOp, e2]
            simp only [Sem.run_bind, hr, Result.andThen_ok]; rfl
          · cases e
        · cases e
      · cases e
    · cases e
  · cases e
end
end
end Go.Rex
namespace Go.Proofs.YtoclmkdfcafhfaaGreatDoor
end Go.Proofs.YtoclmkdfcafhfaaGreatDoor
