/- A machine for closed runs: regions whose order Go leaves open. -/
import Derived.Test.YtoclmkdfcafhfaaGreatDoorZal
import Derived.LoopN
set_option maxRecDepth 20000
namespace Go.Rex
section
open Go.RowKit
open Go.Vcg (jP)
def NoP (Q : Exit → Act → World → Prop) : Exit → Act → World → Prop
  | .panic _, _, _ => False
  | e, a, w => Q e a w
theorem aD2 {P : Program} {c : Code} {Q : Exit → Act → World → Prop} {a : Act} {w : World} (h : c.wp P (NoP Q) a w) : c.wp P Q a w :=
  Code.wp_mono (fun e a w h => by cases e <;> first | exact h | exact (h : False).elim) h
def XA : List UInt8 → List UInt8 → Bool
  | [], [] => true
  | a :: r, b :: s => match Nat.beq a.toNat b.toNat with
    | true => XA r s
    | false => false
  | _, _ => false
theorem UB : ∀ {a b : List UInt8}, XA a b = true → a = b
  | [], [], _ => rfl
  | [], _ :: _, h => by simp [XA] at h
  | _ :: _, [], h => by simp [XA] at h
  | a :: r, b :: s, h => by
    unfold XA at h
    split at h
    · rename_i h1
      rw [UInt8.toNat_inj.1 (Nat.eq_of_beq_eq_true h1), UB h]
    · cases h
mutual
def veq : Value → Value → Bool
  | .bool a, .bool b => match a, b with
    | true, true => true
    | false, false => true
    | _, _ => false
  | .int j a, .int k b => decide (j = k) && decide (a = b)
  | .string ⟨⟨a⟩⟩, .string ⟨⟨b⟩⟩ => XA a b
  | .pointer none, .pointer none => true
  | .pointer (some ⟨a, i, none⟩), .pointer (some ⟨b, j, none⟩) => Nat.beq a b && Nat.beq i j
  | .slice none n c, .slice none m d => Nat.beq n m && Nat.beq c d
  | .slice (some ⟨a, i, none⟩) n c, .slice (some ⟨b, j, none⟩) m d => Nat.beq a b && Nat.beq i j && Nat.beq n m && Nat.beq c d
  | .map none, .map none => true
  | .map (some a), .map (some b) => Nat.beq a b
  | .func (.func f) ⟨x⟩ ⟨y⟩, .func (.func g) ⟨u⟩ ⟨v⟩ => Nat.beq f g && leq x u && leq y v
  | .nilFunc, .nilFunc => true
  | .iface t v, .iface u w => Nat.beq t u && veq v w
  | .nilIface, .nilIface => true
  | .agg ⟨x⟩, .agg ⟨y⟩ => leq x y
  | .tuple ⟨x⟩, .tuple ⟨y⟩ => leq x y
  | _, _ => false
def leq : List Value → List Value → Bool
  | [], [] => true
  | v :: r, w :: s => match veq v w with
    | true => leq r s
    | false => false
  | _, _ => false
end
mutual
theorem vU : ∀ {v w : Value}, veq v w = true → v = w := by
  intro v w h
  unfold veq at h
  split at h
  · split at h <;> first | rfl | cases h
  · simp at h; rw [h.1, h.2]
  · rw [UB h]
  · rfl
  · simp at h; rw [h.1, h.2]
  · simp at h; rw [h.1, h.2]
  · simp at h; rw [h.1.1.1, h.1.1.2, h.1.2, h.2]
  · rfl
  · simp at h; rw [h]
  · rename_i f x y g u v
    simp at h; rw [h.1.1, pB h.1.2, pB h.2]
  · rfl
  · rename_i t v u w
    simp at h; rw [h.1, vU h.2]
  · rfl
  · rename_i x y
    rw [pB h]
  · rename_i x y
    rw [pB h]
  · cases h
  termination_by v => SizeOf.sizeOf v
theorem pB : ∀ {v w : List Value}, leq v w = true → v = w := by
  intro v w h
  unfold leq at h
  split at h
  · rfl
  · rename_i v r w s
    split at h
    · rename_i h1
      rw [vU h1, pB h]
    · cases h
  · cases h
  termination_by v => SizeOf.sizeOf v
end
def peq : List (Value × Value) → List (Value × Value) → Bool
  | [], [] => true
  | (a, b) :: r, (c, d) :: s => match veq a c with
    | true => match veq b d with
      | true => peq r s
      | false => false
    | false => false
  | _, _ => false
theorem ZD : ∀ {v w : List (Value × Value)}, peq v w = true → v = w
  | [], [], _ => rfl
  | [], _ :: _, h => by simp [peq] at h
  | _ :: _, [], h => by simp [peq] at h
  | (a, b) :: r, (c, d) :: s, h => by
    unfold peq at h
    split at h
    · rename_i h1
      split at h
      · rename_i h2
        rw [vU h1, vU h2, ZD h]
      · cases h
    · cases h
def oeq : kD → kD → Bool
  | .cells a t r, .cells b u s => leq a b && Nat.beq t u && decide (r = s)
  | .row a t n, .row b u m => leq a b && Nat.beq t u && Nat.beq n m
  | .map a, .map b => peq a b
  | .tab a, .tab b => leq a b
  | _, _ => false
theorem ZF {a b : kD} (h : oeq a b = true) : a = b := by
  unfold oeq at h
  split at h
  · simp at h; rw [pB h.1.1, h.1.2, h.2]
  · simp at h; rw [pB h.1.1, h.1.2, h.2]
  · rw [ZD h]
  · rw [pB h]
  · cases h
def teq : T kD → T kD → Bool
  | .e, .e => true
  | .v a, .v b => oeq a b
  | .n a b, .n c d => match teq a c with
    | true => teq b d
    | false => false
  | _, _ => false
theorem MW : ∀ {a b : T kD}, teq a b = true → a = b
  | .e, .e, _ => rfl
  | .v a, .v b, h => by unfold teq at h; rw [ZF h]
  | .n a b, .n c d, h => by
    unfold teq at h
    split at h
    · rename_i h1; rw [MW h1, MW h]
    · cases h
  | .e, .v _, h => by simp [teq] at h
  | .e, .n _ _, h => by simp [teq] at h
  | .v _, .e, h => by simp [teq] at h
  | .v _, .n _ _, h => by simp [teq] at h
  | .n _ _, .e, h => by simp [teq] at h
  | .n _ _, .v _, h => by simp [teq] at h
def seq : T Value → T Value → Bool
  | .e, .e => true
  | .v a, .v b => veq a b
  | .n a b, .n c d => match seq a c with
    | true => seq b d
    | false => false
  | _, _ => false
theorem seq_eq : ∀ {a b : T Value}, seq a b = true → a = b
  | .e, .e, _ => rfl
  | .v a, .v b, h => by unfold seq at h; rw [vU h]
  | .n a b, .n c d, h => by
    unfold seq at h
    split at h
    · rename_i h1; rw [seq_eq h1, seq_eq h]
    · cases h
  | .e, .v _, h => by simp [seq] at h
  | .e, .n _ _, h => by simp [seq] at h
  | .v _, .e, h => by simp [seq] at h
  | .v _, .n _ _, h => by simp [seq] at h
  | .n _ _, .e, h => by simp [seq] at h
  | .n _ _, .v _, h => by simp [seq] at h
def aEe : Sls → Sls → Bool
  | ⟨n, a⟩, ⟨m, b⟩ => match Nat.beq n m with
    | true => seq a b
    | false => false
theorem aBx {a b : Sls} (h : aEe a b = true) : a = b := by
  obtain ⟨n, a⟩ := a
  obtain ⟨m, b⟩ := b
  unfold aEe at h
  simp only at h
  split at h
  · rename_i h1; rw [Nat.eq_of_beq_eq_true h1, seq_eq h]
  · cases h
def heq : Heap → Heap → Bool
  | ⟨a, m⟩, ⟨b, n⟩ => match Nat.beq m n with
    | true => teq a b
    | false => false
theorem aE7 {a b : Heap} (h : heq a b = true) : a = b := by
  obtain ⟨a, m⟩ := a
  obtain ⟨b, n⟩ := b
  unfold heq at h
  simp only at h
  split at h
  · rename_i h1; rw [Nat.eq_of_beq_eq_true h1, MW h]
  · cases h
def small (hr : Heap) : List Nat → Heap
  | [] => ⟨.e, 0⟩
  | b :: r => match Nat.blt b 1048576 with
    | true => match cL hr b with
      | some o => eL (small hr r) b (some o)
      | none => small hr r
    | false => small hr r
theorem nM {hr : Heap} : ∀ {bs : List Nat} {c : Nat} {o : kD}, cL (small hr bs) c = some o → c ∈ bs ∧ cL hr c = some o
  | [], c, o, h => by
    unfold small cL at h
    split at h
    · rw [oI] at h; cases h
    · cases h
  | b :: r, c, o, h => by
    unfold small at h
    split at h
    · rename_i hb
      split at h
      · rename_i o' ho
        by_cases hc : c = b
        · subst hc
          rw [cV (gR hb)] at h
          cases h
          exact ⟨by simp, ho⟩
        · rw [bC (gR hb) hc] at h
          obtain ⟨h1, h2⟩ := nM h
          exact ⟨by simp [h1], h2⟩
      · obtain ⟨h1, h2⟩ := nM h
        exact ⟨by simp [h1], h2⟩
    · obtain ⟨h1, h2⟩ := nM h
      exact ⟨by simp [h1], h2⟩
def SOk (ρ : Env) (bs : List Nat) (hr : Heap) (w : World) : Prop := ∀ b, b ∈ bs → ∀ o, cL hr b = some o → ∃ B C, ρ b = some (B, C, 0) ∧ kC ρ C o w.heap[B]?
def agree (bs : List Nat) (hr h : Heap) : Bool := bs.all fun b => match cL hr b with
  | none => true
  | some o => match cL h b with
    | some o' => oeq o o'
    | none => false
theorem kC.back {ρ ρ' : Env} (hle : ELe ρ ρ') {C C0 : Nat} {o : kD} {x x0 : Option Obj} (k : kC ρ' C o x) (k0 : kC ρ C0 o x0) : kC ρ C o x := by
  cases o with
  | cells cs t r =>
    obtain ⟨CS, h1, h2⟩ := k
    obtain ⟨CS0, g1, _⟩ := k0
    have := eJ hle g1
    rw [h1] at this; cases this
    exact ⟨_, g1, h2⟩
  | row cs t sz =>
    obtain ⟨CS, arr, h1, h2⟩ := k
    obtain ⟨CS0, arr0, g1, _⟩ := k0
    have := eJ hle g1
    rw [h1] at this; cases this
    exact ⟨_, arr, g1, h2⟩
  | map es =>
    obtain ⟨ES, h1, h2⟩ := k
    obtain ⟨ES0, g1, _⟩ := k0
    have := wR hle g1
    rw [h1] at this; cases this
    exact ⟨_, g1, h2⟩
  | tab cs =>
    obtain ⟨CS, t, f, h1, h2⟩ := k
    obtain ⟨CS0, t0, f0, g1, _⟩ := k0
    have := eJ hle g1
    rw [h1] at this; cases this
    exact ⟨_, t, f, g1, h2⟩
section
variable {P : Program} {qs : List FuncId} {N : Nat} {w0 : World} {ρ ρ' : Env} {h h' : Heap} {l : Sls} {a : Act} {w w' : World} {nx nx' : Nat}
theorem SOk.PG {ρ0 : Env} {hr : Heap} {nxr : Nat} {wr : World} (rr : Rel w0 ρ0 hr nxr wr) (hle : ELe ρ0 ρ) (r : Rel w0 ρ h nx w) {bs : List Nat} (ha : agree bs hr h = true) : SOk ρ0 bs hr w := fun b hb o ho => by
  have h1 := List.all_eq_true.1 ha b hb
  rw [ho] at h1
  simp only at h1
  split at h1
  · rename_i o' ho'
    have := ZF h1
    subst this
    obtain ⟨B, C, g1, g2⟩ := r.ok b o ho'
    obtain ⟨B0, C0, k1, k2⟩ := rr.ok b o ho
    have := hle _ _ k1
    rw [g1] at this
    cases this
    exact ⟨B, C, k1, g2.back hle k2⟩
  · cases h1
theorem SOk.start (rr : Rel w0 ρ h nx w) (bs : List Nat) : SOk ρ bs h w := fun b _ o ho => rr.ok b o ho
theorem SOk.heap {ρ0 : Env} {hr : Heap} {bs Bs : List Nat} (hS : SOk ρ0 Bs hr w) (hle : ELe ρ0 ρ) (hb : ∀ b ∈ bs, b ∈ Bs) : nX ρ (small hr bs) w := fun b o ho => by
  obtain ⟨h1, h2⟩ := nM ho
  obtain ⟨B, C, g1, g2⟩ := hS b (hb b h1) o h2
  exact ⟨B, C, hle _ _ g1, g2.mono hle⟩
def aB3 (N : Nat) (l : Sls) (o : Oper) : List Nat := match o.op with
  | .load _ x => match aev N l x with
    | some (.pointer (some ⟨b, _, _⟩)) => [b]
    | _ => []
  | .lookup _ x _ _ => match aev N l x with
    | some (.map (some b)) => [b]
    | _ => []
  | _ => []
def aDt (E : List Nat) : List Nat → Bool
  | [] => true
  | b :: r => match E.any (Nat.beq b) with
    | true => false
    | false => aDt E r
def XU (P : Program) (N : Nat) (hr : Heap) (E : List Nat) (ops : List Oper) (l : Sls) (o : Oper) : Option (Value × List Nat) := match yU ops l o with
  | some false => some (oH, [])
  | some true => match aDt E (aB3 N l o) with
    | true => match rop P N (small hr (aB3 N l o)) l o with
      | some v => some (v, aB3 N l o)
      | none => none
    | false => none
  | none => none
def JE (f : Nat → Option (Value × List Nat)) : List Nat → Option (Nat × Value × List Nat)
  | [] => none
  | i :: r => match f i with
    | some (v, bs) => some (i, v, bs)
    | none => JE f r
theorem xQ {f : Nat → Option (Value × List Nat)} : ∀ {rs : List Nat} {i : Nat} {v : Value} {bs : List Nat}, JE f rs = some (i, v, bs) → i ∈ rs ∧ f i = some (v, bs)
  | [], i, v, bs, e => by simp [JE] at e
  | j :: r, i, v, bs, e => by
    unfold JE at e
    split at e
    · rename_i h1; cases e; exact ⟨by simp, h1⟩
    · obtain ⟨h1, h2⟩ := xQ e
      exact ⟨by simp [h1], h2⟩
def aGx (P : Program) (N : Nat) (call : gJ) (ops : List Oper) (b0 : Nat) (h : Heap) (nx : Nat) (l : Sls) (o : Oper) : Option (Heap × Nat × Sls) := match yU ops l o with
  | some false => some (h, nx, tN l o.dst oH)
  | some true => match rop P N h l o with
    | some v => some (h, nx, tN l o.dst v)
    | none => match cop P N l o with
      | some (f, vs) => match call f vs h nx with
        | some (v, h', nx') => some (h', nx', tN l o.dst v)
        | none => none
      | none => match eop P N h b0 nx nx l o with
        | some (.val v h' nx') => match Nat.beq nx nx' with
          | true => some (h', nx, tN l o.dst v)
          | false => none
        | some (.skip h' nx') => match Nat.beq nx nx' with
          | true => some (h', nx, tN l o.dst oH)
          | false => none
        | none => none
  | none => none
structure GZ where
  h : Heap
  nx : Nat
  l : Sls
  Bs : List Nat
  Hs : List Heap
def RS (x y : GZ) : Bool := match Nat.beq x.nx y.nx with
  | true => match aEe x.l y.l with
    | true => heq x.h y.h
    | false => false
  | false => false
def ML (f : Nat → Option GZ) : List Nat → Option GZ
  | [] => none
  | i :: r => match r with
    | [] => f i
    | _ :: _ => match f i with
      | some x => match ML f r with
        | some y => match RS x y with
          | true => some ⟨x.h, x.nx, x.l, x.Bs ++ y.Bs, x.Hs ++ y.Hs⟩
          | false => none
        | none => none
      | none => none
theorem zQ {f : Nat → Option GZ} : ∀ {rs : List Nat} {z : GZ}, ML f rs = some z → ∀ i, i ∈ rs → ∃ x, f i = some x ∧ x.h = z.h ∧ x.nx = z.nx ∧ x.l = z.l ∧ (∀ b ∈ x.Bs, b ∈ z.Bs) ∧ (∀ b ∈ x.Hs, b ∈ z.Hs)
  | [], z, e, i, hi => by cases hi
  | [j], z, e, i, hi => by
    unfold ML at e
    simp only at e
    have : i = j := by simpa using hi
    subst this
    exact ⟨z, e, rfl, rfl, rfl, fun _ h => h, fun _ h => h⟩
  | j :: k :: r, z, e, i, hi => by
    unfold ML at e
    simp only at e
    split at e
    · rename_i x hx
      split at e
      · rename_i y hy
        split at e
        · rename_i hs
          cases e
          unfold RS at hs
          split at hs
          · rename_i h1
            split at hs
            · rename_i h2
              have h1 := Nat.eq_of_beq_eq_true h1
              have h2 := aBx h2
              have h3 := aE7 hs
              rcases List.mem_cons.1 hi with rfl | hi
              · exact ⟨x, hx, rfl, rfl, rfl, fun b hb => by simp [hb], fun b hb => by simp [hb]⟩
              · obtain ⟨u, g1, g2, g3, g4, g5, g6⟩ := zQ hy i hi
                exact ⟨u, g1, g2.trans h3.symm, g3.trans h1.symm, g4.trans h2.symm, fun b hb => by simp [g5 b hb], fun b hb => by simp [g6 b hb]⟩
            · cases hs
          · cases hs
        · cases e
      · cases e
    · cases e
def uR (P : Program) (N : Nat) (call : gJ) (E : List Nat) (base : Nat) (hr : Heap) (ops : List Oper) : Nat → Array Bool → Heap → Nat → Sls → Option GZ
  | 0, listed, h, nx, l => match Region.ready .any ops.toArray listed with
    | [] => some ⟨h, nx, l, [], []⟩
    | _ :: _ => none
  | n + 1, listed, h, nx, l => match Region.ready .any ops.toArray listed with
    | [] => some ⟨h, nx, l, [], []⟩
    | r :: rs => match JE (fun i => match Region.free .any ops.toArray listed i with
        | true => match nth ops i with
          | some o => XU P N hr E ops l o
          | none => none
        | false => none) (r :: rs) with
      | some (i, v, bs) => match nth ops i with
        | some o => match uR P N call E base hr ops n (listed.setIfInBounds i true) h nx (tN l o.dst v) with
          | some z => some ⟨z.h, z.nx, z.l, bs ++ z.Bs, z.Hs⟩
          | none => none
        | none => none
      | none => ML (fun i => match nth ops i with
        | some o => match aGx P N call ops (base + i) h nx l o with
          | some (h1, nx1, l1) => match uR P N call E base hr ops n (listed.setIfInBounds i true) h1 nx1 l1 with
            | some z => some ⟨z.h, z.nx, z.l, z.Bs, h1 :: z.Hs⟩
            | none => none
          | none => none
        | none => none) (r :: rs)
theorem LV {call : gJ} (hc : iH P w0 N call) {E : List Nat} {base : Nat} {hr : Heap} {ops : List Oper} {ρ0 : Env} {nxr : Nat} {wr : World} (rr : Rel w0 ρ0 hr nxr wr) (hns : Region.noSelect ops.toArray = true) {Bs : List Nat} {Q : Exit → Act → World → Prop} :
    ∀ (n : Nat) {listed : Array Bool} {h : Heap} {nx : Nat} {l : Sls} {ρ : Env} {a : Act} {w : World} {z : GZ}, uR P N call E base hr ops n listed h nx l = some z → (∀ b, b ∈ z.Bs → b ∈ Bs) → (∀ x, x ∈ z.Hs → agree Bs hr x = true) →
      ELe ρ0 ρ → R P qs w0 N ρ h nx l a w → (∀ i, i < ops.length → listed.getD i true = false → ρ (base + i) = none) → base + ops.length ≤ nx → SOk ρ0 Bs hr w →
      (∀ ρ' a' w', Ext base ρ ρ' → nx ≤ z.nx → Pr h z.h → R P qs w0 N ρ' z.h z.nx z.l a' w' → Q .normal a' w') → wpAnyH P .any ops.toArray (NoP Q) (SOk ρ0 Bs hr) n listed a w := by
  intro n
  induction n with
  | zero =>
    intro listed h nx l ρ a w z e hB hH hle r hres hbase hS hQ
    unfold uR at e
    split at e
    · rename_i hrd
      cases e
      exact ⟨hrd, hQ ρ a w (fun _ _ => rfl) (Nat.le_refl _) (Pr.refl _) r⟩
    · cases e
  | succ n ih =>
    intro listed h nx l ρ a w z e hB hH hle r hres hbase hS hQ
    unfold uR at e
    split at e
    · rename_i hrd
      cases e
      exact wpAnyH_done (Q := NoP Q) hrd (hQ ρ a w (fun _ _ => rfl) (Nat.le_refl _) (Pr.refl _) r) _
    · rename_i r0 rs hrd
      have hres' : ∀ (i : Nat) (ρ1 : Env), (∀ c, c < base + ops.length → c ≠ base + i → ρ1 c = ρ c) → ∀ j, j < ops.length → (listed.setIfInBounds i true).getD j true = false → ρ1 (base + j) = none := fun i ρ1 h1 j hj hl => by
        have hji : j ≠ i := fun e => by
          subst e
          by_cases hs : j < listed.size
          · rw [Array.getD_eq_getD_getElem?, Array.getElem?_setIfInBounds_self_of_lt hs] at hl; cases hl
          · rw [Array.getD_eq_getD_getElem?, Array.getElem?_eq_none (by simp; omega)] at hl; cases hl
        rw [h1 (base + j) (by omega) (by omega)]
        refine hres j hj ?_
        rwa [Array.getD_eq_getD_getElem?, Array.getElem?_setIfInBounds_ne (Ne.symm hji), ← Array.getD_eq_getD_getElem?] at hl
      split at e
      · rename_i i v bs hpick
        obtain ⟨hi, hf⟩ := xQ hpick
        split at hf
        · rename_i hfree
          split at e
          · rename_i o ho
            rw [ho] at hf
            simp only at hf
            split at e
            · rename_i z' hz'
              cases e
              have hoi : ops.toArray[i]? = some o := by rw [mF] at ho; simpa using ho
              unfold XU at hf
              split at hf
              · rename_i hg
                cases hf
                refine wpAnyH_take (v := undef) hoi hns hfree (by rw [hrd]; simpa using hi) (fun _ _ _ h => h) (.inr ⟨gN r.sl hg, rfl⟩) hS ?_
                exact ih hz' (fun b hb => hB b (by simp [hb])) hH hle (r.put mO o.dst) (hres' i ρ (fun _ _ _ => rfl)) hbase hS hQ
              · rename_i hg
                split at hf
                · split at hf
                  · rename_i v' hv
                    cases hf
                    have hbs : ∀ b, b ∈ aB3 N l o → b ∈ Bs := fun b hb => hB b (by simp [hb])
                    obtain ⟨V, h1, h2⟩ := pR r.sl (hS.heap hle hbs) hv
                    refine wpAnyH_take (v := V) hoi hns hfree (by rw [hrd]; simpa using hi) (fun _ _ _ h => h) (.inl ⟨gN r.sl hg, fun w' hS' => ?_⟩) hS ?_
                    · obtain ⟨V', h1', h2'⟩ := pR r.sl (hS'.heap hle hbs) hv
                      rw [h1] at h1'; cases h1'
                      exact h2'
                    · exact ih hz' (fun b hb => hB b (by simp [hb])) hH hle (r.put h1 o.dst) (hres' i ρ (fun _ _ _ => rfl)) hbase hS hQ
                  · cases hf
                · cases hf
              · cases hf
            · cases e
          · cases e
        · cases hf
      · refine wpAnyH_all hrd (by simp) fun i hi => ?_
        obtain ⟨x, hx, e1, e2, e3, e4, e5⟩ := zQ e i hi
        split at hx
        · rename_i o ho
          have hoi : ops.toArray[i]? = some o := by rw [mF] at ho; simpa using ho
          have hil : i < ops.length := by rw [mF] at ho; exact (List.getElem?_eq_some_iff.1 ho).1
          have hlisted : listed.getD i true = false := by
            have : i ∈ Region.ready .any ops.toArray listed := by rw [hrd]; exact hi
            exact (mem_ready.1 this).1
          split at hx
          · rename_i h1 nx1 l1 hdo
            split at hx
            · rename_i z' hz'
              cases hx
              simp only at e1 e2 e3 e4 e5
              have hB' : ∀ b, b ∈ z'.Bs → b ∈ Bs := fun b hb => hB b (e4 b hb)
              have hH' : ∀ y, y ∈ z'.Hs → agree Bs hr y = true := fun y hy => hH y (e5 y (by simp [hy]))
              have hag : agree Bs hr h1 = true := hH h1 (e5 h1 (by simp))
              unfold wpOp
              simp only [hoi]
              unfold aGx at hdo
              split at hdo
              · rename_i hg
                cases hdo
                rw [if_neg (by rw [gN r.sl hg]; simp)]
                exact ⟨hS, ih hz' hB' hH' hle (r.put mO o.dst) (hres' i ρ (fun _ _ _ => rfl)) hbase hS fun ρ' a' w' q1 q2 q3 q4 => hQ ρ' a' w' q1 (by rw [← e2]; exact q2) (by rw [← e1]; exact q3) (by rw [← e1, ← e2, ← e3]; exact q4)⟩
              · rename_i hg
                rw [if_pos (gN r.sl hg)]
                refine .inl ?_
                unfold Oper.wp
                split at hdo
                · rename_i v hv
                  cases hdo
                  obtain ⟨V, g1, g2⟩ := pR r.sl r.rel.ok hv
                  rw [g2, Oper.upon_value]
                  exact ⟨hS, ih hz' hB' hH' hle (r.put g1 o.dst) (hres' i ρ (fun _ _ _ => rfl)) hbase hS fun ρ' a' w' q1 q2 q3 q4 => hQ ρ' a' w' q1 (by rw [← e2]; exact q2) (by rw [← e1]; exact q3) (by rw [← e1, ← e2, ← e3]; exact q4)⟩
                · split at hdo
                  · rename_i f vs hf
                    obtain ⟨hcl, VS, g1, g2⟩ := DS (w := w) r.sl hf
                    split at hdo
                    · rename_i v h1' nx1' hcall
                      cases hdo
                      rw [g2, Oper.upon_enter]
                      refine hc ρ h nx f vs VS w v h1 nx1 hcall r.rel r.sl.glob g1 _ fun ρ1 V w1 hev hv hr1 => ?_
                      show SOk ρ0 Bs hr w1 ∧ wpAnyH P .any ops.toArray (NoP Q) (SOk ρ0 Bs hr) n (listed.setIfInBounds i true) (a.put o.dst V) w1
                      have hle1 : ELe ρ0 ρ1 := hle.trans (hev.ele r.rel)
                      have hS1 : SOk ρ0 Bs hr w1 := SOk.PG rr hle1 hr1 hag
                      refine ⟨hS1, ih hz' hB' hH' hle1 ((r.go (hev.ele r.rel) hr1).put hv o.dst) (hres' i ρ1 (fun c hc _ => hev.ext c (by omega))) (by have := hev.le; omega) hS1 fun ρ' a' w' q1 q2 q3 q4 => hQ ρ' a' w' (fun c hc => (q1 c hc).trans (hev.ext c (by omega))) (by rw [← e2]; have := hev.le; omega) (by rw [← e1]; exact hev.pr.trans q3) (by rw [← e1, ← e2, ← e3]; exact q4)⟩
                    · cases hdo
                  · have hf : jG ρ nx (base + i) nx := ⟨hres i hil hlisted, Nat.le_refl _, by omega, r.rel.small⟩
                    split at hdo
                    · rename_i v h1' nx1' he
                      split at hdo
                      · rename_i hnn
                        have hnn := Nat.eq_of_beq_eq_true hnn
                        cases hdo
                        subst hnn
                        obtain ⟨ρ1, V, w1, g1, g2, g3, g4, g5, g6⟩ := qD r.rel hf r.sl he
                        rw [g6, Oper.upon_value]
                        have hle1 : ELe ρ0 ρ1 := hle.trans g1
                        have hS1 : SOk ρ0 Bs hr w1 := SOk.PG rr hle1 g5 hag
                        exact ⟨hS1, ih hz' hB' hH' hle1 ((r.go g1 g5).put g4 o.dst) (hres' i ρ1 (fun c _ hc => g2 c hc)) hbase hS1 fun ρ' a' w' q1 q2 q3 q4 => hQ ρ' a' w' (fun c hc => (q1 c hc).trans (g2 c (by omega))) (by rw [← e2]; exact q2) (by rw [← e1]; exact g3.trans q3) (by rw [← e1, ← e2, ← e3]; exact q4)⟩
                      · cases hdo
                    · rename_i h1' nx1' he
                      split at hdo
                      · rename_i hnn
                        have hnn := Nat.eq_of_beq_eq_true hnn
                        cases hdo
                        subst hnn
                        obtain ⟨w1, g3, g5, g6⟩ := qD r.rel hf r.sl he
                        rw [g6, Oper.upon_skip]
                        have hS1 : SOk ρ0 Bs hr w1 := SOk.PG rr hle g5 hag
                        exact ⟨hS1, ih hz' hB' hH' hle ((r.go (ELe.refl _) g5).put mO o.dst) (hres' i ρ (fun _ _ _ => rfl)) hbase hS1 fun ρ' a' w' q1 q2 q3 q4 => hQ ρ' a' w' q1 (by rw [← e2]; exact q2) (by rw [← e1]; exact g3.trans q3) (by rw [← e1, ← e2, ← e3]; exact q4)⟩
                      · cases hdo
                    · cases hdo
              · cases hdo
            · cases hx
          · cases hx
        · cases hx
def zO (hr : Heap) (Hs : List Heap) (Bs : List Nat) : List Nat := Bs.filter fun b => !(Hs.all fun x => agree [b] hr x)
theorem QU {hr : Heap} {Hs : List Heap} {Bs : List Nat} (h : zO hr Hs Bs = []) : ∀ x, x ∈ Hs → agree Bs hr x = true := fun x hx => by
  unfold agree
  refine List.all_eq_true.2 fun b hb => ?_
  unfold zO at h
  rw [List.filter_eq_nil_iff] at h
  have h1 : (Hs.all fun x => agree [b] hr x) = true := by
    cases hh : (Hs.all fun x => agree [b] hr x) with
    | true => rfl
    | false => exact absurd (by simp [hh]) (h b hb)
  have h2 := List.all_eq_true.1 h1 x hx
  unfold agree at h2
  exact List.all_eq_true.1 h2 b (by simp)
def aAy (P : Program) (N : Nat) (call : gJ) (ops : List Oper) (h : Heap) (nx : Nat) (l : Sls) : Option GZ := match Region.noSelect ops.toArray with
  | true => match Nat.ble (nx + ops.length) 1048576 with
    | true => match uR P N call [] nx h ops ops.length (Array.replicate ops.length false) h (nx + ops.length) l with
      | some z => match zO h z.Hs z.Bs with
        | [] => some z
        | b :: E => match uR P N call (b :: E) nx h ops ops.length (Array.replicate ops.length false) h (nx + ops.length) l with
          | some z => match zO h z.Hs z.Bs with
            | [] => some z
            | _ :: _ => none
          | none => none
      | none => none
    | false => none
  | false => none
theorem LU {call : gJ} (hc : iH P w0 N call) (hm : P.follows .mixedOrders = true) {id : Nat} {ops : List Oper} {z : GZ} {Q : Exit → Act → World → Prop} (e : aAy P N call ops h nx l = some z) (r : R P qs w0 N ρ h nx l a w)
    (hQ : ∀ ρ' a' w', Ev ρ h nx ρ' z.h z.nx → R P qs w0 N ρ' z.h z.nx z.l a' w' → Q .normal a' w') : (Code.region id ops.toArray true).wp P Q a w := by
  have fin : ∀ E, Region.noSelect ops.toArray = true → nx + ops.length ≤ 1048576 → uR P N call E nx h ops ops.length (Array.replicate ops.length false) h (nx + ops.length) l = some z → zO h z.Hs z.Bs = [] → (Code.region id ops.toArray true).wp P Q a w := fun E hns hle hz hbad => by
    have rel0 : Rel w0 ρ h nx { w with drawn := w.drawn + 1 } := r.rel.after ⟨rfl, rfl, rfl, Nat.le_refl _, fun _ _ _ => rfl⟩
    have rel1 : Rel w0 ρ h (nx + ops.length) { w with drawn := w.drawn + 1 } := ⟨rel0.ok, rel0.inj, fun b hb => rel0.new b (by omega), hle, rel0.own, rel0.old, rel0.aT⟩
    have r1 : R P qs w0 N ρ h (nx + ops.length) l a { w with drawn := w.drawn + 1 } := ⟨rel1, r.sl, r.df⟩
    refine aD2 (wp_region_held (S := SOk ρ z.Bs h) hm ?_)
    have hsz : ops.toArray.size = ops.length := by simp
    rw [hsz]
    exact LV hc rel0 hns ops.length hz (fun _ h => h) (QU hbad) (ELe.refl _) r1 (fun i _ _ => rel0.new _ (by omega)) (Nat.le_refl _) (SOk.start rel0 _) fun ρ' a' w' q1 q2 q3 q4 => hQ ρ' a' w' ⟨q1, by omega, q3⟩ q4
  unfold aAy at e
  split at e
  · rename_i hns
    split at e
    · rename_i hle
      have hle := eC hle
      split at e
      · rename_i z1 hz1
        split at e
        · rename_i hb
          cases e
          exact fin _ hns hle hz1 hb
        · split at e
          · rename_i z2 hz2
            split at e
            · rename_i hb2
              cases e
              exact fin _ hns hle hz2 hb2
            · cases e
          · cases e
      · cases e
    · cases e
  · cases e
end
end
section
open Go.RowKit
open Go.Vcg (jP bW)
theorem aGz {a b : Nat} (h : Nat.ble a b = false) : b < a := Nat.lt_of_not_le fun hle => by
  rw [show Nat.ble a b = true from (by rw [Nat.ble_eq]; exact hle)] at h; cases h
inductive Ex where
  | normal
  | exit (id : Nat)
  | ret
def toE : Ex → Exit
  | .normal => .normal
  | .exit i => .exit i
  | .ret => .ret
abbrev nJ := Code → Heap → Nat → Sls → Option (Ex × Heap × Nat × Sls)
def KF (ih : nJ) (c : Code) : Nat → Heap → Nat → Sls → Option (Ex × Heap × Nat × Sls)
  | 0, _, _, _ => none
  | k + 1, h, nx, l => match ih c h nx l with
    | some (e, h', nx', l') => match e with
      | .normal => KF ih c k h' nx' l'
      | e => some (e, h', nx', l')
    | none => none
def RO (P : Program) (N : Nat) (qs : List FuncId) (call : gJ) (ih : nJ) (k : Nat) : nJ := fun c h nx l => match c with
  | .skip => some (.normal, h, nx, l)
  | .region _ ⟨ops⟩ false => match mA P N qs call ops ops h nx l with
    | some (h', nx', l') => some (.normal, h', nx', l')
    | none => none
  | .region _ ⟨ops⟩ true => match aAy P N call ops h nx l with
    | some z => some (.normal, z.h, z.nx, z.l)
    | none => none
  | .seq x y => match ih x h nx l with
    | some (e, h', nx', l') => match e with
      | .normal => ih y h' nx' l'
      | e => some (e, h', nx', l')
    | none => none
  | .cond c x y => match aev N l c with
    | some (.bool true) => ih x h nx l
    | some (.bool false) => ih y h nx l
    | _ => none
  | .block id c => match ih c h nx l with
    | some (e, h', nx', l') => match e with
      | .exit j => match Nat.beq j id with
        | true => some (.normal, h', nx', l')
        | false => some (.exit j, h', nx', l')
      | e => some (e, h', nx', l')
    | none => none
  | .loop c => KF ih c k h nx l
  | .exit id => some (.exit id, h, nx, l)
  | .ret => some (.ret, h, nx, l)
  | _ => none
def OD (P : Program) (h : Heap) (l : Sls) : List ResultVar → Option (List Value)
  | [] => some []
  | r :: rs => match r with
    | .tmp t => match wL l t with
      | some v => match isHole v with
        | true => none
        | false => match OD P h l rs with
          | some vs => some (v :: vs)
          | none => none
      | none => none
    | .cell t ty => match wL l t with
      | some u => match isHole u with
        | true => none
        | false => match ald P h ty u with
          | some v => match OD P h l rs with
            | some vs => some (v :: vs)
            | none => none
          | none => none
      | none => none
def JK : List Value → Value
  | [u] => u
  | us => .tuple ⟨us⟩
def aGm : Ex → Bool
  | .normal => true
  | .ret => true
  | .exit _ => false
def EH : Nat → List Value → T Value → T Value
  | _, [], t => t
  | i, v :: r, t => EH (i + 1) r (tG 9 t i (some v))
def BK (n : Nat) (vs : List Value) : Sls := match Nat.ble vs.length 512 with
  | true => ⟨n, EH 0 vs .e⟩
  | false => ⟨n, .e⟩
theorem uE : ∀ {vs : List Value} {i : Nat} {t : T Value} {k : Nat} {v : Value}, i + vs.length ≤ 512 → k < 512 → wD 9 (EH i vs t) k = some v → (i ≤ k ∧ vs[k - i]? = some v) ∨ wD 9 t k = some v
  | [], i, t, k, v, _, _, h => .inr h
  | u :: r, i, t, k, v, hi, hk, h => by
    unfold EH at h
    simp only [List.length_cons] at hi
    rcases uE (by omega) hk h with ⟨h1, h2⟩ | h1
    · exact .inl ⟨by omega, by rw [show k - i = (k - (i + 1)) + 1 by omega]; simpa using h2⟩
    · by_cases hki : k = i
      · subst hki
        rw [jQ] at h1
        exact .inl ⟨Nat.le_refl _, by simpa using h1⟩
      · rw [iR 9 t i k (some u) (by omega) (by omega) hki] at h1
        exact .inr h1
theorem NF {n : Nat} {vs : List Value} {k : Nat} {v : Value} (h : wL (BK n vs) k = some v) : vs[k]? = some v := by
  unfold wL at h
  split at h
  · rename_i hk
    unfold BK at h
    split at h
    · rename_i hl
      rcases uE (by simpa using eC hl) (gR hk) h with ⟨_, h2⟩ | h1
      · simpa using h2
      · rw [oI] at h1; cases h1
    · simp only [oI] at h; cases h
  · cases h
theorem aBy {n : Nat} {vs : List Value} : (BK n vs).n = n := by unfold BK; split <;> rfl
abbrev AL := FuncId → List Value → Option Value
def ME (P : Program) (memo : AL) (exec : nJ) : gJ := fun f vs h nx => match memo f vs with
  | some v => some (v, h, nx)
  | none => match nth P.funcs.toList f with
    | some fn => match fn.body with
      | some c => match Nat.ble vs.length fn.ntmps with
        | true => match exec c ⟨h.t, nx⟩ nx (BK fn.ntmps vs) with
          | some (e, h', nx', l') => match aGm e with
            | true => match OD P h' l' fn.results.toList with
              | some us => match gW (JK us) with
                | true => match Nat.ble nx h'.mw with
                  | true => some (JK us, h, nx)
                  | false => some (JK us, ⟨h'.t, bif Nat.ble h.mw h'.mw then h.mw else h'.mw⟩, nx')
                | false => some (JK us, ⟨h'.t, bif Nat.ble h.mw h'.mw then h.mw else h'.mw⟩, nx')
              | none => none
            | false => none
          | none => none
        | false => none
      | none => none
    | none => none
def exQ (P : Program) (N : Nat) (qs : List FuncId) (memo : AL) (n : Nat) : nJ :=
  Nat.rec (motive := fun _ => nJ) (fun _ _ _ _ => none) (fun k ih => RO P N qs (ME P memo ih) ih k) n
def ex (P : Program) (N : Nat) (memo : AL) (n : Nat) : nJ := exQ P N [] memo n
section
variable {P : Program} {qs : List FuncId} {N : Nat} {w0 : World} {ρ ρ' : Env} {h h' : Heap} {l : Sls} {a : Act} {w w' : World} {nx nx' : Nat}
def aBd (P : Program) (qs : List FuncId) (w0 : World) (N : Nat) (ih : nJ) : Prop :=
  ∀ c h nx l e h' nx' l', ih c h nx l = some (e, h', nx', l') → ∀ ρ a w (Q : Exit → Act → World → Prop), R P qs w0 N ρ h nx l a w →
    (∀ ρ' a' w', Ev ρ h nx ρ' h' nx' → R P qs w0 N ρ' h' nx' l' a' w' → Q (toE e) a' w') → c.wp P Q a w
theorem KE {ih : nJ} (hi : aBd P qs w0 N ih) {c : Code} {Q : Exit → Act → World → Prop} : ∀ {k : Nat} {h : Heap} {nx : Nat} {l : Sls} {e : Ex} {h' : Heap} {nx' : Nat} {l' : Sls}, KF ih c k h nx l = some (e, h', nx', l') → ∀ {ρ : Env} {a : Act} {w : World}, R P qs w0 N ρ h nx l a w →
    (∀ ρ' a' w', Ev ρ h nx ρ' h' nx' → R P qs w0 N ρ' h' nx' l' a' w' → Q (toE e) a' w') → Code.rounds P c Q k a w
  | 0, h, nx, l, e, h', nx', l', he, ρ, a, w, r, hQ => by unfold KF at he; cases he
  | k + 1, h, nx, l, e, h', nx', l', he, ρ, a, w, r, hQ => by
    unfold KF at he
    rw [rounds_succ]
    split at he
    · rename_i e1 h1 nx1 l1 h2
      refine hi _ _ _ _ _ _ _ _ h2 ρ a w _ r fun ρ1 a1 w1 hev r1 => ?_
      cases e1 with
      | normal => exact KE hi he r1 fun ρ2 a2 w2 hev2 r2 => hQ ρ2 a2 w2 (hev.trans hev2) r2
      | exit i => cases he; exact hQ _ _ _ hev r1
      | ret => cases he; exact hQ _ _ _ hev r1
    · cases he
theorem XX (hm : P.follows .mixedOrders = true) (hq : ∀ f ∈ qs, rO P f) {call : gJ} {ih : nJ} (hc : iH P w0 N call) (hi : aBd P qs w0 N ih) (k : Nat) : aBd P qs w0 N (RO P N qs call ih k) := by
  intro c h nx l e h' nx' l' he ρ a w Q r hQ
  unfold RO at he
  split at he
  · cases he; exact wp_skip (hQ ρ a w (Ev.refl _ _ _) r)
  · split at he
    · rename_i h1
      cases he
      exact wp_region_lit (fJ hc hq h1 r hQ)
    · cases he
  · split at he
    · rename_i z h1
      cases he
      exact LU hc hm h1 r hQ
    · cases he
  · split at he
    · rename_i e1 h1 nx1 l1 h2
      refine wp_seq (hi _ _ _ _ _ _ _ _ h2 ρ a w _ r fun ρ1 a1 w1 hev r1 => ?_)
      cases e1 with
      | normal => exact hi _ _ _ _ _ _ _ _ he ρ1 a1 w1 Q r1 fun ρ2 a2 w2 hev2 r2 => hQ ρ2 a2 w2 (hev.trans hev2) r2
      | exit i => cases he; exact hQ _ _ _ hev r1
      | ret => cases he; exact hQ _ _ _ hev r1
    · cases he
  · split at he
    · rename_i hcv
      exact wp_cond_true (bU (aG r.sl hcv) rfl) (hi _ _ _ _ _ _ _ _ he ρ a w Q r hQ)
    · rename_i hcv
      exact wp_cond_false (bU (aG r.sl hcv) rfl) (hi _ _ _ _ _ _ _ _ he ρ a w Q r hQ)
    · cases he
  · rename_i id c
    split at he
    · rename_i e1 h1 nx1 l1 h2
      refine wp_block (hi _ _ _ _ _ _ _ _ h2 ρ a w _ r fun ρ1 a1 w1 hev r1 => ?_)
      cases e1 with
      | normal => cases he; exact hQ _ _ _ hev r1
      | ret => cases he; exact hQ _ _ _ hev r1
      | exit j =>
        simp only at he
        show (if j = id then Q .normal a1 w1 else Q (.exit j) a1 w1)
        split at he
        · rename_i hj
          rw [if_pos (Nat.eq_of_beq_eq_true hj)]
          cases he; exact hQ _ _ _ hev r1
        · rename_i hj
          rw [if_neg (Nat.ne_of_beq_eq_false hj)]
          cases he; exact hQ _ _ _ hev r1
    · cases he
  · exact wp_loop_rounds k (KE hi he r hQ)
  · cases he; exact wp_exit (hQ ρ a w (Ev.refl _ _ _) r)
  · cases he; exact wp_ret (hQ ρ a w (Ev.refl _ _ _) r)
  · cases he
theorem qY (hs : Sl N ρ l a) (hk : nX ρ h w) : ∀ {rs : List ResultVar} {vs : List Value}, OD P h l rs = some vs → ∃ VS, rvs ρ vs = some VS ∧ (rs.mapM (Go.Vcg.ResultVar.get a.tmps)).run P w = .ok VS w
  | [], vs, e => by unfold OD at e; cases e; exact ⟨[], by simp [rvs], by simp⟩
  | r :: rs, vs, e => by
    unfold OD at e
    split at e
    · rename_i t
      split at e
      · rename_i v hv
        split at e
        · cases e
        · rename_i hh
          split at e
          · rename_i us hu
            cases e
            obtain ⟨US, g1, g2⟩ := qY hs hk hu
            obtain ⟨V, k1, k2⟩ := hs.tmps.2 t v hv hh
            exact ⟨V :: US, by simp [rvs, k2, g1], by simp [List.mapM_cons, Go.Vcg.ResultVar.get, k1, g2]⟩
          · cases e
      · cases e
    · rename_i t ty
      split at e
      · rename_i u hu
        split at e
        · cases e
        · rename_i hh
          split at e
          · rename_i v hv
            split at e
            · rename_i us hus
              cases e
              obtain ⟨US, g1, g2⟩ := qY hs hk hus
              obtain ⟨U, k1, k2⟩ := hs.tmps.2 t u hu hh
              obtain ⟨V, q1, q2⟩ := DW (P := P) hk k2 hv
              have hU : ∃ A, U = .pointer (some A) := by
                unfold ald at hv
                split at hv
                · exact fM k2
                · cases hv
              obtain ⟨A, rfl⟩ := hU
              simp only [Instr.loadAt, Instr.sureAddr, Sem.run_bind, Sem.run_pure, Result.andThen_ok] at q2
              exact ⟨V :: US, by simp [rvs, q1, g1], by simp [List.mapM_cons, Go.Vcg.ResultVar.get, k1, asAddr, q2, g2]⟩
            · cases e
          · cases e
      · cases e
theorem IK (hs : Sl N ρ l a) (hk : nX ρ h w) {fn : Func} {vs : List Value} (e : OD P h l fn.results.toList = some vs) : ∃ V, rv ρ (JK vs) = some V ∧ (results fn a.tmps).run P w = .ok V w := by
  obtain ⟨VS, h1, h2⟩ := qY hs hk e
  have hl := cW h1
  have e1 : results fn a.tmps = (do let vs ← fn.results.mapM (Go.Vcg.ResultVar.get a.tmps); pure (if h : vs.size = 1 then vs[0] else .tuple vs)) := by
    unfold results
    refine congrArg (fun f => (fn.results.mapM f >>= fun vs => pure (if h : vs.size = 1 then vs[0] else .tuple vs) : Sem Value)) ?_
    funext r
    cases r <;> rfl
  have e2 : (fn.results.mapM (Go.Vcg.ResultVar.get a.tmps)).run P w = .ok VS.toArray w := by
    rw [Array.mapM_eq_mapM_toList]
    simp [h2]
  have e3 : (results fn a.tmps).run P w = .ok (if h : VS.toArray.size = 1 then VS.toArray[0] else .tuple VS.toArray) w := by
    rw [e1]
    simp only [Sem.run_bind, e2, Result.andThen_ok]
    rfl
  match vs, VS, h1, hl, e3 with
  | [v], [V], h1, hl, e3 =>
    refine ⟨V, ?_, by simpa using e3⟩
    unfold rvs at h1
    split at h1
    · rename_i hv hr
      simp [rvs] at hr
      subst hr
      cases h1
      exact hv
    · cases h1
  | [], [], h1, hl, e3 => exact ⟨.tuple #[], by simp [JK, rv, rvs], by simpa using e3⟩
  | u :: v :: r, U :: V :: R, h1, hl, e3 => exact ⟨.tuple (U :: V :: R).toArray, by simp [JK, rv, h1], by simpa using e3⟩
  | [], _ :: _, _, hl, _ => simp at hl
  | _ :: _, [], _, hl, _ => simp at hl
  | [_], _ :: _ :: _, _, hl, _ => simp at hl
  | _ :: _ :: _, [_], _, hl, _ => simp at hl
def zU (P : Program) (w0 : World) (memo : AL) : Prop :=
  ∀ f vs v, memo f vs = some v → gV vs = true ∧ gW v = true ∧ ∀ w, jP [] w0 w → Calls P f vs.toArray w fun e w' => e = .returned v ∧ Below w.heap.size w w'
theorem Rel.gc (r : Rel w0 ρ h nx w) (r' : Rel w0 ρ' h' nx' w') (hev : Ev ρ ⟨h.t, nx⟩ nx ρ' h' nx') (hm : nx ≤ h'.mw) : Rel w0 ρ h nx w' :=
  ⟨fun b o ho => by
    have hb := r.lt ho
    have h1 : cL h' b = some o := by rw [hev.pr.2 b (by omega)]; exact ho
    obtain ⟨B, C, g1, g2⟩ := r'.ok b o h1
    rw [hev.ext b hb] at g1
    obtain ⟨B0, C0, k1, k2⟩ := r.ok b o ho
    have hle : ELe ρ ρ' := hev.ele (h := ⟨h.t, nx⟩) ⟨r.ok, r.inj, r.new, r.small, r.own, r.old, r.aT⟩
    exact ⟨B, C, g1, g2.back hle k2⟩, r.inj, r.new, r.small, r.own, r.old, r'.aT⟩
theorem sI {fn : Func} {tmps : Array Value} {R' : Ending → World → Prop} : ∀ (ds : List Deferred), (∀ d ∈ ds, RA P qs d) → ∀ w : World, (∀ w2, Below w.heap.size w w2 → ∃ V, (results fn tmps).run P w2 = .ok V w2 ∧ R' (.returned V) w2) → Leaves P fn tmps R' ds .returning w
  | [], _, w, h => h w (Below.refl _ _)
  | d :: ds, hd, w, h => by
    obtain ⟨f, cap, _, h1, h2, h3⟩ := hd d (by simp)
    have hinv : (invoke d.target d.args).run P w = .ok (.enter f (d.args ++ cap)) w := by
      unfold bW at h2
      cases hf : P.funcs[f]? with
      | none => simp [hf] at h2
      | some fn' =>
        simp only [hf, Bool.and_eq_true, Bool.not_eq_true'] at h2
        have hb : ¬ fn'.body = none := by intro hb; simp [hb] at h2
        have hn : ¬ fn'.name = "runtime.NumGoroutine" := by have := h2.2; simpa using this
        simp [h1, invoke, callFunc, hf, hn, hb]
    refine ⟨by simp, .func f, cap, f, _, h1, hinv, ?_⟩
    intro c cs hc
    obtain ⟨e, u', w', fr, hR, hs⟩ := h3 (d.args ++ cap) w c cs hc
    refine ⟨e, u', w', fr, ?_, hs⟩
    obtain ⟨⟨v, rfl⟩, rfl, hb⟩ := hR
    exact sI ds (fun x hx => hd x (by simp [hx])) w' fun w2 hb2 => h w2 (hb.trans ⟨hb2.os, hb2.tape, hb2.output, hb2.size, fun k hk => hb2.block k (Nat.lt_of_lt_of_le hk hb.size)⟩)
theorem MD {memo : AL} (hme : zU P w0 memo) {exec : nJ} (hi : aBd P qs w0 N exec) : iH P w0 N (ME P memo exec) := by
  intro ρ h nx f vs VS w v h2 nx2 e r hg hvs R' hR
  unfold ME at e
  split at e
  · rename_i u hu
    cases e
    obtain ⟨h1, h3, h4⟩ := hme f vs v hu
    have hVS := kQ h1 hvs
    subst hVS
    refine (h4 w r.aT).mono fun e w' he => ?_
    obtain ⟨rfl, hb⟩ := he
    exact hR ρ v w' (Ev.refl _ _ _) (eB h3) (r.after ⟨hb.os, hb.tape, hb.output, hb.size, fun b hb' _ => hb.block b hb'⟩)
  · split at e
    · rename_i fn hfn
      rw [mF] at hfn
      have hfn' : P.funcs[f]? = some fn := by simpa using hfn
      split at e
      · rename_i c hc
        split at e
        · rename_i hlen
          have hlen := eC hlen
          split at e
          · rename_i ee h' nx' l' hex
            split at e
            · rename_i hend
              split at e
              · rename_i us hus
                have hL := cW hvs
                have rel' : Rel w0 ρ ⟨h.t, nx⟩ nx w := ⟨r.ok, r.inj, r.new, r.small, r.own, r.old, r.aT⟩
                have rR : R P qs w0 N ρ ⟨h.t, nx⟩ nx (BK fn.ntmps vs) { tmps := VS.toArray ++ Array.replicate (fn.ntmps - VS.toArray.size) undef, defers := [] } w := by
                  refine ⟨rel', ⟨hg, ?_, fun i u hu _ => ?_⟩, fun d hd => by cases hd⟩
                  · simp [aBy]; omega
                  · obtain ⟨V, g1, g2⟩ := nN hvs i u (NF hu)
                    have hlt := (List.getElem?_eq_some_iff.1 g1).1
                    exact ⟨V, by rw [Array.getElem?_append_left (by simpa using hlt)]; simpa using g1, g2⟩
                refine calls_of_wp_defers hfn' hc (hi c _ _ _ _ _ _ _ hex ρ _ w _ rR fun ρ1 a1 w1 hev r1 => ?_)
                have fin : ∀ w2, Rel w0 ρ1 h' nx' w2 → ∃ V, (results fn a1.tmps).run P w2 = .ok V w2 ∧ R' (.returned V) w2 := fun w2 rel2 => by
                  obtain ⟨V, q1, q2⟩ := IK (P := P) r1.sl rel2.ok hus
                  refine ⟨V, q2, ?_⟩
                  have slow : h2 = ⟨h'.t, bif Nat.ble h.mw h'.mw then h.mw else h'.mw⟩ → nx2 = nx' → v = JK us → R' (.returned V) w2 := fun e1 e2 e3 => by
                    subst e1; subst e2; subst e3
                    have hmw : (bif Nat.ble h.mw h'.mw then h.mw else h'.mw) ≤ h.mw ∧ (bif Nat.ble h.mw h'.mw then h.mw else h'.mw) ≤ h'.mw := by
                      cases hb : Nat.ble h.mw h'.mw with
                      | true => have := eC hb; simp; exact this
                      | false =>
                        have := aGz hb
                        simp; omega
                    refine hR ρ1 V w2 ⟨hev.ext, hev.le, hmw.1, fun b hb => ?_⟩ q1 ⟨rel2.ok, rel2.inj, rel2.new, rel2.small, rel2.own, rel2.old, rel2.aT⟩
                    exact hev.pr.2 b (Nat.lt_of_lt_of_le hb hmw.2)
                  split at e
                  · rename_i hf
                    split at e
                    · rename_i hle
                      cases e
                      have := eP hf q1
                      subst this
                      exact hR ρ _ w2 (Ev.refl _ _ _) (eB hf) (r.gc rel2 hev (eC hle))
                    · cases e; exact slow rfl rfl rfl
                  · cases e; exact slow rfl rfl rfl
                have lv := sI (P := P) (fn := fn) (tmps := a1.tmps) (R' := R') a1.defers r1.df w1 (fun w2 hb => fin w2 (r1.rel.after ⟨hb.os, hb.tape, hb.output, hb.size, fun b hb' _ => hb.block b hb'⟩))
                cases ee with
                | normal => exact lv
                | ret => exact lv
                | exit i => cases hend
              · cases e
            · cases e
          · cases e
        · cases e
      · cases e
    · cases e
def ρN (N : Nat) : Env := fun b => match Nat.blt b N with
  | true => some (b, 0, 0)
  | false => none
def MY : List (Nat × List Value) → Heap
  | [] => ⟨.e, 0⟩
  | (g, cs) :: r => eL (MY r) g (some (.tab cs))
def zR (N : Nat) (w : World) (ts : List (Nat × List Value)) : Prop := ∀ g cs, (g, cs) ∈ ts → g < N ∧ gV cs = true ∧ ∃ t f, w.heap[g]? = some (.cells cs.toArray t f)
theorem zR.aT {N : Nat} {ts : List (Nat × List Value)} (h : zR N w ts) (hk : jP [] w w') : zR N w' ts := fun g cs hm => by
  obtain ⟨h1, h2, t, f, h3⟩ := h g cs hm
  exact ⟨h1, h2, t, f, by rw [hk.block g (Array.getElem?_eq_some_iff.1 h3).1 (by simp)]; exact h3⟩
theorem BB {N : Nat} (hN : N ≤ 1048576) : ∀ {ts : List (Nat × List Value)} {b : Nat} {o : kD}, (∀ g cs, (g, cs) ∈ ts → g < N) → cL (MY ts) b = some o → ∃ cs, (b, cs) ∈ ts ∧ o = .tab cs
  | [], b, o, _, h => by
    unfold MY cL at h
    split at h
    · rw [oI] at h; cases h
    · cases h
  | (g, cs) :: r, b, o, hg, h => by
    unfold MY at h
    have hlt := hg g cs (by simp)
    by_cases hb : b = g
    · subst hb
      rw [cV (by omega)] at h
      cases h
      exact ⟨cs, by simp, rfl⟩
    · rw [bC (by omega) hb] at h
      obtain ⟨cs', h1, h2⟩ := BB hN (fun g cs hm => hg g cs (by simp [hm])) h
      exact ⟨cs', by simp [h1], h2⟩
theorem VR (hN : N ≤ 1048576) {ts : List (Nat × List Value)} (ht : zR N w ts) : Rel w (ρN N) (MY ts) N w ∧ RC N (ρN N) := by
  have hgl : RC N (ρN N) := fun g hg => by
    have : Nat.blt g N = true := by rw [Nat.blt, Nat.ble_eq]; exact hg
    simp [ρN, this]
  have hsp : ∀ b o, cL (MY ts) b = some o → ∃ cs, (b, cs) ∈ ts ∧ o = .tab cs := fun b o h => BB hN (fun g cs hm => (ht g cs hm).1) h
  refine ⟨⟨fun b o h => ?_, fun b b' o o' B C C' h h' e e' => ?_, fun b hb => ?_, hN, fun b o h hr => ?_, fun b o h hr B C e => ?_, jP.refl _ _⟩, hgl⟩
  · obtain ⟨cs, h1, rfl⟩ := hsp b o h
    obtain ⟨h2, h3, t, f, h4⟩ := ht b cs h1
    exact ⟨b, 0, hgl b h2, cs, t, f, fO h3, h4⟩
  · obtain ⟨cs, h1, _⟩ := hsp b o h
    obtain ⟨cs', h1', _⟩ := hsp b' o' h'
    rw [hgl b (ht b cs h1).1] at e
    rw [hgl b' (ht b' cs' h1').1] at e'
    cases e; cases e'; rfl
  · have : Nat.blt b N = false := by
      cases hh : Nat.blt b N with
      | false => rfl
      | true => have := gR hh; omega
    simp [ρN, this]
  · obtain ⟨cs, _, rfl⟩ := hsp b o h
    cases hr
  · obtain ⟨cs, h1, rfl⟩ := hsp b o h
    obtain ⟨h2, h3, t, f, h4⟩ := ht b cs h1
    rw [hgl b h2] at e
    cases e
    exact (Array.getElem?_eq_some_iff.1 h4).1
end
end
section
open Go.RowKit
end
end Go.Rex
namespace Go.Proofs.YtoclmkdfcafhfaaGreatDoor
end Go.Proofs.YtoclmkdfcafhfaaGreatDoor
