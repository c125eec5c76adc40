/- Package early: plain laws of the model: an error stays, what a node may add, what it leaves alone. No statement of the seat is proved here. -/
import Derived.Test.YtocidaibmadekaaGreatDoorQag
set_option maxRecDepth 20000
set_option maxHeartbeats 2000000
namespace Go.Proofs.YtocidaibmadekaaGreatDoor
open Go.RowKit Go.Vcg
inductive dF (q : T → Prop) : T → Prop
  | mk {t : T} (h : q t) (hk : ∀ k ∈ t.kids, dF q k) : dF q t
theorem dF.here {q : T → Prop} {t : T} (h : dF q t) : q t := by cases h; assumption
theorem dF.kid {q : T → Prop} {t k : T} (h : dF q t) (hk : k ∈ t.kids) : dF q k := by
  cases h with
  | mk _ h => exact h k hk
structure Kc (t : T) : Prop where
  two : t.op = 4 ∨ t.op = 20 ∨ t.op = 13 ∨ t.op = 14 ∨ t.op = 62 ∨ t.op = 63 → 2 ≤ t.kids.length
  one : t.op = 10 ∨ t.op = 11 ∨ t.op = 12 ∨ t.op = 21 ∨ t.op = 9 ∨ t.op = 23 ∨ t.op = 42 ∨ (t.op = 39 ∧ t.n = 3) → 1 ≤ t.kids.length
  sub : t.op = 2 → ∀ k ∈ t.kids, 1 ≤ k.kids.length
def szs (l : List T) : Nat := (l.map T.size).sum
theorem aZ (k : T) (l : List T) : szs (k :: l) = k.size + szs l := by simp [szs]
theorem CJ (a b : List T) : szs (a ++ b) = szs a + szs b := by simp [szs]
theorem aP (t : T) : t.size = 1 + szs t.kids := T.size_eq t
def rR (l : List (ByteArray × List ED)) : Nat := (l.map fun p => p.2.length).sum
theorem MX (x : ByteArray) : ∀ l : List (ByteArray × List ED), (gZ x l).length ≤ rR l
  | [] => Nat.le_refl _
  | (y, m) :: r => by
    have := MX x r
    simp only [gZ, rR, List.map_cons, List.sum_cons] at this ⊢
    split <;> omega
theorem LX (x : ByteArray) (d : ED) : ∀ l : List (ByteArray × List ED), rR (nZ x (gZ x l ++ [d]) l) = rR l + 1
  | [] => by simp [gZ, nZ, rR]
  | (y, m) :: r => by
    have := LX x d r
    simp only [gZ, nZ]
    by_cases h : x = y
    · rw [if_pos h, if_pos h]
      simp [rR]
      omega
    · rw [if_neg h, if_neg h]
      simp only [rR, List.map_cons, List.sum_cons] at this ⊢
      omega
theorem tH (x y : ByteArray) (m : List ED) : ∀ l : List (ByteArray × List ED), gZ y (nZ x m l) = if y = x then m else gZ y l
  | [] => by simp [gZ, nZ]
  | (z, k) :: r => by
    have := tH x y m r
    simp only [nZ]
    by_cases h : x = z
    · rw [if_pos h]
      simp only [gZ]
      by_cases h2 : y = x
      · rw [if_pos (h2.trans h), if_pos h2]
      · rw [if_neg (fun e => h2 (e.trans h.symm)), if_neg h2, if_neg (fun e => h2 (e.trans h.symm))]
    · rw [if_neg h]
      simp only [gZ]
      by_cases h2 : y = z
      · rw [if_pos h2, if_neg (fun e => h (e.symm.trans h2)), if_pos h2]
      · rw [if_neg h2, this, if_neg h2]
structure Gr (F : ByteArray → Prop) (n : Nat) (s s' : ES) : Prop where
  per : s.e ≠ 0 → s'.e ≠ 0
  regs : s.regs ≤ s'.regs
  wt : s'.regs + rR s'.names ≤ s.regs + rR s.names + n
  fr : ∀ x, F x → gZ x s'.names = gZ x s.names
theorem Gr.refl {F : ByteArray → Prop} {n : Nat} (s : ES) : Gr F n s s := ⟨fun h => h, Nat.le_refl _, by omega, fun _ _ => rfl⟩
theorem Gr.trans {F : ByteArray → Prop} {n m k : Nat} {s s' s'' : ES} (h : Gr F n s s') (h' : Gr F m s' s'') (hk : n + m ≤ k) : Gr F k s s'' :=
  ⟨fun h0 => h'.per (h.per h0), Nat.le_trans h.regs h'.regs, by have := h.wt; have := h'.wt; omega, fun x hx => (h'.fr x hx).trans (h.fr x hx)⟩
theorem Gr.mono {F : ByteArray → Prop} {n m : Nat} {s s' : ES} (h : Gr F n s s') (hk : n ≤ m) : Gr F m s s' := ⟨h.per, h.regs, by have := h.wt; omega, h.fr⟩
section
variable {F : ByteArray → Prop}
theorem BX {c : Bool} {a e : Int} {s : ES} (h : s.e ≠ 0) : dN c a e s = s := by unfold dN; rw [if_neg (fun h2 => h h2.2)]
theorem vT (c : Bool) (a e : Int) (s : ES) : (dN c a e s).names = s.names := by unfold dN; split <;> rfl
theorem zI (c : Bool) (a e : Int) (s : ES) : (dN c a e s).regs = s.regs := by unfold dN; split <;> rfl
theorem eT (c : Bool) (a e : Int) (s : ES) : Gr F 0 s (dN c a e s) :=
  ⟨fun h => by rw [BX h]; exact h, by rw [zI]; exact Nat.le_refl _, by rw [zI, vT]; omega, fun x _ => by rw [vT]⟩
theorem DC (a : Int) (x : ByteArray) (d : ED) (s : ES) (hx : ¬F x) : Gr F 1 s (nO a x d s) := by
  have h := eT (F := F) ((gZ x s.names).any fun o => gO o d) a 30 s
  refine ⟨h.per, h.regs, ?_, fun y hy => ?_⟩
  · show (dN _ a 30 s).regs + rR (nZ x (gZ x (dN _ a 30 s).names ++ [d]) (dN _ a 30 s).names) ≤ _
    rw [LX]
    have := h.wt
    omega
  · show gZ y (nZ x (gZ x (dN _ a 30 s).names ++ [d]) (dN _ a 30 s).names) = _
    rw [tH, if_neg (fun e => hx (by rw [← e]; exact hy))]
    exact h.fr y hy
theorem kH (wd : ByteArray → Int) (t : T) (x : ByteArray) (p : EP) (s : ES) : Gr F 0 s (iR wd t x p s) := by
  unfold iR
  dsimp only
  split
  · exact ((eT _ _ _ _).trans (eT _ _ _ _) (Nat.le_refl _)).trans (eT _ _ _ _) (Nat.le_refl _)
  · exact (eT _ _ _ _).trans (eT _ _ _ _) (Nat.le_refl _)
theorem lG (s : ES) : Gr F 1 s (cG s) := ⟨fun h => h, Nat.le_succ _, by show s.regs + 1 + rR s.names ≤ _; omega, fun _ _ => rfl⟩
theorem gS {α : Type} {g : ES → α → ES} {c : α → Nat} : ∀ (l : List α) (s : ES), (∀ k ∈ l, ∀ s, Gr F (c k) s (g s k)) → Gr F ((l.map c).sum) s (l.foldl g s)
  | [], s, _ => Gr.refl s
  | k :: r, s, h => by
    rw [List.foldl_cons]
    exact (h k (by simp) s).trans (gS r (g s k) fun k hk => h k (List.mem_cons_of_mem _ hk)) (by simp)
theorem iX (l : List T) : (l.map fun k => 2 * T.size k).sum = 2 * szs l := by
  induction l with
  | nil => rfl
  | cons k r ih => rw [List.map_cons, List.sum_cons, ih, aZ]; omega
theorem bI {t : T} {i : Nat} (h : i < t.kids.length) : aY t i ∈ t.kids := by
  unfold aY
  rw [List.getElem?_eq_getElem h]
  exact List.getElem_mem h
theorem oR {t : T} (h : 2 ≤ t.kids.length) : ∃ r, t.kids = aY t 0 :: aY t 1 :: r := by
  unfold aY
  match hk : t.kids with
  | [] => rw [hk] at h; simp at h
  | [_] => rw [hk] at h; simp at h
  | a :: b :: r => exact ⟨r, rfl⟩
theorem vL {t : T} (h : 1 ≤ t.kids.length) : t.kids = aY t 0 :: t.kids.drop 1 := by
  unfold aY
  match hk : t.kids with
  | [] => rw [hk] at h; simp at h
  | a :: r => rfl
variable {wd : ByteArray → Int} {N : T → EP → ES → ES} {B : T → EP → ED → ES → ES} {q : T → Prop}
theorem pR (l : List T) (hN : ∀ k ∈ l, ∀ p s, Gr F (2 * k.size) s (N k p s)) (p : EP) (s : ES) : Gr F (2 * szs l) s (iD N l p s) := by
  rw [← iX]
  exact gS l s fun k hk s => hN k hk p s
theorem pQ (t : T) (hN : ∀ p s, Gr F (2 * t.size) s (N t p s)) (p : EP) (s : ES) : Gr F (2 * t.size) s (gP N t p s) := by
  unfold gP
  exact (eT _ _ _ _).trans (hN _ _) (by omega)
theorem YW (hq : ∀ t, q t → Kc t ∧ ¬F t.s) (t : T) (ht : dF q t) (hN : ∀ k ∈ t.kids, ∀ p s, Gr F (2 * k.size) s (N k p s)) (hB : ∀ k ∈ t.kids, ∀ p d s, Gr F (2 * k.size) s (B k p d s)) (p : EP) (d : ED) (s : ES) : Gr F (2 * t.size) s (BW wd N B t p d s) := by
  obtain ⟨hc, hf⟩ := hq t ht.here
  have hsz := aP t
  unfold BW
  split
  · exact (kH _ _ _ _ _).trans (DC _ _ _ _ hf) (by omega)
  split
  · exact (eT _ _ _ _).mono (by omega)
  split
  · rename_i h
    have h2 := hc.two (by simp [h])
    obtain ⟨r, hr⟩ := oR h2
    rw [hr, aZ, aZ] at hsz
    exact (hB _ (bI (by omega)) _ _ _).trans (hN _ (bI (by omega)) _ _) (by omega)
  split
  · rename_i h
    have h2 := hc.two (by simp [h])
    obtain ⟨r, hr⟩ := oR h2
    rw [hr, aZ, aZ] at hsz
    exact (hN _ (bI (by omega)) _ _).trans (hB _ (bI (by omega)) _ _ _) (by omega)
  split
  · have := gS (F := F) (c := fun k => 2 * T.size k) (g := fun s k => B k p d s) t.kids s fun k hk s => hB k hk p d s
    rw [iX] at this
    exact this.mono (by omega)
  · exact Gr.refl s
theorem aCj (hq : ∀ t, q t → Kc t ∧ ¬F t.s) (t : T) (ht : dF q t) (h4 : t.op = 4) (hN : ∀ k, dF q k → k.size < t.size → ∀ p s, Gr F (2 * k.size) s (N k p s)) (hB : ∀ k, dF q k → k.size < t.size → ∀ p d s, Gr F (2 * k.size) s (B k p d s)) (p : EP) (own : Bool) (s : ES) : Gr F (2 * t.size) s (QJ wd N B t p own s) := by
  obtain ⟨hc, hf⟩ := hq t ht.here
  have hsz := aP t
  have h2 := hc.two (by simp [h4])
  obtain ⟨r, hr⟩ := oR h2
  rw [hr, aZ, aZ] at hsz
  have hs0 := aP (aY t 0)
  have hs1 := aP (aY t 1)
  have ha0 := ht.kid (bI (t := t) (i := 0) (by omega))
  have ha1 := ht.kid (bI (t := t) (i := 1) (by omega))
  have hle : ∀ {k l}, k ∈ l → T.size k ≤ szs l := fun {k l} hk => T.bN (List.mem_map.2 ⟨k, hk, rfl⟩)
  unfold QJ
  dsimp only
  have g1 : ∀ s, Gr F 0 s (if t.s ≠ ⟨#[]⟩ then iR wd t t.s { p with strict := (inP t p).strict } s else s) := fun s => by
    split
    · exact kH _ _ _ _ _
    · exact Gr.refl s
  have g3 : ∀ s, Gr F 1 s (if jK t.n 1 then nO t.at' t.s ⟨!own, if own then p.regs else gW p, 0, false⟩ s else s) := fun s => by
    split
    · exact DC _ _ _ _ hf
    · exact Gr.refl s
  have g := (((g1 s).trans (eT (kE t && !lB (aY t 0)) t.at' 35 _) (Nat.le_refl _)).trans (g3 _) (Nat.le_refl _)).trans (lG _) (Nat.le_refl _)
  have hb : ∀ p d s, Gr F (2 * szs (aY t 0).kids) s ((aY t 0).kids.foldl (fun s k => B k p d s) s) := fun p d s => by
    rw [← iX]
    exact gS _ _ fun k hk s => hB k (ha0.kid hk) (by have := hle hk; omega) p d s
  split
  · exact (g.trans (hb _ _ _) (Nat.le_refl _)).trans (hN _ ha1 (by omega) _ _) (by omega)
  · exact (g.trans (hb _ _ _) (Nat.le_refl _)).trans (pR _ (fun k hk => hN k (ha1.kid hk) (by have := hle hk; omega)) _ _) (by omega)
theorem YO (hq : ∀ t, q t → Kc t ∧ ¬F t.s) (t : T) (ht : dF q t) (h4 : t.op = 2) (hN : ∀ k, dF q k → k.size < t.size → ∀ p s, Gr F (2 * k.size) s (N k p s)) (hB : ∀ k, dF q k → k.size < t.size → ∀ p d s, Gr F (2 * k.size) s (B k p d s)) (p : EP) (each : Bool) (s : ES) : Gr F (2 * t.size) s (zY N B t p each s) := by
  obtain ⟨hc, hf⟩ := hq t ht.here
  have hsz := aP t
  have hle : ∀ {k l}, k ∈ l → T.size k ≤ szs l := fun {k l} hk => T.bN (List.mem_map.2 ⟨k, hk, rfl⟩)
  unfold zY
  dsimp only
  have := gS (F := F) (c := fun k => 2 * T.size k) (g := fun s k => iD N (k.kids.drop 1) p (B (aY k 0) p (if t.n ≠ 0 then ⟨true, gW p, 0, false⟩ else ⟨false, p.regs, 0, false⟩) (dN (decide (k.kids.length = 1) && !each && (decide (t.n = 2) || decide ((aY k 0).op ≠ 34))) k.at' 36 s))) t.kids s fun k hk s => by
    have h1 := hc.sub h4 k hk
    have h2 := vL h1
    have h3 := aP k
    rw [h2, aZ] at h3
    have h5 := hle hk
    have hak := ht.kid hk
    exact ((eT _ _ _ _).trans (hB _ (hak.kid (bI (by omega))) (by omega) _ _ _) (Nat.le_refl _)).trans (pR _ (fun x hx => hN x (hak.kid (List.mem_of_mem_drop hx)) (by have := hle hx; omega)) _ _) (by omega)
  rw [iX] at this
  exact this.mono (by omega)
theorem YR (t : T) (ht : dF q t) (hc : Kc t) (hop : t.op = 10 ∨ t.op = 11 ∨ t.op = 12 ∨ t.op = 13 ∨ t.op = 14) (hN : ∀ k, dF q k → k.size < t.size → ∀ p s, Gr F (2 * k.size) s (N k p s)) (p : EP) (mine : List ByteArray) (s : ES) : Gr F (2 * t.size) s (AT N t p mine s) := by
  have hsz := aP t
  have hle : ∀ {k l}, k ∈ l → T.size k ≤ szs l := fun {k l} hk => T.bN (List.mem_map.2 ⟨k, hk, rfl⟩)
  have hk' : ∀ k ∈ t.kids, ∀ p s, Gr F (2 * k.size) s (N k p s) := fun k hk => hN k (ht.kid hk) (by have := hle hk; omega)
  have hr : ∀ k ∈ t.kids, ∀ p s, Gr F (2 * k.size) s (uB N k p mine s) := fun k hk p s => pQ k (hk' k hk) _ s
  unfold AT
  split
  · have h2 := hc.two (by simp [*])
    obtain ⟨r, hr'⟩ := oR h2
    rw [hr', aZ, aZ] at hsz
    exact (hk' _ (bI (by omega)) _ _).trans (hr _ (bI (by omega)) _ _) (by omega)
  split
  · have h2 := hc.two (by simp [*])
    obtain ⟨r, hr'⟩ := oR h2
    rw [hr', aZ, aZ] at hsz
    exact (hr _ (bI (by omega)) _ _).trans (hk' _ (bI (by omega)) _ _) (by omega)
  · have h1 := hc.one (by omega)
    dsimp only
    have hlast : t.kids = t.kids.take (t.kids.length - 1) ++ [aY t (t.kids.length - 1)] := by
      unfold aY
      conv => lhs; rw [← List.take_append_drop (t.kids.length - 1) t.kids]
      congr 1
      rw [List.drop_eq_getElem_cons (by omega), List.getElem?_eq_getElem (by omega), List.drop_eq_nil_of_le (by omega)]
      rfl
    have hs2 : szs t.kids = szs (t.kids.take (t.kids.length - 1)) + (aY t (t.kids.length - 1)).size := by
      conv => lhs; rw [hlast]
      rw [CJ, aZ]
      rfl
    have := gS (F := F) (c := fun k => 2 * T.size k) (g := fun s k => N k { fX p s with each := decide (t.op ≠ 10) } s) (t.kids.take (t.kids.length - 1)) (cG s) fun k hk s => hk' k (List.mem_of_mem_take hk) _ s
    have h3 : ∀ (P : EP) (s : ES), Gr F (2 * szs (t.kids.take (t.kids.length - 1))) s ((t.kids.take (t.kids.length - 1)).foldl (fun s k => N k P s) s) := fun P s => by
      rw [← iX]
      exact gS _ _ fun k hk s => hk' k (List.mem_of_mem_take hk) P s
    exact ((lG s).trans (h3 _ _) (Nat.le_refl _)).trans (hr _ (bI (by omega)) _ _) (by omega)
theorem MV (t : T) (p : EP) (s : ES) : Gr F 0 s (AZ wd t p s) := by
  unfold AZ
  split
  · exact eT _ _ _ _
  · exact ((kH _ _ _ _ _).trans (eT _ _ _ _) (Nat.le_refl _)).trans (eT _ _ _ _) (Nat.le_refl _)
theorem YP (t : T) (hN : ∀ k ∈ t.kids, ∀ p s, Gr F (2 * k.size) s (N k p s)) (p : EP) (s : ES) : Gr F (2 * t.size) s (AM wd N t p s) := by
  have hsz := aP t
  have ha : ∀ s, Gr F (2 * szs t.kids) s (iD N t.kids p s) := fun s => pR _ hN p s
  unfold AM
  split
  · exact (MV _ _ _).trans (ha _) (by omega)
  split
  · exact (eT _ _ _ _).trans (ha _) (by omega)
  split
  · exact (kH _ _ _ _ _).trans (ha _) (by omega)
  split
  · exact (kH _ _ _ _ _).mono (by omega)
  split
  · exact (eT _ _ _ _).trans (ha _) (by omega)
  split
  · exact (eT _ _ _ _).trans (ha _) (by omega)
  · exact (ha _).mono (by omega)
theorem YQ (hq : ∀ t, q t → Kc t ∧ ¬F t.s) (t : T) (ht : dF q t) (hN : ∀ k, dF q k → k.size < t.size → ∀ p s, Gr F (2 * k.size) s (N k p s)) (hB : ∀ k, dF q k → k.size < t.size → ∀ p d s, Gr F (2 * k.size) s (B k p d s)) (p : EP) (s : ES) : Gr F (2 * t.size) s (AO wd N B t p s) := by
  obtain ⟨hc, hf⟩ := hq t ht.here
  have hsz := aP t
  have hle : ∀ {k l}, k ∈ l → T.size k ≤ szs l := fun {k l} hk => T.bN (List.mem_map.2 ⟨k, hk, rfl⟩)
  have hk' : ∀ k ∈ t.kids, ∀ p s, Gr F (2 * k.size) s (N k p s) := fun k hk => hN k (ht.kid hk) (by have := hle hk; omega)
  unfold AO
  dsimp only
  split
  · exact Gr.refl s
  split
  · exact YO hq t ht (by assumption) hN hB _ _ _
  split
  · exact aCj hq t ht (by assumption) hN hB _ _ _
  split
  · exact (lG s).trans (pR _ hk' _ _) (by omega)
  split
  · have h2 := hc.two (by simp [*])
    obtain ⟨r, hr⟩ := oR h2
    rw [hr, aZ, aZ] at hsz
    have hs1 := aP (aY t 1)
    have ha1 := ht.kid (bI (t := t) (i := 1) (by omega))
    exact ((lG s).trans (hB _ (ht.kid (bI (by omega))) (by omega) _ _ _) (Nat.le_refl _)).trans (pR _ (fun k hk => hN k (ha1.kid hk) (by have := hle hk; omega)) _ _) (by omega)
  split
  · exact YR t ht hc (by assumption) hN _ _ _
  split
  · have h1 := hc.one (by simp [*])
    have h2 := vL h1
    rw [h2, aZ] at hsz
    exact ((hk' _ (bI (by omega)) _ _).trans (lG _) (Nat.le_refl _)).trans (pR _ (fun k hk => hk' k (List.mem_of_mem_drop hk)) _ _) (by omega)
  split
  · have h1 := hc.one (by simp [*])
    have h2 := vL h1
    rw [h2, aZ] at hsz
    have h3 : ∀ (P : EP) (s : ES), Gr F (2 * szs (t.kids.drop 1)) s ((t.kids.drop 1).foldl (fun s k => gP N k P s) s) := fun P s => by
      rw [← iX]
      exact gS _ _ fun k hk s => pQ k (hk' k (List.mem_of_mem_drop hk)) P s
    exact (hk' _ (bI (by omega)) _ _).trans (h3 _ _) (by omega)
  split
  · have h1 := hc.one (by simp [*])
    have h2 := vL h1
    rw [h2, aZ] at hsz
    exact ((kH _ _ _ _ _).trans (eT _ _ _ _) (Nat.le_refl _)).trans (pQ _ (hk' _ (bI (by omega))) _ _) (by omega)
  · exact YP t hk' _ _
theorem BC (hq : ∀ t, q t → Kc t ∧ ¬F t.s) : ∀ (f : Nat) (t : T), dF q t → (∀ p s, Gr F (2 * t.size) s ((nbE wd f).1 t p s)) ∧ ∀ p d s, Gr F (2 * t.size) s ((nbE wd f).2 t p d s)
  | 0, t, _ => ⟨fun _ s => Gr.refl s, fun _ _ s => Gr.refl s⟩
  | f + 1, t, ht => ⟨fun p s => YQ hq t ht (fun k hk _ => (BC hq f k hk).1) (fun k hk _ => (BC hq f k hk).2) p s,
      fun p d s => YW hq t ht (fun k hk => (BC hq f k (ht.kid hk)).1) (fun k hk => (BC hq f k (ht.kid hk)).2) p d s⟩
end
end Go.Proofs.YtocidaibmadekaaGreatDoor
namespace Go.Vcg
open Go.RowKit Go.MapKept
section
variable {P : Program} {X : Ctx} {ops : Array Oper} {Q : Exit → Act → World → Prop} {rest : List Oper} {μ : Mem} {l : aI} {L : List Bk} {w : World}
variable {ty : TypeId} {pos : String} {af : Array Edge} {gd : Option (Nat × Bool)}
theorem mJ {t kt et : TypeId} {dk : TypeDesc} {b ck i : Nat} {es : List MapEntry} {k v old : Value} (ht : P.underlying t = some (.map kt et)) (hk : P.underlying kt = some dk) (hkey : IsKey dk k)
    (hb : w.heap[b]? = some (.map es.toArray ck)) (hf : Instr.findNow dk k es 0 = some (some (i, old))) (he : (es[i]?).map (·.key) = some k) : (Instr.mapUpdate t (.map (some b)) k v).run P w = .ok () { w with heap := w.heap.setIfInBounds b (.map (es.modify i fun e => { e with key := k, val := v }).toArray ck) } := by
  have h1 : (((es.toArray[i]?).map (·.key)).getD k) = k := by
    rw [List.getElem?_toArray, he]; rfl
  simp [Instr.mapUpdate, run_underlying ht, MapKept.run_getObj_map hb, MapKept.run_checkKey hk hkey, MapKept.run_findKey hk hf, MapKept.run_setObj_map _ hb]
  rw [List.getElem?_toArray] at h1
  simp only [h1]
  rw [MapKept.run_keyThatStays hkey]
  simp [MapKept.run_setObj_map _ hb]
theorem yH {t kt et : TypeId} {dk : TypeDesc} {m k x : Operand} {b ck i0 : Nat} {es : List MapEntry} {kv v old : Value} {F : Mp → List Bk} {op : Op} (hop : op = .insert t m k x ∨ op = .mapUpdate t m k x) (hw : cV ops l ⟨none, op, ty, pos, af, gd⟩ = some true) (hm : ev l m = some (.map (some b))) (hk : ev l k = some kv) (hx : ev l x = some v)
    (ht : P.underlying t = some (.map kt et)) (hkt : P.underlying kt = some dk) (hkey : IsKey dk kv) (hu : UpM L b ⟨b, es, ck⟩ F) (hf : Instr.findNow dk kv es 0 = some (some (i0, old))) (he : (es[i0]?).map (·.key) = some kv)
    (h : G P X ops Q rest μ l (F ⟨b, es.modify i0 fun e => { e with key := kv, val := v }, ck⟩)) : G P X ops Q (⟨none, op, ty, pos, af, gd⟩ :: rest) μ l L :=
  qY hw fun a w hs => by
    obtain ⟨i, hi, _, hF⟩ := hu
    have hb : w.heap[b]? = some (.map es.toArray ck) := hs.own _ (bO hi)
    have e1 := hs.eval hm; have e2 := hs.eval hk; have e3 := hs.eval hx
    have e : (execOp a.eval ⟨none, op, ty, pos, af, gd⟩).run P w = .ok .skip { w with heap := w.heap.setIfInBounds b (.map (es.modify i0 fun e => { e with key := kv, val := v }).toArray ck) } := by
      generalize a.eval = ρ at e1 e2 e3
      rcases hop with rfl | rfl <;> simp [execOp, e1, e2, e3, mJ ht hkt hkey hb hf he]
    unfold Oper.wp
    rw [e, Oper.upon_skip]
    have hlt := (Array.getElem?_eq_some_iff.1 hb).1
    have := hs.upd hi (y := .mp ⟨b, es.modify i0 fun e => { e with key := kv, val := v }, ck⟩) (w' := { w with heap := w.heap.setIfInBounds b (.map (es.modify i0 fun e => { e with key := kv, val := v }).toArray ck) }) rfl rfl rfl (by simp)
      (fun c hc hne => by
        have : b ≠ c := fun e => hne (by rw [e]; rfl)
        simp [Array.getElem?_setIfInBounds_ne this])
      (by show (w.heap.setIfInBounds b _)[b]? = _; rw [Array.getElem?_setIfInBounds_self_of_lt hlt])
      (fun c hc => .inl hc)
    rw [hF] at h
    exact h _ _ this
end
theorem wK {X : Ctx} {Q : Exit → Act → World → Prop} {μ : Mem} {l : aI} {L : List Bk} {ex : Exit} {b ck ck' : Nat} {es es' : List MapEntry} (i : Nat) (hi : dE L i = some (.mp ⟨b, es, ck⟩)) (he : es = es') (hc : ck = ck') (h : GQ X Q ex μ l (dG L i (.mp ⟨b, es', ck'⟩))) : GQ X Q ex μ l L := by
  subst he hc
  rw [CG hi] at h
  exact h
end Go.Vcg
namespace Go.Proofs.YtocidaibmadekaaGreatDoor
open Go.RowKit Go.Vcg Go.MapKept
theorem GD {P : Program} {et : TypeId} (hz : gB P et = some (.slice none 0 0)) (x : ByteArray) (fs : List FR) : ∃ ok, iS P et (Instr.findNow .string (.string x) (mkD fs 0) 0) = some ((match pP x fs 0 with | some (_, f) => f.v | none => .slice none 0 0), ok) := by
  rw [yI]
  cases pP x fs 0 with
  | none => exact ⟨false, by simp [iS, hz]⟩
  | some p => exact ⟨true, rfl⟩
def DsV (μ : Mem) (v : Value) (ds : List (ED × Value)) : Prop := ∃ A c, v = .slice A ds.length c ∧ Sl jJ 4 μ A ds.length ds
theorem aEu (l : List (ED × Value)) : (l.flatMap jJ).length = l.length * 4 := fN (enc := jJ) (s := 4) (fun _ => rfl) l
theorem DsV.iY {μ : Mem} {f : FR} (h : Bk.sh (yN f) μ) : DsV μ f.v f.ds := by
  obtain ⟨k, v, ds⟩ := f
  obtain ⟨A, c, e, hS⟩ := rX (enc := jJ) (xs := ds) h rfl (by simp) rfl
  dsimp only at e hS ⊢
  subst e
  exact ⟨A, c, rfl, hS⟩
attribute [local irreducible] wdL anI fV mkD G GC GQ GA bX Calls IntKind.wrap Int.decLt Int.decLe
theorem GV (f : FuncId) (cap : List Value) (q1 : ED → Bool) (l : List (ED × Value)) (A : Option Addr) (n c : Nat) (w : World) (μ : Mem) (hμ : MOk μ w) (hcal : dI Tryz.prog f = true) (hS : Sl jJ 4 μ A n l) (ho1 : ∀ p ∈ l, p.2.oneCell' = true) (hn : n ≤ 1000000) (hf1 : ∀ (o : ED × Value) (w : World) (μ' : Mem), o ∈ l → MOk μ' w → MLe μ μ' → Calls Tryz.prog f ([Value.agg (jJ o).toArray] ++ cap).toArray w fun e w' => e = .returned (.bool (q1 o.1)) ∧ Below w.heap.size w w') :
    Calls Tryz.prog 173 #[.slice A n c, .func (.func f) #[] cap.toArray] w fun e w' => e = .returned (.int .i64 (firstT (l.map fun o => q1 o.1))) ∧ Below w.heap.size w w' := by
  refine aA (args := [.slice A n c, .func (.func f) #[] cap.toArray]) Tryz.func173 rfl Tryz.ntmps173 (by simp) hμ ?_
  have hln : l.length = n := hS.1
  have hqn : (l.map fun o => q1 o.1).length = n := by rw [List.length_map]; exact hln
  repeat' (first | refine KK ?_ | fail)
  refine aX (ι := Nat) (fun k => k ≤ n ∧ ∀ (j : Nat) (q : Bool), j < k → (l.map fun o => q1 o.1)[j]? = some q → q = false) (fun k => n - k) (fun _ => μ) (fun k => [(8, .int .i64 k), (7, .int .i64 n), (6, .slice A n c), (0, .slice A n c), (1, .func (.func f) #[] cap.toArray)]) (fun _ => []) 0 ⟨by omega, fun j _ h => absurd h (by omega)⟩ (fun a w hs => J5 hs) ?_
  rintro k ⟨hk, hf⟩
  by_cases hlt : k < n
  · obtain ⟨ad, o, rfl, ho, hm⟩ := hS.get hlt
    have hqk : (l.map fun o => q1 o.1)[k]? = some (q1 o.1) := by rw [List.getElem?_map, ho]; rfl
    have hc := fun (w : World) (μc : Mem) (hw : MOk μc w) (hle : MLe μ μc) => hf1 o w μc (List.mem_of_getElem? ho) hw hle
    have hov := ho1 o (List.mem_of_getElem? ho)
    generalize q1 o.1 = q at hqk hc
    obtain ⟨d, dv⟩ := o
    have hm' : cQ μ (ad.add (k * 4)) [.bool d.lex, dv, .int .i64 d.par, .bool d.twice] := hm
    have hnext : q = false → ∀ (j : Nat) (q : Bool), j < k + 1 → (l.map fun o => q1 o.1)[j]? = some q → q = false := fun h j p hj hp => by
      rcases Nat.lt_or_ge j k with h1 | h1
      · exact hf j p h1 hp
      · obtain rfl : j = k := by omega
        rw [hqk] at hp
        cases hp
        exact h
    cases q
    · have hb := hnext rfl
      repeat' (first | refine KO ?_ | ((with_reducible apply C1); exact rfl; exact EN; exact fun w μc hw hse => hc w μc hw hse.le) | (refine KV (b := by first | exact U1 k | exact U4 hm') (c := ?_)) | refine KI ?_ | fail)
      all_goals try (exfalso; first | fail)
      all_goals exact J2 (k + 1) ⟨by omega, hb⟩ (by omega)
    · repeat' (first | refine KO ?_ | ((with_reducible apply C1); exact rfl; exact EN; exact fun w μc hw hse => hc w μc hw hse.le) | (refine KV (b := by first | exact U1 k | exact U4 hm') (c := ?_)) | fail)
      all_goals try (exfalso; first | fail)
      all_goals refine aB rfl rfl ?_
      all_goals rw [lQ hqk hf]
  · repeat' (first | refine KK ?_ | fail)
    all_goals try (exfalso; first | fail)
    refine aB rfl rfl ?_
    rw [iT (fun j q hj => hf j q (by have := (List.getElem?_eq_some_iff.1 hj).1; omega) hj)]
theorem yV (f : FuncId) (cap : List Value) (q1 : ED → Bool) (l : List (ED × Value)) (v : Value) (w : World) (μ : Mem) (hμ : MOk μ w) (hcal : dI Tryz.prog f = true) (hv : DsV μ v l) (ho1 : ∀ p ∈ l, p.2.oneCell' = true) (hn : l.length ≤ 1000000) (hf1 : ∀ (o : ED × Value) (w : World) (μ' : Mem), o ∈ l → MOk μ' w → MLe μ μ' → Calls Tryz.prog f ([Value.agg (jJ o).toArray] ++ cap).toArray w fun e w' => e = .returned (.bool (q1 o.1)) ∧ Below w.heap.size w w') :
    Calls Tryz.prog 162 #[v, .func (.func f) #[] cap.toArray] w fun e w' => e = .returned (.bool ((l.map (·.1)).any q1)) ∧ Below w.heap.size w w' := by
  obtain ⟨A, c, rfl, hS⟩ := hv
  refine aA (args := [.slice A l.length c, .func (.func f) #[] cap.toArray]) Tryz.func162 rfl Tryz.ntmps162 (by simp) hμ ?_
  have h : decide (0 ≤ firstT (l.map fun o => q1 o.1)) = (l.map (·.1)).any q1 := by rw [jY, List.any_map, List.any_map]; rfl
  rw [← h]
  repeat' (first | refine KO ?_ | ((with_reducible apply C1); exact rfl; exact EN; exact fun w μc hw hse => GV f cap q1 l A l.length c w μc hw hcal (hS.mono hse.le) ho1 hn (fun o w μ' h1 h2 h3 => hf1 o w μ' h1 h2 (hse.le.trans h3))) | fail)
  exact aB rfl rfl rfl
theorem zW (a d : ED) (av dv : Value) (bc : Nat) (w : World) (μ : Mem) (hμ : MOk μ w) (ha : IsV μ av a.ins) (hd : IsV μ dv d.ins) (hal : a.ins.length ≤ 100000) (hl : d.ins.length ≤ 100000) (hm : cQ μ ⟨bc, 0, none⟩ (jJ (d, dv))) :
    Calls Tryz.prog 163 ([Value.agg (jJ (a, av)).toArray] ++ [Value.pointer (some ⟨bc, 0, none⟩)]).toArray w fun e w' => e = .returned (.bool (gO a d)) ∧ Below w.heap.size w w' := by
  have oa := ha.one
  have od := hd.one
  refine aA (args := [.agg (jJ (a, av)).toArray, .pointer (some ⟨bc, 0, none⟩)]) Tryz.func163 rfl Tryz.ntmps163 (by simp) hμ ?_
  have hm' : cQ μ (Addr.mk bc 0 none) [.bool d.lex, dv, .int .i64 d.par, .bool d.twice] := hm
  repeat' (first | refine KO ?_ | ((with_reducible apply C1); exact rfl; exact EN; exact fun w μc hw hse => LH a d av dv w μc hw (ha.mono hse.le) (hd.mono hse.le) hal hl) | (refine KV (b := by ((with_reducible apply wT); (iterate 3 exact rfl); exact hm'; exact rfl)) (c := ?_)) | refine KI ?_ | refine NB fun b => ?_ | fail)
  exact aB rfl rfl rfl
theorem VC {fs : List FR} {f : FR} (h : f ∈ fs) : yN f ∈ fV fs := by unfold fV; exact List.mem_map_of_mem h
theorem oI (xb mb : Nat) (t : T) (u : Value) (hu : u.oneCell' = true) (x : ByteArray) (d : ED) (dv : Value) (s : ES) (μ : Mem) (hd : IsV μ dv d.ins) (hdl : d.ins.length ≤ 100000) (htot : rR s.names ≤ 1000000) :
    CEs 136 [.pointer (some ⟨xb, 0, none⟩), .agg (aD t u).toArray, .string x, .agg (jJ (d, dv)).toArray] xb mb s (nO t.at' x d s) μ := by
  intro w fs hμ hR hO
  have hcnt := bG hO.diff
  have od := hd.one
  obtain ⟨ok, hlook⟩ := GD (P := Tryz.prog) (et := 168) (by kernel_rfl) x fs
  have hget := yG (x := x) (fs := fs) (i := 0)
  rw [← hR.1] at hget
  have hgl := MX x s.names
  obtain ⟨ds, lv, hlv, hds, hdo, hdb⟩ : ∃ (ds : List (ED × Value)) (lv : Value), (match pP x fs 0 with | some (_, f) => f.v | none => .slice none 0 0) = lv ∧ ds.map (·.1) = gZ x s.names ∧ (∀ p ∈ ds, IsV μ p.2 p.1.ins ∧ p.1.ins.length ≤ 100000) ∧ (∀ μc, MLe μ μc → (∀ y ∈ fV fs, Bk.sh y μc) → DsV μc lv ds) := by
    cases hix : pP x fs 0 with
    | none =>
      rw [hix] at hget
      exact ⟨[], _, rfl, hget.symm, fun p hp => by simp at hp, fun μc _ _ => ⟨none, 0, rfl, Sl.nil _ _ _ _⟩⟩
    | some pf =>
      obtain ⟨p, f⟩ := pf
      rw [hix] at hget
      obtain ⟨-, h2, -⟩ := tC hix
      have hf := List.mem_of_getElem? h2
      exact ⟨f.ds, _, rfl, hget.symm, hR.2 f hf, fun μc _ h => DsV.iY (h _ (VC hf))⟩
  rw [hlv] at hlook
  have hdn : ds.length ≤ 1000000 := by
    have h9 := congrArg List.length hds
    rw [List.length_map] at h9
    omega
  have hcon := fun (b : Nat) (w : World) (μc : Mem) (hw : MOk μc w) (hle : MLe μ μc) (hsh : ∀ y ∈ fV fs, Bk.sh y μc) (hc : cQ μc ⟨b, 0, none⟩ (jJ (d, dv))) => yV 163 [.pointer (some ⟨b, 0, none⟩)] (fun o => gO o d) ds lv w μc hw (by kernel_rfl) (hdb μc hle hsh) (fun p hp => (hdo p hp).1.one) hdn (fun o w μ' h1 h2 h3 => zW o.1 d o.2 dv b w μ' h2 ((hdo o h1).1.mono (hle.trans h3)) (hd.mono (hle.trans h3)) (hdo o h1).2 hdl (hc.mono h3))
  rw [hds] at hcon
  generalize hs' : nO t.at' x d s = s'
  unfold nO at hs'
  dsimp only at hs'
  generalize hq : ((gZ x s.names).any fun o => gO o d) = q at hcon hs'
  rw [oL] at hs'
  have hn1 := oL q t.at' 30 s
  refine aS (args := [.pointer (some ⟨xb, 0, none⟩), .agg (aD t u).toArray, .string x, .agg (jJ (d, dv)).toArray]) Tryz.func136 rfl Tryz.ntmps136 (by simp) hμ hO ?_
  refine eO (NY xb mb s fs) ?_
  repeat' (first | refine KK ?_ | refine NB fun b => ?_ | fail)
  refine aC 11 _ (by kernel_rfl) rfl (List.Sublist.cons _ (List.Sublist.cons_cons _ (List.nil_sublist _))) ?_
  all_goals refine DD 0 ?_
  all_goals (first | refine DD 1 ?_ | fail)
  all_goals refine DD 2 ?_
  all_goals refine DD 3 ?_
  all_goals (first | refine D1 4 ?_ | fail)
  all_goals refine DD 6 ?_
  all_goals refine DD 8 ?_
  all_goals ((refine D3 5 ?_; (with_reducible apply dL); (iterate 4 exact rfl); (((with_reducible apply oX); exact rfl; (repeat first | with_reducible exact cU | with_reducible apply gJ); exact rfl))))
  all_goals ((refine D3 7 ?_; (with_reducible apply dL); (iterate 4 exact rfl); (((with_reducible apply gG); (iterate 4 exact rfl); (exact trivial); (repeat first | with_reducible exact jU | with_reducible apply jT); exact hlook))))
  all_goals ((refine D3 9 ?_; refine D5 ?_; (((with_reducible apply F1 162); exact rfl; exact EN; (exact fun w μc hw hse => hcon _ w μc hw hse.le (fun y hy => hse.own y (by repeat (first | exact hy | apply List.mem_cons_of_mem))) (xA hse.hd (fun j v hj => kF hj))))); refine D9 ?_))
  all_goals ((refine D3 10 ?_; refine D5 ?_; ((refine CF 89 ?_; (with_reducible apply dJ 2); (iterate 3 exact rfl); ((with_reducible apply bZ); kernel_rfl; (iterate 4 exact rfl)); exact rfl; (exact hR); (exact jG xb mb t _ hu _ _ _ _); (intro v1 μ1 i1 hle1 hR); (dsimp only [List.cons_append, List.nil_append]))); refine D9 ?_))
  all_goals refine D8 ?_
  repeat' (first | refine KK ?_ | fail)
  generalize dN q t.at' 30 s = s1 at hs' hR hn1 ⊢
  refine eO (show _ = _ :: _ :: Bk.inl ⟨xb, 87, 4, [(0, .map (some mb)), (1, .int .i64 (s1.regs : Int)), (2, .int .i64 s1.at'), (3, .int .i64 s1.e)]⟩ :: .mp ⟨mb, mkD i1 0, i1.length⟩ :: fV i1 from rfl) ?_
  obtain ⟨ok2, hlook⟩ := GD (P := Tryz.prog) (et := 168) (by kernel_rfl) x i1
  have hget2 := yG (x := x) (fs := i1) (i := 0)
  rw [← hR.1, hn1] at hget2
  have hfd := yI x i1 0 0
  cases hix : pP x i1 0 with
  | some pf =>
    obtain ⟨p, f⟩ := pf
    rw [hix] at hlook hget2 hfd
    dsimp only [Option.map] at hlook hget2 hfd
    obtain ⟨-, hg2, hkey⟩ := tC hix
    rw [Nat.sub_zero] at hg2
    have hplt := (List.getElem?_eq_some_iff.1 hg2).1
    have hfl : f.ds.length ≤ 1000000 := by
      have h9 := congrArg List.length hget2
      rw [List.length_map] at h9
      omega
    refine lI (fA (F := [_, _, _, _]) (VE hg2)) ?_
    obtain ⟨R, hRR⟩ : ∃ R, (fV i1).eraseIdx p = R := ⟨_, rfl⟩
    rw [hRR]
    dsimp only [List.cons_append, List.nil_append, yN]
    have e2 := aEu f.ds
    have e3 : ∀ v, (mkD i1 0).modify p (fun e => { e with key := .string x, val := v }) = mkD (i1.set p ⟨x, v, f.ds ++ [(d, dv)]⟩) 0 ∧ ((mkD i1 0)[p]?).map (·.key) = some (.string x) := fun v => MQ i1 0 p f ⟨x, v, f.ds ++ [(d, dv)]⟩ hg2 hkey.symm
    have hkp := (e3 undef).2
    refine aC 15 _ (by kernel_rfl) rfl (List.Sublist.cons _ (List.Sublist.cons_cons _ (List.Sublist.cons _ (List.Sublist.cons_cons _ (List.nil_sublist _))))) ?_
    all_goals refine DD 0 ?_
    all_goals refine DD 1 ?_
    all_goals (first | refine D1 2 ?_ | fail)
    all_goals (first | refine DD 3 ?_ | fail)
    all_goals refine DD 4 ?_
    all_goals refine DD 5 ?_
    all_goals refine DD 6 ?_
    all_goals (first | refine D1 7 ?_ | fail)
    all_goals (first | refine DD 8 ?_ | fail)
    all_goals refine DD 9 ?_
    all_goals (first | refine DD 11 ?_ | fail)
    refine dW 10 12 (by kernel_rfl) ?dr3_10 ?dr3_12
    case' dr3_10 =>
      (((with_reducible apply dL); (iterate 4 exact rfl); (((with_reducible apply gG); (iterate 4 exact rfl); (exact trivial); (repeat first | with_reducible exact jU | with_reducible apply jT); exact hlook))))
      all_goals ((refine D3 12 ?_; refine D5 ?_; refine NB fun b => ?_; refine D9 ?_))
      all_goals ((refine D3 13 ?_; refine D5 ?_; (((with_reducible apply oG); (iterate 3 exact rfl); (repeat first | with_reducible exact dT | with_reducible apply eI); (iterate 6 exact rfl); (((with_reducible apply gH); exact rfl; (repeat with_reducible exact cU); exact rfl)); (exact rfl); ((exact eJ (by (repeat first | with_reducible exact dU | ((with_reducible apply dC); (first | exact rfl | assumption)))))); omega; omega; intro v)); refine D9 ?_))
      all_goals ((refine D3 14 ?_; refine D5 ?_; (with_reducible apply yH); (exact .inr rfl); (iterate 6 exact rfl); (exact trivial); (repeat first | with_reducible exact lS | with_reducible apply mW); exact hfd; exact hkp; refine D9 ?_))
      all_goals refine D8 ?_
    case' dr3_12 =>
      ((refine D5 ?_; refine NB fun b => ?_; refine D9 ?_))
      all_goals ((refine D3 10 ?_; (with_reducible apply dL); (iterate 4 exact rfl); (((with_reducible apply gG); (iterate 4 exact rfl); (exact trivial); (repeat first | with_reducible exact jU | with_reducible apply jT); exact hlook))))
      all_goals ((refine D3 13 ?_; refine D5 ?_; (((with_reducible apply oG); (iterate 3 exact rfl); (repeat first | with_reducible exact dT | with_reducible apply eI); (iterate 6 exact rfl); (((with_reducible apply gH); exact rfl; (repeat with_reducible exact cU); exact rfl)); (exact rfl); ((exact eJ (by (repeat first | with_reducible exact dU | ((with_reducible apply dC); (first | exact rfl | assumption)))))); omega; omega; intro v)); refine D9 ?_))
      all_goals ((refine D3 14 ?_; refine D5 ?_; (with_reducible apply yH); (exact .inr rfl); (iterate 6 exact rfl); (exact trivial); (repeat first | with_reducible exact lS | with_reducible apply mW); exact hfd; exact hkp; refine D9 ?_))
      all_goals refine D8 ?_
    all_goals repeat' (first | fail)
    all_goals refine fT (L' := _ :: _ :: _ :: R) (bH (.refl _) (AD (.refl _) (AD (.refl _) (aO _ (aO _ (aO _ (bV _))))))) ?_
    all_goals refine wK (es' := mkD (i1.set p ⟨x, v, f.ds ++ [(d, dv)]⟩) 0) (ck' := (i1.set p ⟨x, v, f.ds ++ [(d, dv)]⟩).length) 2 rfl (e3 v).1 (by rw [List.length_set]) ?_
    all_goals refine fF (n' := (f.ds ++ [(d, dv)]).length) (xs' := (f.ds ++ [(d, dv)]).flatMap jJ) 0 rfl (by simp) (by rw [List.flatMap_append]; rfl) ?_
    all_goals dsimp only [dG]
    all_goals refine lH (L' := .inl ⟨xb, 87, 4, [(0, .map (some mb)), (1, .int .i64 (s1.regs : Int)), (2, .int .i64 s1.at'), (3, .int .i64 s1.e)]⟩ :: .mp ⟨mb, mkD (i1.set p ⟨x, v, f.ds ++ [(d, dv)]⟩) 0, (i1.set p ⟨x, v, f.ds ++ [(d, dv)]⟩).length⟩ :: fV (i1.set p ⟨x, v, f.ds ++ [(d, dv)]⟩)) (by rw [VA, ← hRR]; exact sY (F := [_, _]) _ (by rw [VD]; exact hplt)) ?_
    all_goals exact cN (s := { names := nZ x (gZ x s.names ++ [d]) s.names, regs := s1.regs, at' := s1.at', e := s1.e }) 0 (i1.set p ⟨x, v, f.ds ++ [(d, dv)]⟩) (.inr rfl) hcnt rfl rfl hs' ⟨by
      show nZ x (gZ x s.names ++ [d]) s.names = _
      have h9 := FK (v := v) (ds := f.ds ++ [(d, dv)]) (l := gZ x s.names ++ [d]) hix (by rw [hget2, List.map_append]; rfl)
      rw [Nat.sub_zero, hkey, ← hR.1, hn1] at h9
      exact h9, fun f' hf' d' hd' => by
      rcases List.mem_or_eq_of_mem_set hf' with h9 | h9
      · exact hR.2 f' h9 d' hd'
      · subst h9
        rcases List.mem_append.1 hd' with h9 | h9
        · exact hR.2 f (List.mem_of_getElem? hg2) d' h9
        · rw [List.mem_singleton.1 h9]
          exact ⟨hd.mono hle1, hdl⟩⟩
  | none =>
    rw [hix] at hlook hget2 hfd
    dsimp only [Option.map] at hlook hget2 hfd
    refine aC 15 _ (by kernel_rfl) rfl (List.Sublist.cons_cons _ (List.Sublist.cons _ (List.Sublist.cons_cons _ (List.nil_sublist _)))) ?_
    all_goals refine DD 0 ?_
    all_goals refine DD 1 ?_
    all_goals (first | refine D1 2 ?_ | fail)
    all_goals (first | refine DD 3 ?_ | fail)
    all_goals refine DD 4 ?_
    all_goals refine DD 5 ?_
    all_goals refine DD 6 ?_
    all_goals (first | refine D1 7 ?_ | fail)
    all_goals (first | refine DD 8 ?_ | fail)
    all_goals refine DD 9 ?_
    all_goals (first | refine DD 11 ?_ | fail)
    refine dW 10 12 (by kernel_rfl) ?dr4_10 ?dr4_12
    case' dr4_10 =>
      (((with_reducible apply dL); (iterate 4 exact rfl); (((with_reducible apply gG); (iterate 4 exact rfl); (exact trivial); (repeat first | with_reducible exact jU | with_reducible apply jT); exact hlook))))
      all_goals ((refine D3 12 ?_; refine D5 ?_; refine NB fun b => ?_; refine D9 ?_))
      all_goals ((refine D3 13 ?_; refine D5 ?_; (((with_reducible apply BH); (iterate 9 exact rfl); (((with_reducible apply gH); exact rfl; (repeat with_reducible exact cU); exact rfl)); (exact rfl); ((exact eJ (by (repeat first | with_reducible exact dU | ((with_reducible apply dC); (first | exact rfl | assumption)))))); omega; omega; intro v)); refine D9 ?_))
      all_goals ((refine D3 14 ?_; refine D5 ?_; (with_reducible apply tI); (exact .inr rfl); (iterate 6 exact rfl); (exact trivial); (repeat first | with_reducible exact lS | with_reducible apply mW); exact hfd; refine D9 ?_))
      all_goals refine D8 ?_
    case' dr4_12 =>
      ((refine D5 ?_; refine NB fun b => ?_; refine D9 ?_))
      all_goals ((refine D3 10 ?_; (with_reducible apply dL); (iterate 4 exact rfl); (((with_reducible apply gG); (iterate 4 exact rfl); (exact trivial); (repeat first | with_reducible exact jU | with_reducible apply jT); exact hlook))))
      all_goals ((refine D3 13 ?_; refine D5 ?_; (((with_reducible apply BH); (iterate 9 exact rfl); (((with_reducible apply gH); exact rfl; (repeat with_reducible exact cU); exact rfl)); (exact rfl); ((exact eJ (by (repeat first | with_reducible exact dU | ((with_reducible apply dC); (first | exact rfl | assumption)))))); omega; omega; intro v)); refine D9 ?_))
      all_goals ((refine D3 14 ?_; refine D5 ?_; (with_reducible apply tI); (exact .inr rfl); (iterate 6 exact rfl); (exact trivial); (repeat first | with_reducible exact lS | with_reducible apply mW); exact hfd; refine D9 ?_))
      all_goals refine D8 ?_
    all_goals repeat' (first | fail)
    all_goals refine fT (L' := _ :: _ :: _ :: fV i1) (bW (.refl _) (AD (.refl _) (AD (.refl _) (aO _ (aO _ (aO _ (bV _))))))) ?_
    all_goals refine wK (es' := mkD (i1 ++ [(⟨x, v, [(d, dv)]⟩ : FR)]) 0) (ck' := (i1 ++ [(⟨x, v, [(d, dv)]⟩ : FR)]).length) 2 rfl (by rw [MR, Nat.zero_add]) (by simp) ?_
    all_goals dsimp only [dG]
    all_goals refine lH (L' := .inl ⟨xb, 87, 4, [(0, .map (some mb)), (1, .int .i64 (s1.regs : Int)), (2, .int .i64 s1.at'), (3, .int .i64 s1.e)]⟩ :: .mp ⟨mb, mkD (i1 ++ [(⟨x, v, [(d, dv)]⟩ : FR)]) 0, (i1 ++ [(⟨x, v, [(d, dv)]⟩ : FR)]).length⟩ :: fV (i1 ++ [(⟨x, v, [(d, dv)]⟩ : FR)])) (by rw [VF]; exact List.perm_append_singleton _ (_ :: _ :: fV i1)) ?_
    all_goals exact cN (s := { names := nZ x (gZ x s.names ++ [d]) s.names, regs := s1.regs, at' := s1.at', e := s1.e }) 0 (i1 ++ [(⟨x, v, [(d, dv)]⟩ : FR)]) (.inr rfl) hcnt rfl rfl hs' ⟨by
      show nZ x (gZ x s.names ++ [d]) s.names = _
      have h9 := FL (v := v) (ds := [(d, dv)]) (l := gZ x s.names ++ [d]) hix (by rw [hget2]; rfl)
      rw [← hR.1, hn1] at h9
      exact h9, fun f' hf' d' hd' => by
      rcases List.mem_append.1 hf' with h9 | h9
      · exact hR.2 f' h9 d' hd'
      · rw [List.mem_singleton.1 h9] at hd'
        rw [List.mem_singleton.1 hd']
        exact ⟨hd.mono hle1, hdl⟩⟩
end Go.Proofs.YtocidaibmadekaaGreatDoor
namespace Go.Vcg
open Go.RowKit Go.MapKept
def kvE (e : MapEntry) : Value × Value := (e.key, e.val)
def jI {κ α : Type} [DecidableEq κ] (k : κ) : List (κ × α) → Nat → Option (Nat × α)
  | [], _ => none
  | (a, x) :: r, i => if k = a then some (i, x) else jI k r (i + 1)
def iB {κ α : Type} [DecidableEq κ] (k : κ) (M : List (κ × α)) : Option α := (jI k M 0).map (·.2)
def eY {κ α : Type} [DecidableEq κ] (k : κ) (v : α) : List (κ × α) → List (κ × α)
  | [] => [(k, v)]
  | (a, x) :: r => if k = a then (a, v) :: r else (a, x) :: eY k v r
def sI {κ α : Type} [DecidableEq κ] (k : κ) : List (κ × α) → List (κ × α)
  | [] => []
  | (a, x) :: r => if k = a then r else (a, x) :: sI k r
section
variable {κ α : Type} [DecidableEq κ]
theorem kM {k : κ} : ∀ {M : List (κ × α)} {i p : Nat} {x : α}, jI k M i = some (p, x) → i ≤ p ∧ M[p - i]? = some (k, x)
  | [], _, _, _, h => by cases h
  | (a, y) :: r, i, p, x, h => by
    unfold jI at h
    split at h
    · rename_i hk
      cases h
      subst hk
      exact ⟨Nat.le_refl _, by rw [Nat.sub_self]; rfl⟩
    · obtain ⟨h1, h2⟩ := kM h
      refine ⟨by omega, ?_⟩
      rw [show p - i = (p - (i + 1)) + 1 by omega, List.getElem?_cons_succ]
      exact h2
theorem xM {k : κ} {v : α} : ∀ {M : List (κ × α)} {i p : Nat} {x : α}, jI k M i = some (p, x) → eY k v M = M.set (p - i) (k, v)
  | [], _, _, _, h => by cases h
  | (a, y) :: r, i, p, x, h => by
    unfold jI at h
    unfold eY
    split at h
    · rename_i hk
      cases h
      rw [if_pos hk, Nat.sub_self, List.set_cons_zero, hk]
    · rename_i hk
      obtain ⟨h1, -⟩ := kM h
      rw [if_neg hk, xM h, show p - i = (p - (i + 1)) + 1 by omega, List.set_cons_succ]
theorem xN {k : κ} {v : α} : ∀ {M : List (κ × α)} {i : Nat}, jI k M i = none → eY k v M = M ++ [(k, v)]
  | [], _, _ => rfl
  | (a, y) :: r, i, h => by
    unfold jI at h
    unfold eY
    split at h
    · cases h
    · rename_i hk
      rw [if_neg hk, xN h]
      rfl
theorem HP {k : κ} : ∀ {M : List (κ × α)} {i p : Nat} {x : α}, jI k M i = some (p, x) → sI k M = M.eraseIdx (p - i)
  | [], _, _, _, h => by cases h
  | (a, y) :: r, i, p, x, h => by
    unfold jI at h
    unfold sI
    split at h
    · rename_i hk
      cases h
      rw [if_pos hk, Nat.sub_self]
      rfl
    · rename_i hk
      obtain ⟨h1, -⟩ := kM h
      rw [if_neg hk, HP h, show p - i = (p - (i + 1)) + 1 by omega]
      rfl
theorem BR {k : κ} : ∀ {M : List (κ × α)} {i : Nat}, jI k M i = none → sI k M = M
  | [], _, _ => rfl
  | (a, y) :: r, i, h => by
    unfold jI at h
    unfold sI
    split at h
    · cases h
    · rename_i hk
      rw [if_neg hk, BR h]
end
def MpI {α : Type} (enc : α → Value) (es : List MapEntry) (M : List (Int × α)) : Prop := es.map kvE = M.map fun p => (Value.int .i64 p.1, enc p.2)
abbrev kP (p : Int × Int) : List Value := [.int .i64 p.1, .int .i64 p.2]
def MpP (es : List MapEntry) (M : List ((Int × Int) × Int)) : Prop := es.map kvE = M.map fun p => (Value.agg (kP p.1).toArray, Value.int .i64 p.2)
theorem DP {α : Type} {enc : α → Value} (k : Int) : ∀ {es : List MapEntry} {M : List (Int × α)} (i : Nat), MpI enc es M → Instr.findNow (.int .i64) (.int .i64 k) es i = some ((jI k M i).map fun p => (p.1, enc p.2))
  | [], [], i, _ => by simp [Instr.findNow, jI]
  | [], _ :: _, _, h => by simp [MpI] at h
  | _ :: _, [], _, h => by simp [MpI] at h
  | e :: es, (a, x) :: M, i, h => by
    obtain ⟨ek, ev, st⟩ := e
    simp only [MpI, List.map_cons, List.cons.injEq, kvE, Prod.mk.injEq] at h
    obtain ⟨⟨rfl, rfl⟩, h2⟩ := h
    have ih := DP k (enc := enc) (M := M) (i + 1) h2
    unfold Instr.findNow jI
    by_cases hk : k = a
    · subst hk
      simp [Instr.sameNow]
    · have hb : (k == a) = false := beq_eq_false_iff_ne.2 hk
      simp [Instr.sameNow, hk, ih, hb]
theorem KL (k : Int × Int) : ∀ {es : List MapEntry} {M : List ((Int × Int) × Int)} (i : Nat), MpP es M → lZ (kP k) es i = some ((jI k M i).map fun p => (p.1, Value.int .i64 p.2))
  | [], [], i, _ => by simp [lZ, jI]
  | [], _ :: _, _, h => by simp [MpP] at h
  | _ :: _, [], _, h => by simp [MpP] at h
  | e :: es, (a, x) :: M, i, h => by
    obtain ⟨ek, ev, st⟩ := e
    obtain ⟨k1, k2⟩ := k
    obtain ⟨a1, a2⟩ := a
    simp only [MpP, List.map_cons, List.cons.injEq, kvE, Prod.mk.injEq] at h
    obtain ⟨⟨rfl, rfl⟩, h2⟩ := h
    have ih := KL (k1, k2) (M := M) (i + 1) h2
    have e1 : zR (kP (k1, k2)) (kP (a1, a2)) = true := rfl
    have e2 : yP (kP (k1, k2)) (kP (a1, a2)) = decide ((k1, k2) = (a1, a2)) := by
      simp [yP, eqV, Prod.mk.injEq, Bool.decide_and]
    unfold lZ jI
    dsimp only
    simp only [e1, e2, ih]
    by_cases hk : (k1, k2) = (a1, a2)
    · simp [hk]
    · simp [hk]
theorem TI {P : Program} {et : TypeId} {α : Type} {enc : α → Value} {z : Value} (hz : gB P et = some z) (k : Int) {es : List MapEntry} {M : List (Int × α)} (h : MpI enc es M) : ∃ ok, iS P et (Instr.findNow (.int .i64) (.int .i64 k) es 0) = some ((match iB k M with | some x => enc x | none => z), ok) := by
  rw [DP k 0 h]
  unfold iB
  cases jI k M 0 with
  | none => exact ⟨false, by simp [iS, hz]⟩
  | some p => exact ⟨true, rfl⟩
theorem aB6 {P : Program} {et : TypeId} (hz : gB P et = some (.int .i64 0)) (k : Int × Int) {es : List MapEntry} {M : List ((Int × Int) × Int)} (h : MpP es M) : iS P et (lZ (kP k) es 0) = some (.int .i64 ((iB k M).getD 0), (iB k M).isSome) := by
  rw [KL k 0 h]
  unfold iB
  cases jI k M 0 with
  | none => simp [iS, hz]
  | some p => rfl
theorem TL {es : List MapEntry} {p : Nat} {k v : Value} : (es.modify p fun e => { e with key := k, val := v }).map kvE = if p < es.length then (es.map kvE).set p (k, v) else es.map kvE := by
  apply List.ext_getElem?
  intro i
  rw [List.getElem?_map, List.getElem?_modify]
  by_cases hlt : p < es.length
  · rw [if_pos hlt, List.getElem?_set, List.length_map, List.getElem?_map]
    by_cases hp : p = i
    · subst hp
      rw [if_pos rfl, if_pos hlt, List.getElem?_eq_getElem hlt]
      simp [kvE]
    · rw [if_neg hp]
      cases es[i]? <;> simp [hp]
  · rw [if_neg hlt, List.getElem?_map]
    by_cases hp : p = i
    · subst hp
      rw [List.getElem?_eq_none (by omega)]
      rfl
    · cases es[i]? <;> simp [hp]
section
variable {α : Type} {enc : α → Value}
theorem MpI.len {es : List MapEntry} {M : List (Int × α)} (h : MpI enc es M) : es.length = M.length := by
  have := congrArg List.length h
  simpa using this
theorem MpP.len {es : List MapEntry} {M : List ((Int × Int) × Int)} (h : MpP es M) : es.length = M.length := by
  have := congrArg List.length h
  simpa using this
theorem MpI.key {es : List MapEntry} {M : List (Int × α)} {p : Nat} {k : Int} {x : α} (h : MpI enc es M) (hp : M[p]? = some (k, x)) : (es[p]?).map (·.key) = some (.int .i64 k) := by
  have h1 := congrArg (fun l => l[p]?) h
  simp only [List.getElem?_map, hp, Option.map_some] at h1
  cases he : es[p]? with
  | none => rw [he] at h1; cases h1
  | some e =>
    rw [he] at h1
    simp only [Option.map_some, Option.some.injEq, kvE, Prod.mk.injEq] at h1 ⊢
    exact h1.1
theorem MpP.key {es : List MapEntry} {M : List ((Int × Int) × Int)} {p : Nat} {k : Int × Int} {x : Int} (h : MpP es M) (hp : M[p]? = some (k, x)) : (es[p]?).map (·.key) = some (.agg (kP k).toArray) := by
  have h1 := congrArg (fun l => l[p]?) h
  simp only [List.getElem?_map, hp, Option.map_some] at h1
  cases he : es[p]? with
  | none => rw [he] at h1; cases h1
  | some e =>
    rw [he] at h1
    simp only [Option.map_some, Option.some.injEq, kvE, Prod.mk.injEq] at h1 ⊢
    exact h1.1
theorem MpI.set {es : List MapEntry} {M : List (Int × α)} {p : Nat} {k : Int} {x y : α} (h : MpI enc es M) (hp : jI k M 0 = some (p, x)) : MpI enc (es.modify p fun e => { e with key := .int .i64 k, val := enc y }) (eY k y M) := by
  have hg := kM hp
  rw [Nat.sub_zero] at hg
  have hlt := (List.getElem?_eq_some_iff.1 hg.2).1
  unfold MpI at *
  rw [TL, if_pos (by rw [MpI.len (enc := enc) (M := M) h]; exact hlt), h, xM hp, Nat.sub_zero, List.map_set]
theorem MpI.app {es : List MapEntry} {M : List (Int × α)} {k : Int} {y : α} {st : Nat} (h : MpI enc es M) (hp : jI k M 0 = none) : MpI enc (es ++ [MapEntry.mk (.int .i64 k) (enc y) st]) (eY k y M) := by
  unfold MpI at *
  rw [List.map_append, h, xN hp, List.map_append]
  rfl
theorem MpP.set {es : List MapEntry} {M : List ((Int × Int) × Int)} {p : Nat} {k : Int × Int} {x y : Int} (h : MpP es M) (hp : jI k M 0 = some (p, x)) : MpP (es.modify p fun e => { e with key := .agg (kP k).toArray, val := .int .i64 y }) (eY k y M) := by
  have hg := kM hp
  rw [Nat.sub_zero] at hg
  have hlt := (List.getElem?_eq_some_iff.1 hg.2).1
  unfold MpP at *
  rw [TL, if_pos (by rw [MpP.len (M := M) h]; exact hlt), h, xM hp, Nat.sub_zero, List.map_set]
theorem MpP.app {es : List MapEntry} {M : List ((Int × Int) × Int)} {k : Int × Int} {y : Int} {st : Nat} (h : MpP es M) (hp : jI k M 0 = none) : MpP (es ++ [MapEntry.mk (.agg (kP k).toArray) (.int .i64 y) st]) (eY k y M) := by
  unfold MpP at *
  rw [List.map_append, h, xN hp, List.map_append]
  rfl
theorem nA {β γ : Type} (g : β → γ) : ∀ (l : List β) (i : Nat), (l.eraseIdx i).map g = (l.map g).eraseIdx i
  | [], _ => rfl
  | x :: r, 0 => rfl
  | x :: r, i + 1 => by simp [List.eraseIdx, nA g r i]
theorem MpI.del {es : List MapEntry} {M : List (Int × α)} {p : Nat} {k : Int} {x : α} (h : MpI enc es M) (hp : jI k M 0 = some (p, x)) : MpI enc (es.eraseIdx p) (sI k M) := by
  unfold MpI at *
  rw [nA, h, HP hp, Nat.sub_zero, nA]
end
section
variable {P : Program} {X : Ctx} {ops : Array Oper} {Q : Exit → Act → World → Prop} {rest : List Oper} {μ : Mem} {l : aI} {L : List Bk} {w : World} {o : Oper} {d : Nat}
variable {ty : TypeId} {pos : String} {af : Array Edge} {gd : Option (Nat × Bool)} {ds : Option Nat}
theorem wS {t kt et : TypeId} {m k : Operand} {b ck : Nat} {es : List MapEntry} {xs : List Value} {v : Value} {ok : Bool} (hm : ev l m = some (.map (some b))) (hk : ev l k = some (.agg xs.toArray)) (ht : P.underlying t = some (.map kt et)) (hkey : gY P kt xs = true)
    (hu : InM L b ⟨b, es, ck⟩) (hf : iS P et (lZ xs es 0) = some (v, ok)) : Val P μ l L ⟨ds, .lookup t m k true, ty, pos, af, gd⟩ (.tuple #[v, .bool ok]) := fun a w hs => by
  obtain ⟨i, hi, _⟩ := hu
  have hb : w.heap[b]? = some (.map es.toArray ck) := hs.own _ (bO hi)
  have e1 := hs.eval hm; have e2 := hs.eval hk
  generalize a.eval = ρ at e1 e2
  simp [execOp, e1, e2, vX (c := true) ht hkey hb hf]
theorem rV {t kt et : TypeId} {b ck i : Nat} {es : List MapEntry} {xs : List Value} {v old : Value} (ht : P.underlying t = some (.map kt et)) (hkey : gY P kt xs = true) (hsb : Instr.sameBits 10000 (.agg xs.toArray) (.agg xs.toArray) = true)
    (hb : w.heap[b]? = some (.map es.toArray ck)) (hf : lZ xs es 0 = some (some (i, old))) (he : (es[i]?).map (·.key) = some (.agg xs.toArray)) : (Instr.mapUpdate t (.map (some b)) (.agg xs.toArray) v).run P w = .ok () { w with heap := w.heap.setIfInBounds b (.map (es.modify i fun e => { e with key := .agg xs.toArray, val := v }).toArray ck) } := by
  have h0 := mA (w := w) hkey hf
  have h2 := fun e => jN (w := w) e hkey
  have h1 : (((es.toArray[i]?).map (·.key)).getD (.agg xs.toArray)) = .agg xs.toArray := by
    rw [List.getElem?_toArray, he]; rfl
  have h3 : (Instr.keyThatStays (.agg xs.toArray) (.agg xs.toArray)).run P w = .ok (.agg xs.toArray) w := by simp [Instr.keyThatStays, hsb]
  simp [Instr.mapUpdate, run_underlying ht, MapKept.run_getObj_map hb, h0, h2, MapKept.run_setObj_map _ hb]
  rw [List.getElem?_toArray] at h1
  simp only [h1]
  rw [h3]
  simp [MapKept.run_setObj_map _ hb]
end
end Go.Vcg
namespace Go.Proofs.YtocidaibmadekaaGreatDoor
open Go.RowKit Go.Vcg
structure Us where
  (at' scope wh hops slot kind : Int) (name : ByteArray) (check : Bool)
structure Ux where
  (u : Us) (ts tb : Nat) (found : Bool) (fn : Int)
structure Wh where
  (scope fn : Int) (decl : Bool)
structure FS where
  (scopes : List Sc) (uses : List Ux) (funcs : Nat) (cases : List (Int × Int)) (heads : List (Int × Bool)) (done : List ((Int × Int) × Int))
def kW (t : T) (b : Int) : Bool := decide (t.op = 4) && decide (anI t.n b ≠ 0)
def bU (t : T) (i : Nat) : T := (t.kids[i]?).getD T.zero
def fM (x : ByteArray) (k : Int) : List Bd → List Bd
  | [] => [⟨x, k, false, 0⟩]
  | b :: r => if b.name = x then (if k = 3 then { b with kind := k } :: r else b :: r) else b :: fM x k r
def cM (k : Int) (xs : List ByteArray) (l : List Bd) : List Bd := xs.foldl (fun l x => fM x k l) l
def cH (t : T) (l : List Bd) : List Bd := t.kids.foldl (fun l d => cM t.n (aR (bU d 0)) l) l
def bA (kids : List T) (funcs : Bool) (l : List Bd) : List Bd := kids.foldl (fun l t => if t.op = 2 ∧ t.n ≠ 0 then cH t l else if (kW t 1 && funcs) = true then fM t.s 3 l else l) l
def bY : Nat → T → List Bd → List Bd
  | 0, _, l => l
  | f + 1, t, l => if t.op = 4 then l else t.kids.foldl (fun l k => bY f k l) (if t.op = 2 ∧ t.n = 0 then cH t l else l)
def cK (f : Nat) (t : T) : List Bd :=
  let l := bY f (bU t 0) (cM 4 (aR (bU t 0)) [])
  if (bU t 1).op ≠ 6 ∨ kW t 128 = true then bY f (bU t 1) l
  else (bU t 1).kids.foldl (fun l k => bY f k (bA [k] true l)) l
def gI (kind at' : Int) (w : Wh) (l : List Bd) (s : FS) : FS := { s with scopes := s.scopes ++ [⟨w.scope, w.fn, kind, at', l⟩] }
def pF (w : Wh) (s : FS) : Wh := { w with scope := (s.scopes.length : Int) }
def eU (kind at' : Int) (w : Wh) (l : List Bd) (s : FS) : FS := if l.length = 0 then s else gI kind at' w l s
def gV (w : Wh) (l : List Bd) (s : FS) : Wh := if l.length = 0 then w else pF w s
def iC (l : List Sc) (at' : Int) (x : ByteArray) : Option (Nat × Nat) := findF l x (at'.toNat + 1) at'
def fJ (l : List Sc) (s b : Nat) : Int := (((l[s]?).bind fun c => c.names[b]?).map (·.kind)).getD 0
def KF (l : List Sc) (s : Nat) : Int := ((l[s]?).map (·.fn)).getD 0
def jQ (s : FS) (ts tb : Nat) (fn : Int) : Bool :=
  match iB ((ts : Int), (tb : Int)) s.done with
  | none => false
  | some k => decide (fn = KF s.scopes ts) && !((iB (ts : Int) s.heads).getD false) && decide (k = (iB (ts : Int) s.cases).getD 0)
def lX (t : T) (w : Wh) (s : FS) : FS :=
  let u : Ux := match iC s.scopes w.scope t.s with
    | none => ⟨⟨t.at', w.scope, 2, 0, 0, 0, t.s, false⟩, 0, 0, false, w.fn⟩
    | some (a, b) =>
      let k := fJ s.scopes a b
      ⟨⟨t.at', w.scope, 2, 0, 0, k, t.s, (decide (k = 1) || decide (k = 2)) && !w.decl && !jQ s a b w.fn⟩, a, b, true, w.fn⟩
  { s with uses := s.uses ++ [u] }
section
variable (N : T → Wh → FS → FS) (fu : Nat)
def qF (l : List T) (w : Wh) (s : FS) : FS := l.foldl (fun s k => N k w s) s
def DL (t : T) (w : Wh) (s : FS) : FS :=
  let s1 := { s with funcs := s.funcs + 1 }
  let w1 := { w with fn := ((s.funcs + 1 : Nat) : Int) }
  let c : Bool := !decide (t.s = ⟨#[]⟩) && !kW t 1
  let s2 := if c = true then gI 5 t.at' w1 [⟨t.s, 7, false, 0⟩] s1 else s1
  let w2 := if c = true then pF w1 s1 else w1
  let s3 := gI 1 t.at' w2 (cK fu t) s2
  let w3 := pF w2 s2
  let s4 := N (bU t 0) w3 s3
  if (bU t 1).op = 6 ∧ kW t 128 = false then qF N (bU t 1).kids w3 s4 else N (bU t 1) w3 s4
def sZ (t : T) (w : Wh) (s : FS) : FS :=
  let h := bU t 0
  let c : Bool := decide (h.op = 2) && !decide (h.n = 0)
  let s1 := if c = true then eU 3 t.at' w (cH h []) s else s
  let w1 := if c = true then gV w (cH h []) s else w
  (t.kids.zipIdx).foldl (fun s k =>
    if k.2 = 1 ∧ t.op ≠ 10 ∧ w1.scope ≠ w.scope then
      let s2 := N k.1 w1 { s with heads := eY w1.scope true s.heads }
      { s2 with heads := sI w1.scope s2.heads }
    else N k.1 w1 s) s1
def lJ (t : T) (w : Wh) (s : FS) : FS :=
  let l := (t.kids.drop 1).foldl (fun l k => bA k.kids true l) []
  let s1 := eU 2 t.at' w l s
  let w1 := gV w l s
  let s2 := N (bU t 0) w s1
  ((t.kids.drop 1).zipIdx).foldl (fun s k => N k.1 w1 (if w1.scope ≠ w.scope then { s with cases := eY w1.scope (k.2 : Int) s.cases } else s)) s2
def tQ (t : T) (w : Wh) (s : FS) : FS :=
  let s1 := N (bU t 0) { w with decl := true } s
  let s2 := qF N (t.kids.drop 1) w s1
  (aR (bU t 0)).foldl (fun s x => match iC s.scopes w.scope x with
    | some (a, b) => { s with done := eY ((a : Int), (b : Int)) ((iB (a : Int) s.cases).getD 0) s.done }
    | none => s) s2
def oA (t : T) (w : Wh) (s : FS) : FS :=
  (t.kids.zipIdx).foldl (fun s k =>
    if t.op = 60 ∨ t.op = 61 ∨ t.op = 64 ∨ (t.op = 63 ∧ k.2 = 0) ∨ (t.op = 62 ∧ k.2 = 1) then N k.1 w s else N k.1 { w with decl := false } s) s
def vG (t : T) (w : Wh) (s : FS) : FS :=
  if t.op = 34 then lX t w s
  else if t.op = 4 then DL N fu t { w with decl := false } s
  else if t.op = 6 then qF N t.kids (gV w (bA t.kids true []) s) (eU 2 t.at' w (bA t.kids true []) s)
  else if t.op = 21 then lJ N t w s
  else if t.op = 10 ∨ t.op = 11 ∨ t.op = 12 then sZ N t w s
  else if t.op = 20 then qF N t.kids (gV w (cM 5 (aR (bU t 0)) []) s) (eU 4 t.at' w (cM 5 (aR (bU t 0)) []) s)
  else if t.op = 3 then tQ N t w s
  else if t.op = 39 then (if t.n = 3 then lX (bU t 0) w s else qF N t.kids w s)
  else oA N t w s
end
def nbS (fu : Nat) : Nat → T → Wh → FS → FS
  | 0 => fun _ _ s => s
  | f + 1 => vG (nbS fu f) fu
def gX (t : T) : FS := gI 0 t.at' ⟨-1, 0, false⟩ (bA t.kids false []) ⟨[], [], 0, [], [], []⟩
def dA (f : Nat) (t : T) : FS := qF (nbS f f) t.kids ⟨0, 0, false⟩ (gX t)
def eN (l : List Sc) : Nat := (l.map fun s => s.names.length).sum
def BA (l : List Sc) (a b : Nat) : List Sc := l.modify a fun s => { s with names := s.names.modify b fun x => { x with held := true } }
def tE (us : List Ux) (l : List Sc) : List Sc := us.foldl (fun l u => if u.found = true ∧ u.fn ≠ KF l u.ts then BA l u.ts u.tb else l) l
end Go.Proofs.YtocidaibmadekaaGreatDoor
namespace Go.Proofs.YtocidaibmadekaaGreatDoor
open Go.RowKit Go.Vcg
theorem OZ (fn : Int) (l : List Sc) : iZ fn (l.take 0) = 0 := by simp [iZ]
theorem tB (fn : Int) (l : List Sc) (h : ∀ s ∈ l, s.names.length ≤ 10000000) (k : Nat) (hl : l.length ≤ 9000) : iZ fn (l.take k) ≤ 90000000000 := by
  have h1 := MS fn (l.take k) (fun s hs => h s (List.mem_of_mem_take hs))
  rw [List.length_take] at h1
  omega
abbrev scs (ps : List (Sc × Value)) : List Sc := ps.map (·.1)
theorem gR {ps : List (Sc × Value)} {k : Nat} {y : Sc × Value} (h : ps[k]? = some y) : (scs ps)[k]? = some y.1 := by rw [List.getElem?_map, h]; rfl
attribute [local irreducible] dP iZ eQ findF G GC GQ GA bX Calls IntKind.wrap Int.decLt Int.decLe
section
variable (w : World) (μ : Mem) (hμ : MOk μ w)
include hμ
theorem CV (ps : List (Sc × Value)) (A : Option Addr) (c : Nat) (hps : ScR μ A ps) (fn : Int) : Calls Tryz.prog 13 #[.slice A ps.length c, .int .i64 fn] w fun e w' => e = .returned (.int .i64 (((if fn = 0 then 1 else 0) + iZ fn (scs ps) : Nat) : Int)) ∧ Below w.heap.size w w' := by
  obtain ⟨hS, hl, hall⟩ := hps
  have hnl : ∀ s ∈ scs ps, s.names.length ≤ 10000000 := fun s hs => by
    obtain ⟨p, hp, rfl⟩ := List.mem_map.1 hs
    obtain ⟨_, _, _, _, h⟩ := hall p hp
    exact h.1
  have hsl : (scs ps).length = ps.length := List.length_map ..
  refine aA (args := [.slice A ps.length c, .int .i64 fn]) Tryz.func13 rfl Tryz.ntmps13 (by simp) hμ ?_
  obtain ⟨n0, hn0, hn1⟩ : ∃ n0 : Nat, (if fn = 0 then 1 else 0 : Nat) = n0 ∧ n0 ≤ 1 := ⟨_, rfl, by split <;> omega⟩
  rw [hn0]
  repeat' (first | ((with_reducible show GC _ _ (Code.seq (Code.seq (Code.region 2 _ _) _) _) _ _ _ _); (apply bF)) | refine KK ?_ | fail)
  refine gcs ?_
  refine dY (ι := Unit) (fun _ => True) (fun _ => μ) (fun _ => [(5, .int .i64 (n0 : Int)), (1, .int .i64 fn), (0, .slice A ps.length c)]) (fun _ => []) ?_ ?_
  · by_cases h0 : fn = 0
    · rw [if_pos h0] at hn0
      subst hn0
      repeat' (first | refine KK ?_ | fail)
      all_goals try (exfalso; first | fail)
      all_goals exact J1 () trivial
    · rw [if_neg h0] at hn0
      subst hn0
      repeat' (first | refine KK ?_ | fail)
      all_goals try (exfalso; first | fail)
      all_goals exact J1 () trivial
  rintro ⟨⟩ -
  repeat' (first | refine KK ?_ | fail)
  refine aX (ι := Nat × Nat) (fun i => i.1 ≤ ps.length ∧ i.2 = iZ fn ((scs ps).take i.1)) (fun i => ps.length - i.1) (fun _ => μ) (fun i => [(12, .int .i64 (i.1 : Int)), (11, .int .i64 (ps.length : Int)), (10, .slice A ps.length c), (5, .int .i64 ((n0 + i.2 : Nat) : Int)), (1, .int .i64 fn)]) (fun _ => []) (0, 0) ⟨Nat.zero_le _, (OZ _ _).symm⟩ (fun a w hs => J5 hs) ?_
  rintro ⟨k, n⟩ ⟨hk, hn⟩
  dsimp only at hk hn ⊢
  have hb := tB fn (scs ps) hnl k (by omega)
  by_cases hlt : k < ps.length
  · obtain ⟨ad, y, rfl, hy, hm⟩ := hS.get hlt
    have hn2 := AU (fn := fn) (gR hy)
    rw [← hn] at hn2 hb
    obtain ⟨s, v⟩ := y
    have hbv := hall _ (List.mem_of_getElem? hy)
    dsimp only at hn2 hbv
    have hsp := fun (w : World) (μc : Mem) (hw : MOk μc w) (hle : MLe μ μc) => pE w μc hw s v (hbv.mono hle)
    obtain ⟨A2, c2, rfl, hS2, hl2⟩ := hbv
    have hhl := tD s.names
    by_cases hfn : s.fn = fn
    · rw [if_pos hfn] at hn2
      repeat' (first | refine KO ?_ | (refine KV (b := by first | exact U1 k | exact U4 hm) (c := ?_)) | refine KI ?_ | refine NB fun b => ?_ | fail)
      all_goals try (exfalso; first | fail)
      all_goals refine aC 9 _ (by kernel_rfl) rfl (List.Sublist.cons_cons _ (List.nil_sublist _)) ?_
                all_goals refine DD 0 ?_
                all_goals (first | refine D1 1 ?_ | fail)
                all_goals (first | refine DD 2 ?_ | fail)
                all_goals (first | refine D1 3 ?_ | fail)
                all_goals (first | refine DD 4 ?_ | fail)
                all_goals ((refine D3 5 ?_; refine D5 ?_; (with_reducible apply F1 24); exact rfl; exact EN; exact fun w μc hw hse => hsp w μc hw hse.le; refine D9 ?_))
                all_goals (first | (refine DV (k := 6) (b := by ((with_reducible apply LV); exact rfl; exact rfl; omega)) (c := ?_)) | fail)
                all_goals (first | refine DD 7 ?_ | fail)
                all_goals refine DD 8 ?_
                all_goals refine D8 ?_
      all_goals repeat' (first | refine KK ?_ | fail)
      all_goals rw [show ((n0 + n : Nat) : Int) + ((s.names.length : Int) - (dP s.names : Int)) = ((n0 + (n + (s.names.length - dP s.names)) : Nat) : Int) by omega]
      all_goals exact J2 (k + 1, n + (s.names.length - dP s.names)) ⟨by dsimp only; omega, hn2.symm⟩ (by dsimp only; omega)
    · rw [if_neg hfn] at hn2
      repeat' (first | refine KO ?_ | (refine KV (b := by first | exact U1 k | exact U4 hm) (c := ?_)) | refine KI ?_ | refine NB fun b => ?_ | fail)
      all_goals try (exfalso; first | fail)
      all_goals exact J2 (k + 1, n) ⟨by dsimp only; omega, hn2.symm⟩ (by dsimp only; omega)
  · obtain rfl : k = ps.length := by omega
    rw [List.take_of_length_le (by omega)] at hn
    subst hn
    repeat' (first | refine KK ?_ | fail)
    all_goals try (exfalso; first | fail)
    exact aB rfl rfl rfl
end
end Go.Proofs.YtocidaibmadekaaGreatDoor
namespace Go.Proofs.YtocidaibmadekaaGreatDoor
open Go.RowKit Go.Vcg
attribute [local irreducible] dP iZ eQ findF G GC GQ GA bX Calls IntKind.wrap Int.decLt Int.decLe
section
variable (w : World) (μ : Mem) (hμ : MOk μ w)
include hμ
theorem xP (ps : List (Sc × Value)) (A : Option Addr) (c : Nat) (hps : ScR μ A ps) (at' : Int) (x : ByteArray) : Calls Tryz.prog 11 #[.slice A ps.length c, .int .i64 at', .string x] w fun e w' => e = .returned (BK (findF (scs ps) x (at'.toNat + 1) at')) ∧ Below w.heap.size w w' := by
  obtain ⟨hS, hl, hall⟩ := hps
  have hsl : (scs ps).length = ps.length := List.length_map ..
  generalize hR : findF (scs ps) x (at'.toNat + 1) at' = R
  refine aA (args := [.slice A ps.length c, .int .i64 at', .string x]) Tryz.func11 rfl Tryz.ntmps11 (by simp) hμ ?_
  repeat' (first | refine KK ?_ | fail)
  refine aX (ι := Nat × Int) (fun i => findF (scs ps) x i.1 i.2 = R ∧ (i.2 < 0 ∨ i.2.toNat < i.1)) (fun i => i.1) (fun _ => μ) (fun i => [(0, .slice A ps.length c), (1, .int .i64 i.2), (2, .string x)]) (fun _ => []) (at'.toNat + 1, at') ⟨hR, .inr (by dsimp only; omega)⟩ (fun a w hs => J5 hs) ?_
  rintro ⟨f, a⟩ ⟨hRk, hf⟩
  dsimp only at hRk hf ⊢
  by_cases hin : 0 ≤ a ∧ a < ps.length
  · obtain ⟨k, rfl⟩ : ∃ k : Nat, a = k := ⟨a.toNat, by omega⟩
    have hlt : k < ps.length := by omega
    obtain ⟨f, rfl⟩ : ∃ g, f = g + 1 := ⟨f - 1, by omega⟩
    obtain ⟨ad, y, rfl, hy, hm⟩ := hS.get hlt
    obtain ⟨s, v⟩ := y
    obtain ⟨A2, c2, hv, hS2, hl2⟩ := hall _ (List.mem_of_getElem? hy)
    dsimp only at hv hS2 hl2 hm
    subst hv
    rw [UU (gR hy)] at hRk
    dsimp only at hRk
    generalize hP : eQ x s.names 0 = P at hRk
    repeat' (first | refine KO ?_ | (refine KV (b := by first | exact U1 k | exact U4 hm) (c := ?_)) | refine KI ?_ | refine KG ?_ | fail)
    all_goals try (exfalso; first | fail)
    refine aX (ι := Nat) (fun j => j ≤ s.names.length ∧ eQ x (s.names.drop j) j = P) (fun j => s.names.length - j) (fun _ => μ) (fun j => [(25, .int .i64 (j : Int)), (24, .int .i64 (s.names.length : Int)), (23, .slice A2 s.names.length c2), (0, .slice (some ad) ps.length c), (1, .int .i64 (k : Int)), (2, .string x)]) (fun _ => []) 0 ⟨Nat.zero_le _, hP⟩ (fun a w hs => J5 hs) ?_
    rintro j ⟨hj, hPj⟩
    by_cases hjl : j < s.names.length
    · obtain ⟨ad2, z, rfl, hz, hm2⟩ := hS2.get hjl
      rw [FN hz] at hPj
      by_cases hn : z.name = x
      · rw [if_pos hn] at hPj
        subst hPj
        subst hRk
        repeat' (first | refine KO ?_ | (refine KV (b := by first | exact U1 j | exact U4 hm2) (c := ?_)) | refine KI ?_ | refine NB fun b => ?_ | fail)
        all_goals try (exfalso; first | fail)
        all_goals exact IY rfl (by repeat first | exact sU | refine pB (by exact bJ rfl) ?_) rfl rfl
      · rw [if_neg hn] at hPj
        repeat' (first | refine KO ?_ | (refine KV (b := by first | exact U1 j | exact U4 hm2) (c := ?_)) | refine KI ?_ | refine NB fun b => ?_ | fail)
        all_goals try (exfalso; first | fail)
        all_goals exact J2 (j + 1) ⟨by omega, hPj⟩ (by omega)
    · rw [List.drop_of_length_le (by omega)] at hPj
      have hPn : P = none := by rw [← hPj]; unfold eQ; rfl
      subst hPn
      dsimp only at hRk
      by_cases hup : s.up ≥ (k : Int)
      · rw [if_pos hup] at hRk
        subst hRk
        repeat' (first | refine KO ?_ | (refine KV (b := by first | exact U1 k | exact U4 hm) (c := ?_)) | refine KI ?_ | fail)
        all_goals try (exfalso; first | fail)
        all_goals exact IY rfl (by repeat first | exact sU | refine pB (by exact bJ rfl) ?_) rfl rfl
      · rw [if_neg hup] at hRk
        repeat' (first | refine KO ?_ | (refine KV (b := by first | exact U1 k | exact U4 hm) (c := ?_)) | refine KI ?_ | fail)
        all_goals try (exfalso; first | fail)
        all_goals exact J2 (f, s.up) ⟨hRk, by dsimp only; omega⟩ (by dsimp only; omega)
  · have hRn : R = none := by rw [← hRk]; exact kA (by rw [hsl]; exact hin)
    subst hRn
    by_cases h0 : 0 ≤ a
    all_goals repeat' (first | refine KK ?_ | refine KG ?_ | fail)
    all_goals try (exfalso; first | fail)
    all_goals exact IY rfl (by repeat first | exact sU | refine pB (by exact bJ rfl) ?_) rfl rfl
end
end Go.Proofs.YtocidaibmadekaaGreatDoor
namespace Go.Proofs.YtocidaibmadekaaGreatDoor
open Go.RowKit Go.Vcg
def eV (h c : Nat) : List Bd → List Bd
  | [] => []
  | b :: r => if b.held = true then { b with slot := (h : Int) } :: eV (h + 1) c r else { b with slot := (c : Int) } :: eV h (c + 1) r
theorem JY (b : Bd) (r : List Bd) : dP (b :: r) = dP r + if b.held = true then 1 else 0 := by
  unfold dP
  rw [List.countP_cons]
theorem oB : ∀ (a b : List Bd) (h c : Nat), eV h c (a ++ b) = eV h c a ++ eV (h + dP a) (c + (a.length - dP a)) b
  | [], b, h, c => by simp [eV, dP]
  | x :: a, b, h, c => by
    have hl := tD a
    rw [List.cons_append, eV, eV, JY, List.length_cons]
    by_cases hx : x.held = true
    · rw [if_pos hx, if_pos hx, if_pos hx, oB a b, List.cons_append]
      congr 3
      · omega
      · omega
    · rw [if_neg hx, if_neg hx, if_neg hx, oB a b, List.cons_append]
      congr 3
      omega
theorem lC : ∀ (l : List Bd) (h c : Nat), (eV h c l).length = l.length
  | [], _, _ => rfl
  | b :: r, h, c => by
    unfold eV
    split <;> simp [lC r]
theorem JH {l : List Bd} {k : Nat} {b : Bd} (h : l[k]? = some b) (c : Nat) : eV 0 c (l.take (k + 1)) = eV 0 c (l.take k) ++ [{ b with slot := if b.held = true then (dP (l.take k) : Int) else ((c + (k - dP (l.take k)) : Nat) : Int) }] := by
  have hlt := (List.getElem?_eq_some_iff.1 h).1
  rw [List.take_add_one, h, oB]
  congr 1
  have : (l.take k).length = k := by rw [List.length_take]; omega
  rw [this, Option.toList_some, eV]
  split
  · rename_i hb; simp [eV, hb]
  · rename_i hb; simp [eV, hb]
def uF (pre : List Sc) (s : Sc) : Sc := { s with names := eV 0 ((if s.fn = 0 then 1 else 0) + iZ s.fn pre) s.names }
def uH (pre : List Sc) : List Sc → List Sc
  | [] => []
  | s :: r => uF pre s :: uH (pre ++ [s]) r
theorem vF : ∀ (l pre : List Sc), (uH pre l).length = l.length
  | [], _ => rfl
  | s :: r, pre => by simp [uH, vF r]
attribute [local irreducible] dP iZ eQ findF eV uH uF G GC GQ GA bX Calls IntKind.wrap Int.decLt Int.decLe
end Go.Proofs.YtocidaibmadekaaGreatDoor
namespace Go.Proofs.YtocidaibmadekaaGreatDoor
open Go.RowKit Go.Vcg
theorem XN (pre : List Sc) (s : Sc) : uF pre s = ⟨s.up, s.fn, s.kind, s.at', eV 0 ((if s.fn = 0 then 1 else 0) + iZ s.fn pre) s.names⟩ := rfl
theorem JG (h c : Nat) (l : List Bd) : eV h c (l.take 0) = [] := rfl
attribute [local irreducible] dP iZ eQ findF eV uH uF G GC GQ GA bX Calls IntKind.wrap Int.decLt Int.decLe
end Go.Proofs.YtocidaibmadekaaGreatDoor
namespace Go.Proofs.YtocidaibmadekaaGreatDoor
open Go.RowKit Go.Vcg Go.MapKept
def mkM : List (Int × Nat) → Nat → List MapEntry
  | [], _ => []
  | (f, n) :: r, j => MapEntry.mk (.int .i64 f) (.int .i64 (n : Int)) j :: mkM r (j + 1)
def lD (f : Int) : List (Int × Nat) → Nat → Option (Nat × Nat)
  | [], _ => none
  | (g, n) :: r, i => if f = g then some (i, n) else lD f r (i + 1)
def getM (f : Int) (M : List (Int × Nat)) : Nat := match lD f M 0 with
  | some (_, n) => n
  | none => 0
def nY (f : Int) (n : Nat) : List (Int × Nat) → List (Int × Nat)
  | [] => [(f, n)]
  | (g, k) :: r => if f = g then (f, n) :: r else (g, k) :: nY f n r
theorem tL (f : Int) : ∀ (M : List (Int × Nat)) (j i : Nat), Instr.findNow (.int .i64) (.int .i64 f) (mkM M j) i = some ((lD f M i).map fun p => (p.1, .int .i64 (p.2 : Int)))
  | [], j, i => by simp [mkM, Instr.findNow, lD]
  | (g, n) :: r, j, i => by
    have ih := tL f r (j + 1) (i + 1)
    unfold mkM Instr.findNow lD
    by_cases h : f = g
    · subst h
      simp [Instr.sameNow]
    · have hb : (f == g) = false := by simpa using h
      simp [Instr.sameNow, hb, h, ih]
theorem MP : ∀ (M : List (Int × Nat)) (f : Int) (n j : Nat), mkM (M ++ [(f, n)]) j = mkM M j ++ [MapEntry.mk (.int .i64 f) (.int .i64 (n : Int)) (j + M.length)]
  | [], f, n, j => by simp [mkM]
  | (g, k) :: r, f, n, j => by
    have := MP r f n (j + 1)
    simp only [List.cons_append, mkM, this, List.length_cons]
    rw [show j + 1 + r.length = j + (r.length + 1) by omega]
theorem MT {f : Int} : ∀ {M : List (Int × Nat)} {i p n : Nat}, lD f M i = some (p, n) → i ≤ p
  | [], _, _, _, h => by cases h
  | (g, k) :: r, i, p, n, h => by
    unfold lD at h
    split at h
    · cases h; exact Nat.le_refl _
    · have := MT h; omega
theorem MO {f : Int} {n m : Nat} : ∀ {M : List (Int × Nat)} {j i p : Nat}, lD f M i = some (p, m) → (mkM M j).modify (p - i) (fun e => { e with key := .int .i64 f, val := .int .i64 (n : Int) }) = mkM (nY f n M) j ∧ ((mkM M j)[p - i]?).map (·.key) = some (.int .i64 f)
  | [], _, _, _, h => by cases h
  | (g, k) :: r, j, i, p, h => by
    unfold lD at h
    by_cases hg : f = g
    · rw [if_pos hg] at h
      cases h
      subst hg
      simp [mkM, nY]
    · rw [if_neg hg] at h
      have h1 := MT h
      obtain ⟨e1, e2⟩ := MO (n := n) (j := j + 1) h
      obtain ⟨q, hq⟩ : ∃ q, p - i = q + 1 := ⟨p - i - 1, by omega⟩
      have hq2 : p - (i + 1) = q := by omega
      rw [hq2] at e1 e2
      rw [hq]
      simp only [mkM, nY, if_neg hg, List.modify_succ_cons, e1, List.getElem?_cons_succ, e2, and_self]
theorem AK {f : Int} {n : Nat} : ∀ {M : List (Int × Nat)} {i : Nat}, lD f M i = none → nY f n M = M ++ [(f, n)]
  | [], _, _ => rfl
  | (g, k) :: r, i, h => by
    unfold lD at h
    by_cases hg : f = g
    · rw [if_pos hg] at h; cases h
    · rw [if_neg hg] at h
      unfold nY
      rw [if_neg hg, AK h]
      rfl
theorem GX (f g : Int) (n : Nat) : ∀ (M : List (Int × Nat)) (i : Nat), (lD g (nY f n M) i).map (·.2) = if g = f then some n else (lD g M i).map (·.2)
  | [], i => by
    unfold nY lD
    by_cases h : g = f
    · simp [h]
    · simp [h, lD]
  | (a, k) :: r, i => by
    have ih := GX f g n r (i + 1)
    unfold nY
    by_cases h : f = a
    · rw [if_pos h]
      unfold lD
      by_cases hg : g = f
      · rw [if_pos hg, if_pos hg]; rfl
      · rw [if_neg hg, if_neg hg, if_neg (fun e => hg (e.trans h.symm))]
    · rw [if_neg h]
      unfold lD
      by_cases hg : g = a
      · rw [if_pos hg, if_pos hg, if_neg (fun e => h (e.symm.trans hg))]
      · rw [if_neg hg, if_neg hg, ih]
theorem DH (f : Int) (M : List (Int × Nat)) : getM f M = ((lD f M 0).map (·.2)).getD 0 := by
  unfold getM
  cases lD f M 0 with
  | none => rfl
  | some p => rfl
theorem UE (f g : Int) (n : Nat) (M : List (Int × Nat)) : getM g (nY f n M) = if g = f then n else getM g M := by
  rw [DH, DH, GX]
  split <;> rfl
end Go.Proofs.YtocidaibmadekaaGreatDoor
