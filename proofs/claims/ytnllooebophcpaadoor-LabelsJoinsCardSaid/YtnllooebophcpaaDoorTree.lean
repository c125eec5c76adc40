/- Trees of nodes as plain data: how a tree lies in memory. No statement of the seat is proved here. -/
import Derived.Test.YtnllooebophcpaaDoorVp
set_option maxRecDepth 20000
namespace Go.Proofs.YtnllooebophcpaaDoor
open Go.RowKit Go.Vcg

inductive T where
  | mk (op at' n m : Int) (s : ByteArray) (kids : List T)
namespace T
def op : T → Int | mk o _ _ _ _ _ => o
def at' : T → Int | mk _ a _ _ _ _ => a
def n : T → Int | mk _ _ n _ _ _ => n
def m : T → Int | mk _ _ _ m _ _ => m
def s : T → ByteArray | mk _ _ _ _ s _ => s
def kids : T → List T | mk _ _ _ _ _ k => k
def zero : T := mk 0 0 0 0 ⟨#[]⟩ []
/-- the number of nodes -/
def size : T → Nat | mk _ _ _ _ _ ks => 1 + (ks.attach.map fun ⟨k, _⟩ => k.size).sum
theorem size_eq (t : T) : t.size = 1 + (t.kids.map size).sum := by
  cases t with
  | mk o a n m s ks => rw [size]; simp [kids]
theorem sum_mem {l : List Nat} {x : Nat} (h : x ∈ l) : x ≤ l.sum := by
  induction l with
  | nil => cases h
  | cons y l ih =>
    rcases List.mem_cons.1 h with rfl | h
    · simp
    · have := ih h
      simp; omega
theorem size_kid {t k : T} {i : Nat} (h : t.kids[i]? = some k) : k.size < t.size := by
  rw [size_eq t]
  have := sum_mem (List.mem_map.2 ⟨k, List.mem_of_getElem? h, rfl⟩ : k.size ∈ t.kids.map size)
  omega
end T

/-- a node as it lies in memory: 'v' is the slice of its children -/
abbrev encT (t : T) (v : Value) : List Value := [.int .i64 t.op, .int .i64 t.at', .int .i64 t.n, .int .i64 t.m, .string t.s, v]
abbrev encTV (p : T × Value) : List Value := encT p.1 p.2

/-- the children 'ks' lie at the slice 'v' -/
inductive KR (μ : Mem) : List T → Value → Prop
  | mk (ks : List T) (A : Option Addr) (c : Nat) (vs : Nat → Value) (hcap : ks.length ≤ c) (hcell : ∀ i t, ks[i]? = some t → ∃ a, A = some a ∧ MCells μ (a.add (i * 6)) (encT t (vs i)))
      (hone : ∀ i t, ks[i]? = some t → (vs i).oneCell' = true) (hsub : ∀ i t, ks[i]? = some t → KR μ t.kids (vs i)) : KR μ ks (.slice A ks.length c)
theorem KR.mono {μ μ' : Mem} (hle : MLe μ μ') {ks : List T} {v : Value} (h : KR μ ks v) : KR μ' ks v := by
  induction h with
  | mk ks A c vs hcap hcell hone hsub ih =>
    refine .mk ks A c vs hcap (fun i t hi => ?_) hone ih
    obtain ⟨a, e, hc⟩ := hcell i t hi
    exact ⟨a, e, hc.mono hle⟩
theorem KR.nil (μ : Mem) (A : Option Addr) (c : Nat) : KR μ [] (.slice A 0 c) := .mk [] A c (fun _ => undef) (Nat.zero_le _) (fun i t h => by simp at h) (fun i t h => by simp at h) (fun i t h => by simp at h)
/-- a slice of children: its form, and each child -/
theorem KR.form {μ : Mem} {ks : List T} {v : Value} (h : KR μ ks v) : ∃ (A : Option Addr) (c : Nat), v = .slice A ks.length c ∧ ks.length ≤ c ∧ ∀ (i : Nat) (t : T), ks[i]? = some t → ∃ a u, A = some a ∧ MCells μ (a.add (i * 6)) (encT t u) ∧ u.oneCell' = true ∧ KR μ t.kids u := by
  cases h with
  | mk _ A c vs hcap hcell hone hsub =>
    refine ⟨A, c, rfl, hcap, fun i t hi => ?_⟩
    obtain ⟨a, e, hc⟩ := hcell i t hi
    exact ⟨a, _, e, hc, hone i t hi, hsub i t hi⟩
theorem KR.one {μ : Mem} {ks : List T} {v : Value} (h : KR μ ks v) : v.oneCell' = true := by cases h; rfl
/-- the value 'v' is the tree 't' -/
def TV (μ : Mem) (t : T) (v : Value) : Prop := ∃ u, v = .agg (encT t u).toArray ∧ KR μ t.kids u
theorem TV.mono {μ μ' : Mem} {t : T} {v : Value} (h : TV μ t v) (hle : MLe μ μ') : TV μ' t v := by
  obtain ⟨u, e, h⟩ := h
  exact ⟨u, e, h.mono hle⟩
/-- the list of the nodes behind a slice of children -/
theorem KR.sl {μ : Mem} {ks : List T} {v : Value} (h : KR μ ks v) : ∃ (A : Option Addr) (c : Nat) (ps : List (T × Value)), v = .slice A ks.length c ∧ ks.length ≤ c ∧ ps.map (·.1) = ks ∧ Sl encTV 6 μ A ks.length ps ∧ ∀ p ∈ ps, KR μ p.1.kids p.2 := by
  cases h with
  | mk _ A c vs hcap hcell hone hsub =>
    have hg : ∀ (i : Nat) (p : T × Value), (ks.zipIdx.map fun x => (x.1, vs x.2))[i]? = some p → ks[i]? = some p.1 ∧ p.2 = vs i := fun i p hp => by
      rw [List.getElem?_map, List.getElem?_zipIdx] at hp
      cases hk : ks[i]? with
      | none => simp [hk] at hp
      | some t => simp [hk] at hp; subst hp; exact ⟨rfl, rfl⟩
    refine ⟨A, c, ks.zipIdx.map fun x => (x.1, vs x.2), rfl, hcap, ?_, ⟨by simp, fun hp => ?_⟩, fun p hp => ?_⟩
    · rw [List.map_map]
      exact List.zipIdx_map_fst 0 ks
    · obtain ⟨a, e, _⟩ := hcell 0 _ (List.getElem?_eq_getElem hp)
      refine ⟨a, e, fun i p hx => ?_⟩
      obtain ⟨h1, h2⟩ := hg i p hx
      obtain ⟨a', e', hc⟩ := hcell i _ h1
      rw [e] at e'; cases e'
      show MCells μ _ (encT p.1 p.2)
      rw [h2]; exact hc
    · obtain ⟨i, hi⟩ := List.mem_iff_getElem?.1 hp
      obtain ⟨h1, h2⟩ := hg i p hi
      rw [h2]; exact hsub i _ h1
end Go.Proofs.YtnllooebophcpaaDoor
