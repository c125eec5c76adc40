/- Trees of nodes as plain data: how a tree lies in memory. -/
import Derived.Test.YtoclmkdfcafhfaaGreatDoorQaf
import Derived.Lib.ItoaNum
import Derived.Lib.Join
set_option maxRecDepth 20000
set_option maxHeartbeats 2000000
namespace Go.Proofs.YtoclmkdfcafhfaaGreatDoor
section
open Go.RowKit Go.Vcg
inductive T where
  | mk (op at' n m : Int) (s : ByteArray) (kids : List T)
namespace T
def op : T → Int | mk o _ _ _ _ _ => o
def at' : T → Int | mk _ a _ _ _ _ => a
def n : T → Int | mk _ _ n _ _ _ => n
def m : T → Int | mk _ _ _ m _ _ => m
def s : T → ByteArray | mk _ _ _ _ s _ => s
def kids : T → List T | mk _ _ _ _ _ k => k
def zero : T := mk 0 0 0 0 ⟨#[]⟩ []
def size : T → Nat | mk _ _ _ _ _ ks => 1 + (ks.attach.map fun ⟨k, _⟩ => k.size).sum
theorem size_eq (t : T) : t.size = 1 + (t.kids.map size).sum := by
  cases t with
  | mk o a n m s ks => rw [size]; simp [kids]
theorem sum_mem {l : List Nat} {x : Nat} (h : x ∈ l) : x ≤ l.sum := by
  induction l with
  | nil => cases h
  | cons y l ih =>
    rcases List.mem_cons.1 h with rfl | h
    · simp
    · have := ih h
      simp; omega
theorem size_kid {t k : T} {i : Nat} (h : t.kids[i]? = some k) : k.size < t.size := by
  rw [size_eq t]
  have := sum_mem (List.mem_map.2 ⟨k, List.mem_of_getElem? h, rfl⟩ : k.size ∈ t.kids.map size)
  omega
end T
abbrev encT (t : T) (v : Value) : List Value := [.int .i64 t.op, .int .i64 t.at', .int .i64 t.n, .int .i64 t.m, .string t.s, v]
abbrev encTV (p : T × Value) : List Value := encT p.1 p.2
inductive KR (μ : Mem) : List T → Value → Prop
  | mk (ks : List T) (A : Option Addr) (c : Nat) (vs : Nat → Value) (hcap : ks.length ≤ c) (hcell : ∀ i t, ks[i]? = some t → ∃ a, A = some a ∧ MCells μ (a.add (i * 6)) (encT t (vs i)))
      (hone : ∀ i t, ks[i]? = some t → (vs i).oneCell' = true) (hsub : ∀ i t, ks[i]? = some t → KR μ t.kids (vs i)) : KR μ ks (.slice A ks.length c)
theorem KR.mono {μ μ' : Mem} (hle : MLe μ μ') {ks : List T} {v : Value} (h : KR μ ks v) : KR μ' ks v := by
  induction h with
  | mk ks A c vs hcap hcell hone hsub ih =>
    refine .mk ks A c vs hcap (fun i t hi => ?_) hone ih
    obtain ⟨a, e, hc⟩ := hcell i t hi
    exact ⟨a, e, hc.mono hle⟩
theorem KR.nil (μ : Mem) (A : Option Addr) (c : Nat) : KR μ [] (.slice A 0 c) := .mk [] A c (fun _ => undef) (Nat.zero_le _) (fun i t h => by simp at h) (fun i t h => by simp at h) (fun i t h => by simp at h)
theorem KR.form {μ : Mem} {ks : List T} {v : Value} (h : KR μ ks v) : ∃ (A : Option Addr) (c : Nat), v = .slice A ks.length c ∧ ks.length ≤ c ∧ ∀ (i : Nat) (t : T), ks[i]? = some t → ∃ a u, A = some a ∧ MCells μ (a.add (i * 6)) (encT t u) ∧ u.oneCell' = true ∧ KR μ t.kids u := by
  cases h with
  | mk _ A c vs hcap hcell hone hsub =>
    refine ⟨A, c, rfl, hcap, fun i t hi => ?_⟩
    obtain ⟨a, e, hc⟩ := hcell i t hi
    exact ⟨a, _, e, hc, hone i t hi, hsub i t hi⟩
theorem KR.one {μ : Mem} {ks : List T} {v : Value} (h : KR μ ks v) : v.oneCell' = true := by cases h; rfl
def TV (μ : Mem) (t : T) (v : Value) : Prop := ∃ u, v = .agg (encT t u).toArray ∧ KR μ t.kids u
theorem TV.mono {μ μ' : Mem} {t : T} {v : Value} (h : TV μ t v) (hle : MLe μ μ') : TV μ' t v := by
  obtain ⟨u, e, h⟩ := h
  exact ⟨u, e, h.mono hle⟩
theorem KR.sl {μ : Mem} {ks : List T} {v : Value} (h : KR μ ks v) : ∃ (A : Option Addr) (c : Nat) (ps : List (T × Value)), v = .slice A ks.length c ∧ ks.length ≤ c ∧ ps.map (·.1) = ks ∧ Sl encTV 6 μ A ks.length ps ∧ ∀ p ∈ ps, KR μ p.1.kids p.2 := by
  cases h with
  | mk _ A c vs hcap hcell hone hsub =>
    have hg : ∀ (i : Nat) (p : T × Value), (ks.zipIdx.map fun x => (x.1, vs x.2))[i]? = some p → ks[i]? = some p.1 ∧ p.2 = vs i := fun i p hp => by
      rw [List.getElem?_map, List.getElem?_zipIdx] at hp
      cases hk : ks[i]? with
      | none => simp [hk] at hp
      | some t => simp [hk] at hp; subst hp; exact ⟨rfl, rfl⟩
    refine ⟨A, c, ks.zipIdx.map fun x => (x.1, vs x.2), rfl, hcap, ?_, ⟨by simp, fun hp => ?_⟩, fun p hp => ?_⟩
    · rw [List.map_map]
      exact List.zipIdx_map_fst 0 ks
    · obtain ⟨a, e, _⟩ := hcell 0 _ (List.getElem?_eq_getElem hp)
      refine ⟨a, e, fun i p hx => ?_⟩
      obtain ⟨h1, h2⟩ := hg i p hx
      obtain ⟨a', e', hc⟩ := hcell i _ h1
      rw [e] at e'; cases e'
      show MCells μ _ (encT p.1 p.2)
      rw [h2]; exact hc
    · obtain ⟨i, hi⟩ := List.mem_iff_getElem?.1 hp
      obtain ⟨h1, h2⟩ := hg i p hi
      rw [h2]; exact hsub i _ h1
end
section
open Go.RowKit Go.Vcg
attribute [local irreducible] G GC GQ GA GAop Calls IntKind.wrap Int.decLt Int.decLe
structure It where
  op : Int
  at' : Int
  n : Int
  m : Int
  s : ByteArray
  k : Int
abbrev encIt (x : It) : List Value := [.int .i64 x.op, .int .i64 x.at', .int .i64 x.n, .int .i64 x.m, .string x.s, .int .i64 x.k]
end
section
open Go.RowKit Go.Vcg
attribute [local irreducible] G GC GQ GA GAop Calls IntKind.wrap Int.decLt Int.decLe
theorem encTV_len (p : T × Value) : (encTV p).length = 6 := rfl
def sizes (ps : List (T × Value)) : Nat := (ps.map fun p => p.1.size).sum
def Kids (μ : Mem) (ps : List (T × Value)) : Prop := ∀ p ∈ ps, KR μ p.1.kids p.2
theorem Kids.mono {μ μ' : Mem} {ps : List (T × Value)} (h : Kids μ ps) (hle : MLe μ μ') : Kids μ' ps := fun p hp => (h p hp).mono hle
theorem Kids.one {μ : Mem} {ps : List (T × Value)} (h : Kids μ ps) : ∀ u ∈ ps.flatMap encTV, u.oneCell' = true := by
  intro u hu
  obtain ⟨p, hp, hu⟩ := List.mem_flatMap.1 hu
  simp at hu
  rcases hu with rfl | rfl | rfl | rfl | rfl | rfl
  all_goals first | rfl | exact (h p hp).one
theorem KR.of_pairs {μ : Mem} {A : Option Addr} {n c : Nat} {ps : List (T × Value)} (h : Sl encTV 6 μ A n ps) (hc : n ≤ c) (hk : Kids μ ps) : KR μ (ps.map (·.1)) (.slice A n c) := by
  have hn := h.1
  subst hn
  have : KR μ (ps.map (·.1)) (.slice A (ps.map (·.1)).length c) := by
    refine .mk _ A c (fun i => match ps[i]? with | some p => p.2 | none => undef) (by simpa using hc) (fun i t hi => ?_) (fun i t hi => ?_) (fun i t hi => ?_)
    all_goals
      rw [List.getElem?_map] at hi
      cases hp : ps[i]? with
      | none => simp [hp] at hi
      | some p =>
        simp [hp] at hi
        subst hi
        first
          | (obtain ⟨a, e, ha⟩ := h.2 (by have := (List.getElem?_eq_some_iff.1 hp).1; omega); exact ⟨a, e, ha i p hp⟩)
          | exact (hk p (List.mem_of_getElem? hp)).one
          | exact hk p (List.mem_of_getElem? hp)
  simpa using this
theorem sizes_append (a b : List (T × Value)) : sizes (a ++ b) = sizes a + sizes b := by simp [sizes]
theorem size_mk (o a n m : Int) (s : ByteArray) (ps : List (T × Value)) (v : Value) : sizes [(T.mk o a n m s (ps.map (·.1)), v)] = 1 + sizes ps := by
  have h := T.size_eq (T.mk o a n m s (ps.map (·.1)))
  simp only [sizes, List.map_cons, List.map_nil, List.sum_cons, List.sum_nil, h, T.kids, List.map_map]
  rfl
end
section
open Go.RowKit Go.Vcg
inductive AllT (q : It → Prop) : T → Prop
  | node {op at' n m : Int} {s : ByteArray} {kids : List T} (h : ∃ k, q ⟨op, at', n, m, s, k⟩) (hk : ∀ t ∈ kids, AllT q t) : AllT q (.mk op at' n m s kids)
def wsum (g : ByteArray → Nat) : T → Nat | .mk _ _ _ _ s ks => g s + (ks.attach.map fun ⟨k, _⟩ => wsum g k).sum
theorem wsum_eq (g : ByteArray → Nat) (t : T) : wsum g t = g t.s + (t.kids.map (wsum g)).sum := by
  cases t with
  | mk o a n m s ks => rw [wsum]; simp [T.kids, T.s]
def wsumP (g : ByteArray → Nat) (ps : List (T × Value)) : Nat := (ps.map fun p => wsum g p.1).sum
theorem wsumP_append (g : ByteArray → Nat) (a b : List (T × Value)) : wsumP g (a ++ b) = wsumP g a + wsumP g b := by simp [wsumP]
theorem wsum_mk (g : ByteArray → Nat) (o a n m : Int) (s : ByteArray) (ps : List (T × Value)) (v : Value) : wsumP g [(T.mk o a n m s (ps.map (·.1)), v)] = g s + wsumP g ps := by
  have h := wsum_eq g (T.mk o a n m s (ps.map (·.1)))
  simp only [wsumP, List.map_cons, List.map_nil, List.sum_cons, List.sum_nil, h, T.kids, T.s, List.map_map]
  rfl
attribute [local irreducible] G GC GQ GA GAop Calls IntKind.wrap Int.decLt Int.decLe
theorem buildQ_spec (q : It → Prop) (gw : ByteArray → Nat) (hq0 : q ⟨0, 0, 0, 0, ⟨#[]⟩, 0⟩) (w : World) (μ : Mem) (hμ : MOk μ w) (A : Option Addr) (n c : Nat) (ts : List It) (hc : Sl encIt 6 μ A n ts) (hn : n ≤ 400) (hq : ∀ y ∈ ts, q y) :
    Calls Tryz.prog 38 #[.slice A n c] w fun e w' => ∃ v μ', e = .returned v ∧ Grow w w' μ μ' ∧ (∃ t, TV μ' t v ∧ t.size ≤ 401 ∧ AllT q t ∧ wsum gw t ≤ gw ⟨#[]⟩ + (ts.map fun y => gw y.s).sum) := by
  refine call_intro Tryz.func38 rfl Tryz.ntmps38 (by simp) hμ ?_
  repeat' (first | refine KK ?_ | refine NB fun b => ?_ | (refine KB ?_ ?_ <;> intro hp) | refine KG ?_ | fail)
  refine gc_loop (ι := Nat × List (T × Value) × Mem × Value) (fun i => i.1 ≤ n ∧ MLe μ i.2.2.1 ∧ Kids i.2.2.1 i.2.1 ∧ sizes i.2.1 ≤ i.1 ∧ i.2.1.length ≤ i.1 ∧ (∀ p ∈ i.2.1, AllT q p.1) ∧ wsumP gw i.2.1 ≤ ((ts.take i.1).map fun y => gw y.s).sum) (fun i => n - i.1) (fun i => i.2.2.1) (fun i => [(4, .int .i64 i.1), (3, i.2.2.2), (2, .pointer (some ⟨b, 0, none⟩)), (0, .slice A n c)]) (fun i => [.inr ⟨i.2.2.2, 42, 6, i.2.1.length, i.2.1.flatMap encTV⟩, .inl ⟨b, 42, 6, _⟩]) (0, [], μ, .slice none 0 0) ⟨by simp, MLe.refl _, fun p hp => (by cases hp), by simp [sizes], by simp, fun p hp => (by cases hp), by simp [wsumP]⟩ (fun a w hs => (hs.nilRow 42 6).sub PU (by repeat first | exact List.Sublist.refl _ | exact List.nil_sublist _ | refine List.Sublist.cons _ ?_)) ?_
  rintro ⟨k, ps, μ1, v⟩ ⟨hk, hle, hkids, hsz, hlen, hall0, hws⟩
  dsimp only at hk hle hkids hsz hlen hall0 hws ⊢
  refine gc_rowOk 0 rfl ?_
  rintro A1 c1 rfl hok
  by_cases hlt : k < n
  · obtain ⟨ad, y, rfl, hy, hm0⟩ := hc.get hlt
    have hm := hm0.mono hle
    obtain ⟨kk, hkk, hcase⟩ : ∃ kk : Nat, kk ≤ ps.length ∧ ((y.k < 0 ∧ kk = 0) ∨ (y.k = (kk : Int)) ∨ (y.k > ps.length ∧ kk = ps.length)) := by
      by_cases h0 : y.k < 0
      · exact ⟨0, by omega, .inl ⟨h0, rfl⟩⟩
      · by_cases h1 : y.k > ps.length
        · exact ⟨ps.length, by omega, .inr (.inr ⟨h1, rfl⟩)⟩
        · exact ⟨y.k.toNat, by omega, .inr (.inl (by omega))⟩
    have hone := hkids.one
    have hd := flat_drops encTV_len ps (ps.length - kk)
    have hdl := flat_length encTV_len (ps.drop (ps.length - kk))
    have hdk : Kids μ1 (ps.drop (ps.length - kk)) := fun p hp => hkids p (List.mem_of_mem_drop hp)
    have hdo := hdk.one
    rw [List.length_drop] at hdl
    have hdl2 : (List.drop ((ps.length - kk) * 6) (ps.flatMap encTV)).length = (ps.length - (ps.length - kk)) * 6 := by rw [hd]; exact hdl
    have hdo2 : ∀ u ∈ List.drop ((ps.length - kk) * 6) (ps.flatMap encTV), u.oneCell' = true := by rw [hd]; exact hdo
    rcases hcase with hcase | hcase | hcase
    all_goals
      repeat' (first | ((with_reducible apply g_row0 6)) | refine KO ?_ | (first | ((with_reducible apply g_ap); exact rfl; exact rfl; exact rfl; (repeat first | with_reducible exact rowup_hd | with_reducible apply rowup_tl); (iterate 6 exact rfl); (first | ((with_reducible apply src_row_drop 2 (k := ps.length - kk)); exact hok; omega; exact rfl; exact rfl) | ((with_reducible apply src_in); exact rfl; (repeat first | with_reducible exact inb_hd | with_reducible apply inb_tl); exact rfl)); (first | exact rfl | omega | simp); (first | assumption | (exact ones_mem (by (repeat first | with_reducible exact ones_nil | ((with_reducible apply ones_cons); (first | exact rfl | assumption))))) | simp [Value.oneCell']); omega; omega; intro v) | ((with_reducible apply g_append0); (iterate 9 exact rfl); (first | ((with_reducible apply src_row_drop 2 (k := ps.length - kk)); exact hok; omega; exact rfl; exact rfl) | ((with_reducible apply src_in); exact rfl; (repeat first | with_reducible exact inb_hd | with_reducible apply inb_tl); exact rfl)); (first | exact rfl | omega | simp); (first | assumption | (exact ones_mem (by (repeat first | with_reducible exact ones_nil | ((with_reducible apply ones_cons); (first | exact rfl | assumption))))) | simp [Value.oneCell']); omega; omega; intro v)) | (refine KV (b := by first | exact U1 k | exact U4 hm | ((with_reducible apply v_slice_lo (ps.length - kk)); exact rfl; exact rfl; exact rfl; exact rfl; omega; omega)) (c := ?_)) | refine KI ?_ | refine NB fun b => ?_ | (refine KB ?_ ?_ <;> intro hp) | refine KG ?_ | fail)
    all_goals simp only [Nat.zero_add, List.nil_append, hd]
    all_goals refine gc_share_0 rfl ?_
    all_goals intro μ2 hle2 hsh2
    all_goals obtain ⟨A2, c2, rfl, hS2⟩ := row_sl (enc := encTV) (xs := ps.drop (ps.length - kk)) hsh2 (by simp) (by simp) rfl
    all_goals have hcap2 := Bk.cap hsh2
    all_goals have hkr := KR.of_pairs hS2 hcap2 (hdk.mono hle2)
    all_goals refine gc_cut 1 (ps.length - kk) rfl hok (by omega) ?_
    all_goals dsimp only [updB]
    all_goals
      refine gc_draw 21 _ (by kernel_rfl) rfl (List.Sublist.cons_cons _ (List.nil_sublist _)) ?_
      all_goals refine DD 0 ?_
      all_goals refine DD 1 ?_
      all_goals (first | refine D1 2 ?_ | (refine DV (k := 2) (b := by first | ((with_reducible apply v_slice_hi (ps.length - kk)); exact rfl; exact rfl; exact rfl; exact rfl; omega; (focus (have := hok.cap; omega; done)))) (c := ?_)) | refine DD 2 ?_ | fail)
      all_goals refine DD 3 ?_
      all_goals (first | refine D1 4 ?_ | (refine DV (k := 4) (b := by first | ((with_reducible apply v_slice_hi (ps.length - kk)); exact rfl; exact rfl; exact rfl; exact rfl; omega; (focus (have := hok.cap; omega; done)))) (c := ?_)) | refine DD 4 ?_ | fail)
      all_goals (first | refine D1 5 ?_ | (refine DV (k := 5) (b := by first | ((with_reducible apply v_slice_hi (ps.length - kk)); exact rfl; exact rfl; exact rfl; exact rfl; omega; (focus (have := hok.cap; omega; done)))) (c := ?_)) | refine DD 5 ?_ | fail)
      all_goals (first | refine D1 6 ?_ | (refine DV (k := 6) (b := by first | ((with_reducible apply v_slice_hi (ps.length - kk)); exact rfl; exact rfl; exact rfl; exact rfl; omega; (focus (have := hok.cap; omega; done)))) (c := ?_)) | refine DD 6 ?_ | fail)
      all_goals (first | refine D1 7 ?_ | (refine DV (k := 7) (b := by first | ((with_reducible apply v_slice_hi (ps.length - kk)); exact rfl; exact rfl; exact rfl; exact rfl; omega; (focus (have := hok.cap; omega; done)))) (c := ?_)) | (refine D3 7 (DW (b := by first | ((with_reducible apply v_slice_hi (ps.length - kk)); exact rfl; exact rfl; exact rfl; exact rfl; omega; (focus (have := hok.cap; omega; done)))) (c := ?_))) | refine DD 7 ?_ | fail)
      all_goals (first | refine D1 8 ?_ | (refine DV (k := 8) (b := by first | ((with_reducible apply v_slice_hi (ps.length - kk)); exact rfl; exact rfl; exact rfl; exact rfl; omega; (focus (have := hok.cap; omega; done)))) (c := ?_)) | refine DD 8 ?_ | fail)
      all_goals (first | refine D1 9 ?_ | (refine DV (k := 9) (b := by first | ((with_reducible apply v_slice_hi (ps.length - kk)); exact rfl; exact rfl; exact rfl; exact rfl; omega; (focus (have := hok.cap; omega; done)))) (c := ?_)) | (refine D3 9 (DW (b := by first | ((with_reducible apply v_slice_hi (ps.length - kk)); exact rfl; exact rfl; exact rfl; exact rfl; omega; (focus (have := hok.cap; omega; done)))) (c := ?_))) | refine DD 9 ?_ | fail)
      all_goals (first | refine D1 10 ?_ | (refine DV (k := 10) (b := by first | ((with_reducible apply v_slice_hi (ps.length - kk)); exact rfl; exact rfl; exact rfl; exact rfl; omega; (focus (have := hok.cap; omega; done)))) (c := ?_)) | refine DD 10 ?_ | fail)
      all_goals (first | refine D1 11 ?_ | (refine DV (k := 11) (b := by first | ((with_reducible apply v_slice_hi (ps.length - kk)); exact rfl; exact rfl; exact rfl; exact rfl; omega; (focus (have := hok.cap; omega; done)))) (c := ?_)) | (refine D3 11 (DW (b := by first | ((with_reducible apply v_slice_hi (ps.length - kk)); exact rfl; exact rfl; exact rfl; exact rfl; omega; (focus (have := hok.cap; omega; done)))) (c := ?_))) | refine DD 11 ?_ | fail)
      all_goals (first | refine D1 12 ?_ | (refine DV (k := 12) (b := by first | ((with_reducible apply v_slice_hi (ps.length - kk)); exact rfl; exact rfl; exact rfl; exact rfl; omega; (focus (have := hok.cap; omega; done)))) (c := ?_)) | refine DD 12 ?_ | fail)
      all_goals (first | refine D1 13 ?_ | (refine DV (k := 13) (b := by first | ((with_reducible apply v_slice_hi (ps.length - kk)); exact rfl; exact rfl; exact rfl; exact rfl; omega; (focus (have := hok.cap; omega; done)))) (c := ?_)) | (refine D3 13 (DW (b := by first | ((with_reducible apply v_slice_hi (ps.length - kk)); exact rfl; exact rfl; exact rfl; exact rfl; omega; (focus (have := hok.cap; omega; done)))) (c := ?_))) | refine DD 13 ?_ | fail)
      all_goals (first | refine D1 14 ?_ | (refine DV (k := 14) (b := by first | ((with_reducible apply v_slice_hi (ps.length - kk)); exact rfl; exact rfl; exact rfl; exact rfl; omega; (focus (have := hok.cap; omega; done)))) (c := ?_)) | refine DD 14 ?_ | fail)
      all_goals (first | refine D1 15 ?_ | (refine DV (k := 15) (b := by first | ((with_reducible apply v_slice_hi (ps.length - kk)); exact rfl; exact rfl; exact rfl; exact rfl; omega; (focus (have := hok.cap; omega; done)))) (c := ?_)) | (refine D3 15 (DW (b := by first | ((with_reducible apply v_slice_hi (ps.length - kk)); exact rfl; exact rfl; exact rfl; exact rfl; omega; (focus (have := hok.cap; omega; done)))) (c := ?_))) | refine DD 15 ?_ | fail)
      all_goals refine DD 16 ?_
      all_goals refine DD 17 ?_
      all_goals (first | (refine D3 18 ?_; refine D5 ?_; refine NB fun b => ?_; refine D9 ?_))
      all_goals (first | (refine D3 19 ?_; refine D5 ?_; (first | ((with_reducible apply g_ap); exact rfl; exact rfl; exact rfl; (repeat first | with_reducible exact rowup_hd | with_reducible apply rowup_tl); (iterate 6 exact rfl); (first | ((with_reducible apply src_in); exact rfl; (repeat first | with_reducible exact inb_hd | with_reducible apply inb_tl); exact rfl)); (first | exact rfl | omega | simp); (first | assumption | (exact ones_mem (by (repeat first | with_reducible exact ones_nil | ((with_reducible apply ones_cons); (first | exact rfl | assumption))))) | simp [Value.oneCell']); omega; omega; intro v) | ((with_reducible apply g_append0); (iterate 9 exact rfl); (first | ((with_reducible apply src_in); exact rfl; (repeat first | with_reducible exact inb_hd | with_reducible apply inb_tl); exact rfl)); (first | exact rfl | omega | simp); (first | assumption | (exact ones_mem (by (repeat first | with_reducible exact ones_nil | ((with_reducible apply ones_cons); (first | exact rfl | assumption))))) | simp [Value.oneCell']); omega; omega; intro v)); refine D9 ?_))
      all_goals refine DD 20 ?_
      all_goals refine D8 ?_
    all_goals repeat' (first | refine KK ?_ | refine NB fun b => ?_ | (refine KB ?_ ?_ <;> intro hp) | refine KG ?_ | fail)
    all_goals
      refine gq_back (k + 1, ps.take (ps.length - kk) ++ [(T.mk y.op y.at' y.n y.m y.s ((ps.drop (ps.length - kk)).map (·.1)), .slice A2 (ps.length - (ps.length - kk)) c2)], μ2, v) ⟨by dsimp only; omega, hle.trans hle2, ?_, ?_, ?_, ?_, ?_⟩ (by dsimp only; omega) rfl PU ?_
      · intro p hp
        rcases List.mem_append.1 hp with hp | hp
        · exact (hkids p (List.mem_of_mem_take hp)).mono hle2
        · cases List.mem_singleton.1 hp
          exact hkr
      · dsimp only
        rw [sizes_append, size_mk]
        have : sizes ps = sizes (ps.take (ps.length - kk)) + sizes (ps.drop (ps.length - kk)) := by rw [← sizes_append, List.take_append_drop]
        omega
      · simp; omega
      · intro p hp
        rcases List.mem_append.1 hp with hp | hp
        · exact hall0 p (List.mem_of_mem_take hp)
        · cases List.mem_singleton.1 hp
          refine AllT.node ⟨y.k, by cases y; exact hq _ (List.mem_of_getElem? hy)⟩ (fun t ht => ?_)
          obtain ⟨p2, hp2, rfl⟩ := List.mem_map.1 ht
          exact hall0 p2 (List.mem_of_mem_drop hp2)
      · dsimp only
        rw [wsumP_append, wsum_mk, List.take_add_one, hy, List.map_append, List.sum_append]
        have : wsumP gw ps = wsumP gw (ps.take (ps.length - kk)) + wsumP gw (ps.drop (ps.length - kk)) := by rw [← wsumP_append, List.take_append_drop]
        simp only [Option.toList_some, List.map_cons, List.map_nil, List.sum_cons, List.sum_nil, Nat.add_zero]
        omega
      · dsimp only
        rw [flat_takes encTV_len, show (ps.take (ps.length - kk) ++ [(T.mk y.op y.at' y.n y.m y.s ((ps.drop (ps.length - kk)).map (·.1)), Value.slice A2 (ps.length - (ps.length - kk)) c2)]).length = ps.length - kk + 1 by simp, List.flatMap_append]
        exact (by repeat first | exact List.Sublist.refl _ | exact List.nil_sublist _ | refine List.Sublist.cons_cons _ ?_ | refine List.Sublist.cons _ ?_)
  · by_cases hps : ps.length = 0
    · repeat' (first | refine KK ?_ | refine NB fun b => ?_ | (refine KB ?_ ?_ <;> intro hp) | refine KG ?_ | fail)
      exact ret_m1 rfl (RG 1 rfl rfl rfl rfl rfl) (fun μ' hle' hL => ⟨T.zero, ⟨_, rfl, KR.nil _ _ _⟩, by rw [T.size_eq]; simp [T.zero, T.kids], AllT.node ⟨0, hq0⟩ (fun t ht => by cases ht), by rw [wsum_eq]; simp [T.zero, T.kids, T.s]⟩)
    · obtain ⟨p, hp⟩ : ∃ p, ps[ps.length - 1]? = some p := ⟨ps[ps.length - 1], List.getElem?_eq_getElem (by omega)⟩
      have hcell := flat_get encTV_len hp
      rcases hok.form with ⟨rfl, h0, _⟩ | ⟨g, rfl⟩
      · exact absurd h0 hps
      have hkp := hkids p (List.mem_of_getElem? hp)
      have hone := hkp.one
      have hall : (encTV p).all (·.oneCell') = true := by simp only [List.all_cons, List.all_nil, Bool.and_true, Bool.and_eq_true]; exact ⟨rfl, rfl, rfl, rfl, rfl, hone⟩
      repeat' (first | ((with_reducible apply g_storeS_1); exact rfl; exact rfl; exact rfl; exact rfl; exact rfl; exact hall; exact rfl; (repeat first | with_reducible exact pc_nil | with_reducible apply pc_cons)) | refine KO ?_ | (refine KV (b := by first | exact U1 (ps.length - 1) | ((with_reducible apply v_load_rows 0 (vs := encTV p)); exact rfl; exact rfl; exact rfl; exact rfl; exact rfl; exact hcell)) (c := ?_)) | refine KI ?_ | refine NB fun b => ?_ | (refine KB ?_ ?_ <;> intro hp) | refine KG ?_ | fail)
      refine ret_m1 rfl (RG 1 rfl rfl rfl rfl rfl) (fun μ' hle' hL => ⟨p.1, ⟨p.2, rfl, hkp.mono hle'⟩, ?_, hall0 p (List.mem_of_getElem? hp), ?_⟩)
      rotate_left
      · have h2 := T.sum_mem (List.mem_map.2 ⟨p, List.mem_of_getElem? hp, rfl⟩ : wsum gw p.1 ∈ ps.map fun p => wsum gw p.1)
        have e2 : (ps.map fun p => wsum gw p.1).sum = wsumP gw ps := rfl
        have h3 : k = n := by omega
        rw [List.take_of_length_le (by rw [hc.1]; omega)] at hws
        omega
      have := T.sum_mem (List.mem_map.2 ⟨p, List.mem_of_getElem? hp, rfl⟩ : p.1.size ∈ ps.map fun p => p.1.size)
      have e : (ps.map fun p => p.1.size).sum = sizes ps := rfl
      omega
end
end Go.Proofs.YtoclmkdfcafhfaaGreatDoor
namespace Go.Proofs.YtoclmkdfcafhfaaGreatDoor.Iq
open Go.Vcg
def inI (n lo hi : Int) : Bool := decide (lo ≤ n) && decide (n ≤ hi)
def isE (op : Int) : Bool := decide (100 ≤ op) && (decide (op < 148) && (decide (op ≠ 121) && (decide (op ≠ 122) && decide (op ≠ 124))))
def isS (op : Int) : Bool := decide (160 ≤ op) && decide (op < 173)
def fitB (sign : UInt8) (op : Int) : Bool :=
  if sign = 115 then isS op else if sign = 112 then decide (op = 121) || decide (op = 122) else if sign = 97 then isE op || decide (op = 124) else if sign = 98 then isE op || isS op else isE op
def kidsB : List UInt8 → List Int → Bool
  | [], l => l.isEmpty
  | [c], l => match l with
    | [] => false
    | x :: l' => fitB c x && l'.isEmpty
  | c :: d :: r, l => if d = 42 then (l.take (l.length - r.length)).all (fitB c) && kidsB r (l.drop (l.length - r.length)) else match l with
    | [] => false
    | x :: l' => fitB c x && kidsB (d :: r) l'
def wordsB : List UInt8 → List UInt8 → List (List UInt8)
  | [], acc => [acc]
  | c :: r, acc => if c = 32 then acc :: wordsB r [] else wordsB r (acc ++ [c])
def idStart (c : UInt8) : Bool := (decide (97 ≤ c.toNat) && decide (c.toNat ≤ 122)) || ((decide (65 ≤ c.toNat) && decide (c.toNat ≤ 90)) || (decide (c.toNat = 95) || decide (c.toNat = 36)))
def idPart (c : UInt8) : Bool := idStart c || (decide (48 ≤ c.toNat) && decide (c.toNat ≤ 57))
def formB : List UInt8 → Bool
  | [] => false
  | c :: r => idStart c && r.all idPart
def unW : List (List UInt8) := wordsB [45, 32, 43, 32, 33, 32, 126, 32, 118, 111, 105, 100] []
def binW : List (List UInt8) := wordsB [124, 32, 94, 32, 38, 32, 61, 61, 32, 33, 61, 32, 61, 61, 61, 32, 33, 61, 61, 32, 60, 32, 62, 32, 60, 61, 32, 62, 61, 32, 105, 110, 115, 116, 97, 110, 99, 101, 111, 102, 32, 105, 110, 32, 60, 60, 32, 62, 62, 32, 43, 32, 45, 32, 42, 32, 47, 32, 37] []
def logW : List (List UInt8) := wordsB [38, 38, 32, 124, 124, 32, 63, 63] []
def textB (op : Int) (s : List UInt8) : Bool :=
  if op = 105 then decide (s.length ≤ 65536) else if op = 111 ∨ op = 112 ∨ op = 113 ∨ op = 114 then formB s else if op = 132 then unW.contains s else if op = 133 then binW.contains s else if op = 134 then logW.contains s else s.isEmpty
def moreB (op m : Int) : Bool := if op = 109 ∨ op = 110 then true else if op = 129 then inI m 0 1 else if op = 163 then inI m 0 4096 else decide (m = 0)
def numbB (op n loc funcs : Int) : Bool :=
  if op = 102 ∨ op = 126 ∨ op = 127 ∨ op = 144 ∨ op = 114 then inI n 0 1 else if op = 103 then inI n (-9007199254740992) 9007199254740992 else if op = 107 ∨ op = 108 ∨ op = 169 then inI n 0 (loc - 1)
  else if op = 109 ∨ op = 110 ∨ op = 165 ∨ op = 166 then true else if op = 117 then inI n (-1) 1024 else if op = 118 then inI n 0 1024 else if op = 119 then inI n 1 (funcs - 1) else if op = 121 then inI n 0 2
  else if op = 163 ∨ op = 164 ∨ op = 170 then inI n 0 4096 else decide (n = 0)
def argsB (op m : Int) (kids : List Int) : Bool :=
  if op = 129 then !(decide (m = 1) && (decide (kids.length < 2) || decide (kids[1]? = some 124))) && decide ((kids.length : Int) - 1 - m ≤ 1024)
  else if op = 131 then decide ((kids.length : Int) - 1 ≤ 1024) else if op = 130 then decide ((kids.length : Int) - 2 ≤ 1024) else true
structure PlP where
  (slots breaks agains : List Int) (inSc : Bool)
structure CkS where
  (met : List Bool) (slots : List (List Int)) (next : List Int)
abbrev Fns := List (Int × Int)
def kindOf (fs : Fns) (f : Int) : Int := (fs.getD f.toNat (0, 0)).1
def locOf (fs : Fns) (f : Int) : Int := (fs.getD f.toNat (0, 0)).2
def genB (k : Int) : Bool := decide (k / 4 % 2 = 1)
def standsF (fs : Fns) (f : Int) (op n m : Int) (p : PlP) (c : CkS) : CkS × Bool :=
  if op = 109 ∨ op = 110 then (c, inI n 0 ((p.slots.length : Int) - 1) && inI m 0 (p.slots.getD n.toNat 0 - 1))
  else if op = 119 then
    let c' : CkS := if c.met.getD n.toNat false = true then c else ⟨c.met.set n.toNat true, c.slots.set n.toNat p.slots, c.next ++ [n]⟩
    (c', decide (c'.slots.getD n.toNat [] = p.slots))
  else if op = 137 ∨ op = 138 then (c, genB (kindOf fs f))
  else if op = 165 then (c, p.breaks.contains n) else if op = 166 then (c, p.agains.contains n) else if op = 171 then (c, p.inSc) else (c, true)
section
variable (row : Int → List UInt8 × List UInt8) (fs : Fns)
def shapeB (t : T) (f : Int) (deep : Int) : Bool :=
  decide (deep ≤ 2048) && (!(row t.op).1.isEmpty && (kidsB (row t.op).2 (t.kids.map T.op) && (textB t.op t.s.data.toList && (moreB t.op t.m && (numbB t.op t.n (locOf fs f) fs.length && argsB t.op t.m (t.kids.map T.op))))))
def inside (op n : Int) (p : PlP) : PlP := if op = 164 then { p with breaks := p.breaks ++ [n] } else if op = 170 then { p with slots := n :: p.slots, inSc := true } else p
def atKid (op n m : Int) (p : PlP) (i : Nat) : PlP := if op = 163 ∧ i = 1 then { p with breaks := p.breaks ++ [n], agains := p.agains ++ [m] } else p
mutual
def nodeF (f : Int) (t : T) (p : PlP) (deep : Int) (c : CkS) : CkS × Bool := match t with
  | .mk op at' n m s kids =>
    if shapeB row fs (.mk op at' n m s kids) f deep = true then
      let r := standsF fs f op n m p c
      if r.2 = true then kidsF f op n m (inside op n p) deep kids 0 r.1 else (r.1, false)
    else (c, false)
def kidsF (f : Int) (op n m : Int) (p : PlP) (deep : Int) (kids : List T) (i : Nat) (c : CkS) : CkS × Bool := match kids with
  | [] => (c, true)
  | k :: r =>
    let q := nodeF f k (atKid op n m p i) (deep + 1) c
    if q.2 = true then kidsF f op n m p deep r (i + 1) q.1 else (q.1, false)
end
def queueF (bodies : List T) : Nat → CkS → CkS × Bool
  | 0, c => (c, c.next.isEmpty)
  | g + 1, c => match c.next with
    | [] => (c, true)
    | f :: r =>
      let body := bodies.getD f.toNat (.mk 0 0 0 0 ⟨#[]⟩ [])
      if isS body.op = true then
        let q := nodeF row fs f body ⟨c.slots.getD f.toNat [], [], [], false⟩ 1 { c with next := r }
        if q.2 = true then queueF bodies g q.1 else (q.1, false)
      else ({ c with next := r }, false)
def fromF (bodies : List T) (f : Nat) (c : CkS) : CkS × Bool := queueF row fs bodies (bodies.length + 1) { c with met := c.met.set f true, next := [(f : Int)] }
def allF (bodies : List T) : List Nat → CkS → Bool
  | [], _ => true
  | f :: r, c => if c.met.getD f false = true then allF bodies r c else
    let q := fromF row fs bodies f c
    if q.2 = true then allF bodies r q.1 else false
end
end Go.Proofs.YtoclmkdfcafhfaaGreatDoor.Iq
namespace Go.Proofs.YtoclmkdfcafhfaaGreatDoor.Ou
section
open Go
def byS (s : ByteArray) : List UInt8 := s.data.toList
theorem byS_inj {s t : ByteArray} (h : byS s = byS t) : s = t := by
  cases s; cases t
  simp only [byS, Array.toList_inj] at h
  rw [h]
structure KeyP where
  (kind n : Int) (s : ByteArray)
structure EvP where
  (kind : Int) (key : KeyP) (s : ByteArray)
structure OutP where
  (e at_ fin : Int) (text : ByteArray) (out : List ByteArray) (log : List EvP) (steps made : Int)
def hexT : List UInt8 := [48, 49, 50, 51, 52, 53, 54, 55, 56, 57, 97, 98, 99, 100, 101, 102]
def q1 (c : UInt8) : List UInt8 :=
  if c = 10 then [92, 110] else if c = 9 then [92, 116] else if c = 13 then [92, 114] else if c = 0 then [92, 48]
  else if c = 34 ∨ c = 92 then [92, c] else if c.toNat < 32 ∨ 126 < c.toNat then [92, 120, hexT.getD (c.toNat / 16) 0, hexT.getD (c.toNat % 16) 0] else [c]
def quoteB (l : List UInt8) : List UInt8 := 34 :: (l.flatMap q1 ++ [34])
def errT : List (Int × List UInt8) := [(0, [111, 107]), (1, [97, 114, 103]), (2, [114, 97, 110, 103, 101]), (3, [110, 111, 110, 101]), (4, [116, 119, 105, 99, 101]), (5, [102, 117, 108, 108]), (6, [115, 116, 97, 116, 101]), (7, [102, 111, 114, 109]), (8, [101, 110, 100]), (9, [108, 111, 110, 103]), (10, [100, 101, 101, 112]), (20, [99, 104, 97, 114]), (21, [101, 115, 99, 97, 112, 101]), (22, [116, 111, 107, 101, 110]), (23, [115, 121, 110, 116, 97, 120]), (24, [116, 97, 114, 103, 101, 116]), (30, [97, 103, 97, 105, 110]), (31, [108, 97, 98, 101, 108]), (32, [98, 114, 101, 97, 107]), (33, [114, 101, 116, 117, 114, 110]), (34, [121, 105, 101, 108, 100]), (35, [115, 116, 114, 105, 99, 116]), (36, [99, 111, 110, 115, 116]), (40, [111, 112]), (41, [114, 101, 103]), (42, [106, 117, 109, 112]), (43, [112, 111, 111, 108]), (44, [103, 117, 97, 114, 100]), (50, [114, 101, 102]), (51, [107, 105, 110, 100])]
def endT : List (Int × List UInt8) := [(0, [110, 111, 114, 109, 97, 108]), (1, [116, 104, 114, 111, 119]), (6, [115, 116, 111, 112])]
def evT : List (List UInt8) := [[112, 114, 105, 110, 116], [103, 101, 116], [115, 101, 116], [104, 97, 115], [100, 101, 108, 101, 116, 101], [100, 101, 102, 105, 110, 101], [107, 101, 121, 115], [99, 97, 108, 108], [110, 101, 119], [116, 104, 114, 111, 119], [121, 105, 101, 108, 100], [106, 111, 98], [102, 105, 110, 97, 108]]
def tabB : List (Int × List UInt8) → Int → List UInt8
  | [], _ => []
  | (k, v) :: r, n => if n = k then v else tabB r n
def errB (e : Int) : List UInt8 := tabB errT e
def endB (e : Int) : List UInt8 := tabB endT e
def evB (k : Int) : List UInt8 := evT.getD (k - 1).toNat []
def inB (n : Int) : Prop := 0 ≤ n ∧ n ≤ 9007199254740992
def keyB (k : KeyP) : List UInt8 := if k.kind = 0 then [105, 110, 100, 101, 120, 32] ++ Lib.itoa k.n else if k.kind = 1 then [116, 101, 120, 116, 32] ++ quoteB (byS k.s) else [115, 121, 109, 98, 111, 108, 32] ++ Lib.itoa k.n
def evLine (e : EvP) : List UInt8 := [101, 118, 101, 110, 116, 32] ++ (evB e.kind ++ 32 :: (keyB e.key ++ 32 :: quoteB (byS e.s)))
def outLine (s : ByteArray) : List UInt8 := [111, 117, 116, 32] ++ quoteB (byS s)
def linesB (o : OutP) : List (List UInt8) :=
  if o.e ≠ 0 then [[101, 114, 114, 111, 114, 32] ++ (errB o.e ++ 32 :: Lib.itoa o.at_)]
  else ([101, 110, 100, 115, 32] ++ (endB o.fin ++ 32 :: quoteB (byS o.text))) :: ([115, 116, 101, 112, 115, 32] ++ Lib.itoa o.steps) :: ([109, 97, 100, 101, 32] ++ Lib.itoa o.made) :: (o.out.map outLine ++ o.log.map evLine)
def textB (o : OutP) : List UInt8 := (linesB o).flatMap (· ++ [10])
def Fr (c : UInt8) (l : List UInt8) : Prop := c ∉ l
theorem fr_app {c : UInt8} {a b : List UInt8} (ha : Fr c a) (hb : Fr c b) : Fr c (a ++ b) := fun h => (List.mem_append.1 h).elim ha hb
theorem fr_cons {c x : UInt8} {b : List UInt8} (hx : c ≠ x) (hb : Fr c b) : Fr c (x :: b) := fun h => (List.mem_cons.1 h).elim hx hb
theorem cut_inj {c : UInt8} : ∀ {x y u v : List UInt8}, Fr c x → Fr c y → x ++ c :: u = y ++ c :: v → x = y ∧ u = v
  | [], [], u, v, _, _, h => ⟨rfl, (List.cons.inj h).2⟩
  | [], b :: y, u, v, _, hy, h => absurd (List.mem_cons.2 (.inl (List.cons.inj h).1)) hy
  | a :: x, [], u, v, hx, _, h => absurd (List.mem_cons.2 (.inl (List.cons.inj h).1.symm)) hx
  | a :: x, b :: y, u, v, hx, hy, h => by
    obtain ⟨h1, h2⟩ := List.cons.inj h
    obtain ⟨h3, h4⟩ := cut_inj (fun hh => hx (List.mem_cons_of_mem _ hh)) (fun hh => hy (List.mem_cons_of_mem _ hh)) h2
    exact ⟨by rw [h1, h3], h4⟩
theorem dec_dig : ∀ (n : Nat), ∀ c ∈ Lib.decDigits n, 48 ≤ c.toNat ∧ c.toNat ≤ 57 := by
  intro n
  induction n using Nat.strongRecOn with
  | _ n ih =>
    rw [Lib.decDigits]
    intro c hc
    have hd : ∀ d, d < 10 → (UInt8.ofNat (48 + d)).toNat = 48 + d := fun d hd => by
      rw [UInt8.toNat_ofNat']
      omega
    by_cases h : n < 10
    · rw [dif_pos h, List.mem_singleton] at hc
      rw [hc, hd _ h]
      omega
    · rw [dif_neg h, List.mem_append, List.mem_singleton] at hc
      rcases hc with hc | hc
      · exact ih (n / 10) (by omega) c hc
      · rw [hc, hd _ (by omega)]
        omega
theorem itoa_dig (n : Int) : ∀ c ∈ Lib.itoa n, c.toNat = 45 ∨ 48 ≤ c.toNat ∧ c.toNat ≤ 57 := by
  intro c hc
  unfold Lib.itoa at hc
  split at hc
  · rcases List.mem_cons.1 hc with rfl | hc
    · exact .inl rfl
    · exact .inr (dec_dig _ _ hc)
  · exact .inr (dec_dig _ _ hc)
theorem itoa_fr (n : Int) {c : UInt8} (h : c.toNat < 45) : Fr c (Lib.itoa n) := fun hc => by
  have := itoa_dig n c hc
  omega
def dvalB (l : List UInt8) : Nat := l.foldl (fun a c => 10 * a + (c.toNat - 48)) 0
theorem dval_dec : ∀ n : Nat, dvalB (Lib.decDigits n) = n := by
  intro n
  induction n using Nat.strongRecOn with
  | _ n ih =>
    rw [Lib.decDigits]
    have hd : ∀ d, d < 10 → (UInt8.ofNat (48 + d)).toNat = 48 + d := fun d hd => by
      rw [UInt8.toNat_ofNat']
      omega
    by_cases h : n < 10
    · rw [dif_pos h]
      simp only [dvalB, List.foldl_cons, List.foldl_nil]
      rw [hd _ h]
      omega
    · rw [dif_neg h]
      have := ih (n / 10) (by omega)
      unfold dvalB at this ⊢
      rw [List.foldl_append, this]
      simp only [List.foldl_cons, List.foldl_nil]
      rw [hd _ (by omega)]
      omega
theorem all256 {p : UInt8 → Bool} (h : (List.range 256).all (fun n => p (UInt8.ofNat n)) = true) (c : UInt8) : p c = true := by
  have h1 := List.all_eq_true.1 h c.toNat (List.mem_range.2 c.toNat_lt)
  have h2 : UInt8.ofNat c.toNat = c := UInt8.toNat_inj.1 (by rw [UInt8.toNat_ofNat']; exact Nat.mod_eq_of_lt c.toNat_lt)
  rwa [h2] at h1
theorem q1_clean (c : UInt8) : (q1 c).all (fun x => decide (32 ≤ x.toNat)) = true := all256 (p := fun c => (q1 c).all (fun x => decide (32 ≤ x.toNat))) (by decide +kernel) c
theorem quote_fr {c : UInt8} (h : c.toNat < 32) (l : List UInt8) : Fr c (quoteB l) := by
  have h34 : c ≠ 34 := fun e => by rw [e] at h; exact absurd h (by decide)
  refine fr_cons h34 (fr_app (fun hc => ?_) (fr_cons h34 (List.not_mem_nil)))
  obtain ⟨x, _, hx⟩ := List.mem_flatMap.1 hc
  have := of_decide_eq_true (List.all_eq_true.1 (q1_clean x) c hx)
  omega
end
section
open Go
def ofB (l : List UInt8) : ByteArray := ⟨l.toArray⟩
theorem byS_ofB (l : List UInt8) : byS (ofB l) = l := by simp [byS, ofB]
theorem ofB_byS (s : ByteArray) : ofB (byS s) = s := byS_inj (byS_ofB _)
def cutB (c : UInt8) : List UInt8 → Option (List UInt8 × List UInt8)
  | [] => none
  | x :: r => if x = c then some ([], r) else (cutB c r).map fun p => (x :: p.1, p.2)
theorem cutB_some {c : UInt8} : ∀ {l a b : List UInt8}, cutB c l = some (a, b) → l = a ++ c :: b ∧ Fr c a
  | [], a, b, h => by cases h
  | x :: r, a, b, h => by
    unfold cutB at h
    split at h
    · rename_i hx
      cases h
      rw [hx]
      exact ⟨rfl, List.not_mem_nil⟩
    · rename_i hx
      cases hc : cutB c r with
      | none => rw [hc] at h; cases h
      | some p =>
        obtain ⟨p1, p2⟩ := p
        rw [hc] at h
        cases h
        obtain ⟨h1, h2⟩ := cutB_some hc
        exact ⟨by rw [h1]; rfl, fr_cons (fun e => hx e.symm) h2⟩
theorem cutB_app {c : UInt8} : ∀ {a b : List UInt8}, Fr c a → cutB c (a ++ c :: b) = some (a, b)
  | [], b, _ => by rw [List.nil_append, cutB, if_pos rfl]
  | x :: a, b, h => by
    rw [List.cons_append, cutB, if_neg (fun e => h (by rw [e]; exact List.mem_cons_self ..)), cutB_app (fun hh => h (List.mem_cons_of_mem _ hh))]
    rfl
def numB (l : List UInt8) : Option Int := if ((dvalB l : Nat) : Int) ≤ 9007199254740992 ∧ Lib.itoa (dvalB l) = l then some (dvalB l) else none
theorem numB_some {l : List UInt8} {n : Int} (h : numB l = some n) : inB n ∧ Lib.itoa n = l := by
  unfold numB at h
  split at h
  · rename_i hc
    cases h
    exact ⟨⟨by omega, hc.1⟩, hc.2⟩
  · cases h
theorem numB_itoa {n : Int} (h : inB n) : numB (Lib.itoa n) = some n := by
  have hd : ((dvalB (Lib.itoa n) : Nat) : Int) = n := by
    unfold Lib.itoa
    rw [if_neg (by have := h.1; omega), dval_dec]
    have := h.1
    omega
  unfold numB
  rw [hd, if_pos ⟨h.2, rfl⟩]
def hexV (c : UInt8) : Option Nat := if 48 ≤ c.toNat ∧ c.toNat ≤ 57 then some (c.toNat - 48) else if 97 ≤ c.toNat ∧ c.toNat ≤ 102 then some (c.toNat - 87) else if 65 ≤ c.toNat ∧ c.toNat ≤ 70 then some (c.toNat - 55) else none
def hex2 : List UInt8 → Except Int (UInt8 × List UInt8)
  | [] => .error 8
  | a :: r => match hexV a with
    | none => .error 21
    | some x => match r with
      | [] => .error 8
      | b :: r => match hexV b with
        | none => .error 21
        | some y => .ok (UInt8.ofNat (16 * x + y), r)
def escB : List UInt8 → Except Int (UInt8 × List UInt8)
  | [] => .error 8
  | c :: r => if c = 110 then .ok (10, r) else if c = 116 then .ok (9, r) else if c = 114 then .ok (13, r) else if c = 48 then .ok (0, r)
    else if c = 92 ∨ c = 39 ∨ c = 34 ∨ c = 96 ∨ c = 36 then .ok (c, r) else if c = 120 then hex2 r else .error 21
def oneB (c : UInt8) (r : List UInt8) : Except Int (UInt8 × List UInt8) := if c = 92 then escB r else .ok (c, r)
def litB (q : UInt8) : Nat → List UInt8 → List UInt8 → Except Int (List UInt8 × List UInt8)
  | 0, _, _ => .error 8
  | _ + 1, [], _ => .error 8
  | f + 1, c :: r, out => if c = q then .ok (out, r) else if c = 10 ∨ c = 13 then .error 22 else match oneB c r with
    | .error e => .error e
    | .ok (b, r') => if 65536 < out.length + 1 then .error 9 else litB q f r' (out ++ [b])
def readL (l : List UInt8) : Except Int (List UInt8 × List UInt8) := match l with
  | [] => .error 1
  | q :: r => if q = 34 ∨ q = 39 then litB q (r.length + 1) r [] else .error 1
theorem oneB_q1 (c : UInt8) (r : List UInt8) : ∃ x y, q1 c ++ r = x :: y ∧ x ≠ 34 ∧ x ≠ 10 ∧ x ≠ 13 ∧ oneB x y = .ok (c, r) ∧ r.length ≤ y.length := by
  have hh : ∀ d, d < 16 → hexV (hexT.getD d 0) = some d := by decide +kernel
  unfold q1
  split
  · rename_i h; subst h; exact ⟨92, 110 :: r, rfl, by decide, by decide, by decide, rfl, by simp⟩
  split
  · rename_i h; subst h; exact ⟨92, 116 :: r, rfl, by decide, by decide, by decide, rfl, by simp⟩
  split
  · rename_i h; subst h; exact ⟨92, 114 :: r, rfl, by decide, by decide, by decide, rfl, by simp⟩
  split
  · rename_i h; subst h; exact ⟨92, 48 :: r, rfl, by decide, by decide, by decide, rfl, by simp⟩
  split
  · rename_i h
    refine ⟨92, c :: r, rfl, by decide, by decide, by decide, ?_, by simp⟩
    rcases h with h | h <;> subst h <;> rfl
  split
  · have := c.toNat_lt
    refine ⟨92, 120 :: hexT.getD (c.toNat / 16) 0 :: hexT.getD (c.toNat % 16) 0 :: r, rfl, by decide, by decide, by decide, ?_, by simp; omega⟩
    show hex2 (hexT.getD (c.toNat / 16) 0 :: hexT.getD (c.toNat % 16) 0 :: r) = _
    unfold hex2
    dsimp only
    rw [hh _ (by omega)]
    dsimp only
    rw [hh _ (by omega)]
    dsimp only
    congr 2
    rw [← UInt8.toNat_inj, UInt8.toNat_ofNat']
    omega
  · rename_i h1 h2 h3 h4 h5 h6
    rw [not_or] at h5
    exact ⟨c, r, rfl, h5.1, h1, h3, by unfold oneB; rw [if_neg h5.2], Nat.le_refl _⟩
theorem litB_quote : ∀ (t u out : List UInt8) (f : Nat), (t.flatMap q1 ++ 34 :: u).length < f → out.length + t.length ≤ 65536 → litB 34 f (t.flatMap q1 ++ 34 :: u) out = .ok (out ++ t, u)
  | [], u, out, f, hf, _ => by
    cases f with
    | zero => omega
    | succ f => rw [List.flatMap_nil, List.nil_append, litB, if_pos rfl, List.append_nil]
  | c :: t, u, out, f, hf, hl => by
    cases f with
    | zero => omega
    | succ f =>
      obtain ⟨x, y, h1, h2, h3, h4, h5, h6⟩ := oneB_q1 c (t.flatMap q1 ++ 34 :: u)
      rw [List.length_cons] at hl
      rw [List.flatMap_cons, List.append_assoc, h1] at hf ⊢
      rw [List.length_cons] at hf
      rw [litB, if_neg h2, if_neg (by rintro (h | h); exact h3 h; exact h4 h), h5]
      dsimp only
      rw [if_neg (by omega), litB_quote t u (out ++ [c]) f (by omega) (by simp; omega), List.append_assoc]
      rfl
theorem readL_quote (t u : List UInt8) (h : t.length ≤ 65536) : readL (quoteB t ++ u) = .ok (t, u) := by
  unfold quoteB
  rw [List.cons_append, List.append_assoc]
  unfold readL
  dsimp only
  rw [if_pos (.inl rfl)]
  exact (litB_quote t u [] _ (by simp) (by simpa using h))
theorem litB_len {q : UInt8} : ∀ (f : Nat) (l out t u : List UInt8), out.length ≤ 65536 → litB q f l out = .ok (t, u) → t.length ≤ 65536
  | 0, _, _, _, _, _, h => by cases h
  | _ + 1, [], _, _, _, _, h => by cases h
  | f + 1, c :: r, out, t, u, ho, h => by
    unfold litB at h
    split at h
    · cases h; exact ho
    split at h
    · cases h
    split at h
    · cases h
    · split at h
      · cases h
      · exact litB_len f _ _ t u (by simp; omega) h
def quotedB (l : List UInt8) : Option (List UInt8 × List UInt8) := match readL l with
  | .error _ => none
  | .ok (t, u) => if quoteB t ++ u = l then some (t, u) else none
theorem quotedB_some {l t u : List UInt8} (h : quotedB l = some (t, u)) : quoteB t ++ u = l ∧ t.length ≤ 65536 := by
  unfold quotedB at h
  split at h
  · cases h
  · rename_i t' u' hr
    split at h
    · rename_i hq
      cases h
      refine ⟨hq, ?_⟩
      unfold readL at hr
      split at hr
      · cases hr
      · split at hr
        · exact litB_len _ _ _ _ _ (by simp) hr
        · cases hr
    · cases h
def lastB (l : List UInt8) : Option (List UInt8) := match quotedB l with
  | some (t, []) => some t
  | _ => none
theorem lastB_some {l t : List UInt8} (h : lastB l = some t) : l = quoteB t := by
  unfold lastB at h
  split at h
  · rename_i t' hq
    cases h
    rw [← (quotedB_some hq).1, List.append_nil]
  · cases h
def findB : List (Int × List UInt8) → List UInt8 → Option Int
  | [], _ => none
  | (k, v) :: r, l => if v = l then some k else findB r l
theorem findB_some : ∀ {t : List (Int × List UInt8)} {l : List UInt8} {k : Int}, findB t l = some k → (k, l) ∈ t
  | (k', v) :: r, l, k, h => by
    unfold findB at h
    split at h
    · rename_i hv
      cases h
      rw [hv]
      exact List.mem_cons_self ..
    · exact List.mem_cons_of_mem _ (findB_some h)
def evT' : List (Int × List UInt8) := (List.range 13).map fun (i : Nat) => ((i : Int) + 1, evT.getD i [])
theorem ev_of {l : List UInt8} {k : Int} (h : findB evT' l = some k) : evB k = l ∧ 1 ≤ k ∧ k ≤ 13 := by
  have hm := findB_some h
  have key : ∀ x ∈ evT', evB x.1 = x.2 ∧ 1 ≤ x.1 ∧ x.1 ≤ 13 := by decide +kernel
  exact key _ hm
section
variable (R : KeyP → Bool)
def Shaped : Prop := ∀ k : KeyP, R k = true → (k.kind = 0 ∧ k.s = ⟨#[]⟩ ∨ k.kind = 1 ∧ k.n = 0 ∨ k.kind = 2 ∧ k.s = ⟨#[]⟩)
variable {R}
theorem cut_count {s l u : List UInt8} (h : cutB 10 s = some (l, u)) : s.count 10 = u.count 10 + 1 := by
  obtain ⟨h1, h2⟩ := cutB_some h
  rw [h1, List.count_append, List.count_eq_zero.2 h2]
  simp
end
end
end Go.Proofs.YtoclmkdfcafhfaaGreatDoor.Ou
namespace Go.Proofs.YtoclmkdfcafhfaaGreatDoor.Iq
open Go Go.Proofs.YtoclmkdfcafhfaaGreatDoor.Ou
def numZ (w : List UInt8) : Option Int := match numB w with
  | some n => some n
  | none => if w.head? = some 45 then match numB w.tail with
      | some n => if n = 0 then none else some (-n)
      | none => none
    else none
theorem numZ_some {w : List UInt8} {n : Int} (h : numZ w = some n) : (-9007199254740992 ≤ n ∧ n ≤ 9007199254740992) ∧ Lib.itoa n = w := by
  unfold numZ at h
  split at h
  · rename_i m hm
    cases h
    obtain ⟨h1, h2⟩ := numB_some hm
    exact ⟨⟨by have := h1.1; omega, h1.2⟩, h2⟩
  · split at h
    · rename_i hh
      split at h
      · rename_i m hm
        obtain ⟨h1, h2⟩ := numB_some hm
        split at h
        · cases h
        · rename_i h0
          cases h
          have h3 := h1.1
          have h4 := h1.2
          refine ⟨⟨by omega, by omega⟩, ?_⟩
          unfold Lib.itoa at h2 ⊢
          rw [if_neg (by omega)] at h2
          rw [if_pos (by omega), show (-m).natAbs = m.toNat by omega, h2]
          cases w with
          | nil => cases hh
          | cons c r =>
            cases hh
            rfl
      · cases h
    · cases h
theorem dig_head (n : Nat) : (Lib.decDigits n).head? ≠ some 45 := fun h => by
  have := dec_dig n 45 (List.mem_of_mem_head? h)
  have h2 : (45 : UInt8).toNat = 45 := rfl
  omega
theorem numZ_itoa {n : Int} (h : -9007199254740992 ≤ n ∧ n ≤ 9007199254740992) : numZ (Lib.itoa n) = some n := by
  unfold numZ
  by_cases h0 : 0 ≤ n
  · rw [numB_itoa ⟨h0, h.2⟩]
  · have e : Lib.itoa n = 45 :: Lib.itoa (-n) := by
      unfold Lib.itoa
      rw [if_pos (by omega), if_neg (by omega), show n.natAbs = (-n).toNat by omega]
    have hn : numB (45 :: Lib.itoa (-n)) = none := by
      cases hb : numB (45 :: Lib.itoa (-n)) with
      | none => rfl
      | some m =>
        obtain ⟨h1, h2⟩ := numB_some hb
        exfalso
        unfold Lib.itoa at h2
        rw [if_neg (by have := h1.1; omega)] at h2
        exact dig_head m.toNat (by rw [h2]; rfl)
    rw [e, hn]
    dsimp only
    rw [if_pos (show (45 :: Lib.itoa (-n)).head? = some 45 from rfl), List.tail_cons, numB_itoa ⟨by omega, by omega⟩]
    dsimp only
    rw [if_neg (by omega), Int.neg_neg]
section
variable (row : Int → List UInt8 × List UInt8) (opOf : List UInt8 → Option Int)
def lineN (l : List UInt8) : Option (Int × Int × Int × Nat × List UInt8) := match cutB 32 l with
  | none => none
  | some (w0, r0) => match cutB 32 r0 with
    | none => none
    | some (w1, r1) => match cutB 32 r1 with
      | none => none
      | some (w2, r2) => match cutB 32 r2 with
        | none => none
        | some (w3, r3) => match opOf w0, numZ w1, numZ w2, numB w3, lastB r3 with
          | some op, some n, some m, some k, some s => if k ≤ 1048576 then some (op, n, m, k.toNat, s) else none
          | _, _, _, _, _ => none
def lineT (op n m : Int) (k : Nat) (s : List UInt8) : List UInt8 := (row op).1 ++ 32 :: (Lib.itoa n ++ 32 :: (Lib.itoa m ++ 32 :: (Lib.itoa k ++ 32 :: quoteB s)))
mutual
def nodeT : T → List UInt8
  | .mk op _ n m s kids => lineT row op n m kids.length (byS s) ++ 10 :: kidsT kids
def kidsT : List T → List UInt8
  | [] => []
  | k :: r => nodeT k ++ kidsT r
end
abbrev RdR (α : Type) := Except (Int × Int) (α × List UInt8 × Int)
mutual
def nodeR : Nat → Int → Int → List UInt8 → RdR T
  | 0, _, k, _ => .error (k, 0)
  | f + 1, deep, k, s => match cutB 10 s with
    | none => .error (k + 1, 8)
    | some (l, r) => match lineN opOf l with
      | none => .error (k + 1, 7)
      | some (op, n, m, c, t) => if 2048 < deep then .error (k + 1, 10) else match kidsR f deep c (k + 1) r with
        | .error e => .error e
        | .ok (ks, r', k') => .ok (.mk op 0 n m (ofB t) ks, r', k')
def kidsR : Nat → Int → Nat → Int → List UInt8 → RdR (List T)
  | 0, _, _, k, _ => .error (k, 0)
  | _ + 1, _, 0, k, s => .ok ([], s, k)
  | f + 1, deep, c + 1, k, s => match nodeR f (deep + 1) k s with
    | .error e => .error e
    | .ok (t, r, k') => match kidsR f deep c k' r with
      | .error e => .error e
      | .ok (ts, r', k'') => .ok (t :: ts, r', k'')
end
def RowOp : Prop := (∀ w op, opOf w = some op → (row op).1 = w) ∧ (∀ op, (row op).1 ≠ [] → opOf (row op).1 = some op) ∧ ∀ op, Fr 32 (row op).1 ∧ Fr 10 (row op).1
variable {row opOf}
theorem lineN_some (hR : RowOp row opOf) {l : List UInt8} {op n m : Int} {k : Nat} {s : List UInt8} (h : lineN opOf l = some (op, n, m, k, s)) :
    l = lineT row op n m k s ∧ (-9007199254740992 ≤ n ∧ n ≤ 9007199254740992) ∧ (-9007199254740992 ≤ m ∧ m ≤ 9007199254740992) ∧ k ≤ 1048576 := by
  unfold lineN at h
  split at h
  · cases h
  rename_i w0 r0 h0
  split at h
  · cases h
  rename_i w1 r1 h1
  split at h
  · cases h
  rename_i w2 r2 h2
  split at h
  · cases h
  rename_i w3 r3 h3
  split at h
  · rename_i op' n' m' k' s' e0 e1 e2 e3 e4
    split at h
    · rename_i hk
      simp only [Option.some.injEq, Prod.mk.injEq] at h
      obtain ⟨rfl, rfl, rfl, rfl, rfl⟩ := h
      obtain ⟨a1, a2⟩ := numZ_some e1
      obtain ⟨b1, b2⟩ := numZ_some e2
      obtain ⟨c1, c2⟩ := numB_some e3
      have d := lastB_some e4
      refine ⟨?_, a1, b1, by omega⟩
      unfold lineT
      rw [hR.1 _ _ e0, a2, b2, show ((k'.toNat : Nat) : Int) = k' by have := c1.1; omega, c2, ← d, (cutB_some h0).1, (cutB_some h1).1, (cutB_some h2).1, (cutB_some h3).1]
    · cases h
  · cases h
theorem itoa_fr32 (n : Int) : Fr 32 (Lib.itoa n) := itoa_fr n (by decide)
theorem lastB_quote {s : List UInt8} (h : s.length ≤ 65536) : lastB (quoteB s) = some s := by
  unfold lastB quotedB
  have := readL_quote s [] h
  rw [List.append_nil] at this
  rw [this]
  dsimp only
  rw [List.append_nil, if_pos rfl]
theorem lineN_line (hR : RowOp row opOf) {op n m : Int} {k : Nat} {s : List UInt8} (ho : (row op).1 ≠ []) (hn : -9007199254740992 ≤ n ∧ n ≤ 9007199254740992) (hm : -9007199254740992 ≤ m ∧ m ≤ 9007199254740992) (hk : k ≤ 1048576) (hs : s.length ≤ 65536) :
    lineN opOf (lineT row op n m k s) = some (op, n, m, k, s) := by
  unfold lineN lineT
  rw [cutB_app (hR.2.2 op).1]
  dsimp only
  rw [cutB_app (itoa_fr32 n)]
  dsimp only
  rw [cutB_app (itoa_fr32 m)]
  dsimp only
  rw [cutB_app (itoa_fr32 k)]
  dsimp only
  rw [hR.2.1 op ho, numZ_itoa hn, numZ_itoa hm, numB_itoa ⟨by omega, by omega⟩, lastB_quote hs]
  dsimp only
  rw [if_pos (by omega)]
  simp
theorem lineT_fr (hR : RowOp row opOf) (op n m : Int) (k : Nat) (s : List UInt8) : Fr 10 (lineT row op n m k s) := by
  unfold lineT
  exact fr_app (hR.2.2 op).2 (fr_cons (by decide) (fr_app (itoa_fr _ (by decide)) (fr_cons (by decide) (fr_app (itoa_fr _ (by decide)) (fr_cons (by decide) (fr_app (itoa_fr _ (by decide)) (fr_cons (by decide) (quote_fr (by decide) _))))))))
theorem read_text (hR : RowOp row opOf) : ∀ f : Nat, (∀ (deep k : Int) (s : List UInt8) (t : T) (r : List UInt8) (k' : Int), nodeR opOf f deep k s = .ok (t, r, k') → s = nodeT row t ++ r) ∧
    ∀ (deep : Int) (c : Nat) (k : Int) (s : List UInt8) (ts : List T) (r : List UInt8) (k' : Int), kidsR opOf f deep c k s = .ok (ts, r, k') → s = kidsT row ts ++ r ∧ ts.length = c := by
  intro f
  induction f with
  | zero => exact ⟨fun _ _ _ _ _ _ h => by simp [nodeR] at h, fun _ _ _ _ _ _ _ h => by simp [kidsR] at h⟩
  | succ f ih =>
    refine ⟨fun deep k s t r k' h => ?_, fun deep c k s ts r k' h => ?_⟩
    · unfold nodeR at h
      split at h
      · cases h
      rename_i l r1 hc
      split at h
      · cases h
      rename_i op n m c u hl
      split at h
      · cases h
      split at h
      · cases h
      rename_i ks r2 k2 hk
      cases h
      obtain ⟨e1, e2⟩ := ih.2 _ _ _ _ _ _ _ hk
      obtain ⟨e3, _⟩ := lineN_some hR hl
      rw [(cutB_some hc).1, e3]
      unfold nodeT
      rw [byS_ofB, e2, List.append_assoc, List.cons_append, ← e1]
    · cases c with
      | zero =>
        unfold kidsR at h
        cases h
        exact ⟨by simp [kidsT], rfl⟩
      | succ c =>
        unfold kidsR at h
        split at h
        · cases h
        rename_i t r1 k1 hn
        split at h
        · cases h
        rename_i ts' r2 k2 hk
        cases h
        have e1 := ih.1 _ _ _ _ _ _ hn
        obtain ⟨e2, e3⟩ := ih.2 _ _ _ _ _ _ _ hk
        refine ⟨?_, by rw [List.length_cons, e3]⟩
        rw [e1]
        simp only [kidsT]
        rw [List.append_assoc, ← e2]
end
end Go.Proofs.YtoclmkdfcafhfaaGreatDoor.Iq
