/- TreeRight, plainly: the program's and the reference's answers agree at every tree. (and what leans on it). No statement of the seat is proved here. -/
import Derived.Test.YtfabmichdhbiaaaGreatDoorQar
import Derived.Test.YtfabmichdhbiaaaGreatDoorQad
import Derived.Test.YtfabmichdhbiaaaGreatDoorQae
import Derived.Test.YtfabmichdhbiaaaGreatDoorQaq
import Derived.Test.YtfabmichdhbiaaaGreatDoorQac
import Derived.Test.YtfabmichdhbiaaaGreatDoorQal
set_option maxRecDepth 20000
set_option maxHeartbeats 2000000
namespace Go.Proofs.YtfabmichdhbiaaaGreatDoor
open Go.RowKit Go.Vcg
attribute [local irreducible] hasT bitT stmtT rStmtT exprT rExprT targetT simpleT linkT namedT len0 set0 isT fitP rowP fewP templB chB formB whatT
def knR (op : Int) : Prop := 1 ≤ op ∧ op ≤ 23 ∨ 30 ≤ op ∧ op ≤ 54 ∨ 60 ≤ op ∧ op ≤ 64
theorem known_ne {op : Int} (h : nameB op ≠ []) : knownT op = true := by
  unfold knownT
  rw [decide_eq_true_eq]
  intro e
  apply h
  have := congrArg (fun x : ByteArray => x.data.toList) e
  simpa using this
theorem known_nil {op : Int} (h : nameB op = []) : knownT op = false := by
  unfold knownT
  rw [h]
  simp
theorem nm_ck : ((List.range 65).all fun k => (nameL.getD k []).isEmpty == !(decide (1 ≤ k ∧ k ≤ 23) || decide (30 ≤ k ∧ k ≤ 54) || decide (60 ≤ k ∧ k ≤ 64))) = true := by decide +kernel
theorem nm_at {k : Nat} (h : k < 65) : (nameL.getD k []).isEmpty = !(decide (1 ≤ k ∧ k ≤ 23) || decide (30 ≤ k ∧ k ≤ 54) || decide (60 ≤ k ∧ k ≤ 64)) := eq_of_beq (List.all_eq_true.1 nm_ck k (List.mem_range.2 h))
theorem known_iff (op : Int) : knownT op = true ↔ knR op := by
  by_cases hr : op < 0 ∨ 65 ≤ op
  · rw [known_nil (nameB_none hr)]
    unfold knR
    constructor
    · intro h; cases h
    · intro h; omega
  · obtain ⟨k, rfl⟩ := Int.eq_ofNat_of_zero_le (by omega : 0 ≤ op)
    have h := nm_at (k := k) (by omega)
    have hn : nameB (k : Int) = nameL.getD k [] := by unfold nameB; rw [if_pos (by omega), Int.toNat_natCast]
    unfold knR
    constructor
    · intro hk
      by_cases he : nameB (k : Int) = []
      · rw [known_nil he] at hk
        cases hk
      · rw [← hn, List.isEmpty_eq_false_iff.2 he] at h
        simp at h
        omega
    · intro hk
      refine known_ne fun he => ?_
      rw [← hn, he] at h
      simp at h
      omega
def ronT (t : T) (i : Nat) (k : T) (spine : Bool) : Bool := decide (i = 0) && (decide (t.op = 53) || spine && (linkT t && linkT k))
inductive RA : T → Bool → Prop
  | mk {t : T} {spine : Bool} (hf : rFieldsT t = true) (hl : ¬(linkT t = true ∧ t.n = 1 ∧ spine = false)) (hk : rKidsB t = true) (hr : ∀ (i : Nat) (k : T), t.kids[i]? = some k → RA k (ronT t i k spine)) : RA t spine
noncomputable def raB (t : T) (spine : Bool) : Bool := dB (RA t spine)
end Go.Proofs.YtfabmichdhbiaaaGreatDoor
namespace Go.Proofs.YtfabmichdhbiaaaGreatDoor
open Go.RowKit Go.Vcg
attribute [local irreducible] G GC GQ GA GAop Calls IntKind.wrap Int.decLt Int.decLe
end Go.Proofs.YtfabmichdhbiaaaGreatDoor
namespace Go.Proofs.YtfabmichdhbiaaaGreatDoor
open Go.RowKit Go.Vcg
attribute [local irreducible] rFieldsT kindsS linkT krowB extraB raB rowP templB chB rtB G GC GQ GA GAop Calls IntKind.wrap Int.decLt Int.decLe
theorem tRight_spec (t : T) (u : Value) (w : World) (μ : Mem) (hμ : MOk μ w) (hk : KR μ t.kids u) (hs : t.size ≤ 100000) (hsh : Sh t) (hT : TabA μ) :
    Calls Tryz.prog 12 #[.agg (encT t u).toArray] w fun e w' => e = .returned (.bool (rtB t 1 false)) ∧ Below w.heap.size w w' := by
  have ho := hk.one
  refine call_intro (args := [.agg (encT t u).toArray]) Tryz.func12 rfl Tryz.ntmps12 (by simp) hμ ?_
  repeat' (first | refine KO ?_ | ((with_reducible apply C1); exact rfl; exact EN; exact fun w μc hw hse => right_spec 100000 (Nat.le_refl _) t u 1 false w μc hw (hk.mono hse.le) hs (by decide) hsh (hT.mono hse.le)) | refine KI ?_ | refine NB fun b => ?_ | ((refine KB ?_ ?_ <;> intro hp)) | refine KG ?_ | fail)
  exact ret_s rfl rfl rfl
end Go.Proofs.YtfabmichdhbiaaaGreatDoor
namespace Go.Proofs.YtfabmichdhbiaaaGreatDoor
open Go.RowKit Go.Vcg Ou
theorem fit_cons {p : T → Bool} {r : List ((T → Bool) × Int)} {l : List T} (h : fitP ((p, 0) :: r) l = true) : ∃ k l', l = k :: l' ∧ fitP r l' = true := by
  rw [fitP_0] at h
  cases l with
  | nil => cases h
  | cons k l' =>
    dsimp only at h
    split at h
    · exact ⟨k, l', rfl, h⟩
    · cases h
theorem fit_one {p : T → Bool} {r : List ((T → Bool) × Int)} {l : List T} (h : fitP ((p, 0) :: r) l = true) : 1 ≤ l.length := by
  obtain ⟨k, l', rfl, -⟩ := fit_cons h
  simp
theorem fit_two {p q : T → Bool} {r : List ((T → Bool) × Int)} {l : List T} (h : fitP ((p, 0) :: (q, 0) :: r) l = true) : 2 ≤ l.length := by
  obtain ⟨k, l', rfl, h2⟩ := fit_cons h
  have := fit_one h2
  simp
  omega
theorem kc_of {t : T} {d : Nat} {s : Bool} (h : Rt t d s) : Kc t := by
  cases h with
  | mk hd hn hk hr =>
    refine ⟨fun h => ?_, fun h => ?_, fun h k hkm => ?_⟩
    · rcases h with h | h | h | h | h | h
      all_goals (unfold kidsB stB exB patternsT at hk; simp [h] at hk)
      all_goals exact fit_two hk
    · rcases h with h | h | h | h | h | h | h | ⟨h, h'⟩
      all_goals (unfold kidsB stB exB propT at hk; simp [h] at hk)
      all_goals first | exact fit_one hk | (simp [h'] at hk; exact fit_one hk)
    · unfold kidsB stB at hk
      simp [h] at hk
      unfold fewP at hk
      have h3 : ofT [3] k = true := List.all_eq_true.1 (Bool.and_eq_true_iff.1 hk).2 k hkm
      have h3' : k.op = 3 := by simpa [ofT] using h3
      obtain ⟨i, hi⟩ := List.mem_iff_getElem?.1 hkm
      have hrk := hr i k hi
      cases hrk with
      | mk _ _ hk2 _ =>
        unfold kidsB stB at hk2
        simp [h3'] at hk2
        exact fit_one hk2
theorem alln_of (t : T) : ∀ (d : Nat) (s : Bool), Rt t d s → Sh t → AllN qE t := T.ind2 (p := fun t => ∀ (d : Nat) (s : Bool), Rt t d s → Sh t → AllN qE t) (fun t ih d s h hs => by
  refine .mk ⟨kc_of h, by have := sh_s hs; omega⟩ fun k hk => ?_
  obtain ⟨i, hi⟩ := List.mem_iff_getElem?.1 hk
  cases h with
  | mk _ _ _ hr => exact ih k hk _ _ (hr i k hi) (sh_kid hs hk)) t
theorem nb_all : ∀ (f : Nat) (t : T), AllN qE t → t.size ≤ f → t.size ≤ 80000 → NCk (nbE wdF f).1 t ∧ BCk (nbE wdF f).2 t := by
  intro f
  induction f with
  | zero =>
    intro t _ h0
    have := size_szs t
    omega
  | succ f ih =>
    intro t hq hf hts
    have hgr := fun (k : T) (hk : AllN qE k) => gr_nb (F := FF) (wd := wdF) (q := qE) (fun t h => ⟨h.1, fun x => x⟩) f k hk
    have hN : ∀ k, AllN qE k → k.size < t.size → NCk (nbE wdF f).1 k ∧ NG (nbE wdF f).1 k := fun k hk h => ⟨(ih k hk (by omega) (by omega)).1, (hgr k hk).1⟩
    have hB : ∀ k, AllN qE k → k.size < t.size → BCk (nbE wdF f).2 k ∧ BG (nbE wdF f).2 k := fun k hk h => ⟨(ih k hk (by omega) (by omega)).2, (hgr k hk).2⟩
    have hlek : ∀ k ∈ t.kids, k.size < t.size := fun k hk => by
      have : k.size ≤ szs t.kids := T.sum_mem (List.mem_map.2 ⟨k, hk, rfl⟩)
      have := size_szs t
      omega
    exact ⟨enode_spec _ _ t hq hts hN hB, ebind_spec _ _ t hq.here.1 hq.here.2 (by omega) (fun k hk => hN k (hq.kid hk) (hlek k hk)) (fun k hk => hB k (hq.kid hk) (hlek k hk))⟩
noncomputable def checkR (f : Nat) (t : T) : Int × Int := if t.op = 1 ∧ rtB t 1 false = true then ((checkE wdF f t).at', (checkE wdF f t).e) else (0, 1)
theorem mkD_nil : mkD [] 0 = [] := rfl
theorem famD_nil : famD [] = [] := rfl
theorem IsV.of_blk {μ : Mem} {b t : Nat} {cs : Slots} {x : Int} (h : Bk.sh (.inl ⟨b, t, 1, cs⟩) μ) (hc : lk cs 0 = some (.int .i64 x)) : IsV μ (.slice (some ⟨b, 0, none⟩) 1 1) [x] := by
  obtain ⟨arr, h1, h2, h3⟩ := h
  refine ⟨_, _, rfl, ⟨rfl, fun _ => ⟨_, rfl, fun i y hy j v hv => ?_⟩⟩, Nat.le_refl _⟩
  cases i with
  | succ i => simp at hy
  | zero =>
    cases hy
    cases j with
    | succ j => simp at hv
    | zero =>
      cases hv
      exact ⟨arr, t, (0, 0), h1, rfl, h3 0 _ hc⟩
attribute [local irreducible] wdL anI famD mkD rtB checkE G GC GQ GA GAop Calls IntKind.wrap Int.decLt Int.decLe
theorem echeck_spec (f : Nat) (t : T) (u : Value) (w : World) (μ : Mem) (hμ : MOk μ w) (hk : KR μ t.kids u) (hts : t.size ≤ 80000) (hf : t.size ≤ f) (hsh : Sh t) (hT : TabA μ) (hm : MaxQ μ) :
    Calls Tryz.prog 9 #[.agg (encT t u).toArray] w fun e w' => e = .returned (.tuple #[.int .i64 (checkR f t).1, .int .i64 (checkR f t).2]) ∧ Below w.heap.size w w' := by
  have ou := hk.one
  have hri := fun (w : World) (μc : Mem) (hw : MOk μc w) (hle : MLe μ μc) => tRight_spec t _ w μc hw (hk.mono hle) (by omega) hsh (hT.mono hle)
  have hstr := fun (w : World) (μc : Mem) (hw : MOk μc w) (hle : MLe μ μc) => estrict_spec t _ w μc hw (hk.mono hle) (by omega)
  unfold checkR
  obtain ⟨A, c, rfl, hcap, hget⟩ := hk.form
  refine call_intro (args := [.agg (encT t (.slice A t.kids.length c)).toArray]) Tryz.func9 rfl Tryz.ntmps9 (by simp) hμ ?_
  by_cases hop : t.op = 1
  rotate_left
  · rw [if_neg (fun h => hop h.1)]
    repeat' (first | refine KK ?_ | refine NB fun b => ?_ | ((with_reducible apply g_mkmap); exact rfl; exact rfl; intro b) | ((refine KB ?_ ?_ <;> intro hp)) | refine KG ?_ | fail)
    all_goals try (exfalso; first | omega | contradiction)
    all_goals exact ret_v2 rfl (rv_tmp rfl) (rv_tmp rfl) rfl rfl
  cases hrt : rtB t 1 false with
  | false =>
    rw [if_neg (fun h => by cases h.2)]
    rw [hrt] at hri
    repeat' (first | refine KO ?_ | ((with_reducible apply C1); exact rfl; exact EN; (exact fun w μc hw hse => hri w μc hw hse.le)) | refine KI ?_ | refine NB fun b => ?_ | ((with_reducible apply g_mkmap); exact rfl; exact rfl; intro b) | ((refine KB ?_ ?_ <;> intro hp)) | refine KG ?_ | fail)
    all_goals try (exfalso; first | omega | contradiction)
    all_goals exact ret_v2 rfl (rv_tmp rfl) (rv_tmp rfl) rfl rfl
  | true =>
    rw [if_pos ⟨hop, rfl⟩]
    rw [hrt] at hri
    have hq := alln_of t 1 false (rtB_true hrt) hsh
    have hsz := size_szs t
    have hlen := len_szs t.kids
    have hlek : ∀ k ∈ t.kids, k.size < t.size := fun k hk => by
      have : k.size ≤ szs t.kids := T.sum_mem (List.mem_map.2 ⟨k, hk, rfl⟩)
      omega
    have hN : ∀ k ∈ t.kids, NCk (nbE wdF f).1 k ∧ NG (nbE wdF f).1 k := fun k hk => ⟨(nb_all f k (hq.kid hk) (by have := hlek k hk; omega) (by have := hlek k hk; omega)).1, (gr_nb (F := FF) (wd := wdF) (q := qE) (fun t h => ⟨h.1, fun x => x⟩) f k (hq.kid hk)).1⟩
    have hce : checkE wdF f t = allE (nbE wdF f).1 t.kids (startP t) ⟨[], 1, 0, 0⟩ := by unfold checkE; rfl
    rw [hce]
    have hst : startP t = ⟨strictE t, false, false, false, [1], [], [], false, false, [], true, false⟩ := rfl
    rw [hst]
    generalize strictE t = stc at hstr ⊢
    repeat' (first | ((with_reducible show GC _ _ (Code.seq (Code.region 4 _ _) _) _ _ _ _); (apply gc_stop)) | refine KO ?_ | ((with_reducible apply C1); exact rfl; exact EN; (exact fun w μc hw hse => hri w μc hw hse.le)) | refine KI ?_ | refine NB fun b => ?_ | ((with_reducible apply g_mkmap); exact rfl; exact rfl; intro b) | ((refine KB ?_ ?_ <;> intro hp)) | refine KG ?_ | fail)
    all_goals try (exfalso; first | omega | contradiction)
    rename_i bn bm
    obtain ⟨bx, hbx⟩ : ∃ y, y = b := ⟨_, rfl⟩
    rw [← hbx]
    clear hbx
    refine gcs (gc_sel (l' := [(1, .pointer (some ⟨bn, 0, none⟩)), (4, .pointer (some ⟨bx, 0, none⟩))]) (L' := .inl ⟨bn, 27, 6, idx 0 (encT t (.slice A t.kids.length c))⟩ :: EB bx bm ⟨[], 1, 0, 0⟩ []) PU (by rw [EB_eq, mkD_nil, famD_nil]; exact sel_2 (.refl _) (sel_0 (.cells PU) (sel_0 (.refl _) (.nil _)))) ?_)
    have hER : ∀ μ', ER μ' [] ⟨[], 1, 0, 0⟩ := fun μ' => ⟨rfl, fun f hf => by simp at hf⟩
    have hSB : SB ⟨[], 1, 0, 0⟩ (szs t.kids) := by
      show 1 + 0 + 2 * szs t.kids ≤ 900000
      omega
    have hPB : ∀ k ∈ t.kids, PB ⟨stc, false, false, false, [1], [], [], false, false, [], true, false⟩ k.size := fun k hk => ⟨Nat.succ_pos _, by show 1 + k.size ≤ 90000; have := hlek k hk; omega, by show 0 + k.size ≤ 90000; have := hlek k hk; omega, Nat.le_refl _⟩
    repeat' (first | refine KK ?_ | refine NB fun b => ?_ | ((with_reducible apply g_mkmap); exact rfl; exact rfl; intro b) | ((refine KB ?_ ?_ <;> intro hp)) | refine KG ?_ | fail)
    refine gc_draw 9 _ (by kernel_rfl) rfl (List.Sublist.cons_cons _ (List.nil_sublist _)) ?_
    all_goals refine DD 0 ?_
    all_goals refine DD 1 ?_
    all_goals refine DD 2 ?_
    all_goals refine DD 3 ?_
    refine ga_all2 4 5 (by kernel_rfl) ?dr1_4 ?dr1_5
    case' dr1_4 =>
      (first | (refine D5 ?_; (first | ((with_reducible apply F1 14); exact rfl; exact EN; (exact fun w μc hw hse => hstr w μc hw hse.le)) | (refine CF 13 ?_; (refine g_share_0 rfl ?_); (intro μ4 hle4 hsh4); (have hv := IsV.of_blk (x := 1) hsh4 rfl); (with_reducible apply g_ce 1); exact rfl; exact rfl; exact rfl; ((with_reducible apply e_call3); kernel_rfl; exact rfl; exact rfl; exact rfl); exact rfl; (exact hER _); (exact eall_spec (nbE wdF f).1 t.kids _ _ ⟨stc, false, false, false, [1], [], [], false, false, [], true, false⟩ ⟨[], 1, 0, 0⟩ _ bx bm hN (hk.mono hle4) ⟨_, _, _, _, rfl, hv, SsV.nil _, SsV.nil _, SsV.nil _⟩ hPB hSB (by omega) (hm.mono hle4)); (intro v1 μ1 i1 hle1 hR); (dsimp only [List.cons_append, List.nil_append]))); refine D9 ?_))
      all_goals (first | (refine D3 5 ?_; refine D5 ?_; refine NB fun b => ?_; refine D9 ?_))
      all_goals refine DD 6 ?_
      all_goals refine DD 7 ?_
      all_goals (first | (refine D3 8 ?_; refine D5 ?_; (first | ((with_reducible apply F1 14); exact rfl; exact EN; (exact fun w μc hw hse => hstr w μc hw hse.le)) | (refine CF 13 ?_; (refine g_share_0 rfl ?_); (intro μ4 hle4 hsh4); (have hv := IsV.of_blk (x := 1) hsh4 rfl); (with_reducible apply g_ce 1); exact rfl; exact rfl; exact rfl; ((with_reducible apply e_call3); kernel_rfl; exact rfl; exact rfl; exact rfl); exact rfl; (exact hER _); (exact eall_spec (nbE wdF f).1 t.kids _ _ ⟨stc, false, false, false, [1], [], [], false, false, [], true, false⟩ ⟨[], 1, 0, 0⟩ _ bx bm hN (hk.mono hle4) ⟨_, _, _, _, rfl, hv, SsV.nil _, SsV.nil _, SsV.nil _⟩ hPB hSB (by omega) (hm.mono hle4)); (intro v1 μ1 i1 hle1 hR); (dsimp only [List.cons_append, List.nil_append]))); refine D9 ?_))
      all_goals refine D8 ?_
    case' dr1_5 =>
      (first | (refine D5 ?_; refine NB fun b => ?_; refine D9 ?_))
      all_goals (first | (refine D3 4 ?_; refine D5 ?_; (first | ((with_reducible apply F1 14); exact rfl; exact EN; (exact fun w μc hw hse => hstr w μc hw hse.le)) | (refine CF 13 ?_; (refine g_share_0 rfl ?_); (intro μ4 hle4 hsh4); (have hv := IsV.of_blk (x := 1) hsh4 rfl); (with_reducible apply g_ce 1); exact rfl; exact rfl; exact rfl; ((with_reducible apply e_call3); kernel_rfl; exact rfl; exact rfl; exact rfl); exact rfl; (exact hER _); (exact eall_spec (nbE wdF f).1 t.kids _ _ ⟨stc, false, false, false, [1], [], [], false, false, [], true, false⟩ ⟨[], 1, 0, 0⟩ _ bx bm hN (hk.mono hle4) ⟨_, _, _, _, rfl, hv, SsV.nil _, SsV.nil _, SsV.nil _⟩ hPB hSB (by omega) (hm.mono hle4)); (intro v1 μ1 i1 hle1 hR); (dsimp only [List.cons_append, List.nil_append]))); refine D9 ?_))
      all_goals refine DD 6 ?_
      all_goals refine DD 7 ?_
      all_goals (first | (refine D3 8 ?_; refine D5 ?_; (first | ((with_reducible apply F1 14); exact rfl; exact EN; (exact fun w μc hw hse => hstr w μc hw hse.le)) | (refine CF 13 ?_; (refine g_share_0 rfl ?_); (intro μ4 hle4 hsh4); (have hv := IsV.of_blk (x := 1) hsh4 rfl); (with_reducible apply g_ce 1); exact rfl; exact rfl; exact rfl; ((with_reducible apply e_call3); kernel_rfl; exact rfl; exact rfl; exact rfl); exact rfl; (exact hER _); (exact eall_spec (nbE wdF f).1 t.kids _ _ ⟨stc, false, false, false, [1], [], [], false, false, [], true, false⟩ ⟨[], 1, 0, 0⟩ _ bx bm hN (hk.mono hle4) ⟨_, _, _, _, rfl, hv, SsV.nil _, SsV.nil _, SsV.nil _⟩ hPB hSB (by omega) (hm.mono hle4)); (intro v1 μ1 i1 hle1 hR); (dsimp only [List.cons_append, List.nil_append]))); refine D9 ?_))
      all_goals refine D8 ?_
    all_goals generalize allE (nbE wdF f).1 t.kids ⟨stc, false, false, false, [1], [], [], false, false, [], true, false⟩ ⟨[], 1, 0, 0⟩ = s' at hR ⊢
    all_goals repeat' (first | refine KK ?_ | refine NB fun b => ?_ | ((with_reducible apply g_mkmap); exact rfl; exact rfl; intro b) | ((refine KB ?_ ?_ <;> intro hp)) | refine KG ?_ | fail)
    all_goals refine gc_LEq (show _ = _ :: Bk.inl ⟨bx, 40, 4, [(0, .map (some bm)), (1, .int .i64 (s'.regs : Int)), (2, .int .i64 s'.at'), (3, .int .i64 s'.e)]⟩ :: .mp ⟨bm, mkD i1 0, i1.length⟩ :: famD i1 from rfl) ?_
    all_goals
      refine gc_draw 10 _ (by kernel_rfl) rfl (List.Sublist.cons _ (List.Sublist.cons_cons _ (List.nil_sublist _))) ?_
      all_goals refine DD 0 ?_
      all_goals refine DD 1 ?_
      all_goals refine DD 2 ?_
      all_goals refine DD 3 ?_
      all_goals refine DD 4 ?_
      all_goals refine DD 5 ?_
      all_goals refine DD 6 ?_
      all_goals refine DD 7 ?_
      all_goals refine DD 8 ?_
      all_goals refine DD 9 ?_
      all_goals refine D8 ?_
    all_goals repeat' (first | refine KK ?_ | refine NB fun b => ?_ | ((with_reducible apply g_mkmap); exact rfl; exact rfl; intro b) | ((refine KB ?_ ?_ <;> intro hp)) | refine KG ?_ | fail)
    all_goals exact ret_v2 rfl (rv_tmp rfl) (rv_tmp rfl) rfl rfl
end Go.Proofs.YtfabmichdhbiaaaGreatDoor
namespace Go.Proofs.YtfabmichdhbiaaaGreatDoor
open Go.RowKit Go.Vcg
structure Ite where
  op : Int
  at' : Int
  n : Int
  m : Int
  s : ByteArray
  k : Int
abbrev encIte (x : Ite) : List Value := [.int .i64 x.op, .int .i64 x.at', .int .i64 x.n, .int .i64 x.m, .string x.s, .int .i64 x.k]
inductive AllI (q : Ite → Prop) : T → Prop
  | node {op at' n m : Int} {s : ByteArray} {kids : List T} (h : ∃ k, q ⟨op, at', n, m, s, k⟩) (hk : ∀ t ∈ kids, AllI q t) : AllI q (.mk op at' n m s kids)
theorem size_mkE (o a n m : Int) (s : ByteArray) (ps : List (T × Value)) (v : Value) : sizes [(T.mk o a n m s (ps.map (·.1)), v)] = 1 + sizes ps := by
  have h := T.size_eq (T.mk o a n m s (ps.map (·.1)))
  simp only [sizes, List.map_cons, List.map_nil, List.sum_cons, List.sum_nil, h, T.kids, List.map_map]
  rfl
def sumI (ts : List Ite) : Nat := (ts.map fun y => y.s.size).sum
theorem sumI_take {ts : List Ite} {k : Nat} {y : Ite} (h : ts[k]? = some y) : sumI (ts.take (k + 1)) = sumI (ts.take k) + y.s.size := by
  unfold sumI
  rw [List.take_add_one, h, List.map_append, List.sum_append]
  simp
theorem sumI_le (ts : List Ite) (k : Nat) : sumI (ts.take k) ≤ sumI ts := by
  conv => rhs; rw [← List.take_append_drop k ts]
  unfold sumI
  rw [List.map_append, List.sum_append]
  omega
def fewE (n : Nat) (ts : List Ite) : Bool := decide (n ≤ 400) && decide (sumI ts ≤ 4000)
attribute [local irreducible] G GC GQ GA GAop Calls IntKind.wrap Int.decLt Int.decLe
theorem efew_spec (w : World) (μ : Mem) (hμ : MOk μ w) (A : Option Addr) (n c : Nat) (ts : List Ite) (hc : Sl encIte 6 μ A n ts) (hmax : n ≤ 9223372036854775807) (hsz : ∀ y ∈ ts, y.s.size ≤ 140737488355328) :
    Calls Tryz.prog 5 #[.slice A n c] w fun e w' => e = .returned (.bool (fewE n ts)) ∧ Below w.heap.size w w' := by
  have hn := hc.1
  generalize hR : fewE n ts = R
  unfold fewE at hR
  refine call_intro (args := [.slice A n c]) Tryz.func5 rfl Tryz.ntmps5 (by simp) hμ ?_
  repeat' (first | refine KK ?_ | ((refine KB ?_ ?_ <;> intro hp)) | refine KG ?_ | fail)
  refine gc_loop (ι := Nat) (fun i => i ≤ n ∧ i ≤ 401 ∧ sumI (ts.take i) ≤ 4000) (fun i => n - i) (fun _ => μ) (fun i => [(4, .int .i64 (i : Int)), (3, .int .i64 ((sumI (ts.take i) : Nat) : Int)), (0, .slice A n c)]) (fun _ => []) 0 ⟨by omega, by omega, by simp [sumI]⟩ (fun a w hs => J5 hs) ?_
  rintro k ⟨hk, hk2, hsum⟩
  by_cases hlt : k < n ∧ k < 401
  · obtain ⟨hlt, hlt2⟩ := hlt
    obtain ⟨ad, y, rfl, hy, hm⟩ := hc.get hlt
    have hys := hsz y (List.mem_of_getElem? hy)
    have hst := sumI_take hy
    have hle := sumI_le ts (k + 1)
    by_cases h4 : sumI (ts.take (k + 1)) ≤ 4000
    · repeat' (first | refine KO ?_ | (refine KV (b := by first | exact U1 k | exact U4 hm | ((with_reducible apply v_add_i); exact rfl; exact rfl; omega)) (c := ?_)) | refine KI ?_ | ((refine KB ?_ ?_ <;> intro hp)) | refine KG ?_ | fail)
      all_goals try (exfalso; first | omega | contradiction)
      all_goals exact gq_backS (k + 1) ⟨by omega, by omega, h4⟩ (by omega) rfl (by refine subS_cons rfl (subS_cons ?_ (subS_cons rfl subS_nil)); rw [hst]; rfl) PS
    · have hF : false = R := by rw [← hR, decide_eq_false (show ¬sumI ts ≤ 4000 by omega), Bool.and_false]
      repeat' (first | refine KO ?_ | (refine KV (b := by first | exact U1 k | exact U4 hm | ((with_reducible apply v_add_i); exact rfl; exact rfl; omega)) (c := ?_)) | refine KI ?_ | ((refine KB ?_ ?_ <;> intro hp)) | refine KG ?_ | fail)
      all_goals try (exfalso; first | omega | contradiction)
      all_goals exact ret_s rfl rfl (congrArg _ hF)
  · by_cases hn4 : n ≤ 400
    · have hk3 : k = n := by omega
      have hs9 : sumI ts ≤ 4000 := by rw [List.take_of_length_le (by omega)] at hsum; exact hsum
      have hT : true = R := by rw [← hR, decide_eq_true hn4, decide_eq_true hs9]; rfl
      repeat' (first | refine KK ?_ | ((refine KB ?_ ?_ <;> intro hp)) | refine KG ?_ | fail)
      all_goals try (exfalso; first | omega | contradiction)
      all_goals first | exact ret_s rfl rfl (congrArg _ hT) | (refine ret_s rfl rfl (congrArg _ ?_); rw [← hT]; exact decide_eq_true (by omega))
    · have hF : false = R := by rw [← hR, decide_eq_false hn4, Bool.false_and]
      repeat' (first | refine KK ?_ | ((refine KB ?_ ?_ <;> intro hp)) | refine KG ?_ | fail)
      all_goals try (exfalso; first | omega | contradiction)
      all_goals first | exact ret_s rfl rfl (congrArg _ hF) | (refine ret_s rfl rfl (congrArg _ ?_); rw [← hF]; exact decide_eq_false (by omega))
theorem ebuild_spec (q : Ite → Prop) (hq0 : q ⟨0, 0, 0, 0, ⟨#[]⟩, 0⟩) (w : World) (μ : Mem) (hμ : MOk μ w) (A : Option Addr) (n c : Nat) (ts : List Ite) (hc : Sl encIte 6 μ A n ts) (hn : n ≤ 400) (hq : ∀ y ∈ ts, q y) :
    Calls Tryz.prog 7 #[.slice A n c] w fun e w' => ∃ v μ', e = .returned v ∧ Grow w w' μ μ' ∧ (∃ t, TV μ' t v ∧ t.size ≤ 401 ∧ AllI q t) := by
  refine call_intro Tryz.func7 rfl Tryz.ntmps7 (by simp) hμ ?_
  repeat' (first | refine KK ?_ | refine NB fun b => ?_ | ((refine KB ?_ ?_ <;> intro hp)) | refine KG ?_ | fail)
  refine gc_loop (ι := Nat × List (T × Value) × Mem × Value) (fun i => i.1 ≤ n ∧ MLe μ i.2.2.1 ∧ Kids i.2.2.1 i.2.1 ∧ sizes i.2.1 ≤ i.1 ∧ i.2.1.length ≤ i.1 ∧ ∀ p ∈ i.2.1, AllI q p.1) (fun i => n - i.1) (fun i => i.2.2.1) (fun i => [(4, .int .i64 i.1), (3, i.2.2.2), (2, .pointer (some ⟨b, 0, none⟩)), (0, .slice A n c)]) (fun i => [.inr ⟨i.2.2.2, 27, 6, i.2.1.length, i.2.1.flatMap encTV⟩, .inl ⟨b, 27, 6, _⟩]) (0, [], μ, .slice none 0 0) ⟨by simp, MLe.refl _, fun p hp => (by cases hp), by simp [sizes], by simp, fun p hp => (by cases hp)⟩ (fun a w hs => (hs.nilRow 27 6).sub PU (by repeat first | exact List.Sublist.refl _ | exact List.nil_sublist _ | refine List.Sublist.cons _ ?_)) ?_
  rintro ⟨k, ps, μ1, v⟩ ⟨hk, hle, hkids, hsz, hlen, hall0⟩
  dsimp only at hk hle hkids hsz hlen hall0 ⊢
  refine gc_rowOk 0 rfl ?_
  rintro A1 c1 rfl hok
  by_cases hlt : k < n
  · obtain ⟨ad, y, rfl, hy, hm0⟩ := hc.get hlt
    have hm := hm0.mono hle
    obtain ⟨kk, hkk, hcase⟩ : ∃ kk : Nat, kk ≤ ps.length ∧ ((y.k < 0 ∧ kk = 0) ∨ (y.k = (kk : Int)) ∨ (y.k > ps.length ∧ kk = ps.length)) := by
      by_cases h0 : y.k < 0
      · exact ⟨0, by omega, .inl ⟨h0, rfl⟩⟩
      · by_cases h1 : y.k > ps.length
        · exact ⟨ps.length, by omega, .inr (.inr ⟨h1, rfl⟩)⟩
        · exact ⟨y.k.toNat, by omega, .inr (.inl (by omega))⟩
    have hone := hkids.one
    have hd := flat_drops encTV_len ps (ps.length - kk)
    have hdl := flat_length encTV_len (ps.drop (ps.length - kk))
    have hdk : Kids μ1 (ps.drop (ps.length - kk)) := fun p hp => hkids p (List.mem_of_mem_drop hp)
    have hdo := hdk.one
    rw [List.length_drop] at hdl
    have hdl2 : (List.drop ((ps.length - kk) * 6) (ps.flatMap encTV)).length = (ps.length - (ps.length - kk)) * 6 := by rw [hd]; exact hdl
    have hdo2 : ∀ u ∈ List.drop ((ps.length - kk) * 6) (ps.flatMap encTV), u.oneCell' = true := by rw [hd]; exact hdo
    rcases hcase with hcase | hcase | hcase
    all_goals
      repeat' (first | ((with_reducible apply g_row0 6)) | refine KO ?_ | (first | ((with_reducible apply g_ap); exact rfl; exact rfl; exact rfl; (repeat first | with_reducible exact rowup_hd | with_reducible apply rowup_tl); (iterate 6 exact rfl); (first | ((with_reducible apply src_row_drop 2 (k := ps.length - kk)); exact hok; omega; exact rfl; exact rfl) | ((with_reducible apply src_in); exact rfl; (repeat first | with_reducible exact inb_hd | with_reducible apply inb_tl); exact rfl)); (first | exact rfl | omega | simp); (first | assumption | (exact ones_mem (by (repeat first | with_reducible exact ones_nil | ((with_reducible apply ones_cons); (first | exact rfl | assumption))))) | simp [Value.oneCell']); omega; omega; intro v) | ((with_reducible apply g_append0); (iterate 9 exact rfl); (first | ((with_reducible apply src_row_drop 2 (k := ps.length - kk)); exact hok; omega; exact rfl; exact rfl) | ((with_reducible apply src_in); exact rfl; (repeat first | with_reducible exact inb_hd | with_reducible apply inb_tl); exact rfl)); (first | exact rfl | omega | simp); (first | assumption | (exact ones_mem (by (repeat first | with_reducible exact ones_nil | ((with_reducible apply ones_cons); (first | exact rfl | assumption))))) | simp [Value.oneCell']); omega; omega; intro v)) | (refine KV (b := by first | exact U1 k | exact U4 hm | ((with_reducible apply v_slice_lo (ps.length - kk)); exact rfl; exact rfl; exact rfl; exact rfl; omega; omega)) (c := ?_)) | refine KI ?_ | refine NB fun b => ?_ | ((refine KB ?_ ?_ <;> intro hp)) | refine KG ?_ | fail)
    all_goals simp only [Nat.zero_add, List.nil_append, hd]
    all_goals refine gc_share_0 rfl ?_
    all_goals intro μ2 hle2 hsh2
    all_goals obtain ⟨A2, c2, rfl, hS2⟩ := row_sl (enc := encTV) (xs := ps.drop (ps.length - kk)) hsh2 (by simp) (by simp) rfl
    all_goals have hcap2 := Bk.cap hsh2
    all_goals have hkr := KR.of_pairs hS2 hcap2 (hdk.mono hle2)
    all_goals refine gc_cut 1 (ps.length - kk) rfl hok (by omega) ?_
    all_goals dsimp only [updB]
    all_goals
      refine gc_draw 21 _ (by kernel_rfl) rfl (List.Sublist.cons_cons _ (List.nil_sublist _)) ?_
      all_goals refine DD 0 ?_
      all_goals refine DD 1 ?_
      all_goals (first | refine D1 2 ?_ | (refine DV (k := 2) (b := by first | ((with_reducible apply v_slice_hi (ps.length - kk)); exact rfl; exact rfl; exact rfl; exact rfl; omega; (focus (have := hok.cap; omega; done)))) (c := ?_)) | refine DD 2 ?_ | fail)
      all_goals refine DD 3 ?_
      all_goals (first | refine D1 4 ?_ | (refine DV (k := 4) (b := by first | ((with_reducible apply v_slice_hi (ps.length - kk)); exact rfl; exact rfl; exact rfl; exact rfl; omega; (focus (have := hok.cap; omega; done)))) (c := ?_)) | refine DD 4 ?_ | fail)
      all_goals (first | refine D1 5 ?_ | (refine DV (k := 5) (b := by first | ((with_reducible apply v_slice_hi (ps.length - kk)); exact rfl; exact rfl; exact rfl; exact rfl; omega; (focus (have := hok.cap; omega; done)))) (c := ?_)) | refine DD 5 ?_ | fail)
      all_goals (first | refine D1 6 ?_ | (refine DV (k := 6) (b := by first | ((with_reducible apply v_slice_hi (ps.length - kk)); exact rfl; exact rfl; exact rfl; exact rfl; omega; (focus (have := hok.cap; omega; done)))) (c := ?_)) | refine DD 6 ?_ | fail)
      all_goals (first | refine D1 7 ?_ | (refine DV (k := 7) (b := by first | ((with_reducible apply v_slice_hi (ps.length - kk)); exact rfl; exact rfl; exact rfl; exact rfl; omega; (focus (have := hok.cap; omega; done)))) (c := ?_)) | (refine D3 7 (DW (b := by first | ((with_reducible apply v_slice_hi (ps.length - kk)); exact rfl; exact rfl; exact rfl; exact rfl; omega; (focus (have := hok.cap; omega; done)))) (c := ?_))) | refine DD 7 ?_ | fail)
      all_goals (first | refine D1 8 ?_ | (refine DV (k := 8) (b := by first | ((with_reducible apply v_slice_hi (ps.length - kk)); exact rfl; exact rfl; exact rfl; exact rfl; omega; (focus (have := hok.cap; omega; done)))) (c := ?_)) | refine DD 8 ?_ | fail)
      all_goals (first | refine D1 9 ?_ | (refine DV (k := 9) (b := by first | ((with_reducible apply v_slice_hi (ps.length - kk)); exact rfl; exact rfl; exact rfl; exact rfl; omega; (focus (have := hok.cap; omega; done)))) (c := ?_)) | (refine D3 9 (DW (b := by first | ((with_reducible apply v_slice_hi (ps.length - kk)); exact rfl; exact rfl; exact rfl; exact rfl; omega; (focus (have := hok.cap; omega; done)))) (c := ?_))) | refine DD 9 ?_ | fail)
      all_goals (first | refine D1 10 ?_ | (refine DV (k := 10) (b := by first | ((with_reducible apply v_slice_hi (ps.length - kk)); exact rfl; exact rfl; exact rfl; exact rfl; omega; (focus (have := hok.cap; omega; done)))) (c := ?_)) | refine DD 10 ?_ | fail)
      all_goals (first | refine D1 11 ?_ | (refine DV (k := 11) (b := by first | ((with_reducible apply v_slice_hi (ps.length - kk)); exact rfl; exact rfl; exact rfl; exact rfl; omega; (focus (have := hok.cap; omega; done)))) (c := ?_)) | (refine D3 11 (DW (b := by first | ((with_reducible apply v_slice_hi (ps.length - kk)); exact rfl; exact rfl; exact rfl; exact rfl; omega; (focus (have := hok.cap; omega; done)))) (c := ?_))) | refine DD 11 ?_ | fail)
      all_goals (first | refine D1 12 ?_ | (refine DV (k := 12) (b := by first | ((with_reducible apply v_slice_hi (ps.length - kk)); exact rfl; exact rfl; exact rfl; exact rfl; omega; (focus (have := hok.cap; omega; done)))) (c := ?_)) | refine DD 12 ?_ | fail)
      all_goals (first | refine D1 13 ?_ | (refine DV (k := 13) (b := by first | ((with_reducible apply v_slice_hi (ps.length - kk)); exact rfl; exact rfl; exact rfl; exact rfl; omega; (focus (have := hok.cap; omega; done)))) (c := ?_)) | (refine D3 13 (DW (b := by first | ((with_reducible apply v_slice_hi (ps.length - kk)); exact rfl; exact rfl; exact rfl; exact rfl; omega; (focus (have := hok.cap; omega; done)))) (c := ?_))) | refine DD 13 ?_ | fail)
      all_goals (first | refine D1 14 ?_ | (refine DV (k := 14) (b := by first | ((with_reducible apply v_slice_hi (ps.length - kk)); exact rfl; exact rfl; exact rfl; exact rfl; omega; (focus (have := hok.cap; omega; done)))) (c := ?_)) | refine DD 14 ?_ | fail)
      all_goals (first | refine D1 15 ?_ | (refine DV (k := 15) (b := by first | ((with_reducible apply v_slice_hi (ps.length - kk)); exact rfl; exact rfl; exact rfl; exact rfl; omega; (focus (have := hok.cap; omega; done)))) (c := ?_)) | (refine D3 15 (DW (b := by first | ((with_reducible apply v_slice_hi (ps.length - kk)); exact rfl; exact rfl; exact rfl; exact rfl; omega; (focus (have := hok.cap; omega; done)))) (c := ?_))) | refine DD 15 ?_ | fail)
      all_goals refine DD 16 ?_
      all_goals refine DD 17 ?_
      all_goals (first | (refine D3 18 ?_; refine D5 ?_; refine NB fun b => ?_; refine D9 ?_))
      all_goals (first | (refine D3 19 ?_; refine D5 ?_; (first | ((with_reducible apply g_ap); exact rfl; exact rfl; exact rfl; (repeat first | with_reducible exact rowup_hd | with_reducible apply rowup_tl); (iterate 6 exact rfl); (first | ((with_reducible apply src_in); exact rfl; (repeat first | with_reducible exact inb_hd | with_reducible apply inb_tl); exact rfl)); (first | exact rfl | omega | simp); (first | assumption | (exact ones_mem (by (repeat first | with_reducible exact ones_nil | ((with_reducible apply ones_cons); (first | exact rfl | assumption))))) | simp [Value.oneCell']); omega; omega; intro v) | ((with_reducible apply g_append0); (iterate 9 exact rfl); (first | ((with_reducible apply src_in); exact rfl; (repeat first | with_reducible exact inb_hd | with_reducible apply inb_tl); exact rfl)); (first | exact rfl | omega | simp); (first | assumption | (exact ones_mem (by (repeat first | with_reducible exact ones_nil | ((with_reducible apply ones_cons); (first | exact rfl | assumption))))) | simp [Value.oneCell']); omega; omega; intro v)); refine D9 ?_))
      all_goals refine DD 20 ?_
      all_goals refine D8 ?_
    all_goals repeat' (first | refine KK ?_ | refine NB fun b => ?_ | ((refine KB ?_ ?_ <;> intro hp)) | refine KG ?_ | fail)
    all_goals
      refine gq_back (k + 1, ps.take (ps.length - kk) ++ [(T.mk y.op y.at' y.n y.m y.s ((ps.drop (ps.length - kk)).map (·.1)), .slice A2 (ps.length - (ps.length - kk)) c2)], μ2, v) ⟨by dsimp only; omega, hle.trans hle2, ?_, ?_, ?_, ?_⟩ (by dsimp only; omega) rfl PU ?_
      · intro p hp
        rcases List.mem_append.1 hp with hp | hp
        · exact (hkids p (List.mem_of_mem_take hp)).mono hle2
        · cases List.mem_singleton.1 hp
          exact hkr
      · dsimp only
        rw [sizes_append, size_mkE]
        have : sizes ps = sizes (ps.take (ps.length - kk)) + sizes (ps.drop (ps.length - kk)) := by rw [← sizes_append, List.take_append_drop]
        omega
      · simp; omega
      · intro p hp
        rcases List.mem_append.1 hp with hp | hp
        · exact hall0 p (List.mem_of_mem_take hp)
        · cases List.mem_singleton.1 hp
          refine AllI.node ⟨y.k, by cases y; exact hq _ (List.mem_of_getElem? hy)⟩ (fun t ht => ?_)
          obtain ⟨p2, hp2, rfl⟩ := List.mem_map.1 ht
          exact hall0 p2 (List.mem_of_mem_drop hp2)
      · dsimp only
        rw [flat_takes encTV_len, show (ps.take (ps.length - kk) ++ [(T.mk y.op y.at' y.n y.m y.s ((ps.drop (ps.length - kk)).map (·.1)), Value.slice A2 (ps.length - (ps.length - kk)) c2)]).length = ps.length - kk + 1 by simp, List.flatMap_append]
        exact (by repeat first | exact List.Sublist.refl _ | exact List.nil_sublist _ | refine List.Sublist.cons_cons _ ?_ | refine List.Sublist.cons _ ?_)
  · by_cases hps : ps.length = 0
    · repeat' (first | refine KK ?_ | refine NB fun b => ?_ | ((refine KB ?_ ?_ <;> intro hp)) | refine KG ?_ | fail)
      exact ret_m1 rfl (rv_agg 1 rfl rfl rfl rfl rfl (by repeat first | exact lc_nil | refine lc_cons rfl ?_)) (fun μ' hle' hL => ⟨T.zero, ⟨_, rfl, KR.nil _ _ _⟩, by rw [T.size_eq]; simp [T.zero, T.kids], AllI.node ⟨0, hq0⟩ (fun t ht => by cases ht)⟩)
    · obtain ⟨p, hp⟩ : ∃ p, ps[ps.length - 1]? = some p := ⟨ps[ps.length - 1], List.getElem?_eq_getElem (by omega)⟩
      have hcell := flat_get encTV_len hp
      rcases hok.form with ⟨rfl, h0, _⟩ | ⟨g, rfl⟩
      · exact absurd h0 hps
      have hkp := hkids p (List.mem_of_getElem? hp)
      have hone := hkp.one
      have hall : (encTV p).all (·.oneCell') = true := by simp only [List.all_cons, List.all_nil, Bool.and_true, Bool.and_eq_true]; exact ⟨rfl, rfl, rfl, rfl, rfl, hone⟩
      repeat' (first | ((with_reducible apply g_storeS_1); exact rfl; exact rfl; exact rfl; exact rfl; exact rfl; exact hall; exact rfl; (repeat first | with_reducible exact pc_nil | with_reducible apply pc_cons)) | refine KO ?_ | (refine KV (b := by first | exact U1 (ps.length - 1) | ((with_reducible apply v_load_rows 0 (vs := encTV p)); exact rfl; exact rfl; exact rfl; exact rfl; exact rfl; exact hcell)) (c := ?_)) | refine KI ?_ | refine NB fun b => ?_ | ((refine KB ?_ ?_ <;> intro hp)) | refine KG ?_ | fail)
      refine ret_m1 rfl (rv_agg 1 rfl rfl rfl rfl rfl (by repeat first | exact lc_nil | refine lc_cons rfl ?_)) (fun μ' hle' hL => ⟨p.1, ⟨p.2, rfl, hkp.mono hle'⟩, ?_, hall0 p (List.mem_of_getElem? hp)⟩)
      have := T.sum_mem (List.mem_map.2 ⟨p, List.mem_of_getElem? hp, rfl⟩ : p.1.size ∈ ps.map fun p => p.1.size)
      have e : (ps.map fun p => p.1.size).sum = sizes ps := rfl
      omega
end Go.Proofs.YtfabmichdhbiaaaGreatDoor
namespace Go.Proofs.YtfabmichdhbiaaaGreatDoor
open Go.RowKit Go.Vcg
def fresh9 : ByteArray := "fresh9".toUTF8
def moreN : T := .mk 34 0 0 0 fresh9 []
def moreD : T := .mk 3 0 0 0 ⟨#[]⟩ [moreN]
def moreV : T := .mk 2 0 1 0 ⟨#[]⟩ [moreD]
def moreT (t : T) : T := .mk t.op t.at' t.n t.m t.s (t.kids ++ [moreV])
theorem badE_f (a e : Int) (s : ES) : badE false a e s = s := by unfold badE; rw [if_neg (by simp)]
theorem fresh_let : fresh9 ≠ "let".toUTF8 := by decide +kernel
theorem fresh_yield : fresh9 ≠ "yield".toUTF8 := by decide +kernel
theorem fresh_nil : fresh9 ≠ ⟨#[]⟩ := by decide +kernel
theorem name_fresh {wd : ByteArray → Int} (h1 : wd fresh9 ≠ 1) (h2 : wd fresh9 ≠ 2) (t : T) (p : EP) (s : ES) : nameE wd t fresh9 p s = s := by
  unfold nameE
  rw [decide_eq_false h1, decide_eq_false fresh_let, decide_eq_false h2, decide_eq_false fresh_yield]
  simp only [Bool.or_self, Bool.false_and, Bool.and_false, badE_f, ite_self]
theorem strictL_app : ∀ l : List T, strictL (l ++ [moreV]) = strictL l
  | [] => by
    show strictL [moreV] = _
    unfold strictL
    rw [if_neg (fun h => absurd h.1 (by decide))]
  | s :: r => by
    have ih := strictL_app r
    rw [List.cons_append]
    unfold strictL
    rw [ih]
theorem start_more {t : T} (h : t.op = 1) : startP (moreT t) = startP t := by
  have e : strictE (moreT t) = strictE t := by
    unfold strictE bodyE
    rw [if_pos h, if_pos (show (moreT t).op = 1 from h)]
    exact strictL_app t.kids
  unfold startP
  rw [e]
theorem more_law {wd : ByteArray → Int} (h1 : wd fresh9 ≠ 1) (h2 : wd fresh9 ≠ 2) (f : Nat) (t : T) (ht : AllN (fun t => Kc t ∧ t.s ≠ fresh9) t) (hop : t.op = 1) :
    (checkE wd (f + 2) (moreT t)).at' = (checkE wd (f + 2) t).at' ∧ (checkE wd (f + 2) (moreT t)).e = (checkE wd (f + 2) t).e := by
  unfold checkE
  rw [start_more hop]
  have ha : allE (nbE wd (f + 2)).1 (moreT t).kids (startP t) ⟨[], 1, 0, 0⟩ = (nbE wd (f + 2)).1 moreV (startP t) (allE (nbE wd (f + 2)).1 t.kids (startP t) ⟨[], 1, 0, 0⟩) := by
    show List.foldl _ _ (t.kids ++ [moreV]) = _
    rw [List.foldl_append]
    rfl
  rw [ha]
  have hg := gr_all (F := fun x => x = fresh9) (N := (nbE wd (f + 2)).1) t.kids (fun k hk => (gr_nb (F := fun x => x = fresh9) (wd := wd) (q := fun t => Kc t ∧ t.s ≠ fresh9) (fun t h => h) (f + 2) k (ht.kid hk)).1) (startP t) ⟨[], 1, 0, 0⟩
  have hn := hg.fr fresh9 rfl
  generalize allE (nbE wd (f + 2)).1 t.kids (startP t) ⟨[], 1, 0, 0⟩ = s at hn ⊢
  have hn0 : getE fresh9 s.names = [] := hn
  show (nodeE wd (nbE wd (f + 1)).1 (nbE wd (f + 1)).2 moreV (startP t) s).at' = s.at' ∧ (nodeE wd (nbE wd (f + 1)).1 (nbE wd (f + 1)).2 moreV (startP t) s).e = s.e
  unfold nodeE
  by_cases he : s.e = 0
  · rw [if_neg (fun h => h he)]
    dsimp only
    rw [if_pos (show moreV.op = 2 from rfl)]
    unfold varsE
    dsimp only
    show (allE _ _ _ ((nbE wd (f + 1)).2 moreN _ _ (badE (decide (([moreN] : List T).length = 1) && !false && (decide ((1 : Int) = 2) || decide ((34 : Int) ≠ 34))) 0 36 s))).at' = _ ∧ (allE _ _ _ ((nbE wd (f + 1)).2 moreN _ _ (badE (decide (([moreN] : List T).length = 1) && !false && (decide ((1 : Int) = 2) || decide ((34 : Int) ≠ 34))) 0 36 s))).e = _
    rw [show (decide (([moreN] : List T).length = 1) && !false && (decide ((1 : Int) = 2) || decide ((34 : Int) ≠ 34))) = false by decide, badE_f]
    show (bindE wd (nbE wd f).1 (nbE wd f).2 moreN _ _ s).at' = _ ∧ (bindE wd (nbE wd f).1 (nbE wd f).2 moreN _ _ s).e = _
    unfold bindE
    rw [if_pos (show moreN.op = 34 from rfl)]
    show (declE 0 fresh9 _ (nameE wd moreN fresh9 _ s)).at' = _ ∧ (declE 0 fresh9 _ (nameE wd moreN fresh9 _ s)).e = _
    rw [name_fresh h1 h2]
    unfold declE
    rw [hn0]
    simp only [List.any_nil, badE_f, and_self]
  · rw [if_pos he]
    exact ⟨rfl, rfl⟩
end Go.Proofs.YtfabmichdhbiaaaGreatDoor
namespace Go.Proofs.YtfabmichdhbiaaaGreatDoor
open Go.RowKit Go.Vcg
def sg (r : Int) : Int := if 0 < r then r + 1 else r
def sgD (d : ED) : ED := ⟨d.lex, d.ins.map sg, sg d.par, d.twice⟩
def fr1 : ED := ⟨false, [1], 0, false⟩
def SR (s s' : ES) : Prop := s.e ≠ 0 ∨ (s.e = 0 ∧ s'.e = 0 ∧ s'.at' = 0 ∧ s'.regs = s.regs + 1 ∧ ∀ x, getE x s'.names = (if x = fresh9 then [fr1] else []) ++ (getE x s.names).map sgD)
theorem SR.bad {s s' : ES} (h : SR s s') {c c' : Bool} (hc : s.e = 0 → c' = true → c = true) {e : Int} (he : e ≠ 0) (a : Int) : SR (badE c a e s) (badE c' a e s') := by
  rcases h with h | ⟨h0, h1, h2, h3, h4⟩
  · rw [badE_keep h]; exact .inl h
  cases c with
  | true =>
    left
    unfold badE
    rw [if_pos ⟨rfl, h0⟩]
    exact he
  | false =>
    cases c' with
    | true => cases hc h0 rfl
    | false =>
      rw [badE_f, badE_f]
      exact .inr ⟨h0, h1, h2, h3, h4⟩
theorem SR.name {s s' : ES} (h : SR s s') (wd : ByteArray → Int) (t : T) (x : ByteArray) {p p' : EP} (hg : p'.gen = p.gen) (hs : p'.strict = p.strict) : SR (nameE wd t x p s) (nameE wd t x p' s') := by
  unfold nameE
  dsimp only
  rw [hg, hs]
  refine SR.bad ?_ (fun _ h => h) (by decide) _
  split
  · exact (h.bad (fun _ h => h) (by decide) _).bad (fun _ h => h) (by decide) _
  · exact h.bad (fun _ h => h) (by decide) _
theorem SR.with {s s' : ES} (h : SR s s') : SR (withS s) (withS s') := by
  rcases h with h | ⟨h0, h1, h2, h3, h4⟩
  · exact .inl h
  · exact .inr ⟨h0, h1, h2, by show s'.regs + 1 = s.regs + 1 + 1; omega, h4⟩
section
variable {wd : ByteArray → Int} {N : T → EP → ES → ES} {B : T → EP → ED → ES → ES}
end
section
variable {wd : ByteArray → Int}
end
end Go.Proofs.YtfabmichdhbiaaaGreatDoor
namespace Go.Proofs.YtfabmichdhbiaaaGreatDoor
open Go.RowKit Go.Vcg Ou
def varsT (kind : Int) (x : ByteArray) (at' : Int) : T := .mk 2 at' kind 0 ⟨#[]⟩ [.mk 3 at' 0 0 ⟨#[]⟩ [.mk 34 at' 0 0 x []]]
def progT (l : List T) : T := .mk 1 0 0 0 ⟨#[]⟩ l
theorem form_of {x : ByteArray} (h : bl x ≠ [] ∧ (bl x).all (fun c => decide (LetP c.toNat ∨ DigP c.toNat)) = true ∧ ∀ c, (bl x)[0]? = some c → LetP c.toNat) : formB x = true := by
  refine formB_t ⟨h.1, fun i c hc => ?_⟩
  cases i with
  | zero => exact .inl (h.2.2 c hc)
  | succ i =>
    rcases of_decide_eq_true (List.all_eq_true.1 h.2.1 c (List.mem_of_getElem? hc)) with h1 | h1
    · exact .inl h1
    · exact .inr ⟨by simp, h1⟩
theorem form_x : formB ⟨#[120]⟩ = true := form_of ⟨by decide +kernel, by decide +kernel, fun c hc => by
  have e : (bl ⟨#[120]⟩)[0]? = some 120 := by decide +kernel
  rw [e] at hc
  cases hc
  decide +kernel⟩
theorem form_fresh : formB fresh9 = true := form_of ⟨by decide +kernel, by decide +kernel, fun c hc => by
  have e : (bl fresh9)[0]? = some 102 := by decide +kernel
  rw [e] at hc
  cases hc
  decide +kernel⟩
theorem nd_of {t : T} {s : Bool} (hkn : knR t.op) (ha : 0 ≤ t.at') (hm : t.m = 0) (h4 : t.op ≠ 4) (hn : 0 ≤ t.n ∧ t.n ≤ mostT t.op) (hw : wordT t = true) (hl : linkT t = false) : Nd t s := by
  refine ⟨(known_iff _).2 hkn, ?_, fun h => by rw [hl] at h; cases h.1⟩
  unfold fieldsT
  have hb : badT t = false := by
    unfold badT
    rw [decide_eq_false (show ¬t.at' < 0 by omega), decide_eq_false (fun h => h hm)]
    rfl
  rw [if_neg (by rw [hb]; simp), if_neg h4, decide_eq_true hn.1, decide_eq_true hn.2, hw]
  rfl
theorem rt_name {x : ByteArray} {at' : Int} (ha : 0 ≤ at') (hx : formB x = true) {d : Nat} (hd : d ≤ 200) (s : Bool) : Rt (.mk 34 at' 0 0 x []) d s := by
  refine .mk hd (nd_of (by unfold knR; simp [T.op]) ha rfl (by simp [T.op]) ⟨Int.le_refl _, by simp [mostT, T.op, T.n]⟩ ?_ (by simp [linkT, T.op])) ?_ fun i k hk => by simp [T.kids] at hk
  · unfold wordT
    simp [T.op, T.s, hx]
  · unfold kidsB exB
    simp [T.op, T.kids]
theorem rt_decl {x : ByteArray} {at' : Int} (ha : 0 ≤ at') (hx : formB x = true) {d : Nat} (hd : d ≤ 199) (s : Bool) : Rt (.mk 3 at' 0 0 ⟨#[]⟩ [.mk 34 at' 0 0 x []]) d s := by
  refine .mk (by omega) (nd_of (by unfold knR; simp [T.op]) ha rfl (by simp [T.op]) ⟨Int.le_refl _, by simp [mostT, T.op, T.n]⟩ ?_ (by simp [linkT, T.op])) ?_ fun i k hk => ?_
  · unfold wordT
    simp [T.op, T.s]
  · unfold kidsB stB
    simp only [T.op, T.kids]
    simp only [show ¬((3 : Int) = 1 ∨ (3 : Int) = 6) by omega, show ¬(3 : Int) = 2 by omega, if_false, if_true, show (3 : Int) ≤ 23 by omega]
    rw [fitP_0]
    have ht : targetT (.mk 34 at' 0 0 x []) = true := by simp [targetT, simpleT, T.op]
    dsimp only
    rw [if_pos ht, fitP_1]
    exact fitP_nil' []
  · cases i with
    | zero =>
      have hk : some (T.mk 34 at' 0 0 x []) = some k := hk
      cases hk
      exact rt_name ha hx (by omega) _
    | succ i => simp [T.kids] at hk
theorem rt_vars {kind at' : Int} {x : ByteArray} (hkd : 0 ≤ kind ∧ kind ≤ 2) (ha : 0 ≤ at') (hx : formB x = true) {d : Nat} (hd : d ≤ 198) (s : Bool) : Rt (varsT kind x at') d s := by
  refine .mk (by omega) (nd_of (by unfold knR; simp [varsT, T.op]) ha rfl (by simp [varsT, T.op]) ⟨hkd.1, by simp [mostT, varsT, T.op, T.n]; exact hkd.2⟩ ?_ (by simp [linkT, varsT, T.op])) ?_ fun i k hk => ?_
  · unfold wordT
    simp [varsT, T.op, T.s]
  · unfold kidsB stB
    simp [varsT, T.op, T.kids, fewP, ofT]
  · cases i with
    | zero =>
      have hk : some (T.mk 3 at' 0 0 ⟨#[]⟩ [.mk 34 at' 0 0 x []]) = some k := hk
      cases hk
      exact rt_decl ha hx (by omega) _
    | succ i => simp [varsT, T.kids] at hk
theorem rt_prog {l : List T} (h : ∀ v ∈ l, ∃ kind x at', v = varsT kind x at' ∧ (0 ≤ kind ∧ kind ≤ 2) ∧ 0 ≤ at' ∧ formB x = true) : Rt (progT l) 1 false := by
  refine .mk (by omega) (nd_of (by unfold knR; simp [progT, T.op]) (Int.le_refl _) rfl (by simp [progT, T.op]) ⟨Int.le_refl _, by simp [mostT, progT, T.op, T.n]⟩ ?_ (by simp [linkT, progT, T.op])) ?_ fun i k hk => ?_
  · unfold wordT
    simp [progT, T.op, T.s]
  · unfold kidsB stB
    simp only [progT, T.op, T.kids]
    simp only [show (1 : Int) ≤ 23 by omega, if_true, true_or]
    unfold fewP
    have ha : l.all stmtT = true := List.all_eq_true.2 fun v hv => by
      obtain ⟨kind, x, a, rfl, -⟩ := h v hv
      simp [stmtT, varsT, T.op]
    rw [ha]
    simp
  · obtain ⟨kind, x, a, rfl, h1, h2, h3⟩ := h k (List.mem_of_getElem? hk)
    exact rt_vars h1 h2 h3 (by omega) _
theorem nd_more {t : T} (h1 : t.op = 1) (s : Bool) : Nd (moreT t) s ↔ Nd t s := by
  have e1 : (moreT t).op = t.op := rfl
  have e2 : fieldsT (moreT t) = fieldsT t := by
    unfold fieldsT badT compT wordT
    rw [e1, h1]
    rfl
  have e3 : linkT (moreT t) = linkT t := rfl
  unfold Nd
  rw [e1, e2, e3]
  exact Iff.rfl
theorem kids_more {t : T} (h1 : t.op = 1) : kidsB (moreT t) = kidsB t := by
  unfold kidsB stB
  rw [show (moreT t).op = t.op from rfl, h1, if_pos (by omega), if_pos (by omega), if_pos (by omega), if_pos (by omega)]
  unfold fewP
  have e : (moreT t).kids = t.kids ++ [moreV] := rfl
  rw [e, List.all_append]
  have hv : [moreV].all stmtT = true := by simp [stmtT, moreV, T.op]
  rw [hv, Bool.and_true]
  simp
  intro _
  omega
theorem rt_more {t : T} (h1 : t.op = 1) : Rt (moreT t) 1 false ↔ Rt t 1 false := by
  constructor
  · intro h
    cases h with
    | mk hd hn hk hr =>
      refine .mk hd ((nd_more h1 _).1 hn) (by rw [← kids_more h1]; exact hk) fun i k hi => ?_
      have hlt := (List.getElem?_eq_some_iff.1 hi).1
      exact hr i k (by show (t.kids ++ [moreV])[i]? = _; rw [List.getElem?_append_left hlt]; exact hi)
  · intro h
    cases h with
    | mk hd hn hk hr =>
      refine .mk hd ((nd_more h1 _).2 hn) (by rw [kids_more h1]; exact hk) fun i k hi => ?_
      have hi : (t.kids ++ [moreV])[i]? = some k := hi
      by_cases hlt : i < t.kids.length
      · rw [List.getElem?_append_left hlt] at hi
        exact hr i k hi
      · rw [List.getElem?_append_right (by omega)] at hi
        cases hj : i - t.kids.length with
        | zero =>
          rw [hj] at hi
          have hi : some moreV = some k := hi
          cases hi
          exact rt_vars (by omega) (Int.le_refl _) form_fresh (by omega) _
        | succ j => rw [hj] at hi; simp at hi
theorem rtB_more {t : T} (h1 : t.op = 1) : rtB (moreT t) 1 false = rtB t 1 false := by
  cases h : rtB t 1 false with
  | true => exact rtB_t ((rt_more h1).2 (rtB_true h))
  | false => exact rtB_f fun h2 => rtB_false h ((rt_more h1).1 h2)
theorem AllN.imp {p q : T → Prop} (hpq : ∀ t, p t → q t) {t : T} (h : AllN p t) : AllN q t := by
  induction h with
  | mk h _ ih => exact .mk (hpq _ h) ih
theorem AllN.and {p q : T → Prop} {t : T} (h : AllN p t) (h2 : AllN q t) : AllN (fun t => p t ∧ q t) t := by
  induction h with
  | mk h _ ih => exact .mk ⟨h, h2.here⟩ fun k hk => ih k hk (h2.kid hk)
theorem AllI.to {q : Ite → Prop} {P : T → Prop} (hp : ∀ op at' n m s kids k, q ⟨op, at', n, m, s, k⟩ → P (.mk op at' n m s kids)) {t : T} (h : AllI q t) : AllN P t := by
  induction h with
  | node h _ ih =>
    obtain ⟨k, hk⟩ := h
    exact .mk (hp _ _ _ _ _ _ k hk) ih
theorem sh_of {t : T} (h : AllN (fun t => t.s.size ≤ 4000 ∧ In64 t.op ∧ In64 t.n ∧ In64 t.m) t) : Sh t := by
  induction h with
  | mk h _ ih => exact .mk h.1 h.2.1 h.2.2.1 h.2.2.2 ih
theorem wd_fresh : wdF fresh9 = 0 := by decide +kernel
theorem checkR_more {t : T} (h1 : t.op = 1) (hsh : Sh t) (hf : AllN (fun t => t.s ≠ fresh9) t) (f : Nat) : checkR (f + 2) (moreT t) = checkR (f + 2) t := by
  unfold checkR
  rw [rtB_more h1, show (moreT t).op = t.op from rfl]
  by_cases h : t.op = 1 ∧ rtB t 1 false = true
  · rw [if_pos h, if_pos h]
    have hq := alln_of t 1 false (rtB_true h.2) hsh
    obtain ⟨e1, e2⟩ := more_law (wd := wdF) (by rw [wd_fresh]; decide) (by rw [wd_fresh]; decide) f t ((hq.and hf).imp fun t h => ⟨h.1.1, h.2⟩) h1
    rw [e1, e2]
  · rw [if_neg h, if_neg h]
def xS : ByteArray := ⟨#[120]⟩
def exA : T := progT [varsT 1 xS 4, varsT 0 xS 11]
def exB' : T := progT [varsT 0 xS 4, varsT 0 xS 11]
def exC : T := progT [varsT 2 xS 6]
theorem ck_A : (checkE wdF 9 exA).at' = 11 ∧ (checkE wdF 9 exA).e = 30 := by decide +kernel
theorem ck_B : (checkE wdF 9 exB').at' = 0 ∧ (checkE wdF 9 exB').e = 0 := by decide +kernel
theorem ck_C : (checkE wdF 9 exC).at' = 6 ∧ (checkE wdF 9 exC).e = 36 := by decide +kernel
theorem rt_A : rtB exA 1 false = true := rtB_t (rt_prog fun v hv => by
  rcases List.mem_cons.1 hv with rfl | hv
  · exact ⟨_, _, _, rfl, by omega, by omega, form_x⟩
  · rw [List.mem_singleton.1 hv]
    exact ⟨_, _, _, rfl, by omega, by omega, form_x⟩)
theorem rt_B : rtB exB' 1 false = true := rtB_t (rt_prog fun v hv => by
  rcases List.mem_cons.1 hv with rfl | hv
  · exact ⟨_, _, _, rfl, by omega, by omega, form_x⟩
  · rw [List.mem_singleton.1 hv]
    exact ⟨_, _, _, rfl, by omega, by omega, form_x⟩)
theorem rt_C : rtB exC 1 false = true := rtB_t (rt_prog fun v hv => by
  rw [List.mem_singleton.1 hv]
  exact ⟨_, _, _, rfl, by omega, by omega, form_x⟩)
theorem ckR_A : checkR 9 exA = (11, 30) := by
  unfold checkR
  rw [if_pos ⟨rfl, rt_A⟩, ck_A.1, ck_A.2]
theorem ckR_B : checkR 9 exB' = (0, 0) := by
  unfold checkR
  rw [if_pos ⟨rfl, rt_B⟩, ck_B.1, ck_B.2]
theorem ckR_C : checkR 9 exC = (6, 36) := by
  unfold checkR
  rw [if_pos ⟨rfl, rt_C⟩, ck_C.1, ck_C.2]
end Go.Proofs.YtfabmichdhbiaaaGreatDoor
