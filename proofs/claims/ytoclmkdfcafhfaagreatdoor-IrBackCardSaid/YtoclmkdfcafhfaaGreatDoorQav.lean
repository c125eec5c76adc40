/- strings.Builder's writers, for a builder that the call borrows. -/
import Derived.Test.YtoclmkdfcafhfaaGreatDoorQau
import Derived.Test.YtoclmkdfcafhfaaGreatDoorQap
import Derived.Lib.ItoaLen
set_option maxRecDepth 20000
set_option maxHeartbeats 2000000
namespace Go.Vcg
open Go.RowKit
section
variable {P : Program} {w : World} {μ : Mem} {l : Slots} {L : List Bk}
theorem ret_borN {fn : Func} {n : Nat} {rs : List ResultVar} {vs : List Value} {μ0 : Mem} {M : List Nat} {ι : Type} {Ls : ι → List Bk} {Post : Mem → Value → ι → Prop} {L' Lr : List Bk} (k : Nat) (i : ι) (hM : ∀ D, M.count D ≤ 1) (hr : fn.results = rs.toArray) (h : RVs P μ l L rs vs) (hl : Nat.beq vs.length 1 = false) (hL : splitB k L = some (L', Lr)) (hLs : Ls i = L')
    (hp : ∀ μ', MLe μ μ' → Post μ' (.tuple vs.toArray) i) :
    GQ ⟨w, μ0, M, n⟩ (bodyPost P fn (fun e w' => ∃ v μ' i, e = .returned v ∧ BackM M w w' μ0 (Ls i) μ' ∧ Post μ' v i)) .ret μ l L := fun a w' hs => by
  have he := splitB_eq hL
  subst he
  obtain ⟨μ', hb, hle⟩ := hs.giveBack
  subst hLs
  exact ⟨hs.defers.none hM, _, resultsN hr h hl hs.rd, _, μ', i, rfl, hb, hp μ' hle⟩
theorem g_forget {X : Ctx} {ops : Array Oper} {Q : Exit → Act → World → Prop} {rest : List Oper} {μ1 : Mem} (hM : ∀ D, X.M.count D ≤ 1) (hle : MLe μ1 μ) (h1 : X.μ0 = μ1) (h : G P X ops Q rest μ1 l L) : G P X ops Q rest μ l L := by
  subst h1
  exact fun a w hs => h a w ⟨hs.size, by rw [hs.defers.none hM]; exact Marks.nil, hs.slots, hs.keep, fun b o e => hs.mem b o (hle b o e), MLe.refl _, fun _ _ _ h => h, hs.own, fun x hx b hb => (by
    cases e : X.μ0 b with
    | none => rfl
    | some o => exact absurd ((hle b o e).symm.trans (hs.priv x hx b hb)) (by simp)), hs.new, hs.diff⟩
end
end Go.Vcg
namespace Go.Proofs.YtoclmkdfcafhfaaGreatDoor
section
open Go.Shelf Go.RowKit Go.Vcg
open Go.Lib (byteCells)
section
variable {X : Ctx} {ops : Array Oper} {Q : Exit → Act → World → Prop} {rest : List Oper} {μ : Mem} {l : Slots} {L : List Bk} {o : Oper} {d : Nat}
theorem g_ccheck {k : Nat} {p v : Value} (i : Nat) (hd : o.dst = some d) (hn : Nat.blt d X.n = true) (hw : wants ops l o = some true)
    (hr : Ent Tryz.prog μ l L o 103 #[.pointer (some ⟨k, 0, none⟩)])
    (hi : nthB L i = some (.inl ⟨k, 75, 2, [(0, p), (1, v)]⟩)) (hp : IsP k p)
    (h : G Tryz.prog X ops Q rest μ ((d, .tuple #[]) :: l) (updB L i (.inl ⟨k, 75, 2, [(0, .pointer (some ⟨k, 0, none⟩)), (1, v)]⟩))) : G Tryz.prog X ops Q (o :: rest) μ l L :=
  g_wp hw fun a w hs => by
    unfold Oper.wp
    rw [hr a w hs.rd, Oper.upon_enter]
    obtain ⟨arr, hh, hsz, hcs⟩ := hs.own _ (nthB_mem hi)
    have h0 : arr[0]? = some p := hcs 0 p rfl
    have h1 : arr[1]? = some v := hcs 1 v rfl
    have harr : arr = #[p, v] := by
      apply Array.ext_getElem?
      intro i
      match i with
      | 0 => simpa using h0
      | 1 => simpa using h1
      | i + 2 => rw [Array.getElem?_eq_none (by simp only at hsz; omega), Array.getElem?_eq_none (by simp)]
    subst harr
    have hlt := (Array.getElem?_eq_some_iff.1 hh).1
    have done : ∀ w' : World, w'.os = w.os → w'.tape = w.tape → w'.output = w.output → w.heap.size ≤ w'.heap.size → (∀ b, b ≠ k → w'.heap[b]? = w.heap[b]?) → w'.heap[k]? = some (.cells #[.pointer (some ⟨k, 0, none⟩), v] 75 (0, 0)) → wpList Tryz.prog ops Q rest (a.put o.dst (.tuple #[])) w' := by
      intro w' e1 e2 e3 e4 e5 e6
      have hs2 := hs.upd hi (y := .inl ⟨k, 75, 2, [(0, .pointer (some ⟨k, 0, none⟩)), (1, v)]⟩) e1 e2 e3 e4 (fun b _ hne => e5 b (fun e => hne (by rw [e]; rfl)))
        ⟨_, e6, rfl, fun i u hu => by
          match i, hu with
          | 0, hu => cases hu; rfl
          | 1, hu => cases hu; rfl
          | i + 2, hu => cases (show (none : Option Value) = some u from hu)⟩ (fun b hb => .inl hb)
      rw [hd]
      exact h _ _ (hs2.put hn _)
    rcases hp with rfl | rfl
    · refine (Any.Builder_copyCheck_fresh { bLays166 with } bldExtra.toX72 k w (by simp [World.cell?, hh]) (by simp [World.shape?, hh]; rfl) (by simp [World.frozen?, hh])).mono ?_
      rintro e w' ⟨rfl, rfl⟩
      refine done _ rfl rfl rfl (by simp [World.setCell]) (fun b hb => ?_) ?_
      · show (Array.modify _ _ _)[b]? = _
        rw [Array.getElem?_modify, if_neg (fun e => hb e.symm)]
      · show (Array.modify _ _ _)[k]? = _
        rw [Array.getElem?_modify, if_pos rfl, hh]
        rfl
    · refine (Any.Builder_copyCheck_used { bLays166 with } bldExtra.toX72 k w (by simp [World.cell?, hh])).mono ?_
      rintro e w' ⟨rfl, rfl⟩
      exact done _ rfl rfl rfl (Nat.le_refl _) (fun _ _ => rfl) hh
end
attribute [local irreducible] G GC GQ GA GAop Calls IntKind.wrap Int.decLt Int.decLe
theorem wbyte_spec (k : Nat) (p v : Value) (out : List UInt8) (c : Int) (y : UInt8) (hp : IsP k p) (hcb : c = y.toNat) (hlen : out.length + 1 ≤ 140737488355328) (w : World) (μ : Mem) (hμ : MOk μ w) (hO : Go.Vcg.Own μ (Bld k p v out []) w) :
    Calls Tryz.prog 72 #[.pointer (some ⟨k, 0, none⟩), .int .u8 c] w fun e w' => ∃ r μ' i, e = .returned r ∧ BackM (idsOf (Bld k p v out [])) w w' μ (Bld k (.pointer (some ⟨k, 0, none⟩)) i (out ++ [y]) []) μ' ∧ r = .nilIface := by
  have hcnt := ids_count hO.diff
  refine call_introM (args := [.pointer (some ⟨k, 0, none⟩), .int .u8 c]) Tryz.func72 rfl Tryz.ntmps72 (by simp) hμ hO ?_
  repeat' (first | refine KO ?_ | (refine CF 103 ?_; (with_reducible apply g_ccheck 0); exact rfl; exact rfl; exact rfl; ((with_reducible apply e_call1); kernel_rfl; exact rfl); exact rfl; (exact hp); (dsimp only [updB])) | (first | ((with_reducible apply g_ap); exact rfl; exact rfl; exact rfl; (repeat first | with_reducible exact rowup_hd | with_reducible apply rowup_tl); (iterate 6 exact rfl); (first | ((with_reducible apply src_in); exact rfl; (repeat first | with_reducible exact inb_hd | with_reducible apply inb_tl); exact rfl)); (first | exact rfl | omega | simp); (first | assumption | (exact ones_mem (by (repeat first | with_reducible exact ones_nil | ((with_reducible apply ones_cons); (first | exact rfl | assumption))))) | simp [Value.oneCell']); omega; omega; intro v; ((with_reducible apply g_rowSlice 2); exact rfl); (rintro A cap rfl)) | ((with_reducible apply g_append0); (iterate 9 exact rfl); (first | ((with_reducible apply src_in); exact rfl; (repeat first | with_reducible exact inb_hd | with_reducible apply inb_tl); exact rfl)); (first | exact rfl | omega | simp); (first | assumption | (exact ones_mem (by (repeat first | with_reducible exact ones_nil | ((with_reducible apply ones_cons); (first | exact rfl | assumption))))) | simp [Value.oneCell']); omega; omega; intro v; ((with_reducible apply g_rowSlice 2); exact rfl); (rintro A cap rfl))) | refine KI ?_ | refine NB fun b => ?_ | (refine KB ?_ ?_ <;> intro hp) | refine KG ?_ | fail)
  refine gq_rowEq (n' := (out ++ [y]).length) (xs' := byteCells (out ++ [y])) 2 rfl (by simp) (by rw [byteCells_app, hcb]; rfl) ?_
  refine gq_sel (l' := [(4, .nilIface)]) (L' := Bld k (.pointer (some ⟨k, 0, none⟩)) (.slice A (out.length + 1) cap) (out ++ [y]) []) PU PS ?_
  exact ret_bor (Ls := fun i => Bld k (.pointer (some ⟨k, 0, none⟩)) i (out ++ [y]) []) 2 _ hcnt rfl (rv_tmp rfl) rfl rfl (fun _ _ => rfl)
theorem wstring_spec (k : Nat) (p v : Value) (out : List UInt8) (s : ByteArray) (hp : IsP k p) (hlen : out.length + s.size ≤ 140737488355328) (w : World) (μ : Mem) (hμ : MOk μ w) (hO : Go.Vcg.Own μ (Bld k p v out []) w) :
    Calls Tryz.prog 70 #[.pointer (some ⟨k, 0, none⟩), .string s] w fun e w' => ∃ r μ' i, e = .returned r ∧ BackM (idsOf (Bld k p v out [])) w w' μ (Bld k (.pointer (some ⟨k, 0, none⟩)) i (out ++ bl s) []) μ' ∧ r = .tuple #[.int .i64 s.size, .nilIface] := by
  have hcnt := ids_count hO.diff
  refine call_introM (args := [.pointer (some ⟨k, 0, none⟩), .string s]) Tryz.func70 rfl Tryz.ntmps70 (by simp) hμ hO ?_
  repeat' (first | refine KO ?_ | (refine CF 103 ?_; (with_reducible apply g_ccheck 0); exact rfl; exact rfl; exact rfl; ((with_reducible apply e_call1); kernel_rfl; exact rfl); exact rfl; (exact hp); (dsimp only [updB])) | ((with_reducible apply g_aps); exact rfl; exact rfl; exact rfl; exact rfl; (repeat first | with_reducible exact rowup_hd | with_reducible apply rowup_tl); (iterate 5 exact rfl); (exact hlen); intro v; ((with_reducible apply g_rowSlice 1); exact rfl); (rintro A cap rfl)) | refine KI ?_ | (refine KB ?_ ?_ <;> intro hp) | refine KG ?_ | fail)
  refine gq_rowEq (n' := (out ++ bl s).length) (xs' := byteCells (out ++ bl s)) 1 rfl (by simp [bl]) (by rw [byteCells_app]; rfl) ?_
  refine gq_sel (l' := [(4, .int .i64 s.size), (5, .nilIface)]) (L' := Bld k (.pointer (some ⟨k, 0, none⟩)) (.slice A (out.length + s.size) cap) (out ++ bl s) []) PU PS ?_
  exact ret_borN (Ls := fun i => Bld k (.pointer (some ⟨k, 0, none⟩)) i (out ++ bl s) []) 2 _ hcnt rfl (by repeat first | exact rvs_nil | refine rvs_cons (by first | exact rv_tmp rfl | exact (RG 0 rfl rfl rfl rfl rfl) | exact (RG 1 rfl rfl rfl rfl rfl) | exact (RG 2 rfl rfl rfl rfl rfl) | exact (RG 3 rfl rfl rfl rfl rfl)) ?_) rfl rfl rfl (fun _ _ => rfl)
end
section
open Go.RowKit Go.Vcg Go.MapKept Ou
attribute [local irreducible] G GC GQ GA GAop Calls IntKind.wrap Int.decLt Int.decLe
instance (n : Int) : Decidable (inB n) := by unfold inB; infer_instance
end
end Go.Proofs.YtoclmkdfcafhfaaGreatDoor
namespace Go.Vcg
open Go.RowKit
section
variable {P : Program} {μ : Mem} {l : Slots} {L : List Bk} {ds : Option Nat} {ty : TypeId} {pos : String} {af : Array Edge} {gd : Option (Nat × Bool)}
theorem run_sindex8 {t : TypeId} {s : ByteArray} {k : Nat} (ht : P.underlying t = some .string) (hk : k < s.size) (w : World) : (Instr.index t (.string s) (.int .u8 (k : Int))).run P w = .ok (.int .u8 (bAt s k)) w := by
  have h1 : s[k]? = some s[k] := by simp [hk]
  have h2 : bAt s k = s[k].toNat := by
    unfold bAt
    have : s.data.toList[k]? = some s[k] := by
      rw [Array.getElem?_toList]
      exact Array.getElem?_eq_getElem hk
    rw [this]; rfl
  simp [Instr.index, asIntOf, run_underlying ht, h1, h2]
theorem v_sindex8 {p q : Operand} {t : TypeId} {s : ByteArray} {i : Int} (k : Nat) (ht : P.underlying t = some .string) (hx0 : ev l p = some (.string s)) (hx1 : ev l q = some (.int .u8 i)) (hi : i = (k : Int)) (hk : k < s.size) :
    Val P μ l L ⟨ds, .index t p q, ty, pos, af, gd⟩ (.int .u8 (bAt s k)) := fun a w hs => by
  have e0 := hs.eval hx0; have e1 := hs.eval hx1; generalize a.eval = ρ at e0 e1; subst hi; simp [execOp, e0, e1, run_sindex8 ht hk]
end
end Go.Vcg
namespace Go.Proofs.YtoclmkdfcafhfaaGreatDoor
open Go.RowKit Go.Vcg Ou
open Go.Lib (byteCells)
def hexS : ByteArray := ⟨#[48, 49, 50, 51, 52, 53, 54, 55, 56, 57, 97, 98, 99, 100, 101, 102]⟩
theorem h2x : (bl ⟨#[92, 120]⟩).length = 2 := rfl
theorem hexS_at {d : Nat} (h : d < 16) : bAt hexS d = ((hexT.getD d 0).toNat : Int) := by
  have key : ∀ d, d < 16 → bAt hexS d = ((hexT.getD d 0).toNat : Int) := by decide +kernel
  exact key d h
theorem bl_ofB (l : List UInt8) : bl (ofB l) = l := by simp [bl, ofB]
theorem q1_len (c : UInt8) : (q1 c).length ≤ 4 := by
  unfold q1
  repeat' split
  all_goals simp
theorem qs_len : ∀ l : List UInt8, (l.flatMap q1).length ≤ 4 * l.length
  | [] => by simp
  | c :: r => by
    have := qs_len r
    have := q1_len c
    rw [List.flatMap_cons, List.length_append, List.length_cons]
    omega
attribute [local irreducible] G GC GQ GA GAop Calls IntKind.wrap Int.decLt Int.decLe q1 hexT
theorem quoted_spec (k : Nat) (p v : Value) (out : List UInt8) (c : UInt8) (hp : IsP k p) (hlen : out.length + 4 ≤ 140737488355328) (w : World) (μ : Mem) (hμ : MOk μ w) (hO : Go.Vcg.Own μ (Bld k p v out []) w) :
    Calls Tryz.prog 74 #[.pointer (some ⟨k, 0, none⟩), .int .u8 c.toNat] w fun e w' => ∃ r μ' i, e = .returned r ∧ BackM (idsOf (Bld k p v out [])) w w' μ (Bld k (.pointer (some ⟨k, 0, none⟩)) i (out ++ q1 c) []) μ' ∧ True := by
  have hcnt := ids_count hO.diff
  have hc := c.toNat_lt
  refine call_introM (args := [.pointer (some ⟨k, 0, none⟩), .int .u8 c.toNat]) Tryz.func74 rfl Tryz.ntmps74 (by simp) hμ hO ?_
  have hq : q1 c = if c.toNat = 10 then [92, 110] else if c.toNat = 9 then [92, 116] else if c.toNat = 13 then [92, 114] else if c.toNat = 0 then [92, 48]
      else if c.toNat = 34 ∨ c.toNat = 92 then [92, c] else if c.toNat < 32 ∨ 126 < c.toNat then [92, 120, hexT.getD (c.toNat / 16) 0, hexT.getD (c.toNat % 16) 0] else [c] := by
    have hn : ∀ n : UInt8, (c = n) = (c.toNat = n.toNat) := fun n => propext UInt8.toNat_inj.symm
    unfold q1
    simp only [hn]
    rfl
  by_cases h10 : c.toNat = 10
  · rw [show out ++ q1 c = out ++ bl ⟨#[92, 110]⟩ by rw [hq, if_pos h10]]
    repeat' (first | refine KO ?_ | (refine CF 72 ?_; (with_reducible apply g_enter_bor 2); exact rfl; exact rfl; exact rfl; ((with_reducible apply e_call2); kernel_rfl; exact rfl; exact rfl); exact rfl; (first | exact fun w hw hO => wbyte_spec k _ _ _ (92 : Int) 92 hp rfl (by have h2 := h2x; (try simp only [List.length_append, List.length_cons, List.length_nil]); omega) w _ hw hO | exact fun w hw hO => wbyte_spec k _ _ _ (92 : Int) 92 (.inr rfl) rfl (by have h2 := h2x; (try simp only [List.length_append, List.length_cons, List.length_nil]); omega) w _ hw hO | exact fun w hw hO => wbyte_spec k _ _ _ _ c hp rfl (by have h2 := h2x; (try simp only [List.length_append, List.length_cons, List.length_nil]); omega) w _ hw hO | exact fun w hw hO => wbyte_spec k _ _ _ _ c (.inr rfl) rfl (by have h2 := h2x; (try simp only [List.length_append, List.length_cons, List.length_nil]); omega) w _ hw hO | exact fun w hw hO => wbyte_spec k _ _ _ _ (hexT.getD (c.toNat / 16) 0) hp (hexS_at (by omega)) (by have h2 := h2x; (try simp only [List.length_append, List.length_cons, List.length_nil]); omega) w _ hw hO | exact fun w hw hO => wbyte_spec k _ _ _ _ (hexT.getD (c.toNat / 16) 0) (.inr rfl) (hexS_at (by omega)) (by have h2 := h2x; (try simp only [List.length_append, List.length_cons, List.length_nil]); omega) w _ hw hO | exact fun w hw hO => wbyte_spec k _ _ _ _ (hexT.getD (c.toNat % 16) 0) hp (hexS_at (by omega)) (by have h2 := h2x; (try simp only [List.length_append, List.length_cons, List.length_nil]); omega) w _ hw hO | exact fun w hw hO => wbyte_spec k _ _ _ _ (hexT.getD (c.toNat % 16) 0) (.inr rfl) (hexS_at (by omega)) (by have h2 := h2x; (try simp only [List.length_append, List.length_cons, List.length_nil]); omega) w _ hw hO); (rintro v2 μ2 i2 hle2 rfl); (dsimp only [List.cons_append, List.nil_append])) | (refine CF 70 ?_; (with_reducible apply g_enter_bor 2); exact rfl; exact rfl; exact rfl; ((with_reducible apply e_call2); kernel_rfl; exact rfl; exact rfl); exact rfl; (exact fun w hw hO => wstring_spec k _ _ _ _ hp (show out.length + 2 ≤ _ by omega) w _ hw hO); (rintro v2 μ2 i2 hle2 rfl); (dsimp only [List.cons_append, List.nil_append])) | refine KI ?_ | (refine KB ?_ ?_ <;> intro hp) | refine KG ?_ | fail)
    all_goals first | (exfalso; omega) | exact ret_bor0 (Post := fun _ _ _ => True) (Ls := fun i => Bld k (.pointer (some ⟨k, 0, none⟩)) i (out ++ bl ⟨#[92, 110]⟩) []) 2 _ (.inr rfl) hcnt rfl rfl rfl (fun _ _ _ => trivial) | exact ret_bor0 (Post := fun _ _ _ => True) (Ls := fun i => Bld k (.pointer (some ⟨k, 0, none⟩)) i (out ++ bl ⟨#[92, 110]⟩) []) 2 _ (.inl rfl) hcnt rfl rfl rfl (fun _ _ _ => trivial)
  by_cases h9 : c.toNat = 9
  · rw [show out ++ q1 c = out ++ bl ⟨#[92, 116]⟩ by rw [hq, if_neg h10, if_pos h9]]
    repeat' (first | refine KO ?_ | (refine CF 72 ?_; (with_reducible apply g_enter_bor 2); exact rfl; exact rfl; exact rfl; ((with_reducible apply e_call2); kernel_rfl; exact rfl; exact rfl); exact rfl; (first | exact fun w hw hO => wbyte_spec k _ _ _ (92 : Int) 92 hp rfl (by have h2 := h2x; (try simp only [List.length_append, List.length_cons, List.length_nil]); omega) w _ hw hO | exact fun w hw hO => wbyte_spec k _ _ _ (92 : Int) 92 (.inr rfl) rfl (by have h2 := h2x; (try simp only [List.length_append, List.length_cons, List.length_nil]); omega) w _ hw hO | exact fun w hw hO => wbyte_spec k _ _ _ _ c hp rfl (by have h2 := h2x; (try simp only [List.length_append, List.length_cons, List.length_nil]); omega) w _ hw hO | exact fun w hw hO => wbyte_spec k _ _ _ _ c (.inr rfl) rfl (by have h2 := h2x; (try simp only [List.length_append, List.length_cons, List.length_nil]); omega) w _ hw hO | exact fun w hw hO => wbyte_spec k _ _ _ _ (hexT.getD (c.toNat / 16) 0) hp (hexS_at (by omega)) (by have h2 := h2x; (try simp only [List.length_append, List.length_cons, List.length_nil]); omega) w _ hw hO | exact fun w hw hO => wbyte_spec k _ _ _ _ (hexT.getD (c.toNat / 16) 0) (.inr rfl) (hexS_at (by omega)) (by have h2 := h2x; (try simp only [List.length_append, List.length_cons, List.length_nil]); omega) w _ hw hO | exact fun w hw hO => wbyte_spec k _ _ _ _ (hexT.getD (c.toNat % 16) 0) hp (hexS_at (by omega)) (by have h2 := h2x; (try simp only [List.length_append, List.length_cons, List.length_nil]); omega) w _ hw hO | exact fun w hw hO => wbyte_spec k _ _ _ _ (hexT.getD (c.toNat % 16) 0) (.inr rfl) (hexS_at (by omega)) (by have h2 := h2x; (try simp only [List.length_append, List.length_cons, List.length_nil]); omega) w _ hw hO); (rintro v2 μ2 i2 hle2 rfl); (dsimp only [List.cons_append, List.nil_append])) | (refine CF 70 ?_; (with_reducible apply g_enter_bor 2); exact rfl; exact rfl; exact rfl; ((with_reducible apply e_call2); kernel_rfl; exact rfl; exact rfl); exact rfl; (exact fun w hw hO => wstring_spec k _ _ _ _ hp (show out.length + 2 ≤ _ by omega) w _ hw hO); (rintro v2 μ2 i2 hle2 rfl); (dsimp only [List.cons_append, List.nil_append])) | refine KI ?_ | (refine KB ?_ ?_ <;> intro hp) | refine KG ?_ | fail)
    all_goals first | (exfalso; omega) | exact ret_bor0 (Post := fun _ _ _ => True) (Ls := fun i => Bld k (.pointer (some ⟨k, 0, none⟩)) i (out ++ bl ⟨#[92, 116]⟩) []) 2 _ (.inr rfl) hcnt rfl rfl rfl (fun _ _ _ => trivial) | exact ret_bor0 (Post := fun _ _ _ => True) (Ls := fun i => Bld k (.pointer (some ⟨k, 0, none⟩)) i (out ++ bl ⟨#[92, 116]⟩) []) 2 _ (.inl rfl) hcnt rfl rfl rfl (fun _ _ _ => trivial)
  by_cases h13 : c.toNat = 13
  · rw [show out ++ q1 c = out ++ bl ⟨#[92, 114]⟩ by rw [hq, if_neg h10, if_neg h9, if_pos h13]]
    repeat' (first | refine KO ?_ | (refine CF 72 ?_; (with_reducible apply g_enter_bor 2); exact rfl; exact rfl; exact rfl; ((with_reducible apply e_call2); kernel_rfl; exact rfl; exact rfl); exact rfl; (first | exact fun w hw hO => wbyte_spec k _ _ _ (92 : Int) 92 hp rfl (by have h2 := h2x; (try simp only [List.length_append, List.length_cons, List.length_nil]); omega) w _ hw hO | exact fun w hw hO => wbyte_spec k _ _ _ (92 : Int) 92 (.inr rfl) rfl (by have h2 := h2x; (try simp only [List.length_append, List.length_cons, List.length_nil]); omega) w _ hw hO | exact fun w hw hO => wbyte_spec k _ _ _ _ c hp rfl (by have h2 := h2x; (try simp only [List.length_append, List.length_cons, List.length_nil]); omega) w _ hw hO | exact fun w hw hO => wbyte_spec k _ _ _ _ c (.inr rfl) rfl (by have h2 := h2x; (try simp only [List.length_append, List.length_cons, List.length_nil]); omega) w _ hw hO | exact fun w hw hO => wbyte_spec k _ _ _ _ (hexT.getD (c.toNat / 16) 0) hp (hexS_at (by omega)) (by have h2 := h2x; (try simp only [List.length_append, List.length_cons, List.length_nil]); omega) w _ hw hO | exact fun w hw hO => wbyte_spec k _ _ _ _ (hexT.getD (c.toNat / 16) 0) (.inr rfl) (hexS_at (by omega)) (by have h2 := h2x; (try simp only [List.length_append, List.length_cons, List.length_nil]); omega) w _ hw hO | exact fun w hw hO => wbyte_spec k _ _ _ _ (hexT.getD (c.toNat % 16) 0) hp (hexS_at (by omega)) (by have h2 := h2x; (try simp only [List.length_append, List.length_cons, List.length_nil]); omega) w _ hw hO | exact fun w hw hO => wbyte_spec k _ _ _ _ (hexT.getD (c.toNat % 16) 0) (.inr rfl) (hexS_at (by omega)) (by have h2 := h2x; (try simp only [List.length_append, List.length_cons, List.length_nil]); omega) w _ hw hO); (rintro v2 μ2 i2 hle2 rfl); (dsimp only [List.cons_append, List.nil_append])) | (refine CF 70 ?_; (with_reducible apply g_enter_bor 2); exact rfl; exact rfl; exact rfl; ((with_reducible apply e_call2); kernel_rfl; exact rfl; exact rfl); exact rfl; (exact fun w hw hO => wstring_spec k _ _ _ _ hp (show out.length + 2 ≤ _ by omega) w _ hw hO); (rintro v2 μ2 i2 hle2 rfl); (dsimp only [List.cons_append, List.nil_append])) | refine KI ?_ | (refine KB ?_ ?_ <;> intro hp) | refine KG ?_ | fail)
    all_goals first | (exfalso; omega) | exact ret_bor0 (Post := fun _ _ _ => True) (Ls := fun i => Bld k (.pointer (some ⟨k, 0, none⟩)) i (out ++ bl ⟨#[92, 114]⟩) []) 2 _ (.inr rfl) hcnt rfl rfl rfl (fun _ _ _ => trivial) | exact ret_bor0 (Post := fun _ _ _ => True) (Ls := fun i => Bld k (.pointer (some ⟨k, 0, none⟩)) i (out ++ bl ⟨#[92, 114]⟩) []) 2 _ (.inl rfl) hcnt rfl rfl rfl (fun _ _ _ => trivial)
  by_cases h0 : c.toNat = 0
  · rw [show out ++ q1 c = out ++ bl ⟨#[92, 48]⟩ by rw [hq, if_neg h10, if_neg h9, if_neg h13, if_pos h0]]
    repeat' (first | refine KO ?_ | (refine CF 72 ?_; (with_reducible apply g_enter_bor 2); exact rfl; exact rfl; exact rfl; ((with_reducible apply e_call2); kernel_rfl; exact rfl; exact rfl); exact rfl; (first | exact fun w hw hO => wbyte_spec k _ _ _ (92 : Int) 92 hp rfl (by have h2 := h2x; (try simp only [List.length_append, List.length_cons, List.length_nil]); omega) w _ hw hO | exact fun w hw hO => wbyte_spec k _ _ _ (92 : Int) 92 (.inr rfl) rfl (by have h2 := h2x; (try simp only [List.length_append, List.length_cons, List.length_nil]); omega) w _ hw hO | exact fun w hw hO => wbyte_spec k _ _ _ _ c hp rfl (by have h2 := h2x; (try simp only [List.length_append, List.length_cons, List.length_nil]); omega) w _ hw hO | exact fun w hw hO => wbyte_spec k _ _ _ _ c (.inr rfl) rfl (by have h2 := h2x; (try simp only [List.length_append, List.length_cons, List.length_nil]); omega) w _ hw hO | exact fun w hw hO => wbyte_spec k _ _ _ _ (hexT.getD (c.toNat / 16) 0) hp (hexS_at (by omega)) (by have h2 := h2x; (try simp only [List.length_append, List.length_cons, List.length_nil]); omega) w _ hw hO | exact fun w hw hO => wbyte_spec k _ _ _ _ (hexT.getD (c.toNat / 16) 0) (.inr rfl) (hexS_at (by omega)) (by have h2 := h2x; (try simp only [List.length_append, List.length_cons, List.length_nil]); omega) w _ hw hO | exact fun w hw hO => wbyte_spec k _ _ _ _ (hexT.getD (c.toNat % 16) 0) hp (hexS_at (by omega)) (by have h2 := h2x; (try simp only [List.length_append, List.length_cons, List.length_nil]); omega) w _ hw hO | exact fun w hw hO => wbyte_spec k _ _ _ _ (hexT.getD (c.toNat % 16) 0) (.inr rfl) (hexS_at (by omega)) (by have h2 := h2x; (try simp only [List.length_append, List.length_cons, List.length_nil]); omega) w _ hw hO); (rintro v2 μ2 i2 hle2 rfl); (dsimp only [List.cons_append, List.nil_append])) | (refine CF 70 ?_; (with_reducible apply g_enter_bor 2); exact rfl; exact rfl; exact rfl; ((with_reducible apply e_call2); kernel_rfl; exact rfl; exact rfl); exact rfl; (exact fun w hw hO => wstring_spec k _ _ _ _ hp (show out.length + 2 ≤ _ by omega) w _ hw hO); (rintro v2 μ2 i2 hle2 rfl); (dsimp only [List.cons_append, List.nil_append])) | refine KI ?_ | (refine KB ?_ ?_ <;> intro hp) | refine KG ?_ | fail)
    all_goals first | (exfalso; omega) | exact ret_bor0 (Post := fun _ _ _ => True) (Ls := fun i => Bld k (.pointer (some ⟨k, 0, none⟩)) i (out ++ bl ⟨#[92, 48]⟩) []) 2 _ (.inr rfl) hcnt rfl rfl rfl (fun _ _ _ => trivial) | exact ret_bor0 (Post := fun _ _ _ => True) (Ls := fun i => Bld k (.pointer (some ⟨k, 0, none⟩)) i (out ++ bl ⟨#[92, 48]⟩) []) 2 _ (.inl rfl) hcnt rfl rfl rfl (fun _ _ _ => trivial)
  by_cases h34 : c.toNat = 34 ∨ c.toNat = 92
  · rw [show out ++ q1 c = out ++ [92] ++ [c] by rw [hq, if_neg h10, if_neg h9, if_neg h13, if_neg h0, if_pos h34, List.append_assoc]; rfl]
    rcases h34 with h34 | h34
    · repeat' (first | refine KO ?_ | (refine CF 72 ?_; (with_reducible apply g_enter_bor 2); exact rfl; exact rfl; exact rfl; ((with_reducible apply e_call2); kernel_rfl; exact rfl; exact rfl); exact rfl; (first | exact fun w hw hO => wbyte_spec k _ _ _ (92 : Int) 92 hp rfl (by have h2 := h2x; (try simp only [List.length_append, List.length_cons, List.length_nil]); omega) w _ hw hO | exact fun w hw hO => wbyte_spec k _ _ _ (92 : Int) 92 (.inr rfl) rfl (by have h2 := h2x; (try simp only [List.length_append, List.length_cons, List.length_nil]); omega) w _ hw hO | exact fun w hw hO => wbyte_spec k _ _ _ _ c hp rfl (by have h2 := h2x; (try simp only [List.length_append, List.length_cons, List.length_nil]); omega) w _ hw hO | exact fun w hw hO => wbyte_spec k _ _ _ _ c (.inr rfl) rfl (by have h2 := h2x; (try simp only [List.length_append, List.length_cons, List.length_nil]); omega) w _ hw hO | exact fun w hw hO => wbyte_spec k _ _ _ _ (hexT.getD (c.toNat / 16) 0) hp (hexS_at (by omega)) (by have h2 := h2x; (try simp only [List.length_append, List.length_cons, List.length_nil]); omega) w _ hw hO | exact fun w hw hO => wbyte_spec k _ _ _ _ (hexT.getD (c.toNat / 16) 0) (.inr rfl) (hexS_at (by omega)) (by have h2 := h2x; (try simp only [List.length_append, List.length_cons, List.length_nil]); omega) w _ hw hO | exact fun w hw hO => wbyte_spec k _ _ _ _ (hexT.getD (c.toNat % 16) 0) hp (hexS_at (by omega)) (by have h2 := h2x; (try simp only [List.length_append, List.length_cons, List.length_nil]); omega) w _ hw hO | exact fun w hw hO => wbyte_spec k _ _ _ _ (hexT.getD (c.toNat % 16) 0) (.inr rfl) (hexS_at (by omega)) (by have h2 := h2x; (try simp only [List.length_append, List.length_cons, List.length_nil]); omega) w _ hw hO); (rintro v2 μ2 i2 hle2 rfl); (dsimp only [List.cons_append, List.nil_append])) | (refine CF 70 ?_; (with_reducible apply g_enter_bor 2); exact rfl; exact rfl; exact rfl; ((with_reducible apply e_call2); kernel_rfl; exact rfl; exact rfl); exact rfl; (exact fun w hw hO => wstring_spec k _ _ _ _ hp (show out.length + 2 ≤ _ by omega) w _ hw hO); (rintro v2 μ2 i2 hle2 rfl); (dsimp only [List.cons_append, List.nil_append])) | refine KI ?_ | (refine KB ?_ ?_ <;> intro hp) | refine KG ?_ | fail)
      all_goals first | (exfalso; omega) | exact ret_bor0 (Post := fun _ _ _ => True) (Ls := fun i => Bld k (.pointer (some ⟨k, 0, none⟩)) i (out ++ [92] ++ [c]) []) 2 _ (.inr rfl) hcnt rfl rfl rfl (fun _ _ _ => trivial) | exact ret_bor0 (Post := fun _ _ _ => True) (Ls := fun i => Bld k (.pointer (some ⟨k, 0, none⟩)) i (out ++ [92] ++ [c]) []) 2 _ (.inl rfl) hcnt rfl rfl rfl (fun _ _ _ => trivial)
    · repeat' (first | refine KO ?_ | (refine CF 72 ?_; (with_reducible apply g_enter_bor 2); exact rfl; exact rfl; exact rfl; ((with_reducible apply e_call2); kernel_rfl; exact rfl; exact rfl); exact rfl; (first | exact fun w hw hO => wbyte_spec k _ _ _ (92 : Int) 92 hp rfl (by have h2 := h2x; (try simp only [List.length_append, List.length_cons, List.length_nil]); omega) w _ hw hO | exact fun w hw hO => wbyte_spec k _ _ _ (92 : Int) 92 (.inr rfl) rfl (by have h2 := h2x; (try simp only [List.length_append, List.length_cons, List.length_nil]); omega) w _ hw hO | exact fun w hw hO => wbyte_spec k _ _ _ _ c hp rfl (by have h2 := h2x; (try simp only [List.length_append, List.length_cons, List.length_nil]); omega) w _ hw hO | exact fun w hw hO => wbyte_spec k _ _ _ _ c (.inr rfl) rfl (by have h2 := h2x; (try simp only [List.length_append, List.length_cons, List.length_nil]); omega) w _ hw hO | exact fun w hw hO => wbyte_spec k _ _ _ _ (hexT.getD (c.toNat / 16) 0) hp (hexS_at (by omega)) (by have h2 := h2x; (try simp only [List.length_append, List.length_cons, List.length_nil]); omega) w _ hw hO | exact fun w hw hO => wbyte_spec k _ _ _ _ (hexT.getD (c.toNat / 16) 0) (.inr rfl) (hexS_at (by omega)) (by have h2 := h2x; (try simp only [List.length_append, List.length_cons, List.length_nil]); omega) w _ hw hO | exact fun w hw hO => wbyte_spec k _ _ _ _ (hexT.getD (c.toNat % 16) 0) hp (hexS_at (by omega)) (by have h2 := h2x; (try simp only [List.length_append, List.length_cons, List.length_nil]); omega) w _ hw hO | exact fun w hw hO => wbyte_spec k _ _ _ _ (hexT.getD (c.toNat % 16) 0) (.inr rfl) (hexS_at (by omega)) (by have h2 := h2x; (try simp only [List.length_append, List.length_cons, List.length_nil]); omega) w _ hw hO); (rintro v2 μ2 i2 hle2 rfl); (dsimp only [List.cons_append, List.nil_append])) | (refine CF 70 ?_; (with_reducible apply g_enter_bor 2); exact rfl; exact rfl; exact rfl; ((with_reducible apply e_call2); kernel_rfl; exact rfl; exact rfl); exact rfl; (exact fun w hw hO => wstring_spec k _ _ _ _ hp (show out.length + 2 ≤ _ by omega) w _ hw hO); (rintro v2 μ2 i2 hle2 rfl); (dsimp only [List.cons_append, List.nil_append])) | refine KI ?_ | (refine KB ?_ ?_ <;> intro hp) | refine KG ?_ | fail)
      all_goals first | (exfalso; omega) | exact ret_bor0 (Post := fun _ _ _ => True) (Ls := fun i => Bld k (.pointer (some ⟨k, 0, none⟩)) i (out ++ [92] ++ [c]) []) 2 _ (.inr rfl) hcnt rfl rfl rfl (fun _ _ _ => trivial) | exact ret_bor0 (Post := fun _ _ _ => True) (Ls := fun i => Bld k (.pointer (some ⟨k, 0, none⟩)) i (out ++ [92] ++ [c]) []) 2 _ (.inl rfl) hcnt rfl rfl rfl (fun _ _ _ => trivial)
  by_cases hx : c.toNat < 32 ∨ 126 < c.toNat
  · rw [show out ++ q1 c = out ++ bl ⟨#[92, 120]⟩ ++ [hexT.getD (c.toNat / 16) 0] ++ [hexT.getD (c.toNat % 16) 0] by rw [hq, if_neg h10, if_neg h9, if_neg h13, if_neg h0, if_neg h34, if_pos hx, List.append_assoc, List.append_assoc]; rfl]
    rcases hx with hx | hx
    · repeat' (first | refine KO ?_ | (refine CF 72 ?_; (with_reducible apply g_enter_bor 2); exact rfl; exact rfl; exact rfl; ((with_reducible apply e_call2); kernel_rfl; exact rfl; exact rfl); exact rfl; (first | exact fun w hw hO => wbyte_spec k _ _ _ (92 : Int) 92 hp rfl (by have h2 := h2x; (try simp only [List.length_append, List.length_cons, List.length_nil]); omega) w _ hw hO | exact fun w hw hO => wbyte_spec k _ _ _ (92 : Int) 92 (.inr rfl) rfl (by have h2 := h2x; (try simp only [List.length_append, List.length_cons, List.length_nil]); omega) w _ hw hO | exact fun w hw hO => wbyte_spec k _ _ _ _ c hp rfl (by have h2 := h2x; (try simp only [List.length_append, List.length_cons, List.length_nil]); omega) w _ hw hO | exact fun w hw hO => wbyte_spec k _ _ _ _ c (.inr rfl) rfl (by have h2 := h2x; (try simp only [List.length_append, List.length_cons, List.length_nil]); omega) w _ hw hO | exact fun w hw hO => wbyte_spec k _ _ _ _ (hexT.getD (c.toNat / 16) 0) hp (hexS_at (by omega)) (by have h2 := h2x; (try simp only [List.length_append, List.length_cons, List.length_nil]); omega) w _ hw hO | exact fun w hw hO => wbyte_spec k _ _ _ _ (hexT.getD (c.toNat / 16) 0) (.inr rfl) (hexS_at (by omega)) (by have h2 := h2x; (try simp only [List.length_append, List.length_cons, List.length_nil]); omega) w _ hw hO | exact fun w hw hO => wbyte_spec k _ _ _ _ (hexT.getD (c.toNat % 16) 0) hp (hexS_at (by omega)) (by have h2 := h2x; (try simp only [List.length_append, List.length_cons, List.length_nil]); omega) w _ hw hO | exact fun w hw hO => wbyte_spec k _ _ _ _ (hexT.getD (c.toNat % 16) 0) (.inr rfl) (hexS_at (by omega)) (by have h2 := h2x; (try simp only [List.length_append, List.length_cons, List.length_nil]); omega) w _ hw hO); (rintro v2 μ2 i2 hle2 rfl); (dsimp only [List.cons_append, List.nil_append])) | (refine CF 70 ?_; (with_reducible apply g_enter_bor 2); exact rfl; exact rfl; exact rfl; ((with_reducible apply e_call2); kernel_rfl; exact rfl; exact rfl); exact rfl; (exact fun w hw hO => wstring_spec k _ _ _ _ hp (show out.length + 2 ≤ _ by omega) w _ hw hO); (rintro v2 μ2 i2 hle2 rfl); (dsimp only [List.cons_append, List.nil_append])) | (refine KV (b := by first | ((with_reducible apply v_shr8); exact rfl) | ((with_reducible apply v_and8); exact rfl; omega) | ((with_reducible apply v_sindex8 (c.toNat / 16)); exact rfl; exact rfl; exact rfl; omega; (show _ < 16; omega)) | ((with_reducible apply v_sindex8 (c.toNat % 16)); exact rfl; exact rfl; exact rfl; omega; (show _ < 16; omega))) (c := ?_)) | refine KI ?_ | (refine KB ?_ ?_ <;> intro hp) | refine KG ?_ | fail)
      all_goals first | (exfalso; omega) | exact ret_bor0 (Post := fun _ _ _ => True) (Ls := fun i => Bld k (.pointer (some ⟨k, 0, none⟩)) i (out ++ bl ⟨#[92, 120]⟩ ++ [hexT.getD (c.toNat / 16) 0] ++ [hexT.getD (c.toNat % 16) 0]) []) 2 _ (.inr rfl) hcnt rfl rfl rfl (fun _ _ _ => trivial) | exact ret_bor0 (Post := fun _ _ _ => True) (Ls := fun i => Bld k (.pointer (some ⟨k, 0, none⟩)) i (out ++ bl ⟨#[92, 120]⟩ ++ [hexT.getD (c.toNat / 16) 0] ++ [hexT.getD (c.toNat % 16) 0]) []) 2 _ (.inl rfl) hcnt rfl rfl rfl (fun _ _ _ => trivial)
    · repeat' (first | refine KO ?_ | (refine CF 72 ?_; (with_reducible apply g_enter_bor 2); exact rfl; exact rfl; exact rfl; ((with_reducible apply e_call2); kernel_rfl; exact rfl; exact rfl); exact rfl; (first | exact fun w hw hO => wbyte_spec k _ _ _ (92 : Int) 92 hp rfl (by have h2 := h2x; (try simp only [List.length_append, List.length_cons, List.length_nil]); omega) w _ hw hO | exact fun w hw hO => wbyte_spec k _ _ _ (92 : Int) 92 (.inr rfl) rfl (by have h2 := h2x; (try simp only [List.length_append, List.length_cons, List.length_nil]); omega) w _ hw hO | exact fun w hw hO => wbyte_spec k _ _ _ _ c hp rfl (by have h2 := h2x; (try simp only [List.length_append, List.length_cons, List.length_nil]); omega) w _ hw hO | exact fun w hw hO => wbyte_spec k _ _ _ _ c (.inr rfl) rfl (by have h2 := h2x; (try simp only [List.length_append, List.length_cons, List.length_nil]); omega) w _ hw hO | exact fun w hw hO => wbyte_spec k _ _ _ _ (hexT.getD (c.toNat / 16) 0) hp (hexS_at (by omega)) (by have h2 := h2x; (try simp only [List.length_append, List.length_cons, List.length_nil]); omega) w _ hw hO | exact fun w hw hO => wbyte_spec k _ _ _ _ (hexT.getD (c.toNat / 16) 0) (.inr rfl) (hexS_at (by omega)) (by have h2 := h2x; (try simp only [List.length_append, List.length_cons, List.length_nil]); omega) w _ hw hO | exact fun w hw hO => wbyte_spec k _ _ _ _ (hexT.getD (c.toNat % 16) 0) hp (hexS_at (by omega)) (by have h2 := h2x; (try simp only [List.length_append, List.length_cons, List.length_nil]); omega) w _ hw hO | exact fun w hw hO => wbyte_spec k _ _ _ _ (hexT.getD (c.toNat % 16) 0) (.inr rfl) (hexS_at (by omega)) (by have h2 := h2x; (try simp only [List.length_append, List.length_cons, List.length_nil]); omega) w _ hw hO); (rintro v2 μ2 i2 hle2 rfl); (dsimp only [List.cons_append, List.nil_append])) | (refine CF 70 ?_; (with_reducible apply g_enter_bor 2); exact rfl; exact rfl; exact rfl; ((with_reducible apply e_call2); kernel_rfl; exact rfl; exact rfl); exact rfl; (exact fun w hw hO => wstring_spec k _ _ _ _ hp (show out.length + 2 ≤ _ by omega) w _ hw hO); (rintro v2 μ2 i2 hle2 rfl); (dsimp only [List.cons_append, List.nil_append])) | (refine KV (b := by first | ((with_reducible apply v_shr8); exact rfl) | ((with_reducible apply v_and8); exact rfl; omega) | ((with_reducible apply v_sindex8 (c.toNat / 16)); exact rfl; exact rfl; exact rfl; omega; (show _ < 16; omega)) | ((with_reducible apply v_sindex8 (c.toNat % 16)); exact rfl; exact rfl; exact rfl; omega; (show _ < 16; omega))) (c := ?_)) | refine KI ?_ | (refine KB ?_ ?_ <;> intro hp) | refine KG ?_ | fail)
      all_goals first | (exfalso; omega) | exact ret_bor0 (Post := fun _ _ _ => True) (Ls := fun i => Bld k (.pointer (some ⟨k, 0, none⟩)) i (out ++ bl ⟨#[92, 120]⟩ ++ [hexT.getD (c.toNat / 16) 0] ++ [hexT.getD (c.toNat % 16) 0]) []) 2 _ (.inr rfl) hcnt rfl rfl rfl (fun _ _ _ => trivial) | exact ret_bor0 (Post := fun _ _ _ => True) (Ls := fun i => Bld k (.pointer (some ⟨k, 0, none⟩)) i (out ++ bl ⟨#[92, 120]⟩ ++ [hexT.getD (c.toNat / 16) 0] ++ [hexT.getD (c.toNat % 16) 0]) []) 2 _ (.inl rfl) hcnt rfl rfl rfl (fun _ _ _ => trivial)
  · rw [show out ++ q1 c = out ++ [c] by rw [hq, if_neg h10, if_neg h9, if_neg h13, if_neg h0, if_neg h34, if_neg hx]]
    repeat' (first | refine KO ?_ | (refine CF 72 ?_; (with_reducible apply g_enter_bor 2); exact rfl; exact rfl; exact rfl; ((with_reducible apply e_call2); kernel_rfl; exact rfl; exact rfl); exact rfl; (first | exact fun w hw hO => wbyte_spec k _ _ _ (92 : Int) 92 hp rfl (by have h2 := h2x; (try simp only [List.length_append, List.length_cons, List.length_nil]); omega) w _ hw hO | exact fun w hw hO => wbyte_spec k _ _ _ (92 : Int) 92 (.inr rfl) rfl (by have h2 := h2x; (try simp only [List.length_append, List.length_cons, List.length_nil]); omega) w _ hw hO | exact fun w hw hO => wbyte_spec k _ _ _ _ c hp rfl (by have h2 := h2x; (try simp only [List.length_append, List.length_cons, List.length_nil]); omega) w _ hw hO | exact fun w hw hO => wbyte_spec k _ _ _ _ c (.inr rfl) rfl (by have h2 := h2x; (try simp only [List.length_append, List.length_cons, List.length_nil]); omega) w _ hw hO | exact fun w hw hO => wbyte_spec k _ _ _ _ (hexT.getD (c.toNat / 16) 0) hp (hexS_at (by omega)) (by have h2 := h2x; (try simp only [List.length_append, List.length_cons, List.length_nil]); omega) w _ hw hO | exact fun w hw hO => wbyte_spec k _ _ _ _ (hexT.getD (c.toNat / 16) 0) (.inr rfl) (hexS_at (by omega)) (by have h2 := h2x; (try simp only [List.length_append, List.length_cons, List.length_nil]); omega) w _ hw hO | exact fun w hw hO => wbyte_spec k _ _ _ _ (hexT.getD (c.toNat % 16) 0) hp (hexS_at (by omega)) (by have h2 := h2x; (try simp only [List.length_append, List.length_cons, List.length_nil]); omega) w _ hw hO | exact fun w hw hO => wbyte_spec k _ _ _ _ (hexT.getD (c.toNat % 16) 0) (.inr rfl) (hexS_at (by omega)) (by have h2 := h2x; (try simp only [List.length_append, List.length_cons, List.length_nil]); omega) w _ hw hO); (rintro v2 μ2 i2 hle2 rfl); (dsimp only [List.cons_append, List.nil_append])) | (refine CF 70 ?_; (with_reducible apply g_enter_bor 2); exact rfl; exact rfl; exact rfl; ((with_reducible apply e_call2); kernel_rfl; exact rfl; exact rfl); exact rfl; (exact fun w hw hO => wstring_spec k _ _ _ _ hp (show out.length + 2 ≤ _ by omega) w _ hw hO); (rintro v2 μ2 i2 hle2 rfl); (dsimp only [List.cons_append, List.nil_append])) | refine KI ?_ | (refine KB ?_ ?_ <;> intro hp) | refine KG ?_ | fail)
    all_goals first | (exfalso; omega) | exact ret_bor0 (Post := fun _ _ _ => True) (Ls := fun i => Bld k (.pointer (some ⟨k, 0, none⟩)) i (out ++ [c]) []) 2 _ (.inr rfl) hcnt rfl rfl rfl (fun _ _ _ => trivial) | exact ret_bor0 (Post := fun _ _ _ => True) (Ls := fun i => Bld k (.pointer (some ⟨k, 0, none⟩)) i (out ++ [c]) []) 2 _ (.inl rfl) hcnt rfl rfl rfl (fun _ _ _ => trivial)
theorem lquote_spec (s : ByteArray) (hs : s.size ≤ 10000000000000) (w : World) (μ : Mem) (hμ : MOk μ w) :
    Calls Tryz.prog 41 #[.string s] w fun e w' => e = .returned (.string (ofB (quoteB (byS s)))) ∧ Below w.heap.size w w' := by
  refine call_intro Tryz.func41 rfl Tryz.ntmps41 (by simp) hμ ?_
  repeat' (first | ((with_reducible show GC _ _ (Code.seq (Code.region 2 _ _) _) _ _ _ _); (apply gc_stop)) | refine KK ?_ | refine NB fun b => ?_ | (refine KB ?_ ?_ <;> intro hp) | refine KG ?_ | fail)
  refine gcs (gc_nilRow 5 1 ?_)
  change GC _ _ _ _ _ _ (Bld b (.pointer none) (.slice none 0 0) [] [])
  repeat' (first | refine KO ?_ | (refine CF 72 ?_; (with_reducible apply g_enter_bor 2); exact rfl; exact rfl; exact rfl; ((with_reducible apply e_call2); kernel_rfl; exact rfl; exact rfl); exact rfl; (exact fun w hw hO => wbyte_spec _ _ _ _ (34 : Int) 34 (.inl rfl) rfl (by have h2 := h2x; (try simp only [List.length_append, List.length_cons, List.length_nil]); omega) w _ hw hO); (rintro v2 μ2 i2 hle2 rfl); (dsimp only [List.cons_append, List.nil_append]); refine g_forget (by simp) hle2 rfl ?_) | refine KI ?_ | refine NB fun b => ?_ | (refine KB ?_ ?_ <;> intro hp) | refine KG ?_ | fail)
  refine gc_loop (ι := Nat × Value) (fun i => i.1 ≤ s.size) (fun i => s.size - i.1) (fun _ => μ) (fun i => [(8, .int .i64 i.1), (7, .int .i64 s.size), (3, .pointer (some ⟨b, 0, none⟩)), (0, .string s)])
    (fun i => Bld b (.pointer (some ⟨b, 0, none⟩)) i.2 (34 :: ((byS s).take i.1).flatMap q1) []) (0, _) (Nat.zero_le _) (fun a w hs => J6 hs) ?_
  rintro ⟨i, v⟩ hi
  dsimp only at hi ⊢
  by_cases hlt : i < s.size
  · obtain ⟨c, hb1, hb2⟩ := bl_at hlt
    have hb1' : (byS s)[i]? = some c := hb1
    have hl := qs_len ((byS s).take i)
    have hl2 : ((byS s).take i).length ≤ i := by rw [List.length_take]; omega
    have htk : ((byS s).take (i + 1)).flatMap q1 = ((byS s).take i).flatMap q1 ++ q1 c := by rw [List.take_add_one, hb1', List.flatMap_append]; simp
    generalize hout : ((byS s).take i).flatMap q1 = out at hl htk
    have hlen : (34 :: out).length + 4 ≤ 140737488355328 := by rw [List.length_cons]; omega
    repeat' (first | refine KO ?_ | (refine CF 74 ?_; (with_reducible apply g_enter_bor 2); exact rfl; exact rfl; exact rfl; ((with_reducible apply e_call2); kernel_rfl; exact rfl; exact rfl); exact rfl; (exact fun w hw hO => by have := quoted_spec b _ _ _ c (.inr rfl) hlen w _ hw hO; rw [← hb2] at this; exact this); (rintro v2 μ2 i2 hle2 -); (dsimp only [List.cons_append, List.nil_append]); refine g_forget (by simp) hle2 rfl ?_) | (refine KV (b := by first | exact U2 i) (c := ?_)) | refine KI ?_ | refine NB fun b => ?_ | (refine KB ?_ ?_ <;> intro hp) | refine KG ?_ | fail)
    refine gq_back (i + 1, i2) (by dsimp only; omega) (by dsimp only; omega) rfl PU ?_
    dsimp only
    rw [htk]
    exact List.Sublist.refl _
  · have hall : (byS s).take i = byS s := List.take_of_length_le (by rw [show (byS s).length = s.size from bl_len s]; omega)
    have hl := qs_len (byS s)
    have hl2 : (byS s).length = s.size := bl_len s
    rw [hall]
    generalize hout : (byS s).flatMap q1 = out at hl
    have hqb : ofB (quoteB (byS s)) = ofB (34 :: out ++ [34]) := by unfold quoteB; rw [hout]; rfl
    rw [hqb]
    repeat' (first | refine KO ?_ | (refine CF 72 ?_; (with_reducible apply g_enter_bor 2); exact rfl; exact rfl; exact rfl; ((with_reducible apply e_call2); kernel_rfl; exact rfl; exact rfl); exact rfl; (exact fun w hw hO => wbyte_spec _ _ _ _ (34 : Int) 34 (.inr rfl) rfl (by have h2 := h2x; (try simp only [List.length_append, List.length_cons, List.length_nil]); omega) w _ hw hO); (rintro v2 μ2 i2 hle2 rfl); (dsimp only [List.cons_append, List.nil_append]); refine g_forget (by simp) hle2 rfl ?_) | ((with_reducible apply g_bstr); exact rfl; exact rfl; exact rfl; ((with_reducible apply e_call1); kernel_rfl; exact rfl); exact rfl; exact mok_none hμ; exact .inr rfl) | refine KI ?_ | refine NB fun b => ?_ | (refine KB ?_ ?_ <;> intro hp) | refine KG ?_ | fail)
    exact ret_s rfl rfl rfl
end Go.Proofs.YtoclmkdfcafhfaaGreatDoor
namespace Go.Vcg
section
open Go.RowKit
section
variable {P : Program} {X : Ctx} {Q : Exit → Act → World → Prop} {μ : Mem} {l : Slots} {L : List Bk} {ty : TypeId} {pos : String} {af : Array Edge} {gd : Option (Nat × Bool)} {ds : Option Nat}
end
end
section
open Go.RowKit Go.Proofs.YtoclmkdfcafhfaaGreatDoor Go.Proofs.YtoclmkdfcafhfaaGreatDoor.Ou
section
variable {P : Program} {μ : Mem} {l : Slots} {L : List Bk} {ds : Option Nat} {ty : TypeId} {pos : String} {af : Array Edge} {gd : Option (Nat × Bool)}
end
end
section
open Go.RowKit
section
variable {P : Program} {X : Ctx} {Q : Exit → Act → World → Prop} {μ : Mem} {l : Slots} {L : List Bk} {ty : TypeId} {pos : String} {af : Array Edge} {gd : Option (Nat × Bool)} {ds : Option Nat}
end
end
end Go.Vcg
namespace Go.Proofs.YtoclmkdfcafhfaaGreatDoor
open Go.RowKit Go.Vcg Go.Shelf Ou
attribute [local irreducible] G GC GQ GA GAop Calls IntKind.wrap Int.decLt Int.decLe
abbrev encW (l : List UInt8) : List Value := [.string (ofB l)]
theorem bExtraW : Builder.Extra Tryz.prog Tryz.lays156_ren := {
  sizeBuilder := by kernel_rfl
  liesBuilder := by kernel_rfl
  t5 := by kernel_rfl
  a5 := Go.Vcg.run_isAgg (by kernel_rfl)
  z5 := Go.Vcg.run_sizeOf (by kernel_rfl)
  v5 := Go.Vcg.run_zeroValue (by kernel_rfl)
  infoByte := by kernel_rfl
  cellsByte := by kernel_rfl
  sizeByte := by kernel_rfl
  neB5 := by decide }
theorem joinW {μ : Mem} {A : Option Addr} {n c : Nat} {ws : List (List UInt8)} (hS : Sl encW 1 μ A n ws) (hc : n ≤ c) (hn : 0 < n) (hnb : n ≤ 200000) (hl : (Lib.join ws [32]).length ≤ 140737488355328) (w : World) (hμ : MOk μ w) :
    Calls Tryz.prog 71 #[.slice A n c, .string ⟨#[32]⟩] w fun e w' => e = .returned (.string ⟨(Lib.join ws [32]).toArray⟩) ∧ Below w.heap.size w w' := by
  obtain ⟨a, rfl, ha⟩ := hS.2 hn
  have hlen := hS.1
  subst hlen
  obtain ⟨x0, hx0⟩ : ∃ x0, ws[0]? = some x0 := ⟨ws[0], List.getElem?_eq_getElem hn⟩
  obtain ⟨c0, t0, f0, h0, hsp, hc0⟩ := ha 0 x0 hx0 0 (.string ⟨x0.toArray⟩) rfl
  obtain ⟨bk, o, spt⟩ := a
  have hspt : spt = none := by
    cases spt with
    | none => rfl
    | some y => simp [Addr.add] at hsp
  subst hspt
  have hm : ∀ (j : Nat) (x : List UInt8), ws[j]? = some x → MCell μ ⟨bk, o + j, none⟩ (.string ⟨x.toArray⟩) := fun j x hx => by
    have := ha j x hx 0 (.string ⟨x.toArray⟩) rfl
    rw [add_add', add_lit, Nat.mul_one, Nat.add_zero] at this
    exact this
  obtain ⟨c0, t0, f0, h0, -, -⟩ := hm 0 x0 hx0
  have hcell : ∀ (j : Nat) x, (ws.map fun l => (⟨l.toArray⟩ : ByteArray))[j]? = some x → w.cell? ⟨bk, o + j, none⟩ = some (.string x) := fun j x hx => by
    rw [List.getElem?_map] at hx
    cases hw : ws[j]? with
    | none => rw [hw] at hx; cases hx
    | some l =>
      rw [hw] at hx
      cases hx
      obtain ⟨cs, t, f, h1, h2, h3⟩ := hm j l hw
      have h1' : w.heap[bk]? = some (.cells cs t f) := hμ _ _ h1
      have h3' : cs[o + j]? = some (.string ⟨l.toArray⟩) := h3
      simp [World.cell?, h1', h3']
  have hbk : bk < w.heap.size := (Array.getElem?_eq_some_iff.1 (hμ _ _ h0)).1
  have hmm : (ws.map fun l => (⟨l.toArray⟩ : ByteArray)).map (·.data.toList) = ws := by
    rw [List.map_map]
    exact List.map_id' ws
  have h := Any.strings_Join Tryz.lays156 bExtraW bk o c (ws.map fun l => (⟨l.toArray⟩ : ByteArray)) ⟨#[32]⟩ w hcell hbk (by simp; omega) (by simpa using hc) (by rw [hmm]; exact hl)
  rw [hmm, List.length_map] at h
  exact h
theorem textF_int {n : Int} (h : -9007199254740992 ≤ n ∧ n ≤ 9007199254740992) : textF (ofF n) = ofB (Lib.itoa n) ∧ textF ⟨3, n, noS⟩ = ofB (Lib.itoa n) := by
  have hi : inF n = true := by unfold inF; simp; omega
  have hw : wholeF ⟨3, n, noS⟩ = true := by unfold wholeF; simp [hi, noS]
  constructor
  · unfold textF ofF
    rw [if_pos hi, if_pos hw]
    rfl
  · unfold textF
    rw [if_pos hw]
    rfl
theorem pdigits_spec (n : Int) (h : -9007199254740992 ≤ n ∧ n ≤ 9007199254740992) (w : World) (μ : Mem) (hμ : MOk μ w) (hT : TabOk μ) : Calls Tryz.prog 40 #[.int .i64 n] w fun en w' => en = .returned (.string (ofB (Lib.itoa n))) ∧ Below w.heap.size w w' := by
  rw [← (textF_int h).1]
  refine call_intro (args := [.int .i64 n]) Tryz.func40 rfl Tryz.ntmps40 (by simp) hμ ?_
  repeat' (first | refine KO ?_ | ((with_reducible apply F1 73); exact rfl; exact EN; (exact fun w μc hw hse => of_spec _ w μc hw)) | ((with_reducible apply F1 61); exact rfl; exact EN; (exact fun w μc hw hse => text_spec w μc hw (hT.mono hse.le) _)) | refine KI ?_ | (refine KB ?_ ?_ <;> intro hp) | refine KG ?_ | fail)
  exact ret_s rfl rfl rfl
theorem itoa_len21 {n : Int} (h : -9007199254740992 ≤ n ∧ n ≤ 9007199254740992) : (Lib.itoa n).length ≤ 21 := Lib.itoa_length_le n (by omega) (by omega)
theorem quote_len (s : ByteArray) : (quoteB (byS s)).length ≤ 4 * s.size + 2 := by
  have h := qs_len (byS s)
  have h2 : (byS s).length = s.size := Array.length_toList
  unfold quoteB
  simp only [List.length_append, List.length_cons, List.length_nil]
  omega
end Go.Proofs.YtoclmkdfcafhfaaGreatDoor
