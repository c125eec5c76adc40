/- Package early: clash, with, name, walked. (and what leans on it). No statement of the seat is proved here. -/
import Derived.Test.YtfabmichdhbiaaaGreatDoorQaf
import Derived.Test.YtfabmichdhbiaaaGreatDoorQak
import Derived.Test.YtfabmichdhbiaaaGreatDoorQae
import Derived.Test.YtfabmichdhbiaaaGreatDoorShelf
set_option maxRecDepth 20000
set_option maxHeartbeats 2000000
namespace Go.Proofs.YtfabmichdhbiaaaGreatDoor
open Go.RowKit Go.Vcg
theorem contains_dec (l : List Int) (r : Int) : decide (r ∈ l) = l.contains r := by rw [List.contains_eq_mem]
attribute [local irreducible] anI famD mkD G GC GQ GA GAop Calls IntKind.wrap Int.decLt Int.decLe
theorem indexI_spec (f : FuncId) (cap : List Value) (q1 : Int → Bool) (l : List Int) (A : Option Addr) (n c : Nat) (w : World) (μ : Mem) (hμ : MOk μ w) (hcal : callable Tryz.prog f = true) (hS : Sl encJ 1 μ A n l) (hn : n ≤ 1000000) (hf1 : ∀ (o : Int) (w : World) (μ' : Mem), MOk μ' w → MLe μ μ' → Calls Tryz.prog f ([Value.int .i64 o] ++ cap).toArray w fun e w' => e = .returned (.bool (q1 o)) ∧ Below w.heap.size w w') :
    Calls Tryz.prog 118 #[.slice A n c, .func (.func f) #[] cap.toArray] w fun e w' => e = .returned (.int .i64 (firstT (l.map q1))) ∧ Below w.heap.size w w' := by
  refine call_intro (args := [.slice A n c, .func (.func f) #[] cap.toArray]) Tryz.func118 rfl Tryz.ntmps118 (by simp) hμ ?_
  have hln : l.length = n := hS.1
  have hqn : (l.map q1).length = n := by rw [List.length_map]; exact hln
  repeat' (first | refine KK ?_ | ((refine KB ?_ ?_ <;> intro hp)) | refine KG ?_ | fail)
  refine gc_loop (ι := Nat) (fun k => k ≤ n ∧ ∀ (j : Nat) (q : Bool), j < k → (l.map q1)[j]? = some q → q = false) (fun k => n - k) (fun _ => μ) (fun k => [(8, .int .i64 k), (7, .int .i64 n), (6, .slice A n c), (0, .slice A n c), (1, .func (.func f) #[] cap.toArray)]) (fun _ => []) 0 ⟨by omega, fun j _ h => absurd h (by omega)⟩ (fun a w hs => J5 hs) ?_
  rintro k ⟨hk, hf⟩
  by_cases hlt : k < n
  · obtain ⟨ad, o, rfl, ho, hm⟩ := hS.get hlt
    have hqk : (l.map q1)[k]? = some (q1 o) := by rw [List.getElem?_map, ho]; rfl
    have hc := fun (w : World) (μc : Mem) (hw : MOk μc w) (hle : MLe μ μc) => hf1 o w μc hw hle
    generalize q1 o = q at hqk hc
    have hnext : q = false → ∀ (j : Nat) (q : Bool), j < k + 1 → (l.map q1)[j]? = some q → q = false := fun h j p hj hp => by
      rcases Nat.lt_or_ge j k with h1 | h1
      · exact hf j p h1 hp
      · obtain rfl : j = k := by omega
        rw [hqk] at hp
        cases hp
        exact h
    cases q
    · have hb := hnext rfl
      repeat' (first | refine KO ?_ | ((with_reducible apply C1); exact rfl; exact EN; exact fun w μc hw hse => hc w μc hw hse.le) | (refine KV (b := by first | exact U1 k | exact U3 (hm.at 0 rfl)) (c := ?_)) | refine KI ?_ | ((refine KB ?_ ?_ <;> intro hp)) | refine KG ?_ | fail)
      all_goals try (exfalso; first | omega | contradiction)
      all_goals exact J2 (k + 1) ⟨by omega, hb⟩ (by omega)
    · repeat' (first | refine KO ?_ | ((with_reducible apply C1); exact rfl; exact EN; exact fun w μc hw hse => hc w μc hw hse.le) | (refine KV (b := by first | exact U1 k | exact U3 (hm.at 0 rfl)) (c := ?_)) | refine KI ?_ | ((refine KB ?_ ?_ <;> intro hp)) | refine KG ?_ | fail)
      all_goals try (exfalso; first | omega | contradiction)
      all_goals refine ret_s rfl rfl ?_
      all_goals rw [firstT_at hqk hf]
  · repeat' (first | refine KK ?_ | ((refine KB ?_ ?_ <;> intro hp)) | refine KG ?_ | fail)
    all_goals try (exfalso; first | omega | contradiction)
    refine ret_s rfl rfl ?_
    rw [firstT_none (fun j q hj => hf j q (by have := (List.getElem?_eq_some_iff.1 hj).1; omega) hj)]
theorem containsI_spec (f : FuncId) (cap : List Value) (q1 : Int → Bool) (l : List Int) (v : Value) (w : World) (μ : Mem) (hμ : MOk μ w) (hcal : callable Tryz.prog f = true) (hv : IsV μ v l) (hn : l.length ≤ 1000000) (hf1 : ∀ (o : Int) (w : World) (μ' : Mem), MOk μ' w → MLe μ μ' → Calls Tryz.prog f ([Value.int .i64 o] ++ cap).toArray w fun e w' => e = .returned (.bool (q1 o)) ∧ Below w.heap.size w w') :
    Calls Tryz.prog 113 #[v, .func (.func f) #[] cap.toArray] w fun e w' => e = .returned (.bool (l.any q1)) ∧ Below w.heap.size w w' := by
  obtain ⟨A, c, rfl, hS, -⟩ := hv
  refine call_intro (args := [.slice A l.length c, .func (.func f) #[] cap.toArray]) Tryz.func113 rfl Tryz.ntmps113 (by simp) hμ ?_
  have h : decide (0 ≤ firstT (l.map q1)) = l.any q1 := by rw [firstT_any, List.any_map]; rfl
  rw [← h]
  repeat' (first | refine KO ?_ | ((with_reducible apply C1); exact rfl; exact EN; exact fun w μc hw hse => indexI_spec f cap q1 l A l.length c w μc hw hcal (hS.mono hse.le) hn (fun o w μ' h2 h3 => hf1 o w μ' h2 (hse.le.trans h3))) | refine KI ?_ | ((refine KB ?_ ?_ <;> intro hp)) | refine KG ?_ | fail)
  exact ret_s rfl rfl rfl
theorem clash1_spec (r : Int) (d : ED) (dv : Value) (bc : Nat) (w : World) (μ : Mem) (hμ : MOk μ w) (hd : IsV μ dv d.ins) (hl : d.ins.length ≤ 100000) (hm : MCells μ ⟨bc, 0, none⟩ (encD (d, dv))) :
    Calls Tryz.prog 114 ([Value.int .i64 r] ++ [Value.pointer (some ⟨bc, 0, none⟩)]).toArray w fun e w' => e = .returned (.bool (d.ins.contains r)) ∧ Below w.heap.size w w' := by
  refine call_intro (args := [.int .i64 r, .pointer (some ⟨bc, 0, none⟩)]) Tryz.func114 rfl Tryz.ntmps114 (by simp) hμ ?_
  have ho := hd.one
  rw [← contains_dec]
  obtain ⟨A, c, rfl, hS, -⟩ := hd
  have hm' : MCells μ ⟨bc, 0, none⟩ [.bool d.lex, .slice A d.ins.length c, .int .i64 d.par, .bool d.twice] := hm
  have hc1 : MCell μ ⟨bc, 0 + 1, none⟩ (.slice A d.ins.length c) := hm' 1 _ rfl
  repeat' (first | refine KO ?_ | ((with_reducible apply C1); exact rfl; exact EN; exact fun w μc hw hse => contains_spec r d.ins A d.ins.length c w μc hw (hS.mono hse.le) hl) | (refine KV (b := by first | ((with_reducible apply v_load_sh); exact rfl; exact rfl; exact hc1)) (c := ?_)) | refine KI ?_ | ((refine KB ?_ ?_ <;> intro hp)) | refine KG ?_ | fail)
  exact ret_s rfl rfl rfl
theorem sh_cells {b t sz : Nat} {cs : Slots} {vs : List Value} {μ : Mem} (h : Bk.sh (.inl ⟨b, t, sz, cs⟩) μ) (hv : ∀ j v, vs[j]? = some v → lk cs j = some v) : MCells μ ⟨b, 0, none⟩ vs := fun j v hj => by
  obtain ⟨arr, h1, _, h3⟩ := h
  have e : Addr.add ⟨b, 0, none⟩ j = ⟨b, j, none⟩ := by cases j <;> simp [Addr.add]
  rw [e]
  exact ⟨arr, t, (0, 0), h1, rfl, h3 j v (hv j v hj)⟩
theorem lk_idx' {vs : List Value} {j : Nat} {v : Value} (h : vs[j]? = some v) : lk (idx 0 vs) j = some v := by have h2 := lk_idx_of vs 0 j v h; rwa [Nat.zero_add] at h2
theorem clash_spec (a d : ED) (av dv : Value) (w : World) (μ : Mem) (hμ : MOk μ w) (ha : IsV μ av a.ins) (hd : IsV μ dv d.ins) (hal : a.ins.length ≤ 100000) (hl : d.ins.length ≤ 100000) :
    Calls Tryz.prog 104 #[.agg (encD (a, av)).toArray, .agg (encD (d, dv)).toArray] w fun e w' => e = .returned (.bool (clashE a d)) ∧ Below w.heap.size w w' := by
  have oa := ha.one
  have od := hd.one
  refine call_intro (args := [.agg (encD (a, av)).toArray, .agg (encD (d, dv)).toArray]) Tryz.func104 rfl Tryz.ntmps104 (by simp) hμ ?_
  have hcb := fun (b : Nat) (w : World) (μc : Mem) (hw : MOk μc w) (hle : MLe μ μc) (hc : MCells μc ⟨b, 0, none⟩ (encD (d, dv))) => containsI_spec 114 [.pointer (some ⟨b, 0, none⟩)] (fun r => d.ins.contains r) a.ins av w μc hw (by kernel_rfl) (ha.mono hle) (by omega) (fun o w μ' h2 h3 => clash1_spec o d dv b w μ' h2 ((hd.mono hle).mono h3) hl (hc.mono h3))
  unfold clashE
  generalize (a.ins.any fun r => d.ins.contains r) = q at hcb ⊢
  repeat' (first | refine KO ?_ | ((with_reducible apply F1 113); exact rfl; exact EN; exact fun w μc hw hse => hcb _ w μc hw hse.le (sh_cells hse.hd (fun j v hj => lk_idx' hj))) | refine KI ?_ | refine NB fun b => ?_ | ((refine KB ?_ ?_ <;> intro hp)) | refine KG ?_ | fail)
  all_goals refine ret_s rfl rfl ?_
  all_goals simp_all
theorem with_spec (xb mb : Nat) (p : EP) (pv : Value) (s : ES) (μ : Mem) (hp : PV μ p pv) (hb : p.regs.length ≤ 100000) (hs : s.regs ≤ 1000000) :
    CEr 33 [.pointer (some ⟨xb, 0, none⟩), pv] xb mb s (withS s) μ (fun μ' v => PV μ' (withP p s) v) := by
  intro w fs hμ hR hO
  have hcnt := ids_count hO.diff
  obtain ⟨r, lb, lo, mi, rfl, hr, h2, h3, h4⟩ := hp
  have o1 := hr.one
  have o2 := h2.one
  have o3 := h3.one
  have o4 := h4.one
  have e1 := flatI p.regs
  have e2 := ones_I p.regs
  refine call_introM (args := [.pointer (some ⟨xb, 0, none⟩), .agg (encPl p r lb lo mi).toArray]) Tryz.func33 rfl Tryz.ntmps33 (by simp) hμ hO ?_
  refine gc_LEq (EB_eq xb mb s fs) ?_
  repeat' (first | refine KK ?_ | refine NB fun b => ?_ | ((refine KB ?_ ?_ <;> intro hp)) | refine KG ?_ | fail)
  refine gc_draw 13 _ (by kernel_rfl) rfl (List.Sublist.cons _ (List.Sublist.cons _ (List.Sublist.cons_cons _ (List.nil_sublist _)))) ?_
  all_goals refine DD 0 ?_
  all_goals refine DD 1 ?_
  all_goals refine DD 4 ?_
  all_goals refine DD 5 ?_
  all_goals refine DD 6 ?_
  all_goals refine DD 7 ?_
  refine ga_all2 2 8 (by kernel_rfl) ?dr1_2 ?dr1_8
  case' dr1_2 =>
    (first | ((with_reducible apply gaop_val); exact rfl; exact rfl; exact rfl; exact rfl; (first | ((with_reducible apply pv_sound); exact rfl) | ((with_reducible apply v_ld); exact rfl; (repeat first | with_reducible exact inb_hd | with_reducible apply inb_tl); exact rfl))))
    refine ga_all2 3 8 (by kernel_rfl) ?dr2_3 ?dr2_8
    case' dr2_3 =>
      (first | (refine D5 ?_; (with_reducible apply F3 71); exact rfl; exact EN; (exact fun w μc hw hse => clone_I w μc hw p.regs r (hr.mono hse.le) (by omega)); intro vr; refine D9 ?_))
      all_goals (first | (refine D3 8 ?_; refine D5 ?_; refine NB fun b => ?_; refine D9 ?_))
      all_goals (first | (refine D3 9 ?_; refine D5 ?_; refine AI (k := fun g cap hcap => ?_); refine D9 ?_))
      all_goals refine DD 10 ?_
      all_goals refine DD 11 ?_
      all_goals (first | (refine D3 12 ?_; refine D5 ?_; refine Y0 ?_; refine D9 ?_))
      all_goals refine D8 ?_
    case' dr2_8 =>
      (first | (refine D5 ?_; refine NB fun b => ?_; refine D9 ?_))
      all_goals (first | (refine D3 3 ?_; refine D5 ?_; (with_reducible apply F3 71); exact rfl; exact EN; (exact fun w μc hw hse => clone_I w μc hw p.regs r (hr.mono hse.le) (by omega)); intro vr; refine D9 ?_))
      all_goals (first | (refine D3 9 ?_; refine D5 ?_; refine AI (k := fun g cap hcap => ?_); refine D9 ?_))
      all_goals refine DD 10 ?_
      all_goals refine DD 11 ?_
      all_goals (first | (refine D3 12 ?_; refine D5 ?_; refine Y0 ?_; refine D9 ?_))
      all_goals refine D8 ?_
  case' dr1_8 =>
    (first | (refine D5 ?_; refine NB fun b => ?_; refine D9 ?_))
    all_goals (first | (refine D3 2 ?_; (with_reducible apply gaop_val); exact rfl; exact rfl; exact rfl; exact rfl; (first | ((with_reducible apply pv_sound); exact rfl) | ((with_reducible apply v_ld); exact rfl; (repeat first | with_reducible exact inb_hd | with_reducible apply inb_tl); exact rfl))))
    all_goals (first | (refine D3 3 ?_; refine D5 ?_; (with_reducible apply F3 71); exact rfl; exact EN; (exact fun w μc hw hse => clone_I w μc hw p.regs r (hr.mono hse.le) (by omega)); intro vr; refine D9 ?_))
    all_goals (first | (refine D3 9 ?_; refine D5 ?_; refine AI (k := fun g cap hcap => ?_); refine D9 ?_))
    all_goals refine DD 10 ?_
    all_goals refine DD 11 ?_
    all_goals (first | (refine D3 12 ?_; refine D5 ?_; refine Y0 ?_; refine D9 ?_))
    all_goals refine D8 ?_
  all_goals repeat' (first | refine KK ?_ | refine NB fun b => ?_ | ((refine KB ?_ ?_ <;> intro hp)) | refine KG ?_ | fail)
  all_goals first
    | (refine gq_share_0 rfl ?_; intro μ4 hle4 hsh4; have hv := IsV.of_row (xs := p.regs ++ [((s.regs + 1 : Nat) : Int)]) hsh4 (by simp) (by rw [List.flatMap_append]; rfl))
    | (refine gq_share_1 rfl ?_; intro μ4 hle4 hsh4; have hv := IsV.of_row (xs := p.regs ++ [((s.regs + 1 : Nat) : Int)]) hsh4 (by simp) (by rw [List.flatMap_append]; rfl))
  all_goals refine gq_selL (L' := .inl ⟨_, 47, 12, idx 0 (encPl (withP p s) (.slice (some ⟨g, 0, none⟩) (p.regs.length + 1) cap) lb lo mi)⟩ :: EB xb mb (withS s) fs) (by unfold EB; exact sel_1 (.cells PU) (sel_2 (.cells PU) (sel_2 (.refl _) (sel_drop _ (sel_drop _ (sel_all _)))))) ?_
  all_goals exact ret_end 1 fs hcnt rfl (rv_agg 0 rfl rfl rfl rfl rfl (by repeat first | exact lc_nil | refine lc_cons rfl ?_)) rfl rfl (fun μ' hle => ⟨⟨hR.1, (hR.mono (hle4.trans hle)).2⟩, _, lb, lo, mi, rfl, hv.mono hle, h2.mono (hle4.trans hle), h3.mono (hle4.trans hle), h4.mono (hle4.trans hle)⟩)
end Go.Proofs.YtfabmichdhbiaaaGreatDoor
namespace Go.Vcg
open Go.RowKit
section
variable {P : Program} {μ : Mem} {l : Slots} {L : List Bk} {ty : TypeId} {pos : String} {af : Array Edge} {gd : Option (Nat × Bool)} {ds : Option Nat}
theorem v_str_bothE {p q r : Operand} {t : TypeId} {b b' : ByteArray} {j i : Int} (k m : Nat) (he : b.extract k m = b') (ht : P.underlying t = some .string) (hx : ev l p = some (.string b)) (hq : ev l q = some (.int .i64 j)) (hj : j = (k : Int)) (hr' : ev l r = some (.int .i64 i)) (hi : i = (m : Int)) (hk : k ≤ m) (hm : m ≤ b.size) :
    Val P μ l L ⟨ds, .slice t p (some q) (some r) none, ty, pos, af, gd⟩ (.string b') := by
  rw [← he]
  exact v_str_both k m ht hx hq hj hr' hi hk hm
end
end Go.Vcg
namespace Go.Proofs.YtfabmichdhbiaaaGreatDoor
open Go.RowKit Go.Vcg Ou
theorem of_size (l : List UInt8) : (ofB l).size = l.length := by simp [ofB, ByteArray.size]
theorem bl_of (l : List UInt8) : bl (ofB l) = l := by simp [bl, ofB]
theorem bl_get {s : ByteArray} {i : Nat} (h : i < s.size) : ∃ b, (bl s)[i]? = some b ∧ bAt s i = b.toNat := by
  have : i < (bl s).length := by rw [bl_len]; exact h
  exact ⟨(bl s)[i], List.getElem?_eq_getElem this, bAt_get (List.getElem?_eq_getElem this)⟩
theorem letter_is (x : Int) (c : UInt8) (b : Bool) (hx : x = c.toNat) (hb : Iq.idStart c = b) (w : World) (μ : Mem) (hμ : MOk μ w) : Calls Tryz.prog 115 #[.int .u8 x] w fun e w' => e = .returned (.bool b) ∧ Below w.heap.size w w' := by
  subst hb
  exact letter_spec x c hx w μ hμ
theorem part_split (c : UInt8) : Iq.idPart c = true ↔ Iq.idStart c = true ∨ (48 ≤ (c.toNat : Int) ∧ (c.toNat : Int) ≤ 57) := by
  unfold Iq.idPart
  rw [Bool.or_eq_true, Bool.and_eq_true, decide_eq_true_eq, decide_eq_true_eq]
  exact or_congr Iff.rfl (by omega)
theorem name_more {l : List UInt8} {j : Nat} {c : UInt8} (hj : j ≤ (nameF l).length) (h0 : j = 0 → Iq.idStart c = true) (hc : l[j]? = some c) (h : Iq.idPart c = true) (hs : nameF l ≠ [] ∨ j = 0) : j + 1 ≤ (nameF l).length := by
  cases l with
  | nil => simp at hc
  | cons x r =>
    unfold nameF at hj hs ⊢
    dsimp only at hj hs ⊢
    cases j with
    | zero =>
      simp at hc
      subst hc
      rw [if_pos (h0 rfl)]
      simp
    | succ j =>
      by_cases hx : Iq.idStart x = true
      · rw [if_pos hx] at hj ⊢
        rw [List.getElem?_cons_succ] at hc
        simp only [List.length_cons] at hj ⊢
        rcases Nat.lt_or_ge j (r.takeWhile Iq.idPart).length with h1 | h1
        · omega
        · have e : j = (r.takeWhile Iq.idPart).length := by omega
          rw [e] at hc
          have := tw_end _ _ hc
          rw [h] at this
          cases this
      · rw [if_neg hx] at hs
        rcases hs with hs | hs
        · exact absurd rfl hs
        · omega
theorem name_stop {l : List UInt8} {j : Nat} (hj : j ≤ (nameF l).length) (h : l.length ≤ j ∨ ∃ c, l[j]? = some c ∧ Iq.idPart c = false) : (nameF l).length = j := by
  cases l with
  | nil => simp [nameF] at hj ⊢; omega
  | cons x r =>
    unfold nameF at hj ⊢
    dsimp only at hj ⊢
    by_cases hx : Iq.idStart x = true
    · rw [if_pos hx] at hj ⊢
      simp only [List.length_cons] at hj ⊢
      have hle := (List.takeWhile_prefix (l := r) Iq.idPart).length_le
      rcases h with h | ⟨c, hc, h⟩
      · simp at h
        omega
      · cases j with
        | zero =>
          simp at hc
          subst hc
          have : Iq.idPart x = true := (part_split x).2 (.inl hx)
          rw [this] at h
          cases h
        | succ j =>
          rw [List.getElem?_cons_succ] at hc
          rcases Nat.lt_or_ge j (r.takeWhile Iq.idPart).length with h1 | h1
          · obtain ⟨d, h2, h3⟩ := tw_get _ _ h1
            rw [h2] at hc
            cases hc
            rw [h3] at h
            cases h
          · omega
    · rw [if_neg hx] at hj ⊢
      simp at hj ⊢
      omega
theorem name_ext {l : List UInt8} : (ofB l).extract 0 (nameF l).length = ofB (nameF l) := by
  apply bl_inj
  rw [bl_extract, bl_of, bl_of, Nat.sub_zero, List.drop_zero]
  cases l with
  | nil => rfl
  | cons x r =>
    unfold nameF
    dsimp only
    by_cases hx : Iq.idStart x = true
    · rw [if_pos hx, List.length_cons, List.take_succ_cons, ← List.prefix_iff_eq_take.1 (List.takeWhile_prefix _)]
    · rw [if_neg hx]
      rfl
theorem name_le (l : List UInt8) : (nameF l).length ≤ l.length := by
  cases l with
  | nil => simp [nameF]
  | cons x r =>
    unfold nameF
    dsimp only
    have hle := (List.takeWhile_prefix (l := r) Iq.idPart).length_le
    split <;> simp <;> omega
attribute [local irreducible] G GC GQ GA GAop Calls IntKind.wrap Int.decLt Int.decLe
theorem lname_spec (l : List UInt8) (hl : l.length ≤ 1000000) (w : World) (μ : Mem) (hμ : MOk μ w) : Calls Tryz.prog 105 #[.string (ofB l), .int .i64 0] w fun e w' => e = .returned (.tuple #[.string (ofB (nameF l)), .int .i64 (nameF l).length]) ∧ Below w.heap.size w w' := by
  refine call_intro (args := [.string (ofB l), .int .i64 0]) Tryz.func105 rfl Tryz.ntmps105 (by simp) hμ ?_
  have hsz := of_size l
  by_cases h0 : l = []
  · subst h0
    have hz : (ofB ([] : List UInt8)).size = 0 := rfl
    repeat' (first | refine KK ?_ | ((refine KB ?_ ?_ <;> intro hp)) | refine KG ?_ | fail)
    all_goals first | (exfalso; first | omega | contradiction | (exact absurd ‹_› ‹¬ _›)) | skip
    all_goals exact ret_v2 rfl (rv_tmp rfl) (rv_tmp rfl) rfl rfl
  obtain ⟨c, r, rfl⟩ : ∃ c r, l = c :: r := by
    cases l with
    | nil => exact absurd rfl h0
    | cons c r => exact ⟨c, r, rfl⟩
  have hpos : 0 < (c :: r).length := by simp
  obtain ⟨c0, hb1, hb2⟩ := bl_get (s := ofB (c :: r)) (i := 0) (by omega)
  rw [bl_of] at hb1
  cases hb1
  cases hc : Iq.idStart c with
  | false =>
    have hn : nameF (c :: r) = [] := by
      unfold nameF
      simp [hc]
    rw [hn]
    repeat' (first | refine KO ?_ | ((with_reducible apply F1 115); exact rfl; exact EN; (exact fun w μc hw hse => letter_is _ c false (by first | omega | exact hb2 | (simp; omega)) hc w μc hw)) | (refine KV (b := by first | exact U2 0) (c := ?_)) | refine KI ?_ | ((refine KB ?_ ?_ <;> intro hp)) | refine KG ?_ | fail)
    all_goals first | (exfalso; first | omega | contradiction | (exact absurd ‹_› ‹¬ _›)) | skip
    all_goals exact ret_v2 rfl (rv_tmp rfl) (rv_tmp rfl) rfl rfl
  | true =>
    have hle := name_le (c :: r)
    have hext := name_ext (l := c :: r)
    have hne : 1 ≤ (nameF (c :: r)).length := name_more (Nat.zero_le _) (fun _ => hc) rfl ((part_split c).2 (.inl hc)) (.inr rfl)
    have hmore := fun (j : Nat) (d : UInt8) (hj : j ≤ (nameF (c :: r)).length) (h1 : j = 0 → Iq.idStart d = true) (h2 : (c :: r)[j]? = some d) (h3 : Iq.idPart d = true) => name_more hj h1 h2 h3 (.inl (by intro h; rw [h] at hne; simp at hne))
    have hstop := fun (j : Nat) => name_stop (l := c :: r) (j := j)
    have hcl : (c :: r)[0]? = some c := rfl
    generalize nameF (c :: r) = u at hle hext hne hmore hstop ⊢
    generalize hlg : c :: r = l at *
    repeat' (first | refine KO ?_ | ((with_reducible apply F1 115); exact rfl; exact EN; (exact fun w μc hw hse => letter_is _ c true (by first | omega | exact hb2 | (simp; omega)) hc w μc hw)) | (refine KV (b := by first | exact U2 0) (c := ?_)) | refine KI ?_ | ((refine KB ?_ ?_ <;> intro hp)) | refine KG ?_ | fail)
    all_goals first | (exfalso; first | omega | contradiction | (exact absurd ‹_› ‹¬ _›)) | skip
    all_goals refine gc_loop (ι := Nat) (fun j => 1 ≤ j ∧ j ≤ u.length) (fun j => l.length - j) (fun _ => μ) (fun j => [(6, .int .i64 (j : Int)), (1, .int .i64 0), (0, .string (ofB l)), (4, .string ⟨#[]⟩), (5, .int .i64 0)]) (fun _ => []) 1 ⟨by omega, by omega⟩ (fun a w hs => hs.sel PU PS) ?_
    intro j ⟨hj0, hj⟩
    clear hb2
    by_cases hlt : j < l.length
    · obtain ⟨d, hb1, hb2⟩ := bl_get (s := ofB l) (i := j) (by omega)
      rw [bl_of] at hb1
      have hd0 : j = 0 → d = c := by
        intro h
        rw [h, hcl] at hb1
        exact (Option.some.inj hb1).symm
      cases hds : Iq.idStart d with
      | true =>
        have hw := hmore j d hj (fun _ => hds) hb1 ((part_split d).2 (.inl hds))
        repeat' (first | refine KO ?_ | ((with_reducible apply F1 115); exact rfl; exact EN; (exact fun w μc hw hse => letter_is _ d true (by first | omega | exact hb2 | (simp; omega)) hds w μc hw)) | (refine KV (b := by first | exact U2 j) (c := ?_)) | refine KI ?_ | ((refine KB ?_ ?_ <;> intro hp)) | refine KG ?_ | fail)
        all_goals first | (exfalso; first | omega | contradiction | (exact absurd ‹_› ‹¬ _›)) | skip
        all_goals refine gq_backS (j + 1) ⟨by omega, hw⟩ (by omega) rfl PU PS
      | false =>
        by_cases hdg : 48 ≤ (d.toNat : Int) ∧ (d.toNat : Int) ≤ 57
        · have hw := hmore j d hj (fun h => by rw [hd0 h]; exact hc) hb1 ((part_split d).2 (.inr hdg))
          repeat' (first | refine KO ?_ | ((with_reducible apply F1 115); exact rfl; exact EN; (exact fun w μc hw hse => letter_is _ d false (by first | omega | exact hb2 | (simp; omega)) hds w μc hw)) | (refine KV (b := by first | exact U2 j) (c := ?_)) | refine KI ?_ | ((refine KB ?_ ?_ <;> intro hp)) | refine KG ?_ | fail)
          all_goals first | (exfalso; first | omega | contradiction | (exact absurd ‹_› ‹¬ _›)) | skip
          all_goals refine gq_backS (j + 1) ⟨by omega, hw⟩ (by omega) rfl PU PS
        · have hw := hstop j hj (.inr ⟨d, hb1, by
            cases hp : Iq.idPart d with
            | false => rfl
            | true => rcases (part_split d).1 hp with h | h
                      · rw [hds] at h; cases h
                      · exact absurd h hdg⟩)
          subst hw
          repeat' (first | refine KO ?_ | ((with_reducible apply F1 115); exact rfl; exact EN; (exact fun w μc hw hse => letter_is _ d false (by first | omega | exact hb2 | (simp; omega)) hds w μc hw)) | (refine KV (b := by first | exact U2 u.length | ((with_reducible apply v_str_bothE 0 u.length hext); exact rfl; exact rfl; exact rfl; rfl; exact rfl; rfl; omega; (rw [of_size]; omega))) (c := ?_)) | refine KI ?_ | ((refine KB ?_ ?_ <;> intro hp)) | refine KG ?_ | fail)
          all_goals first | (exfalso; first | omega | contradiction | (exact absurd ‹_› ‹¬ _›)) | skip
          all_goals exact ret_v2 rfl (rv_tmp rfl) (rv_tmp rfl) rfl rfl
    · have hw := hstop j hj (.inl (by omega))
      subst hw
      repeat' (first | refine KO ?_ | (refine KV (b := by first | ((with_reducible apply v_str_bothE 0 u.length hext); exact rfl; exact rfl; exact rfl; rfl; exact rfl; rfl; omega; (rw [of_size]; omega))) (c := ?_)) | refine KI ?_ | ((refine KB ?_ ?_ <;> intro hp)) | refine KG ?_ | fail)
      all_goals first | (exfalso; first | omega | contradiction | (exact absurd ‹_› ‹¬ _›)) | skip
      all_goals exact ret_v2 rfl (rv_tmp rfl) (rv_tmp rfl) rfl rfl
end Go.Proofs.YtfabmichdhbiaaaGreatDoor
namespace Go.Vcg
open Go.RowKit Go.Proofs.YtfabmichdhbiaaaGreatDoor Go.Proofs.YtfabmichdhbiaaaGreatDoor.Ou
section
variable {P : Program} {μ : Mem} {l : Slots} {L : List Bk} {ty : TypeId} {pos : String} {af : Array Edge} {gd : Option (Nat × Bool)} {ds : Option Nat}
theorem v_addQ {p q : Operand} {t t2 : TypeId} {a b : List UInt8} (h0 : ev l p = some (.string (ofB a))) (h1 : ev l q = some (.string (ofB b))) (hb : a.length + b.length ≤ 9000000000000000000) :
    Val P μ l L ⟨ds, .binOp .add t p q t2, ty, pos, af, gd⟩ (.string (ofB (a ++ b))) := by
  have h := v_sadd (P := P) (μ := μ) (L := L) (ds := ds) (ty := ty) (pos := pos) (af := af) (gd := gd) (t := t) (t2 := t2) h0 h1 (by
    have e : ∀ l : List UInt8, (ofB l).size = l.length := fun l => by simp [ofB, ByteArray.size]
    rw [e, e]; omega)
  have e : ofB a ++ ofB b = ofB (a ++ b) := by
    apply byS_inj
    rw [byS_ofB]
    show ((ofB a) ++ (ofB b)).data.toList = _
    rw [ByteArray.data_append]
    simp [ofB]
  rw [← e]
  exact h
end
end Go.Vcg
namespace Go.Proofs.YtfabmichdhbiaaaGreatDoor
open Go.RowKit Go.Vcg Go.Shelf Ou
def MaxQ (μ : Mem) : Prop := ∃ m : Int, MCell μ ⟨2, 0, none⟩ (.int .i64 m)
theorem MaxQ.mono {μ μ' : Mem} (h : MaxQ μ) (hle : MLe μ μ') : MaxQ μ' := by
  obtain ⟨m, hm⟩ := h
  exact ⟨m, hm.mono hle⟩
theorem lindex_spec (s t : List UInt8) (hs : s.length ≤ 3000000) (w : World) (μ : Mem) (hμ : MOk μ w) (hm : MaxQ μ) : Calls Tryz.prog 116 #[.string (ofB s), .string (ofB t)] w fun e w' => e = .returned (.int .i64 (Lib.index s t)) ∧ Below w.heap.size w w' := by
  obtain ⟨m, a, t', f, h1, h2, h3⟩ := hm
  have hc : w.cell? ⟨2, 0, none⟩ = some (.int .i64 m) := by
    have hw := hμ _ _ h1
    simp only at hw
    simp [World.cell?, hw, h3]
  refine (Any.strings_Index Tryz.lays143 (ofB s) (ofB t) m w (show s.toArray.size < _ by simp; omega) hc).mono fun e w' he => ?_
  obtain ⟨rfl, rfl⟩ := he
  refine ⟨?_, rfl, rfl, rfl, Nat.le_refl _, fun _ _ => rfl⟩
  simp [ofB]
def alwaysB : List UInt8 := [32, 98, 114, 101, 97, 107, 32, 99, 97, 115, 101, 32, 99, 97, 116, 99, 104, 32, 99, 108, 97, 115, 115, 32, 99, 111, 110, 115, 116, 32, 99, 111, 110, 116, 105, 110, 117, 101, 32, 100, 101, 98, 117, 103, 103, 101, 114, 32, 100, 101, 102, 97, 117, 108, 116, 32, 100, 101, 108, 101, 116, 101, 32, 100, 111, 32, 101, 108, 115, 101, 32, 101, 110, 117, 109, 32, 101, 120, 112, 111, 114, 116, 32, 101, 120, 116, 101, 110, 100, 115, 32, 102, 97, 108, 115, 101, 32, 102, 105, 110, 97, 108, 108, 121, 32, 102, 111, 114, 32, 102, 117, 110, 99, 116, 105, 111, 110, 32, 105, 102, 32, 105, 109, 112, 111, 114, 116, 32, 105, 110, 32, 105, 110, 115, 116, 97, 110, 99, 101, 111, 102, 32, 110, 101, 119, 32, 110, 117, 108, 108, 32, 114, 101, 116, 117, 114, 110, 32, 115, 117, 112, 101, 114, 32, 115, 119, 105, 116, 99, 104, 32, 116, 104, 105, 115, 32, 116, 104, 114, 111, 119, 32, 116, 114, 117, 101, 32, 116, 114, 121, 32, 116, 121, 112, 101, 111, 102, 32, 118, 97, 114, 32, 118, 111, 105, 100, 32, 119, 104, 105, 108, 101, 32, 119, 105, 116, 104, 32]
def strictB : List UInt8 := [32, 105, 109, 112, 108, 101, 109, 101, 110, 116, 115, 32, 105, 110, 116, 101, 114, 102, 97, 99, 101, 32, 108, 101, 116, 32, 112, 97, 99, 107, 97, 103, 101, 32, 112, 114, 105, 118, 97, 116, 101, 32, 112, 114, 111, 116, 101, 99, 116, 101, 100, 32, 112, 117, 98, 108, 105, 99, 32, 115, 116, 97, 116, 105, 99, 32, 121, 105, 101, 108, 100, 32]
def wdL (l : List UInt8) : Int := if nameF l = [] ∨ nameF l ≠ l then 0 else if Lib.contains alwaysB ([32] ++ l ++ [32]) then 1 else if Lib.contains strictB ([32] ++ l ++ [32]) then 2 else 0
def wdF (s : ByteArray) : Int := wdL (bl s)
attribute [local irreducible] G GC GQ GA GAop Calls IntKind.wrap Int.decLt Int.decLe
theorem lcontains_spec (s t : List UInt8) (hs : s.length ≤ 3000000) (w : World) (μ : Mem) (hμ : MOk μ w) (hm : MaxQ μ) : Calls Tryz.prog 106 #[.string (ofB s), .string (ofB t)] w fun e w' => e = .returned (.bool (Lib.contains s t)) ∧ Below w.heap.size w w' := by
  refine call_intro (args := [.string (ofB s), .string (ofB t)]) Tryz.func106 rfl Tryz.ntmps106 (by simp) hμ ?_
  unfold Lib.contains
  have hi := fun w μc hw hm => lindex_spec s t hs w μc hw hm
  generalize Lib.index s t = k at hi ⊢
  repeat' (first | refine KO ?_ | ((with_reducible apply F1 116); exact rfl; exact EN; (exact fun w μc hw hse => hi w μc hw (hm.mono hse.le))) | refine KI ?_ | ((refine KB ?_ ?_ <;> intro hp)) | refine KG ?_ | fail)
  all_goals first | (exfalso; first | omega | contradiction | (exact absurd ‹_› ‹¬ _›)) | skip
  all_goals exact ret_s rfl rfl rfl
attribute [local irreducible] Lib.contains nameF
theorem lword_spec (l : List UInt8) (hl : l.length ≤ 1000000) (w : World) (μ : Mem) (hμ : MOk μ w) (hm : MaxQ μ) : Calls Tryz.prog 73 #[.string (ofB l)] w fun e w' => e = .returned (.int .i64 (wdL l)) ∧ Below w.heap.size w w' := by
  generalize hR : wdL l = R
  unfold wdL at hR
  have hn := fun (w : World) (μc : Mem) (hw : MOk μc w) => lname_spec l hl w μc hw
  have hcA := fun (w : World) (μc : Mem) (hw : MOk μc w) (hle : MLe μ μc) => lcontains_spec alwaysB ([32] ++ l ++ [32]) (by decide) w μc hw (hm.mono hle)
  have hcS := fun (w : World) (μc : Mem) (hw : MOk μc w) (hle : MLe μ μc) => lcontains_spec strictB ([32] ++ l ++ [32]) (by decide) w μc hw (hm.mono hle)
  refine call_intro (args := [.string (ofB l)]) Tryz.func73 rfl Tryz.ntmps73 (by simp) hμ ?_
  dsimp only [List.append]
  have hof : ∀ {a c : List UInt8}, ofB a = ofB c → a = c := fun {a c} h => by have := congrArg bl h; rwa [bl_of, bl_of] at this
  by_cases h0 : nameF l = []
  · rw [if_pos (.inl h0)] at hR
    subst hR
    rw [h0] at hn
    have hz : (ofB ([] : List UInt8)) = ⟨#[]⟩ := rfl
    repeat' (first | refine KO ?_ | ((with_reducible apply F1 105); exact rfl; exact EN; (exact fun w μc hw hse => hn w μc hw)) | refine KI ?_ | ((refine KB ?_ ?_ <;> intro hp)) | refine KG ?_ | fail)
    all_goals first | exact ret_s rfl rfl rfl | (exfalso; first | omega | contradiction | (exact absurd hz ‹¬_›))
  have hz : ¬ofB (nameF l) = ⟨#[]⟩ := fun h => h0 (hof (c := []) h)
  by_cases h1 : nameF l = l
  rotate_left
  · rw [if_pos (.inr h1)] at hR
    subst hR
    have h2 : ¬ofB (nameF l) = ofB l := fun h => h1 (hof h)
    generalize nameF l = u at hn hz h2
    repeat' (first | refine KO ?_ | ((with_reducible apply F1 105); exact rfl; exact EN; (exact fun w μc hw hse => hn w μc hw)) | refine KI ?_ | ((refine KB ?_ ?_ <;> intro hp)) | refine KG ?_ | fail)
    all_goals first | exact ret_s rfl rfl rfl | (exfalso; first | omega | contradiction | (exact absurd ‹_› ‹¬_›))
  rw [if_neg (fun h => h.elim h0 (fun h => h h1))] at hR
  rw [h1] at hn hz
  generalize Lib.contains alwaysB ([32] ++ l ++ [32]) = cA at hR hcA
  generalize Lib.contains strictB ([32] ++ l ++ [32]) = cS at hR hcS
  repeat' (first | refine KO ?_ | ((with_reducible apply F1 105); exact rfl; exact EN; (exact fun w μc hw hse => hn w μc hw)) | ((with_reducible apply F1 106); exact rfl; exact EN; (first | exact fun w μc hw hse => hcA w μc hw hse.le | exact fun w μc hw hse => hcS w μc hw hse.le)) | (refine KV (b := by first | ((with_reducible apply v_addQ (a := [32])); exact rfl; exact rfl; (simp only [List.length_cons, List.length_nil]; omega)) | ((with_reducible apply v_addQ (b := [32])); exact rfl; exact rfl; (simp only [List.length_append, List.length_cons, List.length_nil]; omega))) (c := ?_)) | refine KI ?_ | ((refine KB ?_ ?_ <;> intro hp)) | refine KG ?_ | fail)
  all_goals first | (exfalso; first | omega | contradiction | (exact absurd ‹_› ‹¬_›)) | skip
  all_goals refine ret_s rfl rfl ?_
  all_goals simp_all
end Go.Proofs.YtfabmichdhbiaaaGreatDoor
namespace Go.Proofs.YtfabmichdhbiaaaGreatDoor
open Go.RowKit Go.Vcg Ou
theorem ret_ce {P : Program} {fn : Func} {n : Nat} {μ μ0 : Mem} {l : Slots} {L Lr : List Bk} {M : List Nat} {w : World} {xb mb : Nat} {s s' : ES} {ex : Exit} (k : Nat) (i : List FR) (he : ex = .ret ∨ ex = .normal) (hM : ∀ D, M.count D ≤ 1) (hr : fn.results = #[]) (hL : splitB k L = some (Lr, EB xb mb s i)) (hs : s = s') (hR : ER μ i s) :
    GQ ⟨w, μ0, M, n⟩ (bodyPost P fn (fun e w' => ∃ (v : Value) (μ' : Mem) (i : List FR), e = .returned v ∧ BackM M w w' μ0 (EB xb mb s' i) μ' ∧ ER μ' i s')) ex μ l L := by
  subst hs
  exact ret_end0 (Ls := fun i => EB xb mb s i) (Post := fun μ' _ i => ER μ' i s) k i he hM hr hL rfl (fun μ' _ hle => hR.mono hle)
theorem ofB_bl (x : ByteArray) : ofB (bl x) = x := by
  cases x
  simp [bl, ofB]
theorem str_let : ("let".toUTF8 : ByteArray) = ⟨#[108, 101, 116]⟩ := by decide +kernel
theorem str_yield : ("yield".toUTF8 : ByteArray) = ⟨#[121, 105, 101, 108, 100]⟩ := by decide +kernel
attribute [local irreducible] wdL anI famD mkD G GC GQ GA GAop Calls IntKind.wrap Int.decLt Int.decLe
theorem word_s (x : ByteArray) (hx : x.size ≤ 1000000) (w : World) (μ : Mem) (hμ : MOk μ w) (hm : MaxQ μ) : Calls Tryz.prog 73 #[.string x] w fun e w' => e = .returned (.int .i64 (wdF x)) ∧ Below w.heap.size w w' := by
  have h := lword_spec (bl x) (by rw [bl_len]; exact hx) w μ hμ hm
  rwa [ofB_bl] at h
theorem ename_spec (xb mb : Nat) (t : T) (u : Value) (hu : u.oneCell' = true) (x : ByteArray) (hx : x.size ≤ 1000000) (p : EP) (pv : Value) (s : ES) (μ : Mem) (hp : PV μ p pv) (hm : MaxQ μ) :
    CEs 38 [.pointer (some ⟨xb, 0, none⟩), .agg (encT t u).toArray, .string x, pv] xb mb s (nameE wdF t x p s) μ := by
  intro w fs hμ hR hO
  have hcnt := ids_count hO.diff
  obtain ⟨r, lb, lo, mi, rfl, hr, h2, h3, h4⟩ := hp
  have o1 := hr.one
  have o2 := h2.one
  have o3 := h3.one
  have o4 := h4.one
  have hw := fun (w : World) (μc : Mem) (hw : MOk μc w) (hle : MLe μ μc) => word_s x hx w μc hw (hm.mono hle)
  generalize hs' : nameE wdF t x p s = s'
  unfold nameE at hs'
  generalize wdF x = wd at hw hs'
  refine call_introM (args := [.pointer (some ⟨xb, 0, none⟩), .agg (encT t u).toArray, .string x, .agg (encPl p r lb lo mi).toArray]) Tryz.func38 rfl Tryz.ntmps38 (by simp) hμ hO ?_
  rw [str_let, str_yield] at hs'
  repeat' (first | refine KO ?_ | (refine CF 39 ?_; (with_reducible apply g_ce 2); exact rfl; exact rfl; exact rfl; ((with_reducible apply e_call4); kernel_rfl; exact rfl; exact rfl; exact rfl; exact rfl); exact rfl; (exact hR); (exact bad_spec xb mb t _ hu _ _ _ _); (intro v1 μ1 i1 hle1 hR); (dsimp only [List.cons_append, List.nil_append])) | ((with_reducible apply F1 73); exact rfl; exact EN; (exact fun w μc hw' hse => hw w μc hw' hse.le)) | refine KI ?_ | refine NB fun b => ?_ | ((refine KB ?_ ?_ <;> intro hp)) | refine KG ?_ | fail)
  all_goals exact ret_ce 2 i1 (.inr rfl) hcnt rfl rfl (by rw [← hs']; simp_all) hR
end Go.Proofs.YtfabmichdhbiaaaGreatDoor
namespace Go.Proofs.YtfabmichdhbiaaaGreatDoor
open Go.RowKit Go.Vcg
inductive AllN (q : T → Prop) : T → Prop
  | mk {t : T} (h : q t) (hk : ∀ k ∈ t.kids, AllN q k) : AllN q t
theorem AllN.here {q : T → Prop} {t : T} (h : AllN q t) : q t := by cases h; assumption
theorem AllN.kid {q : T → Prop} {t k : T} (h : AllN q t) (hk : k ∈ t.kids) : AllN q k := by
  cases h with
  | mk _ h => exact h k hk
structure Kc (t : T) : Prop where
  two : t.op = 4 ∨ t.op = 20 ∨ t.op = 13 ∨ t.op = 14 ∨ t.op = 62 ∨ t.op = 63 → 2 ≤ t.kids.length
  one : t.op = 10 ∨ t.op = 11 ∨ t.op = 12 ∨ t.op = 21 ∨ t.op = 9 ∨ t.op = 23 ∨ t.op = 42 ∨ (t.op = 39 ∧ t.n = 3) → 1 ≤ t.kids.length
  sub : t.op = 2 → ∀ k ∈ t.kids, 1 ≤ k.kids.length
def szs (l : List T) : Nat := (l.map T.size).sum
theorem szs_cons (k : T) (l : List T) : szs (k :: l) = k.size + szs l := by simp [szs]
theorem szs_app (a b : List T) : szs (a ++ b) = szs a + szs b := by simp [szs]
theorem size_szs (t : T) : t.size = 1 + szs t.kids := T.size_eq t
def totE (l : List (ByteArray × List ED)) : Nat := (l.map fun p => p.2.length).sum
theorem getE_le (x : ByteArray) : ∀ l : List (ByteArray × List ED), (getE x l).length ≤ totE l
  | [] => Nat.le_refl _
  | (y, m) :: r => by
    have := getE_le x r
    simp only [getE, totE, List.map_cons, List.sum_cons] at this ⊢
    split <;> omega
theorem tot_put (x : ByteArray) (d : ED) : ∀ l : List (ByteArray × List ED), totE (putE x (getE x l ++ [d]) l) = totE l + 1
  | [] => by simp [getE, putE, totE]
  | (y, m) :: r => by
    have := tot_put x d r
    simp only [getE, putE]
    by_cases h : x = y
    · rw [if_pos h, if_pos h]
      simp [totE]
      omega
    · rw [if_neg h, if_neg h]
      simp only [totE, List.map_cons, List.sum_cons] at this ⊢
      omega
theorem getE_put (x y : ByteArray) (m : List ED) : ∀ l : List (ByteArray × List ED), getE y (putE x m l) = if y = x then m else getE y l
  | [] => by simp [getE, putE]
  | (z, k) :: r => by
    have := getE_put x y m r
    simp only [putE]
    by_cases h : x = z
    · rw [if_pos h]
      simp only [getE]
      by_cases h2 : y = x
      · rw [if_pos (h2.trans h), if_pos h2]
      · rw [if_neg (fun e => h2 (e.trans h.symm)), if_neg h2, if_neg (fun e => h2 (e.trans h.symm))]
    · rw [if_neg h]
      simp only [getE]
      by_cases h2 : y = z
      · rw [if_pos h2, if_neg (fun e => h (e.symm.trans h2)), if_pos h2]
      · rw [if_neg h2, this, if_neg h2]
structure Gr (F : ByteArray → Prop) (n : Nat) (s s' : ES) : Prop where
  per : s.e ≠ 0 → s'.e ≠ 0
  regs : s.regs ≤ s'.regs
  wt : s'.regs + totE s'.names ≤ s.regs + totE s.names + n
  fr : ∀ x, F x → getE x s'.names = getE x s.names
theorem Gr.refl {F : ByteArray → Prop} {n : Nat} (s : ES) : Gr F n s s := ⟨fun h => h, Nat.le_refl _, by omega, fun _ _ => rfl⟩
theorem Gr.trans {F : ByteArray → Prop} {n m k : Nat} {s s' s'' : ES} (h : Gr F n s s') (h' : Gr F m s' s'') (hk : n + m ≤ k) : Gr F k s s'' :=
  ⟨fun h0 => h'.per (h.per h0), Nat.le_trans h.regs h'.regs, by have := h.wt; have := h'.wt; omega, fun x hx => (h'.fr x hx).trans (h.fr x hx)⟩
theorem Gr.mono {F : ByteArray → Prop} {n m : Nat} {s s' : ES} (h : Gr F n s s') (hk : n ≤ m) : Gr F m s s' := ⟨h.per, h.regs, by have := h.wt; omega, h.fr⟩
section
variable {F : ByteArray → Prop}
theorem badE_keep {c : Bool} {a e : Int} {s : ES} (h : s.e ≠ 0) : badE c a e s = s := by unfold badE; rw [if_neg (fun h2 => h h2.2)]
theorem badE_names' (c : Bool) (a e : Int) (s : ES) : (badE c a e s).names = s.names := by unfold badE; split <;> rfl
theorem badE_regs' (c : Bool) (a e : Int) (s : ES) : (badE c a e s).regs = s.regs := by unfold badE; split <;> rfl
theorem gr_bad (c : Bool) (a e : Int) (s : ES) : Gr F 0 s (badE c a e s) :=
  ⟨fun h => by rw [badE_keep h]; exact h, by rw [badE_regs']; exact Nat.le_refl _, by rw [badE_regs', badE_names']; omega, fun x _ => by rw [badE_names']⟩
theorem gr_decl (a : Int) (x : ByteArray) (d : ED) (s : ES) (hx : ¬F x) : Gr F 1 s (declE a x d s) := by
  have h := gr_bad (F := F) ((getE x s.names).any fun o => clashE o d) a 30 s
  refine ⟨h.per, h.regs, ?_, fun y hy => ?_⟩
  · show (badE _ a 30 s).regs + totE (putE x (getE x (badE _ a 30 s).names ++ [d]) (badE _ a 30 s).names) ≤ _
    rw [tot_put]
    have := h.wt
    omega
  · show getE y (putE x (getE x (badE _ a 30 s).names ++ [d]) (badE _ a 30 s).names) = _
    rw [getE_put, if_neg (fun e => hx (by rw [← e]; exact hy))]
    exact h.fr y hy
theorem gr_name (wd : ByteArray → Int) (t : T) (x : ByteArray) (p : EP) (s : ES) : Gr F 0 s (nameE wd t x p s) := by
  unfold nameE
  dsimp only
  split
  · exact ((gr_bad _ _ _ _).trans (gr_bad _ _ _ _) (Nat.le_refl _)).trans (gr_bad _ _ _ _) (Nat.le_refl _)
  · exact (gr_bad _ _ _ _).trans (gr_bad _ _ _ _) (Nat.le_refl _)
theorem gr_with (s : ES) : Gr F 1 s (withS s) := ⟨fun h => h, Nat.le_succ _, by show s.regs + 1 + totE s.names ≤ _; omega, fun _ _ => rfl⟩
theorem gr_fold {α : Type} {g : ES → α → ES} {c : α → Nat} : ∀ (l : List α) (s : ES), (∀ k ∈ l, ∀ s, Gr F (c k) s (g s k)) → Gr F ((l.map c).sum) s (l.foldl g s)
  | [], s, _ => Gr.refl s
  | k :: r, s, h => by
    rw [List.foldl_cons]
    exact (h k (by simp) s).trans (gr_fold r (g s k) fun k hk => h k (List.mem_cons_of_mem _ hk)) (by simp)
theorem sum_two (l : List T) : (l.map fun k => 2 * T.size k).sum = 2 * szs l := by
  induction l with
  | nil => rfl
  | cons k r ih => rw [List.map_cons, List.sum_cons, ih, szs_cons]; omega
theorem kidE_mem {t : T} {i : Nat} (h : i < t.kids.length) : kidE t i ∈ t.kids := by
  unfold kidE
  rw [List.getElem?_eq_getElem h]
  exact List.getElem_mem h
theorem kids2 {t : T} (h : 2 ≤ t.kids.length) : ∃ r, t.kids = kidE t 0 :: kidE t 1 :: r := by
  unfold kidE
  match hk : t.kids with
  | [] => rw [hk] at h; simp at h
  | [_] => rw [hk] at h; simp at h
  | a :: b :: r => exact ⟨r, rfl⟩
theorem kids1 {t : T} (h : 1 ≤ t.kids.length) : t.kids = kidE t 0 :: t.kids.drop 1 := by
  unfold kidE
  match hk : t.kids with
  | [] => rw [hk] at h; simp at h
  | a :: r => rfl
variable {wd : ByteArray → Int} {N : T → EP → ES → ES} {B : T → EP → ED → ES → ES} {q : T → Prop}
theorem gr_all (l : List T) (hN : ∀ k ∈ l, ∀ p s, Gr F (2 * k.size) s (N k p s)) (p : EP) (s : ES) : Gr F (2 * szs l) s (allE N l p s) := by
  rw [← sum_two]
  exact gr_fold l s fun k hk s => hN k hk p s
theorem gr_alone (t : T) (hN : ∀ p s, Gr F (2 * t.size) s (N t p s)) (p : EP) (s : ES) : Gr F (2 * t.size) s (aloneE N t p s) := by
  unfold aloneE
  exact (gr_bad _ _ _ _).trans (hN _ _) (by omega)
theorem gr_bind (hq : ∀ t, q t → Kc t ∧ ¬F t.s) (t : T) (ht : AllN q t) (hN : ∀ k ∈ t.kids, ∀ p s, Gr F (2 * k.size) s (N k p s)) (hB : ∀ k ∈ t.kids, ∀ p d s, Gr F (2 * k.size) s (B k p d s)) (p : EP) (d : ED) (s : ES) : Gr F (2 * t.size) s (bindE wd N B t p d s) := by
  obtain ⟨hc, hf⟩ := hq t ht.here
  have hsz := size_szs t
  unfold bindE
  split
  · exact (gr_name _ _ _ _ _).trans (gr_decl _ _ _ _ hf) (by omega)
  split
  · exact (gr_bad _ _ _ _).mono (by omega)
  split
  · rename_i h
    have h2 := hc.two (by simp [h])
    obtain ⟨r, hr⟩ := kids2 h2
    rw [hr, szs_cons, szs_cons] at hsz
    exact (hB _ (kidE_mem (by omega)) _ _ _).trans (hN _ (kidE_mem (by omega)) _ _) (by omega)
  split
  · rename_i h
    have h2 := hc.two (by simp [h])
    obtain ⟨r, hr⟩ := kids2 h2
    rw [hr, szs_cons, szs_cons] at hsz
    exact (hN _ (kidE_mem (by omega)) _ _).trans (hB _ (kidE_mem (by omega)) _ _ _) (by omega)
  split
  · have := gr_fold (F := F) (c := fun k => 2 * T.size k) (g := fun s k => B k p d s) t.kids s fun k hk s => hB k hk p d s
    rw [sum_two] at this
    exact this.mono (by omega)
  · exact Gr.refl s
theorem gr_fun (hq : ∀ t, q t → Kc t ∧ ¬F t.s) (t : T) (ht : AllN q t) (h4 : t.op = 4) (hN : ∀ k, AllN q k → k.size < t.size → ∀ p s, Gr F (2 * k.size) s (N k p s)) (hB : ∀ k, AllN q k → k.size < t.size → ∀ p d s, Gr F (2 * k.size) s (B k p d s)) (p : EP) (own : Bool) (s : ES) : Gr F (2 * t.size) s (funE wd N B t p own s) := by
  obtain ⟨hc, hf⟩ := hq t ht.here
  have hsz := size_szs t
  have h2 := hc.two (by simp [h4])
  obtain ⟨r, hr⟩ := kids2 h2
  rw [hr, szs_cons, szs_cons] at hsz
  have hs0 := size_szs (kidE t 0)
  have hs1 := size_szs (kidE t 1)
  have ha0 := ht.kid (kidE_mem (t := t) (i := 0) (by omega))
  have ha1 := ht.kid (kidE_mem (t := t) (i := 1) (by omega))
  have hle : ∀ {k l}, k ∈ l → T.size k ≤ szs l := fun {k l} hk => T.sum_mem (List.mem_map.2 ⟨k, hk, rfl⟩)
  unfold funE
  dsimp only
  have g1 : ∀ s, Gr F 0 s (if t.s ≠ ⟨#[]⟩ then nameE wd t t.s { p with strict := (inP t p).strict } s else s) := fun s => by
    split
    · exact gr_name _ _ _ _ _
    · exact Gr.refl s
  have g3 : ∀ s, Gr F 1 s (if bitE t.n 1 then declE t.at' t.s ⟨!own, if own then p.regs else nearE p, 0, false⟩ s else s) := fun s => by
    split
    · exact gr_decl _ _ _ _ hf
    · exact Gr.refl s
  have g := (((g1 s).trans (gr_bad (strictE t && !simpleE (kidE t 0)) t.at' 35 _) (Nat.le_refl _)).trans (g3 _) (Nat.le_refl _)).trans (gr_with _) (Nat.le_refl _)
  have hb : ∀ p d s, Gr F (2 * szs (kidE t 0).kids) s ((kidE t 0).kids.foldl (fun s k => B k p d s) s) := fun p d s => by
    rw [← sum_two]
    exact gr_fold _ _ fun k hk s => hB k (ha0.kid hk) (by have := hle hk; omega) p d s
  split
  · exact (g.trans (hb _ _ _) (Nat.le_refl _)).trans (hN _ ha1 (by omega) _ _) (by omega)
  · exact (g.trans (hb _ _ _) (Nat.le_refl _)).trans (gr_all _ (fun k hk => hN k (ha1.kid hk) (by have := hle hk; omega)) _ _) (by omega)
theorem gr_vars (hq : ∀ t, q t → Kc t ∧ ¬F t.s) (t : T) (ht : AllN q t) (h4 : t.op = 2) (hN : ∀ k, AllN q k → k.size < t.size → ∀ p s, Gr F (2 * k.size) s (N k p s)) (hB : ∀ k, AllN q k → k.size < t.size → ∀ p d s, Gr F (2 * k.size) s (B k p d s)) (p : EP) (each : Bool) (s : ES) : Gr F (2 * t.size) s (varsE N B t p each s) := by
  obtain ⟨hc, hf⟩ := hq t ht.here
  have hsz := size_szs t
  have hle : ∀ {k l}, k ∈ l → T.size k ≤ szs l := fun {k l} hk => T.sum_mem (List.mem_map.2 ⟨k, hk, rfl⟩)
  unfold varsE
  dsimp only
  have := gr_fold (F := F) (c := fun k => 2 * T.size k) (g := fun s k => allE N (k.kids.drop 1) p (B (kidE k 0) p (if t.n ≠ 0 then ⟨true, nearE p, 0, false⟩ else ⟨false, p.regs, 0, false⟩) (badE (decide (k.kids.length = 1) && !each && (decide (t.n = 2) || decide ((kidE k 0).op ≠ 34))) k.at' 36 s))) t.kids s fun k hk s => by
    have h1 := hc.sub h4 k hk
    have h2 := kids1 h1
    have h3 := size_szs k
    rw [h2, szs_cons] at h3
    have h5 := hle hk
    have hak := ht.kid hk
    exact ((gr_bad _ _ _ _).trans (hB _ (hak.kid (kidE_mem (by omega))) (by omega) _ _ _) (Nat.le_refl _)).trans (gr_all _ (fun x hx => hN x (hak.kid (List.mem_of_mem_drop hx)) (by have := hle hx; omega)) _ _) (by omega)
  rw [sum_two] at this
  exact this.mono (by omega)
theorem gr_loop (t : T) (ht : AllN q t) (hc : Kc t) (hop : t.op = 10 ∨ t.op = 11 ∨ t.op = 12 ∨ t.op = 13 ∨ t.op = 14) (hN : ∀ k, AllN q k → k.size < t.size → ∀ p s, Gr F (2 * k.size) s (N k p s)) (p : EP) (mine : List ByteArray) (s : ES) : Gr F (2 * t.size) s (loopE N t p mine s) := by
  have hsz := size_szs t
  have hle : ∀ {k l}, k ∈ l → T.size k ≤ szs l := fun {k l} hk => T.sum_mem (List.mem_map.2 ⟨k, hk, rfl⟩)
  have hk' : ∀ k ∈ t.kids, ∀ p s, Gr F (2 * k.size) s (N k p s) := fun k hk => hN k (ht.kid hk) (by have := hle hk; omega)
  have hr : ∀ k ∈ t.kids, ∀ p s, Gr F (2 * k.size) s (roundE N k p mine s) := fun k hk p s => gr_alone k (hk' k hk) _ s
  unfold loopE
  split
  · have h2 := hc.two (by simp [*])
    obtain ⟨r, hr'⟩ := kids2 h2
    rw [hr', szs_cons, szs_cons] at hsz
    exact (hk' _ (kidE_mem (by omega)) _ _).trans (hr _ (kidE_mem (by omega)) _ _) (by omega)
  split
  · have h2 := hc.two (by simp [*])
    obtain ⟨r, hr'⟩ := kids2 h2
    rw [hr', szs_cons, szs_cons] at hsz
    exact (hr _ (kidE_mem (by omega)) _ _).trans (hk' _ (kidE_mem (by omega)) _ _) (by omega)
  · have h1 := hc.one (by omega)
    dsimp only
    have hlast : t.kids = t.kids.take (t.kids.length - 1) ++ [kidE t (t.kids.length - 1)] := by
      unfold kidE
      conv => lhs; rw [← List.take_append_drop (t.kids.length - 1) t.kids]
      congr 1
      rw [List.drop_eq_getElem_cons (by omega), List.getElem?_eq_getElem (by omega), List.drop_eq_nil_of_le (by omega)]
      rfl
    have hs2 : szs t.kids = szs (t.kids.take (t.kids.length - 1)) + (kidE t (t.kids.length - 1)).size := by
      conv => lhs; rw [hlast]
      rw [szs_app, szs_cons]
      rfl
    have := gr_fold (F := F) (c := fun k => 2 * T.size k) (g := fun s k => N k { withP p s with each := decide (t.op ≠ 10) } s) (t.kids.take (t.kids.length - 1)) (withS s) fun k hk s => hk' k (List.mem_of_mem_take hk) _ s
    have h3 : ∀ (P : EP) (s : ES), Gr F (2 * szs (t.kids.take (t.kids.length - 1))) s ((t.kids.take (t.kids.length - 1)).foldl (fun s k => N k P s) s) := fun P s => by
      rw [← sum_two]
      exact gr_fold _ _ fun k hk s => hk' k (List.mem_of_mem_take hk) P s
    exact ((gr_with s).trans (h3 _ _) (Nat.le_refl _)).trans (hr _ (kidE_mem (by omega)) _ _) (by omega)
theorem gr_jump (t : T) (p : EP) (s : ES) : Gr F 0 s (jumpE wd t p s) := by
  unfold jumpE
  split
  · exact gr_bad _ _ _ _
  · exact ((gr_name _ _ _ _ _).trans (gr_bad _ _ _ _) (Nat.le_refl _)).trans (gr_bad _ _ _ _) (Nat.le_refl _)
theorem gr_part (t : T) (hN : ∀ k ∈ t.kids, ∀ p s, Gr F (2 * k.size) s (N k p s)) (p : EP) (s : ES) : Gr F (2 * t.size) s (partE wd N t p s) := by
  have hsz := size_szs t
  have ha : ∀ s, Gr F (2 * szs t.kids) s (allE N t.kids p s) := fun s => gr_all _ hN p s
  unfold partE
  split
  · exact (gr_jump _ _ _).trans (ha _) (by omega)
  split
  · exact (gr_bad _ _ _ _).trans (ha _) (by omega)
  split
  · exact (gr_name _ _ _ _ _).trans (ha _) (by omega)
  split
  · exact (gr_name _ _ _ _ _).mono (by omega)
  split
  · exact (gr_bad _ _ _ _).trans (ha _) (by omega)
  split
  · exact (gr_bad _ _ _ _).trans (ha _) (by omega)
  · exact (ha _).mono (by omega)
theorem gr_node (hq : ∀ t, q t → Kc t ∧ ¬F t.s) (t : T) (ht : AllN q t) (hN : ∀ k, AllN q k → k.size < t.size → ∀ p s, Gr F (2 * k.size) s (N k p s)) (hB : ∀ k, AllN q k → k.size < t.size → ∀ p d s, Gr F (2 * k.size) s (B k p d s)) (p : EP) (s : ES) : Gr F (2 * t.size) s (nodeE wd N B t p s) := by
  obtain ⟨hc, hf⟩ := hq t ht.here
  have hsz := size_szs t
  have hle : ∀ {k l}, k ∈ l → T.size k ≤ szs l := fun {k l} hk => T.sum_mem (List.mem_map.2 ⟨k, hk, rfl⟩)
  have hk' : ∀ k ∈ t.kids, ∀ p s, Gr F (2 * k.size) s (N k p s) := fun k hk => hN k (ht.kid hk) (by have := hle hk; omega)
  unfold nodeE
  dsimp only
  split
  · exact Gr.refl s
  split
  · exact gr_vars hq t ht (by assumption) hN hB _ _ _
  split
  · exact gr_fun hq t ht (by assumption) hN hB _ _ _
  split
  · exact (gr_with s).trans (gr_all _ hk' _ _) (by omega)
  split
  · have h2 := hc.two (by simp [*])
    obtain ⟨r, hr⟩ := kids2 h2
    rw [hr, szs_cons, szs_cons] at hsz
    have hs1 := size_szs (kidE t 1)
    have ha1 := ht.kid (kidE_mem (t := t) (i := 1) (by omega))
    exact ((gr_with s).trans (hB _ (ht.kid (kidE_mem (by omega))) (by omega) _ _ _) (Nat.le_refl _)).trans (gr_all _ (fun k hk => hN k (ha1.kid hk) (by have := hle hk; omega)) _ _) (by omega)
  split
  · exact gr_loop t ht hc (by assumption) hN _ _ _
  split
  · have h1 := hc.one (by simp [*])
    have h2 := kids1 h1
    rw [h2, szs_cons] at hsz
    exact ((hk' _ (kidE_mem (by omega)) _ _).trans (gr_with _) (Nat.le_refl _)).trans (gr_all _ (fun k hk => hk' k (List.mem_of_mem_drop hk)) _ _) (by omega)
  split
  · have h1 := hc.one (by simp [*])
    have h2 := kids1 h1
    rw [h2, szs_cons] at hsz
    have h3 : ∀ (P : EP) (s : ES), Gr F (2 * szs (t.kids.drop 1)) s ((t.kids.drop 1).foldl (fun s k => aloneE N k P s) s) := fun P s => by
      rw [← sum_two]
      exact gr_fold _ _ fun k hk s => gr_alone k (hk' k (List.mem_of_mem_drop hk)) P s
    exact (hk' _ (kidE_mem (by omega)) _ _).trans (h3 _ _) (by omega)
  split
  · have h1 := hc.one (by simp [*])
    have h2 := kids1 h1
    rw [h2, szs_cons] at hsz
    exact ((gr_name _ _ _ _ _).trans (gr_bad _ _ _ _) (Nat.le_refl _)).trans (gr_alone _ (hk' _ (kidE_mem (by omega))) _ _) (by omega)
  · exact gr_part t hk' _ _
theorem gr_nb (hq : ∀ t, q t → Kc t ∧ ¬F t.s) : ∀ (f : Nat) (t : T), AllN q t → (∀ p s, Gr F (2 * t.size) s ((nbE wd f).1 t p s)) ∧ ∀ p d s, Gr F (2 * t.size) s ((nbE wd f).2 t p d s)
  | 0, t, _ => ⟨fun _ s => Gr.refl s, fun _ _ s => Gr.refl s⟩
  | f + 1, t, ht => ⟨fun p s => gr_node hq t ht (fun k hk _ => (gr_nb hq f k hk).1) (fun k hk _ => (gr_nb hq f k hk).2) p s,
      fun p d s => gr_bind hq t ht (fun k hk => (gr_nb hq f k (ht.kid hk)).1) (fun k hk => (gr_nb hq f k (ht.kid hk)).2) p d s⟩
end
end Go.Proofs.YtfabmichdhbiaaaGreatDoor
