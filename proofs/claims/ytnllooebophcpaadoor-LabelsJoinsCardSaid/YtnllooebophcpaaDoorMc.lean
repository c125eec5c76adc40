/- Package labels: numbers, loops, the labels of a place. (and what leans on it). No statement of the seat is proved here. -/
import Derived.Test.YtnllooebophcpaaDoorPan
import Derived.Test.YtnllooebophcpaaDoorMa
import Derived.Test.YtnllooebophcpaaDoorRng3
import Derived.Test.YtnllooebophcpaaDoorVi
import Derived.Test.YtnllooebophcpaaDoorVk
import Derived.Test.YtnllooebophcpaaDoorSt
set_option maxRecDepth 20000
set_option maxHeartbeats 2000000
namespace Go.Vcg
open Go.RowKit
section
variable {P : Program} {X : Ctx} {ops : Array Oper} {Q : Exit → Act → World → Prop} {rest : List Oper} {μ : Mem} {l : Slots} {L : List Bk} {a : Act} {w : World} {o : Oper} {d : Nat} {ty : TypeId} {pos : String} {af : Array Edge} {gd : Option (Nat × Bool)}
theorem v_slice3 {p q r : Operand} {t e s : TypeId} {A : Option Addr} {n c : Nat} {j i : Int} {ds : Option Nat} (k m : Nat) (ht : P.underlying t = some (.slice e)) (hs : sizeT P e = some s) (hx : ev l p = some (.slice A n c)) (hq : ev l q = some (.int .i64 j)) (hj : j = (k : Int)) (hr' : ev l r = some (.int .i64 i)) (hi : i = (m : Int)) (hk : k ≤ m) (hm : m ≤ c) :
    Val P μ l L ⟨ds, .slice t p none (some q) (some r), ty, pos, af, gd⟩ (.slice A k m) := fun a w hr => by
  have e0 := hr.eval hx
  have e1 := hr.eval hq
  have e2 := hr.eval hr'
  generalize a.eval = ρ at e0 e1 e2
  subst hj
  subst hi
  have hA : A.map (·.add (0 * s)) = A := by cases A <;> simp [Addr.add]
  simp only [Nat.zero_mul] at hA
  simp [execOp, e0, e1, e2, Instr.sliceAt, Instr.slice, run_underlying ht, Instr.sliceBounds, run_sizeOf hs, run_bound hk, run_bound hm, hA]
theorem g_append_full {p q : Operand} {t e : TypeId} {s bytes m n : Nat} {z : Value} {ad : Addr} {olds news : List Value} (hn : Nat.blt d X.n = true) (hw : wants ops l ⟨some d, .call { callee := .builtin .append, args := #[p, q], argTypes := #[t, t] }, ty, pos, af, gd⟩ = some true)
    (ht : P.underlying t = some (.slice e)) (hs : sizeT P e = some s) (hz : zeroT P e = some z) (hzs : z.cells.toList.length = s) (hby : bytesT P e = some bytes) (hpos : Nat.blt 0 s = true)
    (hp : ev l p = some (.slice (some ad) n n)) (ho : olds.length = n * s) (hold : MCells μ ad olds) (hsrc : Src μ l L q m news) (hl : news.length = m * s) (hm : 0 < m) (hroom : (n + m) * bytes ≤ 140737488355328) (hlen : n + m ≤ 140737488355328)
    (h : ∀ v, G P X ops Q rest μ ((d, v) :: l) (.inr ⟨v, e, s, n + m, olds ++ news⟩ :: L)) :
    G P X ops Q (⟨some d, .call { callee := .builtin .append, args := #[p, q], argTypes := #[t, t] }, ty, pos, af, gd⟩ :: rest) μ l L :=
  g_wp hw fun a w hs' => by
    obtain ⟨A, c, hq, h0, hc⟩ := hsrc
    have hsz := hs
    unfold sizeT at hs
    unfold zeroT at hz
    unfold bytesT at hby
    cases hi : P.info? e with
    | none => simp [hi] at hs
    | some i =>
      simp [hi, nat16_eq] at hs
      simp [hi] at hz
      simp [hi, natB_eq] at hby
      simp [Nat.blt] at hpos
      rcases A with _ | ad2
      · obtain ⟨rfl, -⟩ := h0 rfl
        omega
      · subst hs
        subst hby
        have hr := run_append_grow (P := P) w t t e i z ht hi hz ad n n olds ho (fun j u hj => hs'.rd.mcell (hold j u hj)) ad2 m c news hl (hc ad2 rfl a w hs'.rd) (by omega) (by omega) (growslice_fits (by omega) hroom)
        have hr' : (Builtin.append_ #[t, t] ty #[.slice (some ad) n n, .slice (some ad2) m c]).run P w = .ok (.slice (some ⟨w.heap.size, 0, none⟩) (n + m) (grownCap w (n + m) n e)) (w.drew.alloc (.cells (olds.toArray ++ news.toArray ++ Builtin.zeroCells z.cells (grownCap w (n + m) n e - (n + m))) e)) := hr
        unfold Oper.wp
        rw [run_append_call (hs'.eval hp) (hs'.eval hq) hr', Oper.upon_value]
        have hge := grownCap_ge w (n + m) n e
        have hcm : grownCap w (n + m) n e ≤ maxLen := grownCap_le_maxLen w (n + m) n e (by simp only [maxLen]; omega)
        have hlen2 : (olds ++ news).length = (n + m) * i.size := by rw [List.length_append, ho, hl, Nat.add_mul]
        refine h _ _ _ ((hs'.put_row ⟨hlen2, .inr ⟨w.heap.size, _, _, rfl, Nat.zero_le _, heap_alloc_new w.drew _, hge, hcm, ?_, ?_⟩⟩ ⟨rfl, rfl, rfl, by simp, fun k hk _ => heap_alloc_old w.drew _ hk⟩ (fun b hb => ?_)).put hn _)
        · have hzs' : z.cells.size = i.size := by simpa using hzs
          simp only [Array.size_append, List.size_toArray, size_zeroCells, hzs', ho, hl, ← Nat.add_mul]
          congr 1
          omega
        · simp only [Array.toList_append, List.append_assoc]
          rw [← List.append_assoc, ← hlen2]
          exact List.take_left
        · simp [Value.ownBlock] at hb
          omega
theorem gq_brS {α ι : Type} {X2 : Ctx} {JJ : List α → ι → Prop} {JX : Code → List α → ι → Prop} {Ls : ι → List Bk} {xs : List α} (j : ι) (hJ : JX .ret xs j) (hL : Sel (Ls j) L) : GQ X2 (BQ X2 μ JJ JX Ls xs) .ret μ l L := fun _ _ hs =>
  ⟨j, hJ, hs.sel subS_nil hL⟩
theorem ret_R2 {fn : Func} {n : Nat} {r r2 : ResultVar} {v v' v2 v2' : Value} {μ0 : Mem} {M : List Nat} (hr : fn.results = #[r, r2]) (h : RV P (fun _ => none) l L r v') (h2 : RV P (fun _ => none) l L r2 v2') (e : v' = v) (e2 : v2' = v2) (hM : ∀ b ∈ M, w.heap.size ≤ b) :
    GQ ⟨w, μ0, M, n⟩ (postR P fn (fun e w' => e = .returned (.tuple #[v, v2]) ∧ Below w.heap.size w w')) .ret μ l L := fun a w' hs => by
  subst e
  subst e2
  obtain ⟨Ds, h1, h3, h4⟩ := hs.defers
  show LeavesInM Fence.wide 0 P fn a.tmps _ a.defers .returning w'
  rw [h1]
  have hk : Below w.heap.size w w' := ⟨hs.keep.os, hs.keep.tape, hs.keep.output, hs.keep.size, fun b hb => hs.keep.block b hb (fun hm => by have := hM b hm; omega)⟩
  have hDs : ∀ D ∈ Ds, w'.heap[D]? = some (.deferred (some [])) := fun D hD => hs.mem _ _ (h4 D hD).2.2
  refine leaves_marks (B := w.heap.size) Ds w' h3 (fun D hD => ⟨(h4 D hD).2.1, hDs D hD⟩) fun w2 hw2 hk2 => ⟨_, results2 hr h h2 ⟨hs.slots, (fun _ _ e => by cases e), fun x hx => Bk.keep (hs.own x hx) fun b hb => hk2 b (fun hD => ?_)⟩, rfl, hk.trans hw2⟩
  have := Bk.isBk (hs.own x hx) hb (hDs b hD)
  cases this
end
end Go.Vcg
namespace Go.Proofs.YtnllooebophcpaaDoor
open Go.RowKit Go.Vcg
abbrev encM (m : Int × Int × Int) : List Value := [.int .i64 m.1, .int .i64 m.2.1, .int .i64 m.2.2]
abbrev encJ (j : Int × Int) : List Value := [.int .i64 j.1, .int .i64 j.2]
abbrev encL (l : LB) : List Value := [.string l.s, .int .i64 l.brk, .int .i64 l.again]
abbrev VV := Value × Value
abbrev fA (b n : Nat) (i : VV) : Bk := .inl ⟨b, 45, 3, [(0, .int .i64 n), (1, i.1), (2, i.2)]⟩
def LbV (μ : Mem) (ls : List LB) (v : Value) : Prop :=
  (ls = [] ∧ v = .slice none 0 0) ∨ ∃ ad c, v = .slice (some ad) ls.length c ∧ ls.length ≤ c ∧ 0 < ls.length ∧ MCells μ ad (ls.flatMap encL)
theorem LbV.mono {μ μ' : Mem} {ls : List LB} {v : Value} (h : LbV μ ls v) (hle : MLe μ μ') : LbV μ' ls v := h.imp id fun ⟨ad, c, h1, h2, h3, h4⟩ => ⟨ad, c, h1, h2, h3, h4.mono hle⟩
theorem LbV.one {μ : Mem} {ls : List LB} {v : Value} (h : LbV μ ls v) : v.oneCell' = true := by
  rcases h with ⟨_, rfl⟩ | ⟨ad, c, rfl, _⟩ <;> rfl
theorem flatL_len (ls : List LB) : (ls.flatMap encL).length = ls.length * 3 := by
  induction ls with
  | nil => rfl
  | cons x r ih => simp only [List.flatMap_cons, List.length_append, ih, List.length_cons, List.length_nil]; omega
theorem flatL_get : ∀ (ls : List LB) (i : Nat) (x : LB), ls[i]? = some x → ∀ j u, (encL x)[j]? = some u → (ls.flatMap encL)[i * 3 + j]? = some u
  | [], i, x, h, _, _, _ => by simp at h
  | y :: r, 0, x, h, j, u, hu => by
    simp at h
    subst h
    have hj : j < 3 := (List.getElem?_eq_some_iff.1 hu).1
    rw [List.flatMap_cons, Nat.zero_mul, Nat.zero_add, List.getElem?_append_left hj]
    exact hu
  | y :: r, i + 1, x, h, j, u, hu => by
    have := flatL_get r i x (by simpa using h) j u hu
    rw [List.flatMap_cons, List.getElem?_append_right (by simp; omega)]
    rw [show (i + 1) * 3 + j - (encL y).length = i * 3 + j by simp; omega]
    exact this
theorem cells_of_flat {μ : Mem} {ad : Addr} {ls : List LB} (h : MCells μ ad (ls.flatMap encL)) {i : Nat} {x : LB} (hi : ls[i]? = some x) : MCells μ (ad.add (i * 3)) (encL x) := fun j u hu => by
  rw [add_add']
  exact h _ _ (flatL_get ls i x hi j u hu)
attribute [local irreducible] G GC GQ GA GAop GI GCI Calls IntKind.wrap Int.decLt Int.decLe
theorem number_spec (b n : Nat) (i : VV) (w : World) (μ : Mem) (hμ : MOk μ w) (hO : Go.Vcg.Own μ [fA b n i] w) (hn : n ≤ 10000000) :
    Calls Tryd.prog 36 #[.pointer (some ⟨b, 0, none⟩)] w fun e w' => ∃ (v : Value) (μ' : Mem) (_ : Unit), e = .returned v ∧ BackM (idsOf [fA b n i]) w w' μ [fA b (n + 1) i] μ' ∧ v = .int .i64 n := by
  refine call_introM (args := [.pointer (some ⟨b, 0, none⟩)]) Tryd.func36 rfl Tryd.ntmps36 (by simp) hμ hO ?_
  repeat' (first | refine KK ?_ | ((refine KB ?_ ?_ <;> intro hp)) | refine KG ?_ | fail)
  refine gq_cells_0 [(0, .int .i64 ((n : Int) + 1)), (1, i.1), (2, i.2)] PU ?_
  exact ret_bor (Ls := fun _ => [fA b (n + 1) i]) 1 () (fun D => by simp [idsOf, Bk.id, List.count_cons]; split <;> omega) rfl (rv_tmp rfl) rfl rfl (fun _ _ => by congr 1; omega)
theorem loop_spec (t : T) (u : Value) (w : World) (μ : Mem) (hμ : MOk μ w) (ho : u.oneCell' = true) :
    Calls Tryd.prog 40 #[.agg (encT t u).toArray] w fun e w' => e = .returned (.bool (loopT t)) ∧ Below w.heap.size w w' := by
  refine call_intro (args := [.agg (encT t u).toArray]) Tryd.func40 rfl Tryd.ntmps40 (by simp) hμ ?_
  repeat' (first | refine KK ?_ | refine NB fun b => ?_ | ((refine KB ?_ ?_ <;> intro hp)) | refine KG ?_ | fail)
  all_goals (refine ret_s rfl rfl ?_; simp [loopT]; omega)
inductive Wf : T → Prop
  | mk {t : T} (h23 : t.op = 23 ∨ t.op = 21 → 0 < t.kids.length) (hk : ∀ k ∈ t.kids, Wf k) : Wf t
theorem Wf.kid {t k : T} {i : Nat} (h : Wf t) (hk : t.kids[i]? = some k) : Wf k := by
  cases h with
  | mk _ h => exact h k (List.mem_of_getElem? hk)
theorem Wf.pos {t : T} (h : Wf t) (h23 : t.op = 23 ∨ t.op = 21) : 0 < t.kids.length := by
  cases h with
  | mk h _ => exact h h23
theorem loopsF_step {n : Nat} {t k : T} (h23 : t.op = 23) (hk : t.kids[0]? = some k) : loopsF (n + 1) t = loopsF n k := by
  unfold loopsF
  rw [if_pos h23]
  cases hks : t.kids with
  | nil => simp [hks] at hk
  | cons x r => simp [hks] at hk; subst hk; cases n <;> rfl
theorem chainN_step {n : Nat} {t k : T} (h23 : t.op = 23) (hk : t.kids[0]? = some k) : chainN (n + 1) t = chainN n k + 1 := by
  rw [chainN, if_pos h23]
  cases hks : t.kids with
  | nil => simp [hks] at hk
  | cons x r => simp [hks] at hk; subst hk; rfl
theorem loops_spec (n : Nat) (t : T) (u : Value) (w : World) (μ : Mem) (hμ : MOk μ w) (hk : KR μ t.kids u) (hn : t.size ≤ n) (hw : Wf t) :
    Calls Tryd.prog 37 #[.agg (encT t u).toArray] w fun e w' => e = .returned (.bool (loopsF n t)) ∧ Below w.heap.size w w' := by
  have ho := hk.one
  refine call_intro (args := [.agg (encT t u).toArray]) Tryd.func37 rfl Tryd.ntmps37 (by simp) hμ ?_
  repeat' (first | refine KK ?_ | refine NB fun b => ?_ | ((refine KB ?_ ?_ <;> intro hp)) | refine KG ?_ | fail)
  refine gc_loop (ι := T × Value × Nat) (fun j => KR μ j.1.kids j.2.1 ∧ j.1.size ≤ j.2.2 ∧ Wf j.1 ∧ loopsF j.2.2 j.1 = loopsF n t) (fun j => j.2.2) (fun _ => μ) (fun _ => [(1, .pointer (some ⟨b, 0, none⟩))]) (fun j => [.inl ⟨b, 24, 6, idx 0 (encT j.1 j.2.1)⟩]) (t, u, n) ⟨hk, hn, hw, rfl⟩ (fun a w hs => J5 hs) ?_
  rintro ⟨t1, u1, n1⟩ ⟨hk1, hn1, hw1, hl1⟩
  dsimp only at hk1 hn1 hw1 hl1 ⊢
  have ho1 := hk1.one
  by_cases h23 : t1.op = 23
  · have hp := hw1.pos (.inl h23)
    obtain ⟨A, c, rfl, hlc, hkid⟩ := hk1.form
    obtain ⟨ad, x, rfl, hm, hox, hkx⟩ := hkid 0 _ (List.getElem?_eq_getElem hp)
    have hsz := T.size_kid (List.getElem?_eq_getElem hp)
    repeat' (first | refine KO ?_ | (refine KV (b := by first | exact U1 0 | exact U4 hm) (c := ?_)) | refine KI ?_ | refine NB fun b => ?_ | ((refine KB ?_ ?_ <;> intro hp)) | refine KG ?_ | fail)
    cases n1 with
    | zero => omega
    | succ n2 => exact J2 (t1.kids[0], x, n2) ⟨hkx, by dsimp only; omega, hw1.kid (List.getElem?_eq_getElem hp), by rw [← hl1]; exact (loopsF_step h23 (List.getElem?_eq_getElem hp)).symm⟩ (by dsimp only; omega)
  · have hs1 := T.size_eq t1
    have hlp : loopsF n t = loopT t1 := by
      rw [← hl1]
      cases n1 with
      | zero => omega
      | succ n2 => unfold loopsF; rw [if_neg h23]
    rw [hlp]
    repeat' (first | refine KO ?_ | ((with_reducible apply C1); exact rfl; exact EN; exact fun w μc hw hse => loop_spec t1 u1 w μc hw ho1) | refine KI ?_ | refine NB fun b => ?_ | ((refine KB ?_ ?_ <;> intro hp)) | refine KG ?_ | fail)
    all_goals first | (exfalso; omega) | exact ret_s rfl rfl rfl
theorem ahead_spec (m : Nat) (t : T) (u : Value) (fb n : Nat) (i : VV) (w : World) (μ : Mem) (hμ : MOk μ w) (hO : Go.Vcg.Own μ [fA fb n i] w) (hk : KR μ t.kids u) (h23 : t.op = 23) (hn : t.size ≤ m + 1) (hw : Wf t) (hb : n + 2 * t.size ≤ 10000000) :
    Calls Tryd.prog 38 #[.pointer (some ⟨fb, 0, none⟩), .agg (encT t u).toArray] w fun e w' => ∃ (v : Value) (μ' : Mem) (_ : Unit), e = .returned v ∧ BackM (idsOf [fA fb n i]) w w' μ [fA fb n i] μ' ∧ v = .int .i64 ((n + chainN (m + 1) t : Nat) : Int) := by
  have ho := hk.one
  refine call_introM (args := [.pointer (some ⟨fb, 0, none⟩), .agg (encT t u).toArray]) Tryd.func38 rfl Tryd.ntmps38 (by simp) hμ hO ?_
  have hp := hw.pos (.inl h23)
  obtain ⟨A, c, rfl, hlc, hkid⟩ := hk.form
  obtain ⟨ad, x, rfl, hm, hox, hkx⟩ := hkid 0 _ (List.getElem?_eq_getElem hp)
  have hsz := T.size_kid (List.getElem?_eq_getElem hp)
  rw [chainN_step h23 (List.getElem?_eq_getElem hp)]
  generalize hk0 : t.kids[0] = k0 at *
  repeat' (first | refine KO ?_ | (refine KV (b := by first | exact U1 0 | exact U4 hm) (c := ?_)) | refine KI ?_ | refine NB fun b => ?_ | ((refine KB ?_ ?_ <;> intro hp)) | refine KG ?_ | fail)
  refine gc_loop (ι := T × Value × Nat × Nat × Nat) (fun j => KR μ j.1.kids j.2.1 ∧ j.1.size ≤ j.2.2.1 ∧ Wf j.1 ∧ j.2.2.2.1 + chainN j.2.2.1 j.1 = n + 1 + chainN m k0 ∧ j.2.2.2.1 + 2 * j.1.size ≤ 10000000) (fun j => j.2.2.1) (fun _ => μ) (fun j => [(0, .pointer (some ⟨fb, 0, none⟩)), (5, .int .i64 j.2.2.2.1), (6, .pointer (some ⟨j.2.2.2.2, 0, none⟩))]) (fun j => [fA fb n i, .inl ⟨j.2.2.2.2, 24, 6, idx 0 (encT j.1 j.2.1)⟩]) (k0, x, m, n + 1, b) ⟨hkx, by dsimp only; omega, hk0 ▸ hw.kid (List.getElem?_eq_getElem hp), rfl, by dsimp only; omega⟩ (fun a w hs => J5 hs) ?_
  rintro ⟨t1, u1, n1, c1, b1⟩ ⟨hk1, hn1, hw1, hl1, hb1⟩
  dsimp only at hk1 hn1 hw1 hl1 hb1 ⊢
  have ho1 := hk1.one
  have hs1 := T.size_eq t1
  by_cases h23 : t1.op = 23
  · have hp := hw1.pos (.inl h23)
    obtain ⟨A1, e1, rfl, hlc, hkid1⟩ := hk1.form
    obtain ⟨ad1, x1, rfl, hm1, hox1, hkx1⟩ := hkid1 0 _ (List.getElem?_eq_getElem hp)
    have hsz1 := T.size_kid (List.getElem?_eq_getElem hp)
    cases n1 with
    | zero => omega
    | succ n2 =>
      rw [chainN_step h23 (List.getElem?_eq_getElem hp)] at hl1
      repeat' (first | refine KO ?_ | (refine KV (b := by first | exact U1 0 | exact U4 hm1) (c := ?_)) | refine KI ?_ | refine NB fun b => ?_ | ((refine KB ?_ ?_ <;> intro hp)) | refine KG ?_ | fail)
      exact J2 (t1.kids[0], x1, n2, c1 + 1, b) ⟨hkx1, by dsimp only; omega, hw1.kid (List.getElem?_eq_getElem hp), by dsimp only; omega, by dsimp only; omega⟩ (by dsimp only; omega)
  · have hz : chainN n1 t1 = 0 := by
      cases n1 with
      | zero => omega
      | succ n2 => rw [chainN, if_neg h23]
    rw [hz] at hl1
    repeat' (first | refine KK ?_ | refine NB fun b => ?_ | ((refine KB ?_ ?_ <;> intro hp)) | refine KG ?_ | fail)
    all_goals first
      | (exfalso; omega)
      | exact ret_bor (Ls := fun _ => [fA fb n i]) 1 () (fun D => by simp [idsOf, Bk.id, List.count_cons]; split <;> omega) rfl (rv_tmp rfl) rfl rfl (fun _ _ => by congr 1; omega)
end Go.Proofs.YtnllooebophcpaaDoor
namespace Go.Proofs.YtnllooebophcpaaDoor
open Go.RowKit Go.Vcg
abbrev IL := Nat × LB
abbrev encIL (x : IL) : List Value := [.int .i64 x.1, .agg (encL x.2).toArray]
def OkL (ls : List LB) (pre : List IL) (x : IL) : Prop := (pre ++ [x]).map (·.2) <+: ls.reverse
theorem drop_rev {ls : List LB} {k : Nat} (h : k < ls.length) : (ls.drop k).reverse = (ls.drop (k + 1)).reverse ++ [ls[k]] := by
  rw [List.drop_eq_getElem_cons h, List.reverse_cons]
theorem rev_pre (ls : List LB) (k : Nat) : (ls.drop k).reverse <+: ls.reverse := by
  refine ⟨(ls.take k).reverse, ?_⟩
  rw [← List.reverse_append, List.take_append_drop]
theorem mcells_box' {b t n : Nat} {cs : List Value} {μ : Mem} (h : Bk.sh (.inl ⟨b, t, n, idx 0 cs⟩) μ) : MCells μ ⟨b, 0, none⟩ cs :=
  Blk.cells (k := 0) h (fun j v hj => lk_idx_of cs 0 j v hj)
attribute [local irreducible] G GC GQ GA GAop GI GCI Calls IntKind.wrap Int.decLt Int.decLe
theorem clip_spec (ls : List LB) (v : Value) (w : World) (μ : Mem) (hμ : MOk μ w) (h : LbV μ ls v) (v' : Value) (hv' : v' = .slice none 0 0 ∧ v = .slice none 0 0 ∨ ∃ ad c, v = .slice (some ad) ls.length c ∧ v' = .slice (some ad) ls.length ls.length) :
    Calls Tryd.prog 39 #[v] w fun e w' => e = .returned v' ∧ Below w.heap.size w w' := by
  refine call_intro (args := [v]) Tryd.func39 rfl Tryd.ntmps39 (by simp) hμ ?_
  rcases h with ⟨rfl, rfl⟩ | ⟨ad, c, rfl, hc, hpos, hm⟩
  · have hv : v' = .slice none 0 0 := by
      rcases hv' with ⟨h, _⟩ | ⟨ad, c, h, _⟩
      · exact h
      · cases h
    subst hv
    repeat' (first | refine KO ?_ | (refine KV (b := by first | ((with_reducible apply v_slice3 0 0); exact rfl; exact rfl; exact rfl; exact rfl; exact rfl; exact rfl; exact rfl; exact Nat.le_refl _; exact Nat.le_refl _)) (c := ?_)) | refine KI ?_ | ((refine KB ?_ ?_ <;> intro hp)) | refine KG ?_ | fail)
    exact ret_s rfl rfl rfl
  · have hv : v' = .slice (some ad) ls.length ls.length := by
      rcases hv' with ⟨_, h⟩ | ⟨ad, c, h, h2⟩
      · cases h
      · cases h; exact h2
    subst hv
    repeat' (first | refine KO ?_ | (refine KV (b := by first | ((with_reducible apply v_slice3 ls.length ls.length); exact rfl; exact rfl; exact rfl; exact rfl; exact rfl; exact rfl; exact rfl; exact Nat.le_refl _; exact hc)) (c := ?_)) | refine KI ?_ | ((refine KB ?_ ?_ <;> intro hp)) | refine KG ?_ | fail)
    exact ret_s rfl rfl rfl
def BackwPost (v0 : Value) (μ : Mem) (v : Value) : Prop := ∃ b, v = .func (.func 92) #[] #[.pointer (some ⟨b, 0, none⟩)] ∧ MCells μ ⟨b, 0, none⟩ [v0]
theorem backward_spec (A : Option Addr) (n c : Nat) (w : World) (μ : Mem) (hμ : MOk μ w) : Calls Tryd.prog 67 #[.slice A n c] w fun e w' => ∃ v μ', e = .returned v ∧ Grow w w' μ μ' ∧ BackwPost (.slice A n c) μ' v := by
  refine call_intro (args := [.slice A n c]) Tryd.func67 rfl Tryd.ntmps67 (by simp) hμ ?_
  repeat' (first | refine KK ?_ | refine NB fun b => ?_ | ((refine KB ?_ ?_ <;> intro hp)) | refine KG ?_ | fail)
  exact ret_m1 rfl (rv_tmp rfl) (fun μ' hle hL => ⟨_, rfl, mcells_box' (hL _ (List.mem_cons_self ..))⟩)
theorem back_seq {μ : Mem} {ls : List LB} {v : Value} {b : Nat} (hls : LbV μ ls v) (hs : ls.length ≤ 1000000) (hb : MCells μ ⟨b, 0, none⟩ [v]) :
    SeqW Tryd.prog 92 [.pointer (some ⟨b, 0, none⟩)] encIL (OkL ls) μ ls.length (fun xs => xs.map (·.2) = ls.reverse) (fun _ => True) := by
  intro lr J Jx W hμ hJ hJx hY h0
  refine call_intro (args := [.func (.yield lr) #[] #[], .pointer (some ⟨b, 0, none⟩)]) Tryd.func92 rfl Tryd.ntmps92 (by simp) hμ ?_
  have hone := hls.one
  have hlen : ∃ A c, v = .slice A ls.length c := by
    rcases hls with ⟨rfl, rfl⟩ | ⟨ad, c, rfl, _⟩
    · exact ⟨none, 0, rfl⟩
    · exact ⟨some ad, c, rfl⟩
  obtain ⟨A, c, rfl⟩ := hlen
  repeat' (first | refine KO ?_ | (refine KV (b := by first | ((with_reducible apply v_load_sh); exact rfl; exact rfl; exact hb 0 _ rfl)) (c := ?_)) | refine KI ?_ | ((refine KB ?_ ?_ <;> intro hp)) | refine KG ?_ | fail)
  refine gc_loopW (ι := Nat × List IL) (fun i w => i.1 ≤ ls.length ∧ i.2.map (·.2) = (ls.drop i.1).reverse ∧ J i.2 w) (fun i => i.1) (fun i => [(3, .int .i64 ((i.1 : Int) - 1)), (0, .func (.yield lr) #[] #[]), (1, .pointer (some ⟨b, 0, none⟩))]) (ls.length, []) ⟨Nat.le_refl _, by simp, h0⟩ PU (fun i w w' h hb => ⟨h.1, h.2.1, hJ _ _ _ h.2.2 hb⟩) ?_
  rintro ⟨k, xs⟩ w3 ⟨hkl, hxs, hJ3⟩ hm3
  dsimp only at hkl hxs hJ3 ⊢
  cases k with
  | zero =>
    repeat' (first | refine KK ?_ | ((refine KB ?_ ?_ <;> intro hp)) | refine KG ?_ | fail)
    exact ret_w0 rfl (fun w2 v hm2 hb2 => ⟨⟨v, rfl⟩, .inl ⟨xs, by simpa using hxs, hJ _ _ _ hJ3 hb2⟩⟩) (.inr rfl)
  | succ k =>
    have hlt : k < ls.length := by omega
    have hm : ∃ ad, A = some ad ∧ MCells μ (ad.add (k * 3)) (encL ls[k]) := by
      rcases hls with ⟨rfl, h⟩ | ⟨ad, c, h, _, _, hm⟩
      · simp at hlt
      · cases h
        exact ⟨ad, rfl, cells_of_flat hm (List.getElem?_eq_getElem hlt)⟩
    obtain ⟨ad, rfl, hm⟩ := hm
    have e : (((k + 1 : Nat) : Int) - 1) = (k : Int) := by omega
    rw [e]
    have hxl : xs.length = ls.length - (k + 1) := by
      have := congrArg List.length hxs
      simpa using this
    repeat' (first | ((with_reducible show GC _ _ (Code.region 3 _ _) _ _ _ _); (refine gc_region_i ?_)) | refine KK ?_ | ((refine KB ?_ ?_ <;> intro hp)) | refine KG ?_ | fail)
    refine gi_step wideF_wide (fun _ _ h => by obtain ⟨⟨_, h⟩, _⟩ := h; cases h) rfl ?_
    repeat' (first | ((with_reducible apply g_gi_nil)) | refine KK ?_ | ((refine KB ?_ ?_ <;> intro hp)) | refine KG ?_ | fail)
    refine gi_step wideF_wide (fun _ _ h => by obtain ⟨⟨_, h⟩, _⟩ := h; cases h) rfl ?_
    repeat' (first | ((with_reducible apply g_gi_nil)) | refine KK ?_ | ((refine KB ?_ ?_ <;> intro hp)) | refine KG ?_ | fail)
    refine gi_step wideF_wide (fun _ _ h => by obtain ⟨⟨_, h⟩, _⟩ := h; cases h) rfl ?_
    repeat' (first | ((with_reducible apply g_gi_nil)) | refine KO ?_ | (refine KV (b := by first | ((with_reducible apply v_load_sh); exact rfl; exact rfl; exact hb 0 _ rfl)) (c := ?_)) | refine KI ?_ | ((refine KB ?_ ?_ <;> intro hp)) | refine KG ?_ | fail)
    refine gi_step wideF_wide (fun _ _ h => by obtain ⟨⟨_, h⟩, _⟩ := h; cases h) rfl ?_
    repeat' (first | ((with_reducible apply g_gi_nil)) | refine KK ?_ | ((refine KB ?_ ?_ <;> intro hp)) | refine KG ?_ | fail)
    refine gi_step wideF_wide (fun _ _ h => by obtain ⟨⟨_, h⟩, _⟩ := h; cases h) rfl ?_
    repeat' (first | ((with_reducible apply g_gi_nil)) | refine KO ?_ | (refine KV (b := by first | exact U1 k) (c := ?_)) | refine KI ?_ | ((refine KB ?_ ?_ <;> intro hp)) | refine KG ?_ | fail)
    refine gi_step wideF_wide (fun _ _ h => by obtain ⟨⟨_, h⟩, _⟩ := h; cases h) rfl ?_
    repeat' (first | ((with_reducible apply g_gi_nil)) | refine KO ?_ | (refine KV (b := by first | exact U4 hm) (c := ?_)) | refine KI ?_ | ((refine KB ?_ ?_ <;> intro hp)) | refine KG ?_ | fail)
    have hok : OkL ls xs (k, ls[k]) := by
      unfold OkL
      rw [List.map_append, hxs]
      simp only [List.map_cons, List.map_nil]
      rw [← drop_rev hlt]
      exact rev_pre ls k
    refine gi_yieldH hY (k, ls[k]) xs hok hJ3 (by omega) rfl rfl rfl rfl (fun a w h => run_callYield rfl rfl rfl a w h) ?_ ?_
    · intro w1 μ1 hle1 hsh1 hJ1 hm1
      refine gi_step wideF_wide (fun _ _ h => by obtain ⟨⟨_, h⟩, _⟩ := h; cases h) rfl ?_
      repeat' (first | ((with_reducible apply g_gi_nil)) | refine KK ?_ | ((refine KB ?_ ?_ <;> intro hp)) | refine KG ?_ | fail)
      refine gi_nil (gq_then ?_)
      refine gc_restart hle1 fun w2 hb2 hm2 => ?_
      have hJ2 := hJ _ _ _ hJ1 hb2
      repeat' (first | refine KK ?_ | ((refine KB ?_ ?_ <;> intro hp)) | refine KG ?_ | fail)
      refine gq_backW (k, xs ++ [(k, ls[k])]) (fun w6 hb6 => ⟨by dsimp only; omega, ?_, hJ _ _ _ hJ2 hb6⟩) (by dsimp only; omega) PU
      rw [List.map_append, hxs]
      simp only [List.map_cons, List.map_nil]
      rw [← drop_rev hlt]
    · intro w1 hJ1
      refine gi_step wideF_wide (fun _ _ h => by obtain ⟨⟨_, h⟩, _⟩ := h; cases h) rfl ?_
      repeat' (first | ((with_reducible apply g_gi_nil)) | refine KK ?_ | ((refine KB ?_ ?_ <;> intro hp)) | refine KG ?_ | fail)
      refine gi_nil (gq_then ?_)
      repeat' (first | refine KK ?_ | ((refine KB ?_ ?_ <;> intro hp)) | refine KG ?_ | fail)
      exact ret_w0 rfl (fun w2 v hm2 hb2 => ⟨⟨v, rfl⟩, .inr ⟨_, trivial, hJx _ _ _ hJ1 hb2⟩⟩) (.inl rfl)
theorem findL_cons {name : ByteArray} (ls : List LB) (pre : List IL) (x : IL) (hok : OkL ls pre x) (hpre : ∀ y ∈ pre, y.2.s ≠ name) (hx : x.2.s = name) : findL ls name = some x.2 := by
  obtain ⟨r, hr⟩ := hok
  unfold findL
  rw [← hr, List.map_append, List.append_assoc, List.find?_append]
  have : (pre.map (·.2)).find? (fun l => decide (l.s = name)) = none := by
    rw [List.find?_eq_none]
    intro y hy
    obtain ⟨z, hz, rfl⟩ := List.mem_map.1 hy
    simpa using hpre z hz
  rw [this]
  simp [hx]
theorem findL_none' {name : ByteArray} (ls : List LB) (xs : List IL) (h : xs.map (·.2) = ls.reverse) (hpre : ∀ y ∈ xs, y.2.s ≠ name) : findL ls name = none := by
  unfold findL
  rw [← h, List.find?_eq_none]
  intro y hy
  obtain ⟨z, hz, rfl⟩ := List.mem_map.1 hy
  simpa using hpre z hz
def labV : Option LB → LB | some l => l | none => ⟨⟨#[]⟩, 0, 0⟩
theorem find_spec (p : LP) (v : Value) (name : ByteArray) (w : World) (μ : Mem) (hμ : MOk μ w) (hls : LbV μ p.ls v) (hs : p.ls.length ≤ 1000000) :
    Calls Tryd.prog 35 #[.agg #[.int .i64 p.brk, .int .i64 p.again, v], .string name] w fun e w' => e = .returned (.tuple #[.agg (encL (labV (findL p.ls name))).toArray, .bool (findL p.ls name).isSome]) ∧ Below w.heap.size w w' := by
  have hlen : ∃ A c, v = .slice A p.ls.length c := by
    rcases hls with ⟨h, rfl⟩ | ⟨ad, c, rfl, _⟩
    · exact ⟨none, 0, by rw [h]; rfl⟩
    · exact ⟨some ad, c, rfl⟩
  obtain ⟨A, c, rfl⟩ := hlen
  refine call_introR (args := [.agg #[.int .i64 p.brk, .int .i64 p.again, .slice A p.ls.length c], .string name]) Tryd.func35 rfl Tryd.ntmps35 (by simp) hμ ?_
  repeat' (first | refine KO ?_ | ((with_reducible apply F2 67); exact rfl; exact EN; (exact fun w hw => backward_spec A p.ls.length c w _ hw); rintro v1 μ1 hle1 ⟨b1, rfl, hb1⟩) | refine KI ?_ | refine NB fun b => ?_ | ((refine KB ?_ ?_ <;> intro hp)) | refine KG ?_ | fail)
  rename_i bp bn bl
  obtain ⟨bo, hbo⟩ : ∃ bo, bo = b := ⟨_, rfl⟩
  rw [← hbo]
  clear hbo
  refine gc_rangeFunc (α := IL) (ι := Option LB) (κ := Nat) (ps := [11, 12]) (lb := [.pointer (some ⟨b1, 0, none⟩)]) rfl (by kernel_rfl) (fun x => rfl) (by simp) (back_seq (hls.mono hle1) hs hb1) (fun pre j => j = none ∧ ∀ y ∈ pre, y.2.s ≠ name) (fun c pre j => c = .ret ∧ ∃ x, j = some x ∧ findL p.ls name = some x)
    (fun j => [.inl ⟨bl, 61, 3, idx 0 (encL (labV j))⟩, .inl ⟨bo, 4, 1, [(0, .bool j.isSome)]⟩, .inl ⟨bn, 9, 1, [(0, .string name)]⟩]) none ⟨rfl, by simp⟩ PS
    (fun x k => [(7, .pointer (some ⟨k, 0, none⟩)), (3, .pointer (some ⟨bn, 0, none⟩)), (4, .pointer (some ⟨bl, 0, none⟩)), (5, .pointer (some ⟨bo, 0, none⟩))])
    (fun x j k => [.inl ⟨k, 61, 3, idx 0 (encL x.2)⟩, .inl ⟨bl, 61, 3, idx 0 (encL (labV j))⟩, .inl ⟨bo, 4, 1, [(0, .bool j.isSome)]⟩, .inl ⟨bn, 9, 1, [(0, .string name)]⟩]) ?_ ?_ ?_ ?_
  · rintro lr pre x j w1 hok
    dsimp only
    repeat' (first | ((with_reducible (first | apply gci_seq | apply gci_block | apply gci_skip | apply gci_exit | apply gci_ret | apply gqi_then))) | (((with_reducible apply gci_region); exact wideF_round _; (exact fun _ _ h => h); exact rfl)) | (((with_reducible apply gci_if); exact rfl)) | refine KK ?_ | refine NB fun b => ?_ | ((refine KB ?_ ?_ <;> intro hp)) | refine KG ?_ | fail)
    exact gq_aq b PU PS
  · rintro lr pre x _ k w2 hok ⟨rfl, hpre⟩ hlt
    dsimp only
    repeat' (first | ((with_reducible (first | apply gci_seq | apply gci_block | apply gci_skip | apply gci_exit | apply gci_ret | apply gqi_then))) | (((with_reducible apply gci_region); exact wideF_round _; (exact fun _ _ h => h); exact rfl)) | (((with_reducible apply gci_if); exact rfl)) | refine KK ?_ | refine NB fun b => ?_ | ((refine KB ?_ ?_ <;> intro hp)) | refine KG ?_ | fail)
    · exact gq_brS (some x.2) ⟨rfl, x.2, rfl, findL_cons _ _ _ hok hpre hp⟩ PS
    · refine gq_bqS none ⟨rfl, fun y hy => ?_⟩ PS
      rcases List.mem_append.1 hy with hy | hy
      · exact hpre y hy
      · rw [List.mem_singleton.1 hy]
        exact hp
  · rintro D μD xs j hD hle hxs ⟨rfl, hno⟩
    have hf := findL_none' p.ls xs hxs hno
    rw [hf]
    repeat' (first | refine KK ?_ | refine NB fun b => ?_ | ((refine KB ?_ ?_ <;> intro hp)) | refine KG ?_ | fail)
    exact ret_R2 rfl (rv_agg 0 rfl rfl rfl rfl rfl (by repeat first | exact lc_nil | refine lc_cons rfl ?_)) (rv_one 1 rfl rfl rfl rfl rfl) rfl rfl (by simp; omega)
  · rintro D μD c pre j hD hle hSp ⟨rfl, x, rfl, hf⟩
    rw [hf]
    repeat' (first | refine KK ?_ | refine NB fun b => ?_ | ((refine KB ?_ ?_ <;> intro hp)) | refine KG ?_ | fail)
    exact ret_R2 rfl (rv_agg 0 rfl rfl rfl rfl rfl (by repeat first | exact lc_nil | refine lc_cons rfl ?_)) (rv_one 1 rfl rfl rfl rfl rfl) rfl rfl (by simp; omega)
end Go.Proofs.YtnllooebophcpaaDoor
namespace Go.Proofs.YtnllooebophcpaaDoor
open Go.RowKit Go.Vcg
abbrev finB (b : Nat) (s : LS) (i : VV) : List Bk := [fA b s.next i, .inr ⟨i.1, 33, 3, s.marks.length, s.marks.flatMap encM⟩, .inr ⟨i.2, 35, 2, s.jumps.length, s.jumps.flatMap encJ⟩]
abbrev failV (x : Int × Int) : Value := .iface 41 (.agg #[.int .i64 x.1, .int .i64 x.2])
def OutP (M : List Nat) (w : World) (μ : Mem) (b : Nat) : LRes → Ending → World → Prop
  | .ok s, e, w' => ∃ (v : Value) (μ' : Mem) (i : VV), e = .returned v ∧ BackM M w w' μ (finB b s i) μ' ∧ True
  | .error x, e, w' => e = .panicked (pan (failV x)) ∧ GrowM M w w' μ μ
structure Fits (s : LS) (m : Nat) : Prop where
  next : s.next + 2 * m ≤ 1000000
  marks : s.marks.length + m ≤ 500000
  jumps : s.jumps.length + m ≤ 500000
theorem Fits.le {s : LS} {m k : Nat} (h : Fits s m) (hk : k ≤ m) : Fits s k := ⟨by have := h.next; omega, by have := h.marks; omega, by have := h.jumps; omega⟩
theorem Fits.grew {s s' : LS} {m k : Nat} (h : Fits s (m + k)) (hg : Grew s s' m) : Fits s' k := ⟨by have := h.next; have := hg.hi; omega, by have := h.marks; have := hg.marks; omega, by have := h.jumps; have := hg.jumps; omega⟩
theorem ids_count : ∀ {L : List Bk}, L.Pairwise (fun x y => ∀ b, Bk.id x = some b → Bk.id y ≠ some b) → ∀ D, (idsOf L).count D ≤ 1
  | [], _, D => by simp [idsOf]
  | x :: r, h, D => by
    obtain ⟨h1, h2⟩ := List.pairwise_cons.1 h
    have ih := ids_count h2 D
    unfold idsOf
    cases hx : Bk.id x with
    | none => exact ih
    | some c =>
      dsimp only
      rw [List.count_cons]
      by_cases hc : c = D
      · subst hc
        have : (idsOf r).count c = 0 := List.count_eq_zero.2 fun hm => by
          obtain ⟨y, hy, hyb⟩ := mem_idsOf.1 hm
          exact h1 y hy c hx hyb
        simp [this]
      · simp [hc]; exact ih
theorem out_ok {P : Program} {fn : Func} {n fb : Nat} {w : World} {μ0 μ : Mem} {l : Slots} {M : List Nat} {e : Exit} (hM : ∀ D, M.count D ≤ 1) (hr : fn.results = #[]) (s : LS) (i : VV) (he : e = .ret ∨ e = .normal) :
    GQ ⟨w, μ0, M, n⟩ (bodyPost P fn (OutP M w μ0 fb (.ok s))) e μ l (finB fb s i) :=
  ret_bor0 (Ls := finB fb s) (Lr := []) 3 i he hM hr rfl rfl (fun _ _ _ => trivial)
theorem str0 {s : ByteArray} : s.size = 0 ↔ s = ⟨#[]⟩ := by
  constructor
  · intro h
    cases s with
    | mk d =>
      have : d = #[] := Array.eq_empty_of_size_eq_zero h
      rw [this]
  · rintro rfl; rfl
attribute [local irreducible] G GC GQ GA GAop GI GCI Calls IntKind.wrap Int.decLt Int.decLe
def seqTail : Code → Nat → Code
  | .seq _ y, n + 1 => seqTail y n
  | c, _ => c
def codeOf (fn : Func) : Code := fn.body.getD .skip
theorem jump_end (t : T) (u : Value) (s : LS) (i : VV) (fb bn : Nat) (to : Int) (w : World) (μ0 μ : Mem) (hcnt : ∀ D, (idsOf (finB fb s i)).count D ≤ 1) (hb1 : s.jumps.length + 1 ≤ 500000) :
    GC Tryd.prog ⟨w, μ0, idsOf (finB fb s i), 58⟩ (seqTail (codeOf Tryd.f34) 5) (bodyPost Tryd.prog Tryd.f34 (OutP (idsOf (finB fb s i)) w μ0 fb (.ok (s.jump t.at' to)))) μ [(0, .pointer (some ⟨fb, 0, none⟩)), (4, .pointer (some ⟨bn, 0, none⟩)), (6, .int .i64 to)] (finB fb s i ++ [.inl ⟨bn, 24, 6, idx 0 (encT t u)⟩]) := by
  show GC _ _ (Code.region 13 _ true) _ _ _ _
  dsimp only [List.cons_append, List.nil_append]
  refine gc_draw 14 _ (by kernel_rfl) rfl (List.Sublist.cons _ (List.Sublist.cons _ (List.Sublist.cons _ (List.Sublist.cons_cons _ (List.nil_sublist _))))) ?_
  all_goals refine DD 0 ?_
  all_goals refine DD 1 ?_
  all_goals refine DD 2 ?_
  all_goals refine DD 3 ?_
  all_goals refine DD 5 ?_
  all_goals refine DD 6 ?_
  all_goals refine DD 7 ?_
  all_goals refine DD 8 ?_
  refine ga_all2 4 9 (by kernel_rfl) ?dr1_4 ?dr1_9
  case' dr1_4 =>
    (first | ((with_reducible apply gaop_val); exact rfl; exact rfl; exact rfl; exact rfl; (first | ((with_reducible apply pv_sound); exact rfl) | ((with_reducible apply v_ld); exact rfl; (repeat first | with_reducible exact inb_hd | with_reducible apply inb_tl); exact rfl))))
    all_goals (first | (refine D3 9 ?_; refine D5 ?_; refine NB fun b => ?_; refine D9 ?_))
    all_goals (first | (refine D3 10 ?_; refine D5 ?_; (first | ((with_reducible apply g_ap); exact rfl; exact rfl; exact rfl; (repeat first | with_reducible exact rowup_hd | with_reducible apply rowup_tl); (iterate 6 exact rfl); (first | ((with_reducible apply src_in); exact rfl; (repeat first | with_reducible exact inb_hd | with_reducible apply inb_tl); exact rfl)); (first | exact rfl | omega | simp); (first | assumption | (exact ones_mem (by (repeat first | with_reducible exact ones_nil | ((with_reducible apply ones_cons); (first | exact rfl | assumption))))) | simp [Value.oneCell']); omega; omega; intro v; (first | ((with_reducible apply g_rowForm 2); exact rfl; omega) | ((with_reducible apply g_rowForm 3); exact rfl; omega) | ((with_reducible apply g_rowForm 4); exact rfl; omega)); (rintro g cap rfl hcap)) | ((with_reducible apply g_append0); (iterate 9 exact rfl); (first | ((with_reducible apply src_in); exact rfl; (repeat first | with_reducible exact inb_hd | with_reducible apply inb_tl); exact rfl)); (first | exact rfl | omega | simp); (first | assumption | (exact ones_mem (by (repeat first | with_reducible exact ones_nil | ((with_reducible apply ones_cons); (first | exact rfl | assumption))))) | simp [Value.oneCell']); omega; omega; intro v; (first | ((with_reducible apply g_rowForm 2); exact rfl; omega) | ((with_reducible apply g_rowForm 3); exact rfl; omega) | ((with_reducible apply g_rowForm 4); exact rfl; omega)); (rintro g cap rfl hcap))); refine D9 ?_))
    all_goals refine DD 11 ?_
    all_goals refine DD 12 ?_
    all_goals (first | (refine D3 13 ?_; refine D5 ?_; refine Y0 ?_; refine D9 ?_))
    all_goals refine D8 ?_
  case' dr1_9 =>
    (first | (refine D5 ?_; refine NB fun b => ?_; refine D9 ?_))
    all_goals (first | (refine D3 4 ?_; (with_reducible apply gaop_val); exact rfl; exact rfl; exact rfl; exact rfl; (first | ((with_reducible apply pv_sound); exact rfl) | ((with_reducible apply v_ld); exact rfl; (repeat first | with_reducible exact inb_hd | with_reducible apply inb_tl); exact rfl))))
    all_goals (first | (refine D3 10 ?_; refine D5 ?_; (first | ((with_reducible apply g_ap); exact rfl; exact rfl; exact rfl; (repeat first | with_reducible exact rowup_hd | with_reducible apply rowup_tl); (iterate 6 exact rfl); (first | ((with_reducible apply src_in); exact rfl; (repeat first | with_reducible exact inb_hd | with_reducible apply inb_tl); exact rfl)); (first | exact rfl | omega | simp); (first | assumption | (exact ones_mem (by (repeat first | with_reducible exact ones_nil | ((with_reducible apply ones_cons); (first | exact rfl | assumption))))) | simp [Value.oneCell']); omega; omega; intro v; (first | ((with_reducible apply g_rowForm 2); exact rfl; omega) | ((with_reducible apply g_rowForm 3); exact rfl; omega) | ((with_reducible apply g_rowForm 4); exact rfl; omega)); (rintro g cap rfl hcap)) | ((with_reducible apply g_append0); (iterate 9 exact rfl); (first | ((with_reducible apply src_in); exact rfl; (repeat first | with_reducible exact inb_hd | with_reducible apply inb_tl); exact rfl)); (first | exact rfl | omega | simp); (first | assumption | (exact ones_mem (by (repeat first | with_reducible exact ones_nil | ((with_reducible apply ones_cons); (first | exact rfl | assumption))))) | simp [Value.oneCell']); omega; omega; intro v; (first | ((with_reducible apply g_rowForm 2); exact rfl; omega) | ((with_reducible apply g_rowForm 3); exact rfl; omega) | ((with_reducible apply g_rowForm 4); exact rfl; omega)); (rintro g cap rfl hcap))); refine D9 ?_))
    all_goals refine DD 11 ?_
    all_goals refine DD 12 ?_
    all_goals (first | (refine D3 13 ?_; refine D5 ?_; refine Y0 ?_; refine D9 ?_))
    all_goals refine D8 ?_
  all_goals refine gq_rowEq (n' := (s.jumps ++ [(t.at', to)]).length) (xs' := (s.jumps ++ [(t.at', to)]).flatMap encJ) 3 rfl (by simp) (by rw [List.flatMap_append]; rfl) ?_
  all_goals refine gq_sel (l' := []) (L' := finB fb (s.jump t.at' to) (i.1, .slice (some ⟨g, 0, none⟩) (s.jumps.length + 1) cap)) PU PS ?_
  all_goals exact out_ok hcnt rfl _ _ (.inr rfl)
theorem jump_spec (t : T) (u : Value) (p : LP) (v : Value) (s : LS) (i : VV) (fb : Nat) (w : World) (μ : Mem) (hμ : MOk μ w) (hO : Go.Vcg.Own μ (finB fb s i) w) (ho : u.oneCell' = true) (hv : LbV μ p.ls v) (hf : Fits s 1) (hpl : p.ls.length ≤ 500000) :
    Calls Tryd.prog 34 #[.pointer (some ⟨fb, 0, none⟩), .agg (encT t u).toArray, .agg #[.int .i64 p.brk, .int .i64 p.again, v]] w (OutP (idsOf (finB fb s i)) w μ fb (jumpF t p s)) := by
  have hov := hv.one
  have hcnt := ids_count hO.diff
  have hb1 := hf.jumps
  refine call_introM (args := [.pointer (some ⟨fb, 0, none⟩), .agg (encT t u).toArray, .agg #[.int .i64 p.brk, .int .i64 p.again, v]]) Tryd.func34 rfl Tryd.ntmps34 (by simp) hμ hO ?_
  have hfind := fun (w : World) (μc : Mem) (hw : MOk μc w) (hle : MLe μ μc) => find_spec p v t.s w μc hw (hv.mono hle) (by omega)
  by_cases h16 : t.op = 16
  · skip
    by_cases h0 : t.s = ⟨#[]⟩
    · have h0n : ¬ (t.s ≠ ⟨#[]⟩) := fun h => h h0
      by_cases hl : p.again < 0
      · rw [show jumpF t p s = .error (t.at', 32) by unfold jumpF; rw [if_pos (str0.2 h0), if_pos (by unfold toF; first | rw [if_pos h16]; exact hl | rw [if_neg h16]; exact hl)]]
        repeat' (first | ((with_reducible (first | apply gq_then_panic | apply gq_block_panic))) | refine KO ?_ | ((with_reducible apply g_panic); exact rfl; exact rfl) | ((with_reducible apply F1 35); exact rfl; exact EN; (exact fun w μc hw hse => hfind w μc hw hse.le)) | (refine KV (b := by first | ((with_reducible apply v_iface); exact rfl; exact rfl)) (c := ?_)) | refine KI ?_ | refine NB fun b => ?_ | ((refine KB ?_ ?_ <;> intro hp)) | refine KG ?_ | fail)
        all_goals first | (exfalso; first | omega | contradiction) | exact gq_pan hcnt (fun w' hg => ⟨rfl, hg⟩)
      · rw [show jumpF t p s = .ok (s.jump t.at' p.again) by unfold jumpF; rw [if_pos (str0.2 h0)]; unfold toF; first | rw [if_pos h16, if_neg hl] | rw [if_neg h16, if_neg hl]]
        repeat' (first | ((with_reducible show GC _ _ (Code.region 13 _ _) _ _ _ _); (apply gc_stop)) | ((with_reducible (first | apply gq_then_panic | apply gq_block_panic))) | refine KO ?_ | ((with_reducible apply g_panic); exact rfl; exact rfl) | ((with_reducible apply F1 35); exact rfl; exact EN; (exact fun w μc hw hse => hfind w μc hw hse.le)) | (refine KV (b := by first | ((with_reducible apply v_iface); exact rfl; exact rfl)) (c := ?_)) | refine KI ?_ | refine NB fun b => ?_ | ((refine KB ?_ ?_ <;> intro hp)) | refine KG ?_ | fail)
        all_goals first | (exfalso; first | omega | contradiction) | skip
        rename_i bn
        refine gcs (gc_sel (l' := [(0, .pointer (some ⟨fb, 0, none⟩)), (4, .pointer (some ⟨bn, 0, none⟩)), (6, .int .i64 p.again)]) (L' := finB fb s i ++ [.inl ⟨bn, 24, 6, idx 0 (encT t u)⟩]) PU PS ?_)
        exact jump_end t u s i fb bn (p.again) w _ _ hcnt hb1
    · cases hfl : findL p.ls t.s with
      | none =>
        rw [hfl] at hfind
        dsimp only [labV, Option.isSome] at hfind
        rw [show jumpF t p s = .error (t.at', 31) by unfold jumpF; rw [if_neg (fun h => h0 (str0.1 h)), hfl]]
        repeat' (first | ((with_reducible (first | apply gq_then_panic | apply gq_block_panic))) | refine KO ?_ | ((with_reducible apply g_panic); exact rfl; exact rfl) | ((with_reducible apply F1 35); exact rfl; exact EN; (exact fun w μc hw hse => hfind w μc hw hse.le)) | (refine KV (b := by first | ((with_reducible apply v_iface); exact rfl; exact rfl)) (c := ?_)) | refine KI ?_ | refine NB fun b => ?_ | ((refine KB ?_ ?_ <;> intro hp)) | refine KG ?_ | fail)
        all_goals first | (exfalso; first | omega | contradiction) | exact gq_pan hcnt (fun w' hg => ⟨rfl, hg⟩)
      | some l =>
        rw [hfl] at hfind
        dsimp only [labV, Option.isSome] at hfind
        by_cases hl : l.again < 0
        · rw [show jumpF t p s = .error (t.at', 32) by unfold jumpF; rw [if_neg (fun h => h0 (str0.1 h)), hfl]; dsimp only; rw [if_pos (by unfold toF; first | rw [if_pos h16]; exact hl | rw [if_neg h16]; exact hl)]]
          repeat' (first | ((with_reducible (first | apply gq_then_panic | apply gq_block_panic))) | refine KO ?_ | ((with_reducible apply g_panic); exact rfl; exact rfl) | ((with_reducible apply F1 35); exact rfl; exact EN; (exact fun w μc hw hse => hfind w μc hw hse.le)) | (refine KV (b := by first | ((with_reducible apply v_iface); exact rfl; exact rfl)) (c := ?_)) | refine KI ?_ | refine NB fun b => ?_ | ((refine KB ?_ ?_ <;> intro hp)) | refine KG ?_ | fail)
          all_goals first | (exfalso; first | omega | contradiction) | exact gq_pan hcnt (fun w' hg => ⟨rfl, hg⟩)
        · rw [show jumpF t p s = .ok (s.jump t.at' l.again) by unfold jumpF; rw [if_neg (fun h => h0 (str0.1 h)), hfl]; dsimp only; unfold toF; first | rw [if_pos h16, if_neg hl] | rw [if_neg h16, if_neg hl]]
          repeat' (first | ((with_reducible show GC _ _ (Code.region 13 _ _) _ _ _ _); (apply gc_stop)) | ((with_reducible (first | apply gq_then_panic | apply gq_block_panic))) | refine KO ?_ | ((with_reducible apply g_panic); exact rfl; exact rfl) | ((with_reducible apply F1 35); exact rfl; exact EN; (exact fun w μc hw hse => hfind w μc hw hse.le)) | (refine KV (b := by first | ((with_reducible apply v_iface); exact rfl; exact rfl)) (c := ?_)) | refine KI ?_ | refine NB fun b => ?_ | ((refine KB ?_ ?_ <;> intro hp)) | refine KG ?_ | fail)
          all_goals first | (exfalso; first | omega | contradiction) | skip
          rename_i bn bp
          refine gcs (gc_sel (l' := [(0, .pointer (some ⟨fb, 0, none⟩)), (4, .pointer (some ⟨bn, 0, none⟩)), (6, .int .i64 l.again)]) (L' := finB fb s i ++ [.inl ⟨bn, 24, 6, idx 0 (encT t u)⟩]) PU PS ?_)
          exact jump_end t u s i fb bn (l.again) w _ _ hcnt hb1
  · skip
    by_cases h0 : t.s = ⟨#[]⟩
    · have h0n : ¬ (t.s ≠ ⟨#[]⟩) := fun h => h h0
      by_cases hl : p.brk < 0
      · rw [show jumpF t p s = .error (t.at', 32) by unfold jumpF; rw [if_pos (str0.2 h0), if_pos (by unfold toF; first | rw [if_pos h16]; exact hl | rw [if_neg h16]; exact hl)]]
        repeat' (first | ((with_reducible (first | apply gq_then_panic | apply gq_block_panic))) | refine KO ?_ | ((with_reducible apply g_panic); exact rfl; exact rfl) | ((with_reducible apply F1 35); exact rfl; exact EN; (exact fun w μc hw hse => hfind w μc hw hse.le)) | (refine KV (b := by first | ((with_reducible apply v_iface); exact rfl; exact rfl)) (c := ?_)) | refine KI ?_ | refine NB fun b => ?_ | ((refine KB ?_ ?_ <;> intro hp)) | refine KG ?_ | fail)
        all_goals first | (exfalso; first | omega | contradiction) | exact gq_pan hcnt (fun w' hg => ⟨rfl, hg⟩)
      · rw [show jumpF t p s = .ok (s.jump t.at' p.brk) by unfold jumpF; rw [if_pos (str0.2 h0)]; unfold toF; first | rw [if_pos h16, if_neg hl] | rw [if_neg h16, if_neg hl]]
        repeat' (first | ((with_reducible show GC _ _ (Code.region 13 _ _) _ _ _ _); (apply gc_stop)) | ((with_reducible (first | apply gq_then_panic | apply gq_block_panic))) | refine KO ?_ | ((with_reducible apply g_panic); exact rfl; exact rfl) | ((with_reducible apply F1 35); exact rfl; exact EN; (exact fun w μc hw hse => hfind w μc hw hse.le)) | (refine KV (b := by first | ((with_reducible apply v_iface); exact rfl; exact rfl)) (c := ?_)) | refine KI ?_ | refine NB fun b => ?_ | ((refine KB ?_ ?_ <;> intro hp)) | refine KG ?_ | fail)
        all_goals first | (exfalso; first | omega | contradiction) | skip
        rename_i bn
        refine gcs (gc_sel (l' := [(0, .pointer (some ⟨fb, 0, none⟩)), (4, .pointer (some ⟨bn, 0, none⟩)), (6, .int .i64 p.brk)]) (L' := finB fb s i ++ [.inl ⟨bn, 24, 6, idx 0 (encT t u)⟩]) PU PS ?_)
        exact jump_end t u s i fb bn (p.brk) w _ _ hcnt hb1
    · cases hfl : findL p.ls t.s with
      | none =>
        rw [hfl] at hfind
        dsimp only [labV, Option.isSome] at hfind
        rw [show jumpF t p s = .error (t.at', 31) by unfold jumpF; rw [if_neg (fun h => h0 (str0.1 h)), hfl]]
        repeat' (first | ((with_reducible (first | apply gq_then_panic | apply gq_block_panic))) | refine KO ?_ | ((with_reducible apply g_panic); exact rfl; exact rfl) | ((with_reducible apply F1 35); exact rfl; exact EN; (exact fun w μc hw hse => hfind w μc hw hse.le)) | (refine KV (b := by first | ((with_reducible apply v_iface); exact rfl; exact rfl)) (c := ?_)) | refine KI ?_ | refine NB fun b => ?_ | ((refine KB ?_ ?_ <;> intro hp)) | refine KG ?_ | fail)
        all_goals first | (exfalso; first | omega | contradiction) | exact gq_pan hcnt (fun w' hg => ⟨rfl, hg⟩)
      | some l =>
        rw [hfl] at hfind
        dsimp only [labV, Option.isSome] at hfind
        by_cases hl : l.brk < 0
        · rw [show jumpF t p s = .error (t.at', 32) by unfold jumpF; rw [if_neg (fun h => h0 (str0.1 h)), hfl]; dsimp only; rw [if_pos (by unfold toF; first | rw [if_pos h16]; exact hl | rw [if_neg h16]; exact hl)]]
          repeat' (first | ((with_reducible (first | apply gq_then_panic | apply gq_block_panic))) | refine KO ?_ | ((with_reducible apply g_panic); exact rfl; exact rfl) | ((with_reducible apply F1 35); exact rfl; exact EN; (exact fun w μc hw hse => hfind w μc hw hse.le)) | (refine KV (b := by first | ((with_reducible apply v_iface); exact rfl; exact rfl)) (c := ?_)) | refine KI ?_ | refine NB fun b => ?_ | ((refine KB ?_ ?_ <;> intro hp)) | refine KG ?_ | fail)
          all_goals first | (exfalso; first | omega | contradiction) | exact gq_pan hcnt (fun w' hg => ⟨rfl, hg⟩)
        · rw [show jumpF t p s = .ok (s.jump t.at' l.brk) by unfold jumpF; rw [if_neg (fun h => h0 (str0.1 h)), hfl]; dsimp only; unfold toF; first | rw [if_pos h16, if_neg hl] | rw [if_neg h16, if_neg hl]]
          repeat' (first | ((with_reducible show GC _ _ (Code.region 13 _ _) _ _ _ _); (apply gc_stop)) | ((with_reducible (first | apply gq_then_panic | apply gq_block_panic))) | refine KO ?_ | ((with_reducible apply g_panic); exact rfl; exact rfl) | ((with_reducible apply F1 35); exact rfl; exact EN; (exact fun w μc hw hse => hfind w μc hw hse.le)) | (refine KV (b := by first | ((with_reducible apply v_iface); exact rfl; exact rfl)) (c := ?_)) | refine KI ?_ | refine NB fun b => ?_ | ((refine KB ?_ ?_ <;> intro hp)) | refine KG ?_ | fail)
          all_goals first | (exfalso; first | omega | contradiction) | skip
          rename_i bn bp
          refine gcs (gc_sel (l' := [(0, .pointer (some ⟨fb, 0, none⟩)), (4, .pointer (some ⟨bn, 0, none⟩)), (6, .int .i64 l.brk)]) (L' := finB fb s i ++ [.inl ⟨bn, 24, 6, idx 0 (encT t u)⟩]) PU PS ?_)
          exact jump_end t u s i fb bn (l.brk) w _ _ hcnt hb1
end Go.Proofs.YtnllooebophcpaaDoor
namespace Go.Proofs.YtnllooebophcpaaDoor
open Go.RowKit Go.Vcg
theorem kr_one {μ : Mem} {b : Nat} {k : T} {u : Value} (h : Bk.sh (.inl ⟨b, 24, 6, idx 0 (encT k u)⟩) μ) (hk : KR μ k.kids u) : KR μ [k] (.slice (some ⟨b, 0, none⟩) 1 1) :=
  .mk [k] (some ⟨b, 0, none⟩) 1 (fun _ => u) (Nat.le_refl _) (fun i t hi => by
    have hi0 : i = 0 := by
      have := (List.getElem?_eq_some_iff.1 hi).1
      simpa using this
    subst hi0
    simp at hi
    subst hi
    refine ⟨_, rfl, ?_⟩
    have := mcells_box' h
    simpa [Addr.add] using this) (fun _ _ _ => hk.one) (fun i t hi => by
    have hi0 : i = 0 := by
      have := (List.getElem?_eq_some_iff.1 hi).1
      simpa using this
    subst hi0
    simp at hi
    subst hi
    exact hk)
def NodeC (n : Nat) : Prop := ∀ (t : T) (u : Value) (p : LP) (v : Value) (s : LS) (i : VV) (fb : Nat) (w : World) (μ : Mem), MOk μ w → Go.Vcg.Own μ (finB fb s i) w → KR μ t.kids u → t.size ≤ n → Wf t → LbV μ p.ls v → Fits s t.size → p.ls.length + t.size ≤ 500000 →
  Calls Tryd.prog 21 #[.pointer (some ⟨fb, 0, none⟩), .agg (encT t u).toArray, .agg #[.int .i64 p.brk, .int .i64 p.again, v]] w (OutP (idsOf (finB fb s i)) w μ fb (nodeF n t p s))
def KidsC (n : Nat) : Prop := ∀ (ks : List T) (u : Value) (p : LP) (v : Value) (s : LS) (i : VV) (fb : Nat) (w : World) (μ : Mem), MOk μ w → Go.Vcg.Own μ (finB fb s i) w → KR μ ks u → (∀ k ∈ ks, k.size ≤ n ∧ Wf k) → LbV μ p.ls v → Fits s (szs ks) → p.ls.length + szs ks ≤ 500000 →
  Calls Tryd.prog 15 #[.pointer (some ⟨fb, 0, none⟩), u, .agg #[.int .i64 p.brk, .int .i64 p.again, v]] w (OutP (idsOf (finB fb s i)) w μ fb (kidsF (nodeF n) ks p s))
theorem szs_mem {ks : List T} {j : Nat} {k : T} (h : ks[j]? = some k) : k.size + szs (ks.drop (j + 1)) = szs (ks.drop j) := by
  obtain ⟨h1, h2⟩ := List.getElem?_eq_some_iff.1 h
  rw [List.drop_eq_getElem_cons h1, h2, szs_cons]
theorem szs_drop (ks : List T) (j : Nat) : szs (ks.drop j) ≤ szs ks := by
  have := szs_take_drop ks j
  omega
theorem len_sizes (ks : List T) : ks.length ≤ szs ks := by
  induction ks with
  | nil => simp
  | cons k r ih =>
    rw [szs_cons]
    have := T.size_eq k
    simp; omega
attribute [local irreducible] nodeF G GC GQ GA GAop GI GCI Calls IntKind.wrap Int.decLt Int.decLe
theorem kids_of_node {n : Nat} (hN : NodeC n) : KidsC n := by
  intro ks u p v s i fb w μ hμ hO hk hks hv hf hpl
  have hov := hv.one
  have hcnt := ids_count hO.diff
  have hkl := len_sizes ks
  have hfn := hf.marks
  obtain ⟨A, c, rfl, hlc, hkid⟩ := hk.form
  obtain ⟨res, hres⟩ : ∃ res, kidsF (nodeF n) ks p s = res := ⟨_, rfl⟩
  rw [hres]
  refine call_introM (args := [.pointer (some ⟨fb, 0, none⟩), .slice A ks.length c, .agg #[.int .i64 p.brk, .int .i64 p.again, v]]) Tryd.func15 rfl Tryd.ntmps15 (by simp) hμ hO ?_
  repeat' (first | refine KK ?_ | refine NB fun b => ?_ | ((refine KB ?_ ?_ <;> intro hp)) | refine KG ?_ | fail)
  refine gc_loop (ι := Nat × LS × VV × Mem) (fun j => j.1 ≤ ks.length ∧ MLe μ j.2.2.2 ∧ kidsF (nodeF n) (ks.drop j.1) p j.2.1 = res ∧ Fits j.2.1 (szs (ks.drop j.1))) (fun j => ks.length - j.1) (fun j => j.2.2.2) (fun j => [(0, .pointer (some ⟨fb, 0, none⟩)), (5, .pointer (some ⟨b, 0, none⟩)), (8, .slice A ks.length c), (9, .int .i64 ks.length), (10, .int .i64 j.1)])
    (fun j => finB fb j.2.1 j.2.2.1 ++ [.inl ⟨b, 49, 3, idx 0 [.int .i64 p.brk, .int .i64 p.again, v]⟩]) (0, s, i, μ) ⟨Nat.zero_le _, MLe.refl _, hres, hf⟩ (fun a w hs => J5 hs) ?_
  rintro ⟨j, s1, i1, μ1⟩ ⟨hjl, hle1, hrj, hfj⟩
  dsimp only at hjl hle1 hrj hfj ⊢
  obtain ⟨bp, hbp⟩ : ∃ x, x = b := ⟨_, rfl⟩
  rw [← hbp]
  clear hbp
  by_cases hlt : j < ks.length
  · have hkk : ks[j]? = some ks[j] := List.getElem?_eq_getElem hlt
    have hsz := szs_mem hkk
    have hsd := szs_drop ks j
    have hd : ks.drop j = ks[j] :: ks.drop (j + 1) := List.drop_eq_getElem_cons hlt
    have hkm := hks _ (List.mem_of_getElem? hkk)
    generalize ks[j] = k at hkk hsz hd hkm
    obtain ⟨ad, x, rfl, hm0, hox, hkx⟩ := hkid j k hkk
    have hm := hm0.mono hle1
    rw [hd] at hrj
    unfold kidsF at hrj
    rw [← hsz] at hfj
    have hcall := fun (w2 : World) (hw2 : MOk μ1 w2) (hO2 : Go.Vcg.Own μ1 (finB fb s1 i1) w2) => hN k x p v s1 i1 fb w2 μ1 hw2 hO2 (hkx.mono hle1) hkm.1 hkm.2 (hv.mono hle1) (hfj.le (by omega)) (by omega)
    repeat' (first | ((with_reducible show GC _ _ (Code.region 4 _ _) _ _ _ _); (apply gc_stop)) | refine KO ?_ | (refine KV (b := by first | exact U1 j | exact U4 hm) (c := ?_)) | refine KI ?_ | refine NB fun b => ?_ | ((refine KB ?_ ?_ <;> intro hp)) | refine KG ?_ | fail)
    refine gcs (gc_sel (l' := [(7, .pointer (some ⟨b, 0, none⟩)), (0, .pointer (some ⟨fb, 0, none⟩)), (5, .pointer (some ⟨bp, 0, none⟩)), (8, .slice (some ad) ks.length c), (9, .int .i64 ks.length), (10, .int .i64 j)]) (L' := finB fb s1 i1 ++ [.inl ⟨b, 24, 6, idx 0 (encT k x)⟩, .inl ⟨bp, 49, 3, idx 0 [.int .i64 p.brk, .int .i64 p.again, v]⟩]) PU PS ?_)
    dsimp only [List.cons_append, List.nil_append]
    cases hq : nodeF n k p s1 with
    | error e =>
      rw [hq] at hrj hcall
      subst hrj
      repeat' (first | ((with_reducible (first | apply gq_then_panic | apply gq_block_panic))) | refine KO ?_ | ((with_reducible apply g_enter_pan 3); exact rfl; ((with_reducible apply e_call3); kernel_rfl; exact rfl; exact rfl; exact rfl); exact rfl; (exact hcall)) | refine KI ?_ | refine NB fun b => ?_ | ((refine KB ?_ ?_ <;> intro hp)) | refine KG ?_ | fail)
      exact gq_pan hcnt (fun w' hg => ⟨rfl, hg⟩)
    | ok s2 =>
      rw [hq] at hrj hcall
      have hgr := nodeF_grew n k p s1 s2 hq
      repeat' (first | refine KO ?_ | ((with_reducible apply g_enter_bor (Ls := finB fb s2) (Post := fun _ _ _ => True) 3); exact rfl; exact rfl; exact rfl; ((with_reducible apply e_call3); kernel_rfl; exact rfl; exact rfl; exact rfl); exact rfl; (exact hcall); (rintro v2 μ2 i2 hle2 -); (dsimp only [List.cons_append, List.nil_append])) | refine KI ?_ | refine NB fun b => ?_ | ((refine KB ?_ ?_ <;> intro hp)) | refine KG ?_ | fail)
      exact J2 (j + 1, s2, i2, μ2) ⟨by dsimp only; omega, hle1.trans hle2, hrj, hfj.grew hgr⟩ (by dsimp only; omega)
  · have hj : j = ks.length := by omega
    subst hj
    rw [List.drop_length] at hrj
    unfold kidsF at hrj
    subst hrj
    repeat' (first | refine KK ?_ | refine NB fun b => ?_ | ((refine KB ?_ ?_ <;> intro hp)) | refine KG ?_ | fail)
    refine gq_sel (l' := []) (L' := finB fb s1 i1) PU PS ?_
    exact out_ok hcnt rfl _ _ (.inr rfl)
end Go.Proofs.YtnllooebophcpaaDoor
namespace Go.Proofs.YtnllooebophcpaaDoor
open Go.RowKit Go.Vcg
theorem kidsF_single (f : T → LP → LS → LRes) (k : T) (p : LP) (s : LS) : kidsF f [k] p s = f k p s := by
  unfold kidsF
  cases f k p s <;> rfl
attribute [local irreducible] nodeF G GC GQ GA GAop GI GCI Calls IntKind.wrap Int.decLt Int.decLe
theorem around_of_kids {n : Nat} (hK : KidsC n) (t : T) (u : Value) (p : LP) (v : Value) (s : LS) (i : VV) (fb : Nat) (w : World) (μ : Mem) (hμ : MOk μ w) (hO : Go.Vcg.Own μ (finB fb s i) w) (hk : KR μ t.kids u) (hks : ∀ k ∈ t.kids, k.size ≤ n ∧ Wf k) (hv : LbV μ p.ls v) (hf : Fits s t.size) (hpl : p.ls.length + t.size ≤ 500000) :
    Calls Tryd.prog 41 #[.pointer (some ⟨fb, 0, none⟩), .agg (encT t u).toArray, .agg #[.int .i64 p.brk, .int .i64 p.again, v]] w (OutP (idsOf (finB fb s i)) w μ fb (aroundF (nodeF n) t p s)) := by
  have hov := hv.one
  have ho := hk.one
  have hcnt := ids_count hO.diff
  have hts := t.size_kids
  have hkl := len_sizes t.kids
  have hfn := hf.marks
  have hfx := hf.next
  have hfj := hf.jumps
  obtain ⟨A, c, rfl, hlc, hkid⟩ := hk.form
  obtain ⟨res, hres⟩ : ∃ res, aroundF (nodeF n) t p s = res := ⟨_, rfl⟩
  rw [hres]
  unfold aroundF at hres
  obtain ⟨q, hqd⟩ : ∃ q : LP, q = ⟨s.next, s.next + 1, p.ls⟩ := ⟨_, rfl⟩
  obtain ⟨s0, hs0⟩ : ∃ s0 : LS, s0 = ⟨s.next + 2, s.marks ++ [(t.at', (s.next : Int), (s.next : Int) + 1)], s.jumps⟩ := ⟨_, rfl⟩
  rw [← hqd, ← hs0] at hres
  have hf0 : Fits s0 (szs t.kids) := by
    rw [hs0]
    exact ⟨by dsimp only; omega, by simp; omega, by dsimp only; omega⟩
  have hnum0 := fun (w2 : World) (μ2 : Mem) (hw2 : MOk μ2 w2) (hO2 : Go.Vcg.Own μ2 [fA fb s.next i] w2) => number_spec fb s.next i w2 μ2 hw2 hO2 (by omega)
  have hnum1 := fun (w2 : World) (μ2 : Mem) (hw2 : MOk μ2 w2) (hO2 : Go.Vcg.Own μ2 [fA fb (s.next + 1) i] w2) => number_spec fb (s.next + 1) i w2 μ2 hw2 hO2 (by omega)
  refine call_introM (args := [.pointer (some ⟨fb, 0, none⟩), .agg (encT t (.slice A t.kids.length c)).toArray, .agg #[.int .i64 p.brk, .int .i64 p.again, v]]) Tryd.func41 rfl Tryd.ntmps41 (by simp) hμ hO ?_
  repeat' (first | ((with_reducible show GC _ _ (Code.seq (Code.region 1 _ _) _) _ _ _ _); (apply gc_stop)) | refine KK ?_ | refine NB fun b => ?_ | ((refine KB ?_ ?_ <;> intro hp)) | refine KG ?_ | fail)
  rename_i bn
  obtain ⟨bp, hbp⟩ : ∃ x, x = b := ⟨_, rfl⟩
  rw [← hbp]
  clear hbp
  refine gcs (gc_sel (l' := [(0, .pointer (some ⟨fb, 0, none⟩)), (4, .pointer (some ⟨bn, 0, none⟩)), (5, .pointer (some ⟨bp, 0, none⟩))]) (L' := finB fb s i ++ [.inl ⟨bn, 24, 6, idx 0 (encT t (.slice A t.kids.length c))⟩, .inl ⟨bp, 49, 3, idx 0 [.int .i64 p.brk, .int .i64 p.again, v]⟩]) PU PS ?_)
  dsimp only [List.cons_append, List.nil_append]
  refine gc_join (ι := Mem × Nat) (fun x => MLe μ x.1) (fun x => x.1) (fun x => [(0, .pointer (some ⟨fb, 0, none⟩)), (4, .pointer (some ⟨bn, 0, none⟩)), (5, .pointer (some ⟨bp, 0, none⟩)), (6, .pointer (some ⟨x.2, 0, none⟩))]) (fun x => [fA fb (s.next + 2) i, .inr ⟨i.1, 33, 3, s.marks.length, s.marks.flatMap encM⟩, .inr ⟨i.2, 35, 2, s.jumps.length, s.jumps.flatMap encJ⟩, .inl ⟨x.2, 33, 3, idx 0 (encM (t.at', (s.next : Int), (s.next : Int) + 1))⟩, .inl ⟨bn, 24, 6, idx 0 (encT t (.slice A t.kids.length c))⟩, .inl ⟨bp, 49, 3, idx 0 [.int .i64 p.brk, .int .i64 p.again, v]⟩]) ?_ ?_
  · refine gc_draw 9 _ (by kernel_rfl) rfl (List.Sublist.cons _ (List.Sublist.cons _ (List.Sublist.cons _ (List.Sublist.cons_cons _ (List.Sublist.cons_cons _ (List.nil_sublist _)))))) ?_
    all_goals refine DD 0 ?_
    all_goals refine DD 1 ?_
    all_goals refine DD 2 ?_
    all_goals refine DD 4 ?_
    refine ga_all2 3 7 (by kernel_rfl) ?dr2_3 ?dr2_7
    case' dr2_3 =>
      (first | (refine D5 ?_; (first | ((with_reducible apply g_enter_bor 1); exact rfl; exact rfl; exact rfl; ((with_reducible apply e_call1); kernel_rfl; exact rfl); exact rfl; (first | exact fun w2 hw2 hO2 => hnum0 w2 _ hw2 hO2 | exact fun w2 hw2 hO2 => hnum1 w2 _ hw2 hO2); (rintro v2 μ2 ⟨⟩ hle2 rfl); (dsimp only [List.cons_append, List.nil_append])) | ((with_reducible apply g_pull_1); (with_reducible apply g_enter_bor 1); exact rfl; exact rfl; exact rfl; ((with_reducible apply e_call1); kernel_rfl; exact rfl); exact rfl; (first | exact fun w2 hw2 hO2 => hnum0 w2 _ hw2 hO2 | exact fun w2 hw2 hO2 => hnum1 w2 _ hw2 hO2); (rintro v2 μ2 ⟨⟩ hle2 rfl); (dsimp only [List.cons_append, List.nil_append]))); refine D9 ?_))
      refine ga_all2 5 7 (by kernel_rfl) ?dr3_5 ?dr3_7
      case' dr3_5 =>
        (first | (refine D5 ?_; (first | ((with_reducible apply g_enter_bor 1); exact rfl; exact rfl; exact rfl; ((with_reducible apply e_call1); kernel_rfl; exact rfl); exact rfl; (first | exact fun w2 hw2 hO2 => hnum0 w2 _ hw2 hO2 | exact fun w2 hw2 hO2 => hnum1 w2 _ hw2 hO2); (rintro v2 μ2 ⟨⟩ hle2 rfl); (dsimp only [List.cons_append, List.nil_append])) | ((with_reducible apply g_pull_1); (with_reducible apply g_enter_bor 1); exact rfl; exact rfl; exact rfl; ((with_reducible apply e_call1); kernel_rfl; exact rfl); exact rfl; (first | exact fun w2 hw2 hO2 => hnum0 w2 _ hw2 hO2 | exact fun w2 hw2 hO2 => hnum1 w2 _ hw2 hO2); (rintro v2 μ2 ⟨⟩ hle2 rfl); (dsimp only [List.cons_append, List.nil_append]))); refine D9 ?_))
        all_goals refine DD 6 ?_
        all_goals (first | (refine D3 7 ?_; refine D5 ?_; refine NB fun b => ?_; refine D9 ?_))
        all_goals (first | (refine D3 8 ?_; refine D5 ?_; refine Y0 ?_; refine D9 ?_))
        all_goals refine D8 ?_
      case' dr3_7 =>
        (first | (refine D5 ?_; refine NB fun b => ?_; refine D9 ?_))
        all_goals (first | (refine D3 5 ?_; refine D5 ?_; (first | ((with_reducible apply g_enter_bor 1); exact rfl; exact rfl; exact rfl; ((with_reducible apply e_call1); kernel_rfl; exact rfl); exact rfl; (first | exact fun w2 hw2 hO2 => hnum0 w2 _ hw2 hO2 | exact fun w2 hw2 hO2 => hnum1 w2 _ hw2 hO2); (rintro v2 μ2 ⟨⟩ hle2 rfl); (dsimp only [List.cons_append, List.nil_append])) | ((with_reducible apply g_pull_1); (with_reducible apply g_enter_bor 1); exact rfl; exact rfl; exact rfl; ((with_reducible apply e_call1); kernel_rfl; exact rfl); exact rfl; (first | exact fun w2 hw2 hO2 => hnum0 w2 _ hw2 hO2 | exact fun w2 hw2 hO2 => hnum1 w2 _ hw2 hO2); (rintro v2 μ2 ⟨⟩ hle2 rfl); (dsimp only [List.cons_append, List.nil_append]))); refine D9 ?_))
        all_goals refine DD 6 ?_
        all_goals (first | (refine D3 8 ?_; refine D5 ?_; refine Y0 ?_; refine D9 ?_))
        all_goals refine D8 ?_
    case' dr2_7 =>
      (first | (refine D5 ?_; refine NB fun b => ?_; refine D9 ?_))
      all_goals (first | (refine D3 3 ?_; refine D5 ?_; (first | ((with_reducible apply g_enter_bor 1); exact rfl; exact rfl; exact rfl; ((with_reducible apply e_call1); kernel_rfl; exact rfl); exact rfl; (first | exact fun w2 hw2 hO2 => hnum0 w2 _ hw2 hO2 | exact fun w2 hw2 hO2 => hnum1 w2 _ hw2 hO2); (rintro v2 μ2 ⟨⟩ hle2 rfl); (dsimp only [List.cons_append, List.nil_append])) | ((with_reducible apply g_pull_1); (with_reducible apply g_enter_bor 1); exact rfl; exact rfl; exact rfl; ((with_reducible apply e_call1); kernel_rfl; exact rfl); exact rfl; (first | exact fun w2 hw2 hO2 => hnum0 w2 _ hw2 hO2 | exact fun w2 hw2 hO2 => hnum1 w2 _ hw2 hO2); (rintro v2 μ2 ⟨⟩ hle2 rfl); (dsimp only [List.cons_append, List.nil_append]))); refine D9 ?_))
      all_goals (first | (refine D3 5 ?_; refine D5 ?_; (first | ((with_reducible apply g_enter_bor 1); exact rfl; exact rfl; exact rfl; ((with_reducible apply e_call1); kernel_rfl; exact rfl); exact rfl; (first | exact fun w2 hw2 hO2 => hnum0 w2 _ hw2 hO2 | exact fun w2 hw2 hO2 => hnum1 w2 _ hw2 hO2); (rintro v2 μ2 ⟨⟩ hle2 rfl); (dsimp only [List.cons_append, List.nil_append])) | ((with_reducible apply g_pull_1); (with_reducible apply g_enter_bor 1); exact rfl; exact rfl; exact rfl; ((with_reducible apply e_call1); kernel_rfl; exact rfl); exact rfl; (first | exact fun w2 hw2 hO2 => hnum0 w2 _ hw2 hO2 | exact fun w2 hw2 hO2 => hnum1 w2 _ hw2 hO2); (rintro v2 μ2 ⟨⟩ hle2 rfl); (dsimp only [List.cons_append, List.nil_append]))); refine D9 ?_))
      all_goals refine DD 6 ?_
      all_goals (first | (refine D3 8 ?_; refine D5 ?_; refine Y0 ?_; refine D9 ?_))
      all_goals refine D8 ?_
    all_goals exact J1 (μ2, b) (by first | assumption | (apply MLe.trans <;> assumption) | (refine MLe.trans ?_ (by assumption); assumption))
  rintro ⟨μ1, bm⟩ hle1
  dsimp only at hle1 ⊢
  refine gc_join (ι := VV) (fun _ => True) (fun _ => μ1) (fun _ => [(0, .pointer (some ⟨fb, 0, none⟩)), (4, .pointer (some ⟨bn, 0, none⟩)), (5, .pointer (some ⟨bp, 0, none⟩)), (6, .pointer (some ⟨bm, 0, none⟩))]) (fun i2 => finB fb s0 i2 ++ [.inl ⟨bm, 33, 3, idx 0 (encM (t.at', (s.next : Int), (s.next : Int) + 1))⟩, .inl ⟨bn, 24, 6, idx 0 (encT t (.slice A t.kids.length c))⟩, .inl ⟨bp, 49, 3, idx 0 [.int .i64 p.brk, .int .i64 p.again, v]⟩]) ?_ ?_
  · refine gc_draw 11 _ (by kernel_rfl) rfl (List.Sublist.cons _ (List.Sublist.cons _ (List.Sublist.cons _ (List.Sublist.cons_cons _ (List.Sublist.cons_cons _ (List.Sublist.cons _ (List.nil_sublist _))))))) ?_
    all_goals refine DD 0 ?_
    all_goals refine DD 1 ?_
    all_goals refine DD 2 ?_
    all_goals refine DD 3 ?_
    all_goals refine DD 5 ?_
    refine ga_all2 4 6 (by kernel_rfl) ?dr4_4 ?dr4_6
    case' dr4_4 =>
      (first | ((with_reducible apply gaop_val); exact rfl; exact rfl; exact rfl; exact rfl; (first | ((with_reducible apply pv_sound); exact rfl) | ((with_reducible apply v_ld); exact rfl; (repeat first | with_reducible exact inb_hd | with_reducible apply inb_tl); exact rfl))))
      all_goals (first | (refine D3 6 ?_; refine D5 ?_; refine NB fun b => ?_; refine D9 ?_))
      all_goals (first | (refine D3 7 ?_; refine D5 ?_; (first | ((with_reducible apply g_ap); exact rfl; exact rfl; exact rfl; (repeat first | with_reducible exact rowup_hd | with_reducible apply rowup_tl); (iterate 6 exact rfl); (first | ((with_reducible apply src_in); exact rfl; (repeat first | with_reducible exact inb_hd | with_reducible apply inb_tl); exact rfl)); (first | exact rfl | omega | simp); (first | assumption | (exact ones_mem (by (repeat first | with_reducible exact ones_nil | ((with_reducible apply ones_cons); (first | exact rfl | assumption))))) | simp [Value.oneCell']); omega; omega; intro v; (first | ((with_reducible apply g_rowForm 1); exact rfl; omega) | ((with_reducible apply g_rowForm 2); exact rfl; omega) | ((with_reducible apply g_rowForm 3); exact rfl; omega)); (rintro g cap rfl hcap)) | ((with_reducible apply g_append0); (iterate 9 exact rfl); (first | ((with_reducible apply src_in); exact rfl; (repeat first | with_reducible exact inb_hd | with_reducible apply inb_tl); exact rfl)); (first | exact rfl | omega | simp); (first | assumption | (exact ones_mem (by (repeat first | with_reducible exact ones_nil | ((with_reducible apply ones_cons); (first | exact rfl | assumption))))) | simp [Value.oneCell']); omega; omega; intro v; (first | ((with_reducible apply g_rowForm 1); exact rfl; omega) | ((with_reducible apply g_rowForm 2); exact rfl; omega) | ((with_reducible apply g_rowForm 3); exact rfl; omega)); (rintro g cap rfl hcap))); refine D9 ?_))
      all_goals refine DD 8 ?_
      all_goals refine DD 9 ?_
      all_goals (first | (refine D3 10 ?_; refine D5 ?_; refine Y0 ?_; refine D9 ?_))
      all_goals refine D8 ?_
    case' dr4_6 =>
      (first | (refine D5 ?_; refine NB fun b => ?_; refine D9 ?_))
      all_goals (first | (refine D3 4 ?_; (with_reducible apply gaop_val); exact rfl; exact rfl; exact rfl; exact rfl; (first | ((with_reducible apply pv_sound); exact rfl) | ((with_reducible apply v_ld); exact rfl; (repeat first | with_reducible exact inb_hd | with_reducible apply inb_tl); exact rfl))))
      all_goals (first | (refine D3 7 ?_; refine D5 ?_; (first | ((with_reducible apply g_ap); exact rfl; exact rfl; exact rfl; (repeat first | with_reducible exact rowup_hd | with_reducible apply rowup_tl); (iterate 6 exact rfl); (first | ((with_reducible apply src_in); exact rfl; (repeat first | with_reducible exact inb_hd | with_reducible apply inb_tl); exact rfl)); (first | exact rfl | omega | simp); (first | assumption | (exact ones_mem (by (repeat first | with_reducible exact ones_nil | ((with_reducible apply ones_cons); (first | exact rfl | assumption))))) | simp [Value.oneCell']); omega; omega; intro v; (first | ((with_reducible apply g_rowForm 1); exact rfl; omega) | ((with_reducible apply g_rowForm 2); exact rfl; omega) | ((with_reducible apply g_rowForm 3); exact rfl; omega)); (rintro g cap rfl hcap)) | ((with_reducible apply g_append0); (iterate 9 exact rfl); (first | ((with_reducible apply src_in); exact rfl; (repeat first | with_reducible exact inb_hd | with_reducible apply inb_tl); exact rfl)); (first | exact rfl | omega | simp); (first | assumption | (exact ones_mem (by (repeat first | with_reducible exact ones_nil | ((with_reducible apply ones_cons); (first | exact rfl | assumption))))) | simp [Value.oneCell']); omega; omega; intro v; (first | ((with_reducible apply g_rowForm 1); exact rfl; omega) | ((with_reducible apply g_rowForm 2); exact rfl; omega) | ((with_reducible apply g_rowForm 3); exact rfl; omega)); (rintro g cap rfl hcap))); refine D9 ?_))
      all_goals refine DD 8 ?_
      all_goals refine DD 9 ?_
      all_goals (first | (refine D3 10 ?_; refine D5 ?_; refine Y0 ?_; refine D9 ?_))
      all_goals refine D8 ?_
    all_goals refine gq_rowEq (n' := s0.marks.length) (xs' := s0.marks.flatMap encM) 2 rfl (by rw [hs0]; simp) (by rw [hs0, List.flatMap_append]; rfl) ?_
    all_goals (subst hs0; exact J1 (.slice (some ⟨g, 0, none⟩) (s.marks.length + 1) cap, i.2) trivial)
  rintro i2 -
  dsimp only [List.cons_append, List.nil_append]
  repeat' (first | ((with_reducible show GC _ _ (Code.seq (Code.seq (Code.region 4 _ _) _) _) _ _ _ _); (apply gc_stop)) | refine KK ?_ | refine NB fun b => ?_ | ((refine KB ?_ ?_ <;> intro hp)) | refine KG ?_ | fail)
  refine gcs (gc_join (ι := Int) (fun a => 0 < t.kids.length → a = (bodyAt t : Nat)) (fun _ => μ1) (fun a => [(0, .pointer (some ⟨fb, 0, none⟩)), (4, .pointer (some ⟨bn, 0, none⟩)), (5, .pointer (some ⟨bp, 0, none⟩)), (6, .pointer (some ⟨bm, 0, none⟩)), (7, .int .i64 a)]) (fun _ => finB fb s0 i2 ++ [.inl ⟨bm, 33, 3, idx 0 (encM (t.at', (s.next : Int), (s.next : Int) + 1))⟩, .inl ⟨bn, 24, 6, idx 0 (encT t (.slice A t.kids.length c))⟩, .inl ⟨bp, 49, 3, idx 0 [.int .i64 p.brk, .int .i64 p.again, v]⟩]) ?_ ?_)
  · by_cases h14 : t.op = 14
    · repeat' (first | refine KK ?_ | refine NB fun b => ?_ | ((refine KB ?_ ?_ <;> intro hp)) | refine KG ?_ | fail)
      all_goals first | (exfalso; omega) | exact J1 0 (fun _ => by unfold bodyAt; rw [if_pos h14]; rfl)
    · repeat' (first | refine KK ?_ | refine NB fun b => ?_ | ((refine KB ?_ ?_ <;> intro hp)) | refine KG ?_ | fail)
      all_goals first | (exfalso; omega) | exact J1 ((t.kids.length : Int) - 1) (fun h => by unfold bodyAt; rw [if_neg h14]; omega)
  intro at0 hat0
  dsimp only [List.cons_append, List.nil_append]
  repeat' (first | refine KK ?_ | refine NB fun b => ?_ | ((refine KB ?_ ?_ <;> intro hp)) | refine KG ?_ | fail)
  refine gc_loop (ι := Nat × LS × VV × Mem) (fun j => j.1 ≤ t.kids.length ∧ MLe μ j.2.2.2 ∧ aroundK (nodeF n) (bodyAt t) p q j.1 (t.kids.drop j.1) j.2.1 = res ∧ Fits j.2.1 (szs (t.kids.drop j.1))) (fun j => t.kids.length - j.1) (fun j => j.2.2.2) (fun j => [(0, .pointer (some ⟨fb, 0, none⟩)), (5, .pointer (some ⟨bp, 0, none⟩)), (6, .pointer (some ⟨bm, 0, none⟩)), (7, .int .i64 at0), (36, .slice A t.kids.length c), (37, .int .i64 t.kids.length), (38, .int .i64 j.1)])
    (fun j => finB fb j.2.1 j.2.2.1 ++ [.inl ⟨bm, 33, 3, idx 0 (encM (t.at', (s.next : Int), (s.next : Int) + 1))⟩, .inl ⟨bp, 49, 3, idx 0 [.int .i64 p.brk, .int .i64 p.again, v]⟩]) (0, s0, i2, μ1) ⟨Nat.zero_le _, hle1, hres, hf0⟩ (fun a w hs => J5 hs) ?_
  rintro ⟨j, s1, i1, μ3⟩ ⟨hjl, hle3, hrj, hfj1⟩
  dsimp only [List.cons_append, List.nil_append] at hjl hle3 hrj hfj1 ⊢
  by_cases hlt : j < t.kids.length
  · have hkk : t.kids[j]? = some t.kids[j] := List.getElem?_eq_getElem hlt
    have hsz := szs_mem hkk
    have hsd := szs_drop t.kids j
    have hd : t.kids.drop j = t.kids[j] :: t.kids.drop (j + 1) := List.drop_eq_getElem_cons hlt
    have hkm := hks _ (List.mem_of_getElem? hkk)
    generalize t.kids[j] = k at hkk hsz hd hkm
    obtain ⟨ad, x, rfl, hm0, hox, hkx⟩ := hkid j k hkk
    have hm := hm0.mono hle3
    rw [hd] at hrj
    unfold aroundK at hrj
    rw [← hsz] at hfj1
    have hat := hat0 (by omega)
    obtain ⟨pp, hpp⟩ : ∃ pp : LP, partK j (bodyAt t) p q = pp := ⟨_, rfl⟩
    rw [hpp] at hrj
    have hppl : pp.ls = p.ls := by
      rw [← hpp]
      unfold partK
      split
      · rw [hqd]
      · rfl
    repeat' (first | ((with_reducible show GC _ _ (Code.seq (Code.seq (Code.region 10 _ _) _) _) _ _ _ _); (apply gc_stop)) | refine KO ?_ | (refine KV (b := by first | exact U1 j | exact U4 hm) (c := ?_)) | refine KI ?_ | refine NB fun b => ?_ | ((refine KB ?_ ?_ <;> intro hp)) | refine KG ?_ | fail)
    rename_i bk
    obtain ⟨bq, hbq⟩ : ∃ x, x = b := ⟨_, rfl⟩
    rw [← hbq]
    clear hbq
    refine gcs (gc_join (ι := Unit) (fun _ => True) (fun _ => μ3) (fun _ => [(9, .pointer (some ⟨bk, 0, none⟩)), (10, .pointer (some ⟨bq, 0, none⟩)), (0, .pointer (some ⟨fb, 0, none⟩)), (5, .pointer (some ⟨bp, 0, none⟩)), (6, .pointer (some ⟨bm, 0, none⟩)), (7, .int .i64 at0), (36, .slice (some ad) t.kids.length c), (37, .int .i64 t.kids.length), (38, .int .i64 j)]) (fun _ => finB fb s1 i1 ++ [.inl ⟨bk, 24, 6, idx 0 (encT k x)⟩, .inl ⟨bq, 49, 3, idx 0 [.int .i64 pp.brk, .int .i64 pp.again, v]⟩, .inl ⟨bm, 33, 3, idx 0 (encM (t.at', (s.next : Int), (s.next : Int) + 1))⟩, .inl ⟨bp, 49, 3, idx 0 [.int .i64 p.brk, .int .i64 p.again, v]⟩]) ?_ ?_)
    · by_cases hja : j = bodyAt t
      · have hqp : pp = ⟨s.next, s.next + 1, p.ls⟩ := by rw [← hpp, partK, if_pos hja, hqd]
        rw [hqp]
        have hja' : (j : Int) = at0 := by omega
        repeat' (first | refine KK ?_ | refine NB fun b => ?_ | ((refine KB ?_ ?_ <;> intro hp)) | refine KG ?_ | fail)
        all_goals try (exfalso; omega)
        refine gc_draw 8 _ (by kernel_rfl) rfl (List.Sublist.cons _ (List.Sublist.cons _ (List.Sublist.cons _ (List.Sublist.cons _ (List.Sublist.cons _ (List.Sublist.cons_cons _ (List.Sublist.cons _ (List.nil_sublist _)))))))) ?_
        all_goals refine DD 0 ?_
        all_goals refine DD 1 ?_
        all_goals refine DD 2 ?_
        all_goals refine DD 3 ?_
        all_goals refine DD 4 ?_
        all_goals (first | (refine D3 5 ?_; refine D5 ?_; refine Y0 ?_; refine D9 ?_))
        all_goals refine DD 6 ?_
        all_goals (first | (refine D3 7 ?_; refine D5 ?_; refine Y0 ?_; refine D9 ?_))
        all_goals refine D8 ?_
        all_goals exact J1 () trivial
      · have hqp : pp = p := by rw [← hpp, partK, if_neg hja]
        rw [hqp]
        have hja' : ¬ (j : Int) = at0 := by omega
        repeat' (first | refine KK ?_ | refine NB fun b => ?_ | ((refine KB ?_ ?_ <;> intro hp)) | refine KG ?_ | fail)
        all_goals first | (exfalso; omega) | exact J1 () trivial
    intro _ _
    dsimp only [List.cons_append, List.nil_append]
    have hcall := fun (w2 : World) (μ4 : Mem) (ku : Value) (hle4 : MLe μ3 μ4) (hw2 : MOk μ4 w2) (hO2 : Go.Vcg.Own μ4 (finB fb s1 i1) w2) (hku : KR μ4 [k] ku) => hK [k] ku pp v s1 i1 fb w2 μ4 hw2 hO2 hku (fun y hy => by rw [List.mem_singleton.1 hy]; exact hkm) (hppl ▸ (hv.mono hle3).mono hle4) (hfj1.le (by rw [szs_cons]; simp [szs])) (by rw [hppl, szs_cons]; simp only [szs, List.map_nil, List.sum_nil]; omega)
    rw [kidsF_single] at hcall
    cases hq : nodeF n k pp s1 with
    | error e =>
      rw [hq] at hrj hcall
      subst hrj
      repeat' (first | ((with_reducible (first | apply gq_then_panic | apply gq_block_panic))) | refine KO ?_ | (refine CF 15 ?_; (refine g_share_0 rfl ?_); (intro μ4 hle4 hsh4); (have hku := kr_one hsh4 ((hkx.mono hle3).mono hle4)); (with_reducible apply g_enter_pan 3); exact rfl; ((with_reducible apply e_call3); kernel_rfl; exact rfl; exact rfl; exact rfl); exact rfl; (exact fun w2 hw2 hO2 => hcall w2 _ _ hle4 hw2 hO2 hku)) | refine KI ?_ | refine NB fun b => ?_ | ((refine KB ?_ ?_ <;> intro hp)) | refine KG ?_ | fail)
      exact gq_pan hcnt (fun w' hg => ⟨rfl, hg⟩)
    | ok s2 =>
      rw [hq] at hrj hcall
      have hgr := nodeF_grew n k pp s1 s2 hq
      repeat' (first | refine KO ?_ | (refine CF 15 ?_; (refine g_share_0 rfl ?_); (intro μ4 hle4 hsh4); (have hku := kr_one hsh4 ((hkx.mono hle3).mono hle4)); (with_reducible apply g_enter_bor (Ls := finB fb s2) (Post := fun _ _ _ => True) 3); exact rfl; exact rfl; exact rfl; ((with_reducible apply e_call3); kernel_rfl; exact rfl; exact rfl; exact rfl); exact rfl; (exact fun w2 hw2 hO2 => hcall w2 _ _ hle4 hw2 hO2 hku); (rintro v2 μ5 i5 hle5 -); (dsimp only [List.cons_append, List.nil_append])) | refine KI ?_ | refine NB fun b => ?_ | ((refine KB ?_ ?_ <;> intro hp)) | refine KG ?_ | fail)
      exact J2 (j + 1, s2, i5, μ5) ⟨by dsimp only; omega, (hle3.trans hle4).trans hle5, hrj, hfj1.grew hgr⟩ (by dsimp only; omega)
  · have hj : j = t.kids.length := by omega
    subst hj
    rw [List.drop_length] at hrj
    unfold aroundK at hrj
    subst hrj
    repeat' (first | refine KK ?_ | refine NB fun b => ?_ | ((refine KB ?_ ?_ <;> intro hp)) | refine KG ?_ | fail)
    refine gq_sel (l' := []) (L' := finB fb s1 i1) PU PS ?_
    exact out_ok hcnt rfl _ _ (.inr rfl)
end Go.Proofs.YtnllooebophcpaaDoor
