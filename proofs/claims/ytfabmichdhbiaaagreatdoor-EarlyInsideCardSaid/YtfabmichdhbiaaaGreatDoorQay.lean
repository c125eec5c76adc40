/- The law EarlyMore, walked. (and what leans on it). No statement of the seat is proved here. -/
import Derived.Test.YtfabmichdhbiaaaGreatDoorQax
import Derived.Test.YtfabmichdhbiaaaGreatDoorQae
import Derived.Test.YtfabmichdhbiaaaGreatDoorQaf
import Derived.Lay
import Derived.LaidOnce
import Derived.SevenTiedAt
import Derived.Test.YtfabmichdhbiaaaGreatDoorTie
import Derived.Test.YtfabmichdhbiaaaGreatDoorCards
import Derived.Lib.LaidU8
import Derived.Lib.LaidTab
import Derived.Shelf.Vars
set_option maxRecDepth 20000
set_option maxHeartbeats 2000000
namespace Go.Proofs.YtfabmichdhbiaaaGreatDoor
open Go.RowKit Go.Vcg Ou
def ItQe (y : Ite) : Prop := y.s.size ≤ 140737488355328 ∧ In64 y.op ∧ In64 y.n ∧ In64 y.m
theorem sumI_mem {ts : List Ite} {y : Ite} (h : y ∈ ts) : y.s.size ≤ sumI ts := T.sum_mem (List.mem_map.2 ⟨y, h, rfl⟩)
def zeroI : Ite := ⟨0, 0, 0, 0, ⟨#[]⟩, 0⟩
theorem tree_sh {ts : List Ite} {t : T} (hq : ∀ y ∈ ts, ItQe y) (hs : sumI ts ≤ 4000) (h : AllI (fun y => y ∈ ts ∨ y = zeroI) t) : Sh t :=
  sh_of (h.to fun op at' n m s kids k hy => by
    rcases hy with hy | hy
    · have h1 := hq _ hy
      have h2 := sumI_mem hy
      exact ⟨Nat.le_trans h2 hs, h1.2.1, h1.2.2.1, h1.2.2.2⟩
    · cases hy
      exact ⟨show (⟨#[]⟩ : ByteArray).size ≤ 4000 by decide, by unfold In64; simp [T.op], by unfold In64; simp [T.n], by unfold In64; simp [T.m]⟩)
theorem str_fresh : fresh9 = ⟨#[102, 114, 101, 115, 104, 57]⟩ := by decide +kernel
attribute [local irreducible] checkR rtB checkE sumI G GC GQ GA GAop Calls IntKind.wrap Int.decLt Int.decLe
end Go.Proofs.YtfabmichdhbiaaaGreatDoor
namespace Go.Vcg
open Go.ChangeShapes Go.WideShapes Go.ChangeAt Go.RowKit Go.Deep
section
variable {H : Type} {enc : TypeId × Value → H} {P : Program} {W : World}
theorem mem_weightsAll {e : TypeId} {x : Nat} {d : DataW H} : ∀ {l : List (DataW H)}, d ∈ l → x ∈ d.weights P e → x ∈ DataW.weightsAll P e l
  | c :: r, hd, hx => by
    rw [DataW.weightsAll]
    rcases List.mem_cons.1 hd with rfl | hd
    · exact List.mem_append_left _ hx
    · exact List.mem_append_right _ (mem_weightsAll hd hx)
theorem read_sliceQ {α : Type} {t e s B : Nat} {encv : α → List Value} {q : α → Prop} {v : Value} {d : DataW H} {p : List MemPlace} (ht : P.underlying t = some (.slice e)) (hs : P.cellsOf e = s)
    (hel : ∀ (fuel : Nat) (cs : List Value) (x : DataW H × List MemPlace), DataW.trod enc P W 0 (fun _ => true) true fuel e cs = some x → (x.1.weights P e).all (· ≤ B) = true → ∃ y, cs = encv y ∧ q y)
    {r : Reach} {b0 : Nat} (hv : Value.okWide P W r b0 t v) (h : DataW.Trod enc P W 0 (fun _ => true) true t v d p) (hw : (d.weights P t).all (· ≤ B) = true) : ∃ A n c l, v = .slice A n c ∧ Sl encv s (memOf W) A n l ∧ n ≤ maxLen ∧ ∀ x ∈ l, q x := by
  obtain ⟨A, n, c, rfl⟩ := okWide_slice ht hv
  obtain ⟨fuel, hf⟩ := h
  rcases open_slice ht hf with ⟨hcs, _⟩ | ⟨a, len, cap, m, k, D, Pl, hcs, _, hl, hm, hmm, hx, hi⟩
  · simp [Value.cells] at hcs
    obtain ⟨rfl, rfl, rfl⟩ := hcs
    exact ⟨none, 0, 0, [], rfl, Sl.nil _ _ _ _, by simp, by simp⟩
  · simp [Value.cells] at hcs
    obtain ⟨rfl, rfl, rfl⟩ := hcs
    simp at hmm
    obtain rfl := congrArg Prod.fst hx
    simp only at hw
    rw [DataW.weights, ht] at hw
    simp only at hw
    have hwi : ∀ i, i < n → ((D i).weights P e).all (· ≤ B) = true := fun i hin => by
      refine List.all_eq_true.2 fun z hz => List.all_eq_true.1 hw z ?_
      refine List.mem_cons_of_mem _ (List.mem_append_left _ (mem_weightsAll (d := D i) ?_ hz))
      exact List.mem_map.2 ⟨i, List.mem_range.2 hin, rfl⟩
    have hex : ∀ i, i < n → ∃ y, MCells (memOf W) (a.add (i * s)) (encv y) ∧ q y := fun i hin => by
      obtain ⟨cs', hc, ht'⟩ := hi i (by omega)
      obtain ⟨y, rfl, hq⟩ := hel _ _ _ ht' (hwi i hin)
      refine ⟨y, fun j u hu => ?_, hq⟩
      obtain ⟨_, hcl, hat⟩ := World.cells?_some hc
      rw [hs] at hat hcl
      have hj : j < s := by
        have := (List.getElem?_eq_some_iff.1 hu).1
        omega
      have := hat j hj
      rw [hu] at this
      exact MCell.of_cell this
    obtain ⟨l, hl1, hl2⟩ := exists_list n hex
    refine ⟨some a, n, c, l, rfl, ⟨hl1, fun _ => ⟨a, rfl, fun i x hx => (hl2 i x hx).1⟩⟩, by omega, fun x hx => ?_⟩
    obtain ⟨i, hi1, rfl⟩ := List.mem_iff_getElem.1 hx
    exact (hl2 i _ (List.getElem?_eq_getElem hi1)).2
end
end Go.Vcg
namespace Go.Proofs.YtfabmichdhbiaaaGreatDoor
open Go.ChangeShapes Go.WideShapes Go.ChangeAt Go.RowKit Go.Deep Go.Vcg
theorem i64_b {n : Int} (h : (Lit.int .i64 n).wf = true) : In64 n := by
  simp only [Lit.wf, Bool.and_eq_true, decide_eq_true_eq] at h
  simpa [In64, IntKind.min, IntKind.max, IntKind.signed, IntKind.bits] using h
section
variable {H : Type} {enc : TypeId × Value → H} {W : World}
theorem it_readQe {base : Nat} {spare : Nat → Bool} {held : Bool} {fuel : Nat} {cs : List Value} {x : DataW H × List MemPlace} (h : DataW.trod enc Tryz.prog W base spare held fuel 30 cs = some x) (hw : (x.1.weights Tryz.prog 30).all (· ≤ reachBytes) = true) : ∃ y : Ite, cs = encIte y ∧ ItQe y := by
  obtain ⟨xs, n, _, hx, hlen, hxl, hf⟩ := DataW.trod_struct Tryz.underlying30 h
  have hl : cs.length = 6 := hlen.trans (by kernel_rfl)
  have fa := field_at' (t := 30) (by kernel_rfl) (by rw [hl]; rfl) hxl hf
  obtain ⟨c0, y0, e0, t0, g0⟩ := fa 0 _ rfl
  obtain ⟨c1, y1, e1, t1, g1⟩ := fa 1 _ rfl
  obtain ⟨c2, y2, e2, t2, g2⟩ := fa 2 _ rfl
  obtain ⟨c3, y3, e3, t3, g3⟩ := fa 3 _ rfl
  obtain ⟨c4, y4, e4, t4, g4⟩ := fa 4 _ rfl
  obtain ⟨c5, y5, e5, t5, g5⟩ := fa 5 _ rfl
  obtain ⟨a0, z0, u0, w0⟩ := DataW.trod_int Tryz.underlying3 t0
  obtain ⟨a1, z1, u1, w1⟩ := DataW.trod_int Tryz.underlying3 t1
  obtain ⟨a2, z2, u2, w2⟩ := DataW.trod_int Tryz.underlying3 t2
  obtain ⟨a3, z3, u3, w3⟩ := DataW.trod_int Tryz.underlying3 t3
  obtain ⟨a4, z4, u4, w4⟩ := DataW.trod_string Tryz.underlying9 t4
  obtain ⟨a5, z5, u5, w5⟩ := DataW.trod_int Tryz.underlying3 t5
  simp only [List.cons.injEq, and_true] at z0 z1 z2 z3 z4 z5
  subst z0 z1 z2 z3 z4 z5 u0 u1 u2 u3 u4 u5
  refine ⟨⟨a0, a1, a2, a3, a4, a5⟩, ?_, ?_, i64_b w0, i64_b w2, i64_b w3⟩
  · match cs, hl with
    | [_, _, _, _, _, _], _ =>
      simp at e0 e1 e2 e3 e4 e5
      simp [e0, e1, e2, e3, e4, e5]
  · have hxs : xs = [(.lit (.int .i64 a0), []), (.lit (.int .i64 a1), []), (.lit (.int .i64 a2), []), (.lit (.int .i64 a3), []), (.lit (.string a4.data.toList), []), (.lit (.int .i64 a5), [])] := by
      have h7 : xs.length = 6 := hxl
      match xs, h7 with
      | [_, _, _, _, _, _], _ =>
        simp at g0 g1 g2 g3 g4 g5
        rw [g0, g1, g2, g3, g4, g5]
    subst hxs
    have hd : x.1 = .agg [.lit (.int .i64 a0), .lit (.int .i64 a1), .lit (.int .i64 a2), .lit (.int .i64 a3), .lit (.string a4.data.toList), .lit (.int .i64 a5)] := congrArg Prod.fst hx
    have hm : a4.data.toList.length ∈ x.1.weights Tryz.prog 30 := by
      rw [hd, DataW.weights, Tryz.underlying30]
      show _ ∈ DataW.weightsEach Tryz.prog [3, 3, 3, 3, 9, 3] _
      simp [DataW.weightsEach, DataW.weights]
    have h9 := of_decide_eq_true (List.all_eq_true.1 hw _ hm)
    unfold reachBytes at h9
    have h10 : a4.size = a4.data.toList.length := rfl
    show a4.size ≤ 140737488355328
    omega
theorem open_itsQe {r : Reach} {b0 : Nat} {v : Value} {d : DataW H} {p : List MemPlace} (hv : Value.okWide Tryz.prog W r b0 22 v) (h : DataW.Trod enc Tryz.prog W 0 (fun _ => true) true 22 v d p) (hw : (d.weights Tryz.prog 22).all (· ≤ reachBytes) = true) :
    ∃ A n c ts, v = .slice A n c ∧ Sl encIte 6 (memOf W) A n ts ∧ n ≤ 9223372036854775807 ∧ ∀ y ∈ ts, ItQe y := by
  obtain ⟨A, n, c, ts, e, h1, h2, h3⟩ := read_sliceQ (encv := encIte) (s := 6) (q := ItQe) Tryz.underlying22 (by kernel_rfl) (fun fuel cs x h hw => it_readQe h hw) hv h hw
  exact ⟨A, n, c, ts, e, h1, Nat.le_trans h2 (by decide), h3⟩
end
end Go.Proofs.YtfabmichdhbiaaaGreatDoor
namespace Go.Proofs.YtfabmichdhbiaaaGreatDoor
open Go.ChangeShapes Go.WideShapes Go.ChangeAt Go.RowKit Go.Deep Go.Vcg
theorem tabA_of {W : World} {l : List (String × DataW Unit)} (h : laidMet Tryz.prog l W) (hm : ("strings.asciiSpace", Rows.laid_strings_asciiSpace) ∈ l) : TabA (memOf W) := by
  obtain ⟨g, t, cs, fuel, p, h1, h2, h3, h4⟩ := Lib.laidMet.reads h hm
  have hg : Tryz.prog.globalNamed "strings.asciiSpace" = some 0 := by kernel_rfl
  obtain rfl := Option.some.inj (hg.symm.trans h1)
  have ht : (Tryz.prog.globals[0]?).map (·.type) = some 103 := by kernel_rfl
  obtain rfl := Option.some.inj (ht.symm.trans h2)
  have hd : (Rows.laid_strings_asciiSpace : DataW Unit) = Lib.tabData .u8 Lib.asciiSpaceTab := by rfl
  rw [hd] at h4
  have hc := Lib.cells_of_tab Tryz.underlying103 Tryz.underlying5 (by kernel_rfl) (by kernel_rfl) h4
  intro w hw
  unfold Lib.TabIs World.var?
  unfold World.var? at h3
  rw [hg] at h3 ⊢
  simp only [Option.bind_some] at h3 ⊢
  cases hb : W.heap[0]? with
  | none => rw [hb] at h3; cases h3
  | some o =>
    rw [hw _ o hb]
    rw [hb] at h3
    cases o <;> simp at h3
    rename_i cs' _ _
    subst h3
    simp only [Option.some.injEq]
    rw [← hc]
theorem maxQ_of {W : World} (h : W.ShapedOpen Tryz.prog) : MaxQ (memOf W) := by
  obtain ⟨m, hm⟩ := cell_of_shapedOpen_int (g := 2) (t := 3) (zero := #[.int .i64 0]) (k := .i64) h (of_decide_eq_true (by kernel_rfl)) (by kernel_rfl) rfl (by kernel_rfl) (by kernel_rfl) (by kernel_rfl)
  exact ⟨m, MCell.of_cell hm⟩
end Go.Proofs.YtfabmichdhbiaaaGreatDoor
namespace Go.Proofs.YtfabmichdhbiaaaGreatDoor
open Go.RowKit Go.Vcg Ou
def paramN : T := .mk 5 0 0 0 ⟨#[]⟩ []
def blockN (l : List T) : T := .mk 6 0 0 0 ⟨#[]⟩ l
theorem sh_inside {l : List T} (h : ∀ k ∈ l, Sh k) : Sh (insideT l) := by
  have h0 : (⟨#[]⟩ : ByteArray).size ≤ 4000 := by decide
  refine .mk h0 (by unfold In64; simp [insideT, T.op]) (by unfold In64; simp [insideT, T.n]) (by unfold In64; simp [insideT, T.m]) fun k hk => ?_
  rw [List.mem_singleton.1 hk]
  refine .mk (show fresh9.size ≤ 4000 by decide +kernel) (by unfold In64; simp [insideF, T.op]) (by unfold In64; simp [insideF, T.n]) (by unfold In64; simp [insideF, T.m]) fun k hk => ?_
  rcases List.mem_cons.1 hk with rfl | hk
  · exact .mk h0 (by unfold In64; simp [T.op]) (by unfold In64; simp [T.n]) (by unfold In64; simp [T.m]) fun k hk => by simp [T.kids] at hk
  · rw [List.mem_singleton.1 hk]
    exact .mk h0 (by unfold In64; simp [T.op]) (by unfold In64; simp [T.n]) (by unfold In64; simp [T.m]) h
theorem size_inside (l : List T) : (insideT l).size = szs l + 4 := by
  simp only [insideT, insideF, T.size_eq, T.kids, List.map_cons, List.map_nil, List.sum_cons, List.sum_nil, szs]
  omega
attribute [local irreducible] checkR rtB checkE sumI G GC GQ GA GAop Calls IntKind.wrap Int.decLt Int.decLe
theorem inside_walk (w : World) (μ : Mem) (hμ : MOk μ w) (A : Option Addr) (n c : Nat) (ts : List Ite) (hc : Sl encIte 6 μ A n ts) (hmax : n ≤ 9223372036854775807) (hq : ∀ y ∈ ts, ItQe y) (hm : MaxQ μ) (hT : TabA μ) :
    Calls Tryz.prog 4 #[.slice A n c] w fun e w' => e = .returned (.bool true) ∧ Below w.heap.size w w' := by
  refine call_intro (args := [.slice A n c]) Tryz.func4 rfl Tryz.ntmps4 (by simp) hμ ?_
  cases hf : fewE n ts
  · repeat' (first | refine KO ?_ | ((with_reducible apply F1 5); exact rfl; exact EN; (exact fun w μc hw hse => by have h9 := efew_spec w μc hw A n c ts (hc.mono hse.le) hmax (fun y hy => (hq y hy).1); rw [hf] at h9; exact h9)) | ((with_reducible apply F1 6); exact rfl; exact EN; (exact fun w μc hw hse => llives_spec w μc hw (hm.mono hse.le) (hT.mono hse.le))) | refine KI ?_ | refine NB fun b => ?_ | ((refine KB ?_ ?_ <;> intro hp)) | refine KG ?_ | fail)
    all_goals exact ret_s rfl rfl rfl
  have hfe := Bool.and_eq_true_iff.1 (show (decide (n ≤ 400) && decide (sumI ts ≤ 4000)) = true from hf)
  have hn4 : n ≤ 400 := of_decide_eq_true hfe.1
  have hs4 : sumI ts ≤ 4000 := of_decide_eq_true hfe.2
  repeat' (first | ((with_reducible show GC _ _ (Code.seq (Code.region 4 _ _) _) _ _ _ _); (apply gc_stop)) | refine KO ?_ | ((with_reducible apply F1 5); exact rfl; exact EN; (exact fun w μc hw hse => by have h9 := efew_spec w μc hw A n c ts (hc.mono hse.le) hmax (fun y hy => (hq y hy).1); rw [hf] at h9; exact h9)) | ((with_reducible apply F2 7); exact rfl; exact EN; (exact fun w hw => ebuild_spec (fun y => y ∈ ts ∨ y = zeroI) (.inr rfl) w _ hw A n c ts hc hn4 (fun y hy => .inl hy)); (rintro v2 μ2 hle2 ⟨t, ⟨u, rfl, hk⟩, hsz, hall⟩); (have ou := hk.one)) | refine KI ?_ | refine NB fun b => ?_ | ((refine KB ?_ ?_ <;> intro hp)) | refine KG ?_ | fail)
  have hsh := tree_sh hq hs4 hall
  have hc := hc.mono hle2
  have hm := hm.mono hle2
  have hT := hT.mono hle2
  have hsz2 := size_szs t
  refine gcs ?_
  have hck := fun (w : World) (μc : Mem) (hw : MOk μc w) (hle : MLe μ2 μc) => echeck_spec 1000 t _ w μc hw (hk.mono hle) (by omega) (by omega) hsh (hT.mono hle) (hm.mono hle)
  have hin := fun h => checkR_inside (t := t) 1000 h
  generalize checkR 1000 t = r at hck hin
  obtain ⟨ra, re⟩ := r
  dsimp only at hck hin
  by_cases h0 : re = 0
  rotate_left
  · repeat' (first | refine KO ?_ | ((with_reducible apply F1 9); exact rfl; exact EN; (exact fun w μc hw hse => hck w μc hw hse.le)) | ((with_reducible apply F1 6); exact rfl; exact EN; (exact fun w μc hw hse => llives_spec w μc hw (hm.mono hse.le) (hT.mono hse.le))) | refine KI ?_ | refine NB fun b => ?_ | ((refine KB ?_ ?_ <;> intro hp)) | refine KG ?_ | fail)
    all_goals first | exact ret_s rfl rfl rfl | (exfalso; first | omega | contradiction)
  subst h0
  have hin := hin rfl
  obtain ⟨A1, c1, rfl, hcap, -⟩ := hk.form
  repeat' (first | ((with_reducible show GC _ _ (Code.seq (Code.seq (Code.region 9 _ _) _) _) _ _ _ _); (apply gc_stop)) | refine KO ?_ | ((with_reducible apply F1 9); exact rfl; exact EN; (exact fun w μc hw hse => hck w μc hw hse.le)) | refine KI ?_ | refine NB fun b => ?_ | ((refine KB ?_ ?_ <;> intro hp)) | refine KG ?_ | fail)
  all_goals try (exfalso; first | omega | contradiction)
  rename_i b12 bf bF
  refine gcs (gc_share_3 rfl ?_)
  intro μ3 hle3 h12
  refine gc_share_1 rfl ?_
  intro μ4 hle4 h6
  have hle24 := hle3.trans hle4
  have k2 := KR.of_pairs (c := 2) (ps := [(paramN, .slice none 0 0), (blockN t.kids, .slice A1 t.kids.length c1)]) (blk_sl h12 (fun i v hv => lk_idx' hv)) (Nat.le_refl _) (fun p hp => by
    rcases List.mem_cons.1 hp with rfl | hp
    · exact KR.nil _ _ _
    · rw [List.mem_singleton.1 hp]
      exact hk.mono hle3)
  have k1 := KR.of_pairs (c := 1) (ps := [(insideF t.kids, .slice (some ⟨b12, 0, none⟩) 2 2)]) (blk_sl h6 (fun i v hv => by rw [← str_fresh]; exact lk_idx' hv)) (Nat.le_refl _) (fun p hp => by
    rw [List.mem_singleton.1 hp]
    exact k2.mono hle4)
  have hk1 : KR μ4 (insideT t.kids).kids (.slice (some ⟨bF, 0, none⟩) 1 1) := k1
  have hm := hm.mono hle24
  have hT := hT.mono hle24
  have hsi := size_inside t.kids
  have hsk : Sh (insideT t.kids) := sh_inside fun k hk => sh_kid hsh hk
  have hrr := fun (w : World) (μc : Mem) (hw : MOk μc w) (hle : MLe μ4 μc) => rRight_spec (insideT t.kids) _ w μc hw (hk1.mono hle) (by omega) hsk
  have hci := fun (w : World) (μc : Mem) (hw : MOk μc w) (hle : MLe μ4 μc) => echeck_spec (1000 + 1) (insideT t.kids) _ w μc hw (hk1.mono hle) (by omega) (by omega) hsk (hT.mono hle) (hm.mono hle)
  cases hrt : rtB (insideT t.kids) 1 false with
  | false =>
    rw [hrt] at hrr
    repeat' (first | refine KO ?_ | ((with_reducible apply F1 10); exact rfl; exact EN; (exact fun w μc hw hse => hrr w μc hw hse.le)) | ((with_reducible apply F1 6); exact rfl; exact EN; (exact fun w μc hw hse => llives_spec w μc hw (hm.mono hse.le) (hT.mono hse.le))) | refine KI ?_ | refine NB fun b => ?_ | ((refine KB ?_ ?_ <;> intro hp)) | refine KG ?_ | fail)
    all_goals exact ret_s rfl rfl rfl
  | true =>
    rw [hrt] at hrr
    rw [hin hrt] at hci
    repeat' (first | refine KO ?_ | ((with_reducible apply F1 10); exact rfl; exact EN; (exact fun w μc hw hse => hrr w μc hw hse.le)) | ((with_reducible apply F1 9); exact rfl; exact EN; (exact fun w μc hw hse => hci w μc hw hse.le)) | ((with_reducible apply F1 6); exact rfl; exact EN; (exact fun w μc hw hse => llives_spec w μc hw (hm.mono hse.le) (hT.mono hse.le))) | refine KI ?_ | refine NB fun b => ?_ | ((refine KB ?_ ?_ <;> intro hp)) | refine KG ?_ | fail)
    all_goals first | exact ret_s rfl rfl rfl | exact absurd rfl ‹¬_› | (exfalso; omega)
end Go.Proofs.YtfabmichdhbiaaaGreatDoor
