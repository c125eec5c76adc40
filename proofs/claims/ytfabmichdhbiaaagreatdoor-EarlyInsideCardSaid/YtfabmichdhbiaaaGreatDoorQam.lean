/- Package early: declare, walked. (and what leans on it). No statement of the seat is proved here. -/
import Derived.Test.YtfabmichdhbiaaaGreatDoorQal
import Derived.Test.YtfabmichdhbiaaaGreatDoorQaf
import Derived.Test.YtfabmichdhbiaaaGreatDoorQae
set_option maxRecDepth 20000
set_option maxHeartbeats 2000000
namespace Go.Vcg
open Go.RowKit Go.MapKept
section
variable {P : Program} {X : Ctx} {ops : Array Oper} {Q : Exit → Act → World → Prop} {rest : List Oper} {μ : Mem} {l : Slots} {L : List Bk} {w : World}
variable {ty : TypeId} {pos : String} {af : Array Edge} {gd : Option (Nat × Bool)}
theorem run_mapUpdate_old {t kt et : TypeId} {dk : TypeDesc} {b ck i : Nat} {es : List MapEntry} {k v old : Value} (ht : P.underlying t = some (.map kt et)) (hk : P.underlying kt = some dk) (hkey : IsKey dk k)
    (hb : w.heap[b]? = some (.map es.toArray ck)) (hf : Instr.findNow dk k es 0 = some (some (i, old))) (he : (es[i]?).map (·.key) = some k) : (Instr.mapUpdate t (.map (some b)) k v).run P w = .ok () { w with heap := w.heap.setIfInBounds b (.map (es.modify i fun e => { e with key := k, val := v }).toArray ck) } := by
  have h1 : (((es.toArray[i]?).map (·.key)).getD k) = k := by
    rw [List.getElem?_toArray, he]; rfl
  simp [Instr.mapUpdate, run_underlying ht, MapKept.run_getObj_map hb, MapKept.run_checkKey hk hkey, MapKept.run_findKey hk hf, MapKept.run_setObj_map _ hb]
  rw [List.getElem?_toArray] at h1
  simp only [h1]
  rw [MapKept.run_keyThatStays hkey]
  simp [MapKept.run_setObj_map _ hb]
theorem g_mapput {t kt et : TypeId} {dk : TypeDesc} {m k x : Operand} {b ck i0 : Nat} {es : List MapEntry} {kv v old : Value} {F : Mp → List Bk} {op : Op} (hop : op = .insert t m k x ∨ op = .mapUpdate t m k x) (hw : wants ops l ⟨none, op, ty, pos, af, gd⟩ = some true) (hm : ev l m = some (.map (some b))) (hk : ev l k = some kv) (hx : ev l x = some v)
    (ht : P.underlying t = some (.map kt et)) (hkt : P.underlying kt = some dk) (hkey : IsKey dk kv) (hu : UpM L b ⟨b, es, ck⟩ F) (hf : Instr.findNow dk kv es 0 = some (some (i0, old))) (he : (es[i0]?).map (·.key) = some kv)
    (h : G P X ops Q rest μ l (F ⟨b, es.modify i0 fun e => { e with key := kv, val := v }, ck⟩)) : G P X ops Q (⟨none, op, ty, pos, af, gd⟩ :: rest) μ l L :=
  g_wp hw fun a w hs => by
    obtain ⟨i, hi, _, hF⟩ := hu
    have hb : w.heap[b]? = some (.map es.toArray ck) := hs.own _ (nthB_mem hi)
    have e1 := hs.eval hm; have e2 := hs.eval hk; have e3 := hs.eval hx
    have e : (execOp a.eval ⟨none, op, ty, pos, af, gd⟩).run P w = .ok .skip { w with heap := w.heap.setIfInBounds b (.map (es.modify i0 fun e => { e with key := kv, val := v }).toArray ck) } := by
      generalize a.eval = ρ at e1 e2 e3
      rcases hop with rfl | rfl <;> simp [execOp, e1, e2, e3, run_mapUpdate_old ht hkt hkey hb hf he]
    unfold Oper.wp
    rw [e, Oper.upon_skip]
    have hlt := (Array.getElem?_eq_some_iff.1 hb).1
    have := hs.upd hi (y := .mp ⟨b, es.modify i0 fun e => { e with key := kv, val := v }, ck⟩) (w' := { w with heap := w.heap.setIfInBounds b (.map (es.modify i0 fun e => { e with key := kv, val := v }).toArray ck) }) rfl rfl rfl (by simp)
      (fun c hc hne => by
        have : b ≠ c := fun e => hne (by rw [e]; rfl)
        simp [Array.getElem?_setIfInBounds_ne this])
      (by show (w.heap.setIfInBounds b _)[b]? = _; rw [Array.getElem?_setIfInBounds_self_of_lt hlt])
      (fun c hc => .inl hc)
    rw [hF] at h
    exact h _ _ this
end
theorem gq_mpEq {X : Ctx} {Q : Exit → Act → World → Prop} {μ : Mem} {l : Slots} {L : List Bk} {ex : Exit} {b ck ck' : Nat} {es es' : List MapEntry} (i : Nat) (hi : nthB L i = some (.mp ⟨b, es, ck⟩)) (he : es = es') (hc : ck = ck') (h : GQ X Q ex μ l (updB L i (.mp ⟨b, es', ck'⟩))) : GQ X Q ex μ l L := by
  subst he hc
  rw [updB_id hi] at h
  exact h
end Go.Vcg
namespace Go.Proofs.YtfabmichdhbiaaaGreatDoor
open Go.RowKit Go.Vcg Go.MapKept
theorem look_mkD {P : Program} {et : TypeId} (hz : zeroT P et = some (.slice none 0 0)) (x : ByteArray) (fs : List FR) : ∃ ok, lookV P et (Instr.findNow .string (.string x) (mkD fs 0) 0) = some ((match idxD x fs 0 with | some (_, f) => f.v | none => .slice none 0 0), ok) := by
  rw [find_mkD]
  cases idxD x fs 0 with
  | none => exact ⟨false, by simp [lookV, hz]⟩
  | some p => exact ⟨true, rfl⟩
def DsV (μ : Mem) (v : Value) (ds : List (ED × Value)) : Prop := ∃ A c, v = .slice A ds.length c ∧ Sl encD 4 μ A ds.length ds
theorem flatD (l : List (ED × Value)) : (l.flatMap encD).length = l.length * 4 := flat_length (enc := encD) (s := 4) (fun _ => rfl) l
theorem DsV.of_row {μ : Mem} {f : FR} (h : Bk.sh (famRD f) μ) : DsV μ f.v f.ds := by
  obtain ⟨k, v, ds⟩ := f
  obtain ⟨A, c, e, hS⟩ := row_sl (enc := encD) (xs := ds) h rfl (by simp) rfl
  dsimp only at e hS ⊢
  subst e
  exact ⟨A, c, rfl, hS⟩
attribute [local irreducible] wdL anI famD mkD G GC GQ GA GAop Calls IntKind.wrap Int.decLt Int.decLe
theorem indexD_spec (f : FuncId) (cap : List Value) (q1 : ED → Bool) (l : List (ED × Value)) (A : Option Addr) (n c : Nat) (w : World) (μ : Mem) (hμ : MOk μ w) (hcal : callable Tryz.prog f = true) (hS : Sl encD 4 μ A n l) (ho1 : ∀ p ∈ l, p.2.oneCell' = true) (hn : n ≤ 1000000) (hf1 : ∀ (o : ED × Value) (w : World) (μ' : Mem), o ∈ l → MOk μ' w → MLe μ μ' → Calls Tryz.prog f ([Value.agg (encD o).toArray] ++ cap).toArray w fun e w' => e = .returned (.bool (q1 o.1)) ∧ Below w.heap.size w w') :
    Calls Tryz.prog 112 #[.slice A n c, .func (.func f) #[] cap.toArray] w fun e w' => e = .returned (.int .i64 (firstT (l.map fun o => q1 o.1))) ∧ Below w.heap.size w w' := by
  refine call_intro (args := [.slice A n c, .func (.func f) #[] cap.toArray]) Tryz.func112 rfl Tryz.ntmps112 (by simp) hμ ?_
  have hln : l.length = n := hS.1
  have hqn : (l.map fun o => q1 o.1).length = n := by rw [List.length_map]; exact hln
  repeat' (first | refine KK ?_ | ((refine KB ?_ ?_ <;> intro hp)) | refine KG ?_ | fail)
  refine gc_loop (ι := Nat) (fun k => k ≤ n ∧ ∀ (j : Nat) (q : Bool), j < k → (l.map fun o => q1 o.1)[j]? = some q → q = false) (fun k => n - k) (fun _ => μ) (fun k => [(8, .int .i64 k), (7, .int .i64 n), (6, .slice A n c), (0, .slice A n c), (1, .func (.func f) #[] cap.toArray)]) (fun _ => []) 0 ⟨by omega, fun j _ h => absurd h (by omega)⟩ (fun a w hs => J5 hs) ?_
  rintro k ⟨hk, hf⟩
  by_cases hlt : k < n
  · obtain ⟨ad, o, rfl, ho, hm⟩ := hS.get hlt
    have hqk : (l.map fun o => q1 o.1)[k]? = some (q1 o.1) := by rw [List.getElem?_map, ho]; rfl
    have hc := fun (w : World) (μc : Mem) (hw : MOk μc w) (hle : MLe μ μc) => hf1 o w μc (List.mem_of_getElem? ho) hw hle
    have hov := ho1 o (List.mem_of_getElem? ho)
    generalize q1 o.1 = q at hqk hc
    obtain ⟨d, dv⟩ := o
    have hm' : MCells μ (ad.add (k * 4)) [.bool d.lex, dv, .int .i64 d.par, .bool d.twice] := hm
    have hnext : q = false → ∀ (j : Nat) (q : Bool), j < k + 1 → (l.map fun o => q1 o.1)[j]? = some q → q = false := fun h j p hj hp => by
      rcases Nat.lt_or_ge j k with h1 | h1
      · exact hf j p h1 hp
      · obtain rfl : j = k := by omega
        rw [hqk] at hp
        cases hp
        exact h
    cases q
    · have hb := hnext rfl
      repeat' (first | refine KO ?_ | ((with_reducible apply C1); exact rfl; exact EN; exact fun w μc hw hse => hc w μc hw hse.le) | (refine KV (b := by first | exact U1 k | exact U4 hm') (c := ?_)) | refine KI ?_ | ((refine KB ?_ ?_ <;> intro hp)) | refine KG ?_ | fail)
      all_goals try (exfalso; first | omega | contradiction)
      all_goals exact J2 (k + 1) ⟨by omega, hb⟩ (by omega)
    · repeat' (first | refine KO ?_ | ((with_reducible apply C1); exact rfl; exact EN; exact fun w μc hw hse => hc w μc hw hse.le) | (refine KV (b := by first | exact U1 k | exact U4 hm') (c := ?_)) | refine KI ?_ | ((refine KB ?_ ?_ <;> intro hp)) | refine KG ?_ | fail)
      all_goals try (exfalso; first | omega | contradiction)
      all_goals refine ret_s rfl rfl ?_
      all_goals rw [firstT_at hqk hf]
  · repeat' (first | refine KK ?_ | ((refine KB ?_ ?_ <;> intro hp)) | refine KG ?_ | fail)
    all_goals try (exfalso; first | omega | contradiction)
    refine ret_s rfl rfl ?_
    rw [firstT_none (fun j q hj => hf j q (by have := (List.getElem?_eq_some_iff.1 hj).1; omega) hj)]
theorem containsD_spec (f : FuncId) (cap : List Value) (q1 : ED → Bool) (l : List (ED × Value)) (v : Value) (w : World) (μ : Mem) (hμ : MOk μ w) (hcal : callable Tryz.prog f = true) (hv : DsV μ v l) (ho1 : ∀ p ∈ l, p.2.oneCell' = true) (hn : l.length ≤ 1000000) (hf1 : ∀ (o : ED × Value) (w : World) (μ' : Mem), o ∈ l → MOk μ' w → MLe μ μ' → Calls Tryz.prog f ([Value.agg (encD o).toArray] ++ cap).toArray w fun e w' => e = .returned (.bool (q1 o.1)) ∧ Below w.heap.size w w') :
    Calls Tryz.prog 102 #[v, .func (.func f) #[] cap.toArray] w fun e w' => e = .returned (.bool ((l.map (·.1)).any q1)) ∧ Below w.heap.size w w' := by
  obtain ⟨A, c, rfl, hS⟩ := hv
  refine call_intro (args := [.slice A l.length c, .func (.func f) #[] cap.toArray]) Tryz.func102 rfl Tryz.ntmps102 (by simp) hμ ?_
  have h : decide (0 ≤ firstT (l.map fun o => q1 o.1)) = (l.map (·.1)).any q1 := by rw [firstT_any, List.any_map, List.any_map]; rfl
  rw [← h]
  repeat' (first | refine KO ?_ | ((with_reducible apply C1); exact rfl; exact EN; exact fun w μc hw hse => indexD_spec f cap q1 l A l.length c w μc hw hcal (hS.mono hse.le) ho1 hn (fun o w μ' h1 h2 h3 => hf1 o w μ' h1 h2 (hse.le.trans h3))) | refine KI ?_ | ((refine KB ?_ ?_ <;> intro hp)) | refine KG ?_ | fail)
  exact ret_s rfl rfl rfl
theorem declare1_spec (a d : ED) (av dv : Value) (bc : Nat) (w : World) (μ : Mem) (hμ : MOk μ w) (ha : IsV μ av a.ins) (hd : IsV μ dv d.ins) (hal : a.ins.length ≤ 100000) (hl : d.ins.length ≤ 100000) (hm : MCells μ ⟨bc, 0, none⟩ (encD (d, dv))) :
    Calls Tryz.prog 103 ([Value.agg (encD (a, av)).toArray] ++ [Value.pointer (some ⟨bc, 0, none⟩)]).toArray w fun e w' => e = .returned (.bool (clashE a d)) ∧ Below w.heap.size w w' := by
  have oa := ha.one
  have od := hd.one
  refine call_intro (args := [.agg (encD (a, av)).toArray, .pointer (some ⟨bc, 0, none⟩)]) Tryz.func103 rfl Tryz.ntmps103 (by simp) hμ ?_
  have hm' : MCells μ (Addr.mk bc 0 none) [.bool d.lex, dv, .int .i64 d.par, .bool d.twice] := hm
  repeat' (first | refine KO ?_ | ((with_reducible apply C1); exact rfl; exact EN; exact fun w μc hw hse => clash_spec a d av dv w μc hw (ha.mono hse.le) (hd.mono hse.le) hal hl) | (refine KV (b := by first | ((with_reducible apply v_load_shs); exact rfl; exact rfl; exact rfl; exact hm'; exact rfl)) (c := ?_)) | refine KI ?_ | refine NB fun b => ?_ | ((refine KB ?_ ?_ <;> intro hp)) | refine KG ?_ | fail)
  exact ret_s rfl rfl rfl
theorem famD_mem {fs : List FR} {f : FR} (h : f ∈ fs) : famRD f ∈ famD fs := by unfold famD; exact List.mem_map_of_mem h
theorem declare_spec (xb mb : Nat) (t : T) (u : Value) (hu : u.oneCell' = true) (x : ByteArray) (d : ED) (dv : Value) (s : ES) (μ : Mem) (hd : IsV μ dv d.ins) (hdl : d.ins.length ≤ 100000) (htot : totE s.names ≤ 1000000) :
    CEs 70 [.pointer (some ⟨xb, 0, none⟩), .agg (encT t u).toArray, .string x, .agg (encD (d, dv)).toArray] xb mb s (declE t.at' x d s) μ := by
  intro w fs hμ hR hO
  have hcnt := ids_count hO.diff
  have od := hd.one
  obtain ⟨ok, hlook⟩ := look_mkD (P := Tryz.prog) (et := 98) (by kernel_rfl) x fs
  have hget := getE_idx (x := x) (fs := fs) (i := 0)
  rw [← hR.1] at hget
  have hgl := getE_le x s.names
  obtain ⟨ds, lv, hlv, hds, hdo, hdb⟩ : ∃ (ds : List (ED × Value)) (lv : Value), (match idxD x fs 0 with | some (_, f) => f.v | none => .slice none 0 0) = lv ∧ ds.map (·.1) = getE x s.names ∧ (∀ p ∈ ds, IsV μ p.2 p.1.ins ∧ p.1.ins.length ≤ 100000) ∧ (∀ μc, MLe μ μc → (∀ y ∈ famD fs, Bk.sh y μc) → DsV μc lv ds) := by
    cases hix : idxD x fs 0 with
    | none =>
      rw [hix] at hget
      exact ⟨[], _, rfl, hget.symm, fun p hp => by simp at hp, fun μc _ _ => ⟨none, 0, rfl, Sl.nil _ _ _ _⟩⟩
    | some pf =>
      obtain ⟨p, f⟩ := pf
      rw [hix] at hget
      obtain ⟨-, h2, -⟩ := idxD_get hix
      have hf := List.mem_of_getElem? h2
      exact ⟨f.ds, _, rfl, hget.symm, hR.2 f hf, fun μc _ h => DsV.of_row (h _ (famD_mem hf))⟩
  rw [hlv] at hlook
  have hdn : ds.length ≤ 1000000 := by
    have h9 := congrArg List.length hds
    rw [List.length_map] at h9
    omega
  have hcon := fun (b : Nat) (w : World) (μc : Mem) (hw : MOk μc w) (hle : MLe μ μc) (hsh : ∀ y ∈ famD fs, Bk.sh y μc) (hc : MCells μc ⟨b, 0, none⟩ (encD (d, dv))) => containsD_spec 103 [.pointer (some ⟨b, 0, none⟩)] (fun o => clashE o d) ds lv w μc hw (by kernel_rfl) (hdb μc hle hsh) (fun p hp => (hdo p hp).1.one) hdn (fun o w μ' h1 h2 h3 => declare1_spec o.1 d o.2 dv b w μ' h2 ((hdo o h1).1.mono (hle.trans h3)) (hd.mono (hle.trans h3)) (hdo o h1).2 hdl (hc.mono h3))
  rw [hds] at hcon
  generalize hs' : declE t.at' x d s = s'
  unfold declE at hs'
  dsimp only at hs'
  generalize hq : ((getE x s.names).any fun o => clashE o d) = q at hcon hs'
  rw [badE_names] at hs'
  have hn1 := badE_names q t.at' 30 s
  refine call_introM (args := [.pointer (some ⟨xb, 0, none⟩), .agg (encT t u).toArray, .string x, .agg (encD (d, dv)).toArray]) Tryz.func70 rfl Tryz.ntmps70 (by simp) hμ hO ?_
  refine gc_LEq (EB_eq xb mb s fs) ?_
  repeat' (first | refine KK ?_ | refine NB fun b => ?_ | ((refine KB ?_ ?_ <;> intro hp)) | refine KG ?_ | fail)
  refine gc_draw 11 _ (by kernel_rfl) rfl (List.Sublist.cons _ (List.Sublist.cons_cons _ (List.nil_sublist _))) ?_
  all_goals refine DD 0 ?_
  all_goals (first | refine D1 1 ?_ | (refine DV (k := 1) (b := by first | ((with_reducible apply v_lookup); exact rfl; exact rfl; exact rfl; exact rfl; (first | exact trivial | exact rfl); (repeat first | with_reducible exact inm_hd | with_reducible apply inm_tl); exact hlook)) (c := ?_)) | (refine D3 1 (DW (b := by first | ((with_reducible apply v_lookup); exact rfl; exact rfl; exact rfl; exact rfl; (first | exact trivial | exact rfl); (repeat first | with_reducible exact inm_hd | with_reducible apply inm_tl); exact hlook)) (c := ?_))) | refine DD 1 ?_ | fail)
  all_goals refine DD 2 ?_
  all_goals refine DD 3 ?_
  all_goals (first | refine D1 4 ?_ | (refine DV (k := 4) (b := by first | ((with_reducible apply v_lookup); exact rfl; exact rfl; exact rfl; exact rfl; (first | exact trivial | exact rfl); (repeat first | with_reducible exact inm_hd | with_reducible apply inm_tl); exact hlook)) (c := ?_)) | refine DD 4 ?_ | fail)
  all_goals refine DD 6 ?_
  all_goals refine DD 8 ?_
  all_goals (first | (refine D3 5 ?_; (with_reducible apply gaop_val); exact rfl; exact rfl; exact rfl; exact rfl; (first | ((with_reducible apply pv_sound); exact rfl) | ((with_reducible apply v_lookup); exact rfl; exact rfl; exact rfl; exact rfl; (first | exact trivial | exact rfl); (repeat first | with_reducible exact inm_hd | with_reducible apply inm_tl); exact hlook) | ((with_reducible apply v_ld); exact rfl; (repeat first | with_reducible exact inb_hd | with_reducible apply inb_tl); exact rfl))))
  all_goals (first | (refine D3 7 ?_; (with_reducible apply gaop_val); exact rfl; exact rfl; exact rfl; exact rfl; (first | ((with_reducible apply pv_sound); exact rfl) | ((with_reducible apply v_lookup); exact rfl; exact rfl; exact rfl; exact rfl; (first | exact trivial | exact rfl); (repeat first | with_reducible exact inm_hd | with_reducible apply inm_tl); exact hlook) | ((with_reducible apply v_lookup); exact rfl; exact rfl; exact rfl; exact rfl; (first | exact trivial | exact rfl); (repeat first | with_reducible exact inm_hd | with_reducible apply inm_tl); exact rfl) | ((with_reducible apply v_lookup2); exact rfl; exact rfl; exact rfl; exact rfl; (first | exact trivial | exact rfl); (repeat first | with_reducible exact inm_hd | with_reducible apply inm_tl); exact rfl))))
  all_goals (first | (refine D3 9 ?_; refine D5 ?_; (first | ((with_reducible apply F1 102); exact rfl; exact EN; (exact fun w μc hw hse => hcon _ w μc hw hse.le (fun y hy => hse.own y (by repeat (first | exact hy | apply List.mem_cons_of_mem))) (sh_cells hse.hd (fun j v hj => lk_idx' hj)))) | (refine CF 39 ?_; (with_reducible apply g_ce 2); exact rfl; exact rfl; exact rfl; ((with_reducible apply e_call4); kernel_rfl; exact rfl; exact rfl; exact rfl; exact rfl); exact rfl; (exact hR); (exact bad_spec xb mb t _ hu _ _ _ _); (intro v1 μ1 i1 hle1 hR); (dsimp only [List.cons_append, List.nil_append]))); refine D9 ?_))
  all_goals (first | (refine D3 10 ?_; refine D5 ?_; (first | ((with_reducible apply F1 102); exact rfl; exact EN; (exact fun w μc hw hse => hcon _ w μc hw hse.le (fun y hy => hse.own y (by repeat (first | exact hy | apply List.mem_cons_of_mem))) (sh_cells hse.hd (fun j v hj => lk_idx' hj)))) | (refine CF 39 ?_; (with_reducible apply g_ce 2); exact rfl; exact rfl; exact rfl; ((with_reducible apply e_call4); kernel_rfl; exact rfl; exact rfl; exact rfl; exact rfl); exact rfl; (exact hR); (exact bad_spec xb mb t _ hu _ _ _ _); (intro v1 μ1 i1 hle1 hR); (dsimp only [List.cons_append, List.nil_append]))); refine D9 ?_))
  all_goals refine D8 ?_
  repeat' (first | refine KK ?_ | refine NB fun b => ?_ | ((refine KB ?_ ?_ <;> intro hp)) | refine KG ?_ | fail)
  generalize badE q t.at' 30 s = s1 at hs' hR hn1 ⊢
  refine gc_LEq (show _ = _ :: _ :: Bk.inl ⟨xb, 40, 4, [(0, .map (some mb)), (1, .int .i64 (s1.regs : Int)), (2, .int .i64 s1.at'), (3, .int .i64 s1.e)]⟩ :: .mp ⟨mb, mkD i1 0, i1.length⟩ :: famD i1 from rfl) ?_
  obtain ⟨ok2, hlook⟩ := look_mkD (P := Tryz.prog) (et := 98) (by kernel_rfl) x i1
  have hget2 := getE_idx (x := x) (fs := i1) (i := 0)
  rw [← hR.1, hn1] at hget2
  have hfd := find_mkD x i1 0 0
  cases hix : idxD x i1 0 with
  | some pf =>
    obtain ⟨p, f⟩ := pf
    rw [hix] at hlook hget2 hfd
    dsimp only [Option.map] at hlook hget2 hfd
    obtain ⟨-, hg2, hkey⟩ := idxD_get hix
    rw [Nat.sub_zero] at hg2
    have hplt := (List.getElem?_eq_some_iff.1 hg2).1
    have hfl : f.ds.length ≤ 1000000 := by
      have h9 := congrArg List.length hget2
      rw [List.length_map] at h9
      omega
    refine gc_perm (perm_take (F := [_, _, _, _]) (famD_get hg2)) ?_
    obtain ⟨R, hRR⟩ : ∃ R, (famD i1).eraseIdx p = R := ⟨_, rfl⟩
    rw [hRR]
    dsimp only [List.cons_append, List.nil_append, famRD]
    have e2 := flatD f.ds
    have e3 : ∀ v, (mkD i1 0).modify p (fun e => { e with key := .string x, val := v }) = mkD (i1.set p ⟨x, v, f.ds ++ [(d, dv)]⟩) 0 ∧ ((mkD i1 0)[p]?).map (·.key) = some (.string x) := fun v => mkD_set i1 0 p f ⟨x, v, f.ds ++ [(d, dv)]⟩ hg2 hkey.symm
    have hkp := (e3 undef).2
    refine gc_draw 15 _ (by kernel_rfl) rfl (List.Sublist.cons _ (List.Sublist.cons_cons _ (List.Sublist.cons _ (List.Sublist.cons_cons _ (List.nil_sublist _))))) ?_
    all_goals refine DD 0 ?_
    all_goals refine DD 1 ?_
    all_goals (first | refine D1 2 ?_ | (refine DV (k := 2) (b := by first | ((with_reducible apply v_lookup); exact rfl; exact rfl; exact rfl; exact rfl; (first | exact trivial | exact rfl); (repeat first | with_reducible exact inm_hd | with_reducible apply inm_tl); exact hlook)) (c := ?_)) | refine DD 2 ?_ | fail)
    all_goals (first | refine D1 3 ?_ | (refine DV (k := 3) (b := by first | ((with_reducible apply v_lookup); exact rfl; exact rfl; exact rfl; exact rfl; (first | exact trivial | exact rfl); (repeat first | with_reducible exact inm_hd | with_reducible apply inm_tl); exact hlook)) (c := ?_)) | (refine D3 3 (DW (b := by first | ((with_reducible apply v_lookup); exact rfl; exact rfl; exact rfl; exact rfl; (first | exact trivial | exact rfl); (repeat first | with_reducible exact inm_hd | with_reducible apply inm_tl); exact hlook)) (c := ?_))) | refine DD 3 ?_ | fail)
    all_goals refine DD 4 ?_
    all_goals refine DD 5 ?_
    all_goals refine DD 6 ?_
    all_goals (first | refine D1 7 ?_ | (refine DV (k := 7) (b := by first | ((with_reducible apply v_lookup); exact rfl; exact rfl; exact rfl; exact rfl; (first | exact trivial | exact rfl); (repeat first | with_reducible exact inm_hd | with_reducible apply inm_tl); exact hlook)) (c := ?_)) | refine DD 7 ?_ | fail)
    all_goals (first | refine D1 8 ?_ | (refine DV (k := 8) (b := by first | ((with_reducible apply v_lookup); exact rfl; exact rfl; exact rfl; exact rfl; (first | exact trivial | exact rfl); (repeat first | with_reducible exact inm_hd | with_reducible apply inm_tl); exact hlook)) (c := ?_)) | (refine D3 8 (DW (b := by first | ((with_reducible apply v_lookup); exact rfl; exact rfl; exact rfl; exact rfl; (first | exact trivial | exact rfl); (repeat first | with_reducible exact inm_hd | with_reducible apply inm_tl); exact hlook)) (c := ?_))) | refine DD 8 ?_ | fail)
    all_goals refine DD 9 ?_
    all_goals (first | refine D1 11 ?_ | (refine DV (k := 11) (b := by first | ((with_reducible apply v_lookup); exact rfl; exact rfl; exact rfl; exact rfl; (first | exact trivial | exact rfl); (repeat first | with_reducible exact inm_hd | with_reducible apply inm_tl); exact hlook)) (c := ?_)) | (refine D3 11 (DW (b := by first | ((with_reducible apply v_lookup); exact rfl; exact rfl; exact rfl; exact rfl; (first | exact trivial | exact rfl); (repeat first | with_reducible exact inm_hd | with_reducible apply inm_tl); exact hlook)) (c := ?_))) | refine DD 11 ?_ | fail)
    refine ga_all2 10 12 (by kernel_rfl) ?dr1_10 ?dr1_12
    case' dr1_10 =>
      (first | ((with_reducible apply gaop_val); exact rfl; exact rfl; exact rfl; exact rfl; (first | ((with_reducible apply pv_sound); exact rfl) | ((with_reducible apply v_lookup); exact rfl; exact rfl; exact rfl; exact rfl; (first | exact trivial | exact rfl); (repeat first | with_reducible exact inm_hd | with_reducible apply inm_tl); exact hlook) | ((with_reducible apply v_lookup); exact rfl; exact rfl; exact rfl; exact rfl; (first | exact trivial | exact rfl); (repeat first | with_reducible exact inm_hd | with_reducible apply inm_tl); exact rfl) | ((with_reducible apply v_lookup2); exact rfl; exact rfl; exact rfl; exact rfl; (first | exact trivial | exact rfl); (repeat first | with_reducible exact inm_hd | with_reducible apply inm_tl); exact rfl))))
      all_goals (first | (refine D3 12 ?_; refine D5 ?_; refine NB fun b => ?_; refine D9 ?_))
      all_goals (first | (refine D3 13 ?_; refine D5 ?_; (first | ((with_reducible apply g_ap); exact rfl; exact rfl; exact rfl; (repeat first | with_reducible exact rowup_hd | with_reducible apply rowup_tl); (iterate 6 exact rfl); (first | ((with_reducible apply src_in); exact rfl; (repeat first | with_reducible exact inb_hd | with_reducible apply inb_tl); exact rfl)); (first | exact rfl | omega | simp); (first | assumption | (exact ones_mem (by (repeat first | with_reducible exact ones_nil | ((with_reducible apply ones_cons); (first | exact rfl | assumption))))) | simp [Value.oneCell']); omega; omega; intro v) | ((with_reducible apply g_append0); (iterate 9 exact rfl); (first | ((with_reducible apply src_in); exact rfl; (repeat first | with_reducible exact inb_hd | with_reducible apply inb_tl); exact rfl)); (first | exact rfl | omega | simp); (first | assumption | (exact ones_mem (by (repeat first | with_reducible exact ones_nil | ((with_reducible apply ones_cons); (first | exact rfl | assumption))))) | simp [Value.oneCell']); omega; omega; intro v)); refine D9 ?_))
      all_goals (first | (refine D3 14 ?_; refine D5 ?_; (with_reducible apply g_mapput); (first | exact .inl rfl | exact .inr rfl); (iterate 6 exact rfl); (first | exact trivial | exact rfl); (repeat first | with_reducible exact upm_hd | with_reducible apply upm_tl); exact hfd; exact hkp; refine D9 ?_))
      all_goals refine D8 ?_
    case' dr1_12 =>
      (first | (refine D5 ?_; refine NB fun b => ?_; refine D9 ?_))
      all_goals (first | (refine D3 10 ?_; (with_reducible apply gaop_val); exact rfl; exact rfl; exact rfl; exact rfl; (first | ((with_reducible apply pv_sound); exact rfl) | ((with_reducible apply v_lookup); exact rfl; exact rfl; exact rfl; exact rfl; (first | exact trivial | exact rfl); (repeat first | with_reducible exact inm_hd | with_reducible apply inm_tl); exact hlook) | ((with_reducible apply v_lookup); exact rfl; exact rfl; exact rfl; exact rfl; (first | exact trivial | exact rfl); (repeat first | with_reducible exact inm_hd | with_reducible apply inm_tl); exact rfl) | ((with_reducible apply v_lookup2); exact rfl; exact rfl; exact rfl; exact rfl; (first | exact trivial | exact rfl); (repeat first | with_reducible exact inm_hd | with_reducible apply inm_tl); exact rfl))))
      all_goals (first | (refine D3 13 ?_; refine D5 ?_; (first | ((with_reducible apply g_ap); exact rfl; exact rfl; exact rfl; (repeat first | with_reducible exact rowup_hd | with_reducible apply rowup_tl); (iterate 6 exact rfl); (first | ((with_reducible apply src_in); exact rfl; (repeat first | with_reducible exact inb_hd | with_reducible apply inb_tl); exact rfl)); (first | exact rfl | omega | simp); (first | assumption | (exact ones_mem (by (repeat first | with_reducible exact ones_nil | ((with_reducible apply ones_cons); (first | exact rfl | assumption))))) | simp [Value.oneCell']); omega; omega; intro v) | ((with_reducible apply g_append0); (iterate 9 exact rfl); (first | ((with_reducible apply src_in); exact rfl; (repeat first | with_reducible exact inb_hd | with_reducible apply inb_tl); exact rfl)); (first | exact rfl | omega | simp); (first | assumption | (exact ones_mem (by (repeat first | with_reducible exact ones_nil | ((with_reducible apply ones_cons); (first | exact rfl | assumption))))) | simp [Value.oneCell']); omega; omega; intro v)); refine D9 ?_))
      all_goals (first | (refine D3 14 ?_; refine D5 ?_; (with_reducible apply g_mapput); (first | exact .inl rfl | exact .inr rfl); (iterate 6 exact rfl); (first | exact trivial | exact rfl); (repeat first | with_reducible exact upm_hd | with_reducible apply upm_tl); exact hfd; exact hkp; refine D9 ?_))
      all_goals refine D8 ?_
    all_goals repeat' (first | refine KK ?_ | refine NB fun b => ?_ | ((refine KB ?_ ?_ <;> intro hp)) | refine KG ?_ | fail)
    all_goals refine gq_selL (L' := _ :: _ :: _ :: R) (sel_1 (.refl _) (sel_3 (.refl _) (sel_3 (.refl _) (sel_drop _ (sel_drop _ (sel_drop _ (sel_all _))))))) ?_
    all_goals refine gq_mpEq (es' := mkD (i1.set p ⟨x, v, f.ds ++ [(d, dv)]⟩) 0) (ck' := (i1.set p ⟨x, v, f.ds ++ [(d, dv)]⟩).length) 2 rfl (e3 v).1 (by rw [List.length_set]) ?_
    all_goals refine gq_rowEq (n' := (f.ds ++ [(d, dv)]).length) (xs' := (f.ds ++ [(d, dv)]).flatMap encD) 0 rfl (by simp) (by rw [List.flatMap_append]; rfl) ?_
    all_goals dsimp only [updB]
    all_goals refine gq_perm (L' := .inl ⟨xb, 40, 4, [(0, .map (some mb)), (1, .int .i64 (s1.regs : Int)), (2, .int .i64 s1.at'), (3, .int .i64 s1.e)]⟩ :: .mp ⟨mb, mkD (i1.set p ⟨x, v, f.ds ++ [(d, dv)]⟩) 0, (i1.set p ⟨x, v, f.ds ++ [(d, dv)]⟩).length⟩ :: famD (i1.set p ⟨x, v, f.ds ++ [(d, dv)]⟩)) (by rw [famD_set, ← hRR]; exact perm_put (F := [_, _]) _ (by rw [famD_len]; exact hplt)) ?_
    all_goals exact ret_ce (s := { names := putE x (getE x s.names ++ [d]) s.names, regs := s1.regs, at' := s1.at', e := s1.e }) 0 (i1.set p ⟨x, v, f.ds ++ [(d, dv)]⟩) (.inr rfl) hcnt rfl rfl hs' ⟨by
      show putE x (getE x s.names ++ [d]) s.names = _
      have h9 := putE_old (v := v) (ds := f.ds ++ [(d, dv)]) (l := getE x s.names ++ [d]) hix (by rw [hget2, List.map_append]; rfl)
      rw [Nat.sub_zero, hkey, ← hR.1, hn1] at h9
      exact h9, fun f' hf' d' hd' => by
      rcases List.mem_or_eq_of_mem_set hf' with h9 | h9
      · exact hR.2 f' h9 d' hd'
      · subst h9
        rcases List.mem_append.1 hd' with h9 | h9
        · exact hR.2 f (List.mem_of_getElem? hg2) d' h9
        · rw [List.mem_singleton.1 h9]
          exact ⟨hd.mono hle1, hdl⟩⟩
  | none =>
    rw [hix] at hlook hget2 hfd
    dsimp only [Option.map] at hlook hget2 hfd
    refine gc_draw 15 _ (by kernel_rfl) rfl (List.Sublist.cons_cons _ (List.Sublist.cons _ (List.Sublist.cons_cons _ (List.nil_sublist _)))) ?_
    all_goals refine DD 0 ?_
    all_goals refine DD 1 ?_
    all_goals (first | refine D1 2 ?_ | (refine DV (k := 2) (b := by first | ((with_reducible apply v_lookup); exact rfl; exact rfl; exact rfl; exact rfl; (first | exact trivial | exact rfl); (repeat first | with_reducible exact inm_hd | with_reducible apply inm_tl); exact hlook)) (c := ?_)) | refine DD 2 ?_ | fail)
    all_goals (first | refine D1 3 ?_ | (refine DV (k := 3) (b := by first | ((with_reducible apply v_lookup); exact rfl; exact rfl; exact rfl; exact rfl; (first | exact trivial | exact rfl); (repeat first | with_reducible exact inm_hd | with_reducible apply inm_tl); exact hlook)) (c := ?_)) | (refine D3 3 (DW (b := by first | ((with_reducible apply v_lookup); exact rfl; exact rfl; exact rfl; exact rfl; (first | exact trivial | exact rfl); (repeat first | with_reducible exact inm_hd | with_reducible apply inm_tl); exact hlook)) (c := ?_))) | refine DD 3 ?_ | fail)
    all_goals refine DD 4 ?_
    all_goals refine DD 5 ?_
    all_goals refine DD 6 ?_
    all_goals (first | refine D1 7 ?_ | (refine DV (k := 7) (b := by first | ((with_reducible apply v_lookup); exact rfl; exact rfl; exact rfl; exact rfl; (first | exact trivial | exact rfl); (repeat first | with_reducible exact inm_hd | with_reducible apply inm_tl); exact hlook)) (c := ?_)) | refine DD 7 ?_ | fail)
    all_goals (first | refine D1 8 ?_ | (refine DV (k := 8) (b := by first | ((with_reducible apply v_lookup); exact rfl; exact rfl; exact rfl; exact rfl; (first | exact trivial | exact rfl); (repeat first | with_reducible exact inm_hd | with_reducible apply inm_tl); exact hlook)) (c := ?_)) | (refine D3 8 (DW (b := by first | ((with_reducible apply v_lookup); exact rfl; exact rfl; exact rfl; exact rfl; (first | exact trivial | exact rfl); (repeat first | with_reducible exact inm_hd | with_reducible apply inm_tl); exact hlook)) (c := ?_))) | refine DD 8 ?_ | fail)
    all_goals refine DD 9 ?_
    all_goals (first | refine D1 11 ?_ | (refine DV (k := 11) (b := by first | ((with_reducible apply v_lookup); exact rfl; exact rfl; exact rfl; exact rfl; (first | exact trivial | exact rfl); (repeat first | with_reducible exact inm_hd | with_reducible apply inm_tl); exact hlook)) (c := ?_)) | (refine D3 11 (DW (b := by first | ((with_reducible apply v_lookup); exact rfl; exact rfl; exact rfl; exact rfl; (first | exact trivial | exact rfl); (repeat first | with_reducible exact inm_hd | with_reducible apply inm_tl); exact hlook)) (c := ?_))) | refine DD 11 ?_ | fail)
    refine ga_all2 10 12 (by kernel_rfl) ?dr2_10 ?dr2_12
    case' dr2_10 =>
      (first | ((with_reducible apply gaop_val); exact rfl; exact rfl; exact rfl; exact rfl; (first | ((with_reducible apply pv_sound); exact rfl) | ((with_reducible apply v_lookup); exact rfl; exact rfl; exact rfl; exact rfl; (first | exact trivial | exact rfl); (repeat first | with_reducible exact inm_hd | with_reducible apply inm_tl); exact hlook) | ((with_reducible apply v_lookup); exact rfl; exact rfl; exact rfl; exact rfl; (first | exact trivial | exact rfl); (repeat first | with_reducible exact inm_hd | with_reducible apply inm_tl); exact rfl) | ((with_reducible apply v_lookup2); exact rfl; exact rfl; exact rfl; exact rfl; (first | exact trivial | exact rfl); (repeat first | with_reducible exact inm_hd | with_reducible apply inm_tl); exact rfl))))
      all_goals (first | (refine D3 12 ?_; refine D5 ?_; refine NB fun b => ?_; refine D9 ?_))
      all_goals (first | (refine D3 13 ?_; refine D5 ?_; (first | ((with_reducible apply g_ap); exact rfl; exact rfl; exact rfl; (repeat first | with_reducible exact rowup_hd | with_reducible apply rowup_tl); (iterate 6 exact rfl); (first | ((with_reducible apply src_in); exact rfl; (repeat first | with_reducible exact inb_hd | with_reducible apply inb_tl); exact rfl)); (first | exact rfl | omega | simp); (first | assumption | (exact ones_mem (by (repeat first | with_reducible exact ones_nil | ((with_reducible apply ones_cons); (first | exact rfl | assumption))))) | simp [Value.oneCell']); omega; omega; intro v) | ((with_reducible apply g_append0); (iterate 9 exact rfl); (first | ((with_reducible apply src_in); exact rfl; (repeat first | with_reducible exact inb_hd | with_reducible apply inb_tl); exact rfl)); (first | exact rfl | omega | simp); (first | assumption | (exact ones_mem (by (repeat first | with_reducible exact ones_nil | ((with_reducible apply ones_cons); (first | exact rfl | assumption))))) | simp [Value.oneCell']); omega; omega; intro v)); refine D9 ?_))
      all_goals (first | (refine D3 14 ?_; refine D5 ?_; (with_reducible apply g_mapset); (first | exact .inl rfl | exact .inr rfl); (iterate 6 exact rfl); (first | exact trivial | exact rfl); (repeat first | with_reducible exact upm_hd | with_reducible apply upm_tl); exact hfd; refine D9 ?_))
      all_goals refine D8 ?_
    case' dr2_12 =>
      (first | (refine D5 ?_; refine NB fun b => ?_; refine D9 ?_))
      all_goals (first | (refine D3 10 ?_; (with_reducible apply gaop_val); exact rfl; exact rfl; exact rfl; exact rfl; (first | ((with_reducible apply pv_sound); exact rfl) | ((with_reducible apply v_lookup); exact rfl; exact rfl; exact rfl; exact rfl; (first | exact trivial | exact rfl); (repeat first | with_reducible exact inm_hd | with_reducible apply inm_tl); exact hlook) | ((with_reducible apply v_lookup); exact rfl; exact rfl; exact rfl; exact rfl; (first | exact trivial | exact rfl); (repeat first | with_reducible exact inm_hd | with_reducible apply inm_tl); exact rfl) | ((with_reducible apply v_lookup2); exact rfl; exact rfl; exact rfl; exact rfl; (first | exact trivial | exact rfl); (repeat first | with_reducible exact inm_hd | with_reducible apply inm_tl); exact rfl))))
      all_goals (first | (refine D3 13 ?_; refine D5 ?_; (first | ((with_reducible apply g_ap); exact rfl; exact rfl; exact rfl; (repeat first | with_reducible exact rowup_hd | with_reducible apply rowup_tl); (iterate 6 exact rfl); (first | ((with_reducible apply src_in); exact rfl; (repeat first | with_reducible exact inb_hd | with_reducible apply inb_tl); exact rfl)); (first | exact rfl | omega | simp); (first | assumption | (exact ones_mem (by (repeat first | with_reducible exact ones_nil | ((with_reducible apply ones_cons); (first | exact rfl | assumption))))) | simp [Value.oneCell']); omega; omega; intro v) | ((with_reducible apply g_append0); (iterate 9 exact rfl); (first | ((with_reducible apply src_in); exact rfl; (repeat first | with_reducible exact inb_hd | with_reducible apply inb_tl); exact rfl)); (first | exact rfl | omega | simp); (first | assumption | (exact ones_mem (by (repeat first | with_reducible exact ones_nil | ((with_reducible apply ones_cons); (first | exact rfl | assumption))))) | simp [Value.oneCell']); omega; omega; intro v)); refine D9 ?_))
      all_goals (first | (refine D3 14 ?_; refine D5 ?_; (with_reducible apply g_mapset); (first | exact .inl rfl | exact .inr rfl); (iterate 6 exact rfl); (first | exact trivial | exact rfl); (repeat first | with_reducible exact upm_hd | with_reducible apply upm_tl); exact hfd; refine D9 ?_))
      all_goals refine D8 ?_
    all_goals repeat' (first | refine KK ?_ | refine NB fun b => ?_ | ((refine KB ?_ ?_ <;> intro hp)) | refine KG ?_ | fail)
    all_goals refine gq_selL (L' := _ :: _ :: _ :: famD i1) (sel_0 (.refl _) (sel_3 (.refl _) (sel_3 (.refl _) (sel_drop _ (sel_drop _ (sel_drop _ (sel_all _))))))) ?_
    all_goals refine gq_mpEq (es' := mkD (i1 ++ [(⟨x, v, [(d, dv)]⟩ : FR)]) 0) (ck' := (i1 ++ [(⟨x, v, [(d, dv)]⟩ : FR)]).length) 2 rfl (by rw [mkD_app, Nat.zero_add]) (by simp) ?_
    all_goals dsimp only [updB]
    all_goals refine gq_perm (L' := .inl ⟨xb, 40, 4, [(0, .map (some mb)), (1, .int .i64 (s1.regs : Int)), (2, .int .i64 s1.at'), (3, .int .i64 s1.e)]⟩ :: .mp ⟨mb, mkD (i1 ++ [(⟨x, v, [(d, dv)]⟩ : FR)]) 0, (i1 ++ [(⟨x, v, [(d, dv)]⟩ : FR)]).length⟩ :: famD (i1 ++ [(⟨x, v, [(d, dv)]⟩ : FR)])) (by rw [famD_app]; exact List.perm_append_singleton _ (_ :: _ :: famD i1)) ?_
    all_goals exact ret_ce (s := { names := putE x (getE x s.names ++ [d]) s.names, regs := s1.regs, at' := s1.at', e := s1.e }) 0 (i1 ++ [(⟨x, v, [(d, dv)]⟩ : FR)]) (.inr rfl) hcnt rfl rfl hs' ⟨by
      show putE x (getE x s.names ++ [d]) s.names = _
      have h9 := putE_new (v := v) (ds := [(d, dv)]) (l := getE x s.names ++ [d]) hix (by rw [hget2]; rfl)
      rw [← hR.1, hn1] at h9
      exact h9, fun f' hf' d' hd' => by
      rcases List.mem_append.1 hf' with h9 | h9
      · exact hR.2 f' h9 d' hd'
      · rw [List.mem_singleton.1 h9] at hd'
        rw [List.mem_singleton.1 hd']
        exact ⟨hd.mono hle1, hdl⟩⟩
end Go.Proofs.YtfabmichdhbiaaaGreatDoor
namespace Go.Proofs.YtfabmichdhbiaaaGreatDoor
open Go.RowKit Go.Vcg Ou
theorem sl_encB {μ : Mem} {A : Option Addr} {n : Nat} {l : List ByteArray} (h : Sl encStr 1 μ A n l) : Sl encB 1 μ A n (l.map bl) := by
  refine ⟨by rw [List.length_map]; exact h.1, fun hp => ?_⟩
  obtain ⟨a, e, f⟩ := h.2 hp
  refine ⟨a, e, fun i x hx => ?_⟩
  rw [List.getElem?_map] at hx
  cases hy : l[i]? with
  | none => rw [hy] at hx; cases hx
  | some y =>
    rw [hy] at hx
    cases hx
    have h2 := f i y hy
    have e2 : encB (bl y) = encStr y := by
      show [Value.string (ofB (bl y))] = _
      rw [ofB_bl]
    rw [e2]
    exact h2
theorem one_contains (s : ByteArray) (l : List ByteArray) : oneT s (l.map bl) = l.contains s := by
  induction l with
  | nil => rfl
  | cons y r ih =>
    unfold oneT eqsT at ih ⊢
    simp only [List.map_cons, List.any_cons, id_eq, List.contains_cons] at ih ⊢
    rw [ih]
    have : (⟨(bl y).toArray⟩ : ByteArray) = y := ofB_bl y
    rw [ba_beq, this]
structure PB (p : EP) (n : Nat) : Prop where
  ne : 0 < p.regs.length
  regs : p.regs.length + n ≤ 90000
  labels : p.labels.length + n ≤ 90000
  loops : p.loops.length + p.mine.length ≤ p.labels.length
def SB (s : ES) (n : Nat) : Prop := s.regs + totE s.names + 2 * n ≤ 900000
theorem SB.bad {s : ES} {n : Nat} (h : SB s n) (c : Bool) (a e : Int) : SB (badE c a e s) n := by
  unfold SB at h ⊢
  rw [badE_names, badE_regs]
  exact h
theorem SB.gr {F : ByteArray → Prop} {s s' : ES} {n m : Nat} (h : SB s (n + m)) (hg : Gr F (2 * n) s s') : SB s' m := by
  unfold SB at h ⊢
  have := hg.wt
  omega
theorem SB.mono {s : ES} {n m : Nat} (h : SB s n) (hm : m ≤ n) : SB s m := by unfold SB at h ⊢; omega
theorem PB.mono {p : EP} {n m : Nat} (h : PB p n) (hm : m ≤ n) : PB p m := ⟨h.ne, by have := h.regs; omega, by have := h.labels; omega, h.loops⟩
def NCk (N : T → EP → ES → ES) (k : T) : Prop := ∀ (xb mb : Nat) (u pv : Value) (p : EP) (s : ES) (μ : Mem), KR μ k.kids u → PV μ p pv → PB p k.size → SB s k.size → MaxQ μ →
  CEs 18 [.pointer (some ⟨xb, 0, none⟩), .agg (encT k u).toArray, pv] xb mb s (N k p s) μ
def BCk (B : T → EP → ED → ES → ES) (k : T) : Prop := ∀ (xb mb : Nat) (u pv dv : Value) (p : EP) (d : ED) (s : ES) (μ : Mem), KR μ k.kids u → PV μ p pv → IsV μ dv d.ins → d.ins.length ≤ 100000 → PB p k.size → SB s k.size → MaxQ μ →
  CEs 34 [.pointer (some ⟨xb, 0, none⟩), .agg (encT k u).toArray, pv, .agg (encD (d, dv)).toArray] xb mb s (B k p d s) μ
abbrev FF : ByteArray → Prop := fun _ => False
def NG (N : T → EP → ES → ES) (k : T) : Prop := ∀ (p : EP) (s : ES), Gr FF (2 * k.size) s (N k p s)
def BG (B : T → EP → ED → ES → ES) (k : T) : Prop := ∀ (p : EP) (d : ED) (s : ES), Gr FF (2 * k.size) s (B k p d s)
theorem fold_take {α : Type} (g : ES → α → ES) (l : List α) (s : ES) {i : Nat} {k : α} (h : l[i]? = some k) : (l.take (i + 1)).foldl g s = g ((l.take i).foldl g s) k := by
  rw [List.take_add_one, List.foldl_append, h]
  rfl
theorem szs_take {l : List T} {i : Nat} {k : T} (h : l[i]? = some k) : szs (l.take i) + k.size ≤ szs l := by
  obtain ⟨h1, h2⟩ := List.getElem?_eq_some_iff.1 h
  have e : szs l = szs (l.take i) + szs (l.drop i) := by rw [← szs_app, List.take_append_drop]
  rw [List.drop_eq_getElem_cons h1, szs_cons, h2] at e
  omega
attribute [local irreducible] wdL anI famD mkD G GC GQ GA GAop Calls IntKind.wrap Int.decLt Int.decLe
theorem econtains_spec (s : ByteArray) (l : List ByteArray) (v : Value) (w : World) (μ : Mem) (hμ : MOk μ w) (hv : SsV μ v l) (hn : l.length ≤ 100000) :
    Calls Tryz.prog 40 #[v, .string s] w fun e w' => e = .returned (.bool (l.contains s)) ∧ Below w.heap.size w w' := by
  obtain ⟨A, c, rfl, hS, -⟩ := hv
  rw [← one_contains]
  exact containsS_spec s (l.map bl) A l.length c w μ hμ (sl_encB hS) hn
theorem eall_spec (N : T → EP → ES → ES) (l : List T) (lv pv : Value) (p : EP) (s : ES) (μ : Mem) (xb mb : Nat) (hN : ∀ k ∈ l, NCk N k ∧ NG N k) (hk : KR μ l lv) (hp : PV μ p pv) (hB : ∀ k ∈ l, PB p k.size) (hS : SB s (szs l)) (hl : l.length ≤ 100000) (hm : MaxQ μ) :
    CEs 13 [.pointer (some ⟨xb, 0, none⟩), lv, pv] xb mb s (allE N l p s) μ := by
  intro w fs hμ hR hO
  have hcnt := ids_count hO.diff
  have hp0 := hp
  obtain ⟨r, lb, lo, mi, rfl, hpr, hplb, hplo, hpmi⟩ := hp
  have o1 := hpr.one
  have o2 := hplb.one
  have o3 := hplo.one
  have o4 := hpmi.one
  obtain ⟨A, c, rfl, hcap, hget⟩ := hk.form
  refine call_introM (args := [.pointer (some ⟨xb, 0, none⟩), .slice A l.length c, .agg (encPl p r lb lo mi).toArray]) Tryz.func13 rfl Tryz.ntmps13 (by simp) hμ hO ?_
  repeat' (first | refine KK ?_ | refine NB fun b => ?_ | ((refine KB ?_ ?_ <;> intro hp)) | refine KG ?_ | fail)
  obtain ⟨bp, hbp⟩ : ∃ y, y = b := ⟨_, rfl⟩
  rw [← hbp]
  clear hbp
  refine gc_loop (ι := Nat × Mem × List FR) (fun q => q.1 ≤ l.length ∧ MLe μ q.2.1 ∧ ER q.2.1 q.2.2 (allE N (l.take q.1) p s)) (fun q => l.length - q.1) (fun q => q.2.1) (fun q => [(10, .int .i64 (q.1 : Int)), (9, .int .i64 (l.length : Int)), (8, .slice A l.length c), (5, .pointer (some ⟨bp, 0, none⟩)), (0, .pointer (some ⟨xb, 0, none⟩))]) (fun q => .inl ⟨bp, 47, 12, idx 0 (encPl p r lb lo mi)⟩ :: EB xb mb (allE N (l.take q.1) p s) q.2.2) (0, μ, fs) ⟨Nat.zero_le _, MLe.refl _, hR⟩ (fun a w hs => hs.sel PU (sel_all _)) ?_
  rintro ⟨i, μ0, fs0⟩ ⟨hi, hle, hR⟩
  dsimp only at hi hle hR ⊢
  by_cases hlt : i < l.length
  · obtain ⟨k, hkk⟩ : ∃ k, l[i]? = some k := ⟨_, List.getElem?_eq_getElem hlt⟩
    obtain ⟨ad, x, rfl, hm0, hox, hkx⟩ := hget i k hkk
    have hmm := hm0.mono hle
    have hmem := List.mem_of_getElem? hkk
    obtain ⟨hn1, -⟩ := hN k hmem
    have hsz := szs_take hkk
    have hgr := gr_all (F := FF) (l.take i) (fun k hk => (hN k (List.mem_of_mem_take hk)).2) p s
    have hsb := SB.gr (hS.mono hsz) hgr
    have hnext : N k p (allE N (l.take i) p s) = allE N (l.take (i + 1)) p s := (fold_take (fun s k => N k p s) l s hkk).symm
    repeat' (first | refine KO ?_ | (refine CF 18 ?_; (with_reducible apply g_ce 2); exact rfl; exact rfl; exact rfl; ((with_reducible apply e_call3); kernel_rfl; exact rfl; exact rfl; exact rfl); exact rfl; (exact hR); (exact hn1 xb mb _ _ p _ _ (hkx.mono hle) (hp0.mono hle) (hB k hmem) hsb (hm.mono hle)); (intro v1 μ1 i1 hle1 hR); (dsimp only [List.cons_append, List.nil_append])) | (refine KV (b := by first | exact U1 i | exact U4 hmm) (c := ?_)) | refine KI ?_ | refine NB fun b => ?_ | ((refine KB ?_ ?_ <;> intro hp)) | refine KG ?_ | fail)
    all_goals try (exfalso; first | omega | contradiction)
    rw [hnext] at hR ⊢
    exact gq_backS (i + 1, μ1, i1) ⟨by dsimp only; omega, hle.trans hle1, hR⟩ (by dsimp only; omega) rfl PU (sel_1 (.refl _) (sel_drop _ (sel_all _)))
  · have hil : i = l.length := by omega
    subst hil
    rw [List.take_of_length_le (Nat.le_refl _)] at hR ⊢
    repeat' (first | refine KK ?_ | refine NB fun b => ?_ | ((refine KB ?_ ?_ <;> intro hp)) | refine KG ?_ | fail)
    all_goals try (exfalso; first | omega | contradiction)
    all_goals exact ret_ce 1 fs0 (by first | exact .inr rfl | exact .inl rfl) hcnt rfl rfl rfl hR
theorem ealone_spec (N : T → EP → ES → ES) (t : T) (hN : NCk N t) (u pv : Value) (p : EP) (s : ES) (μ : Mem) (xb mb : Nat) (hk : KR μ t.kids u) (hp : PV μ p pv) (hB : PB p t.size) (hS : SB s t.size) (hm : MaxQ μ) :
    CEs 37 [.pointer (some ⟨xb, 0, none⟩), .agg (encT t u).toArray, pv] xb mb s (aloneE N t p s) μ := by
  intro w fs hμ hR hO
  have hcnt := ids_count hO.diff
  have hp0 := hp
  obtain ⟨r, lb, lo, mi, rfl, hpr, hplb, hplo, hpmi⟩ := hp
  have o1 := hpr.one
  have o2 := hplb.one
  have o3 := hplo.one
  have o4 := hpmi.one
  have ou := hk.one
  generalize hs' : aloneE N t p s = s'
  unfold aloneE at hs'
  have hbit := fun (w : World) (μc : Mem) (hw : MOk μc w) => bit_spec t.n 1 w μc hw
  generalize bitE t.n 1 = b1 at hbit hs'
  refine call_introM (args := [.pointer (some ⟨xb, 0, none⟩), .agg (encT t u).toArray, .agg (encPl p r lb lo mi).toArray]) Tryz.func37 rfl Tryz.ntmps37 (by simp) hμ hO ?_
  repeat' (first | refine KK ?_ | refine NB fun b => ?_ | ((refine KB ?_ ?_ <;> intro hp)) | refine KG ?_ | fail)
  refine gc_draw 26 _ (by kernel_rfl) rfl (List.Sublist.cons _ (List.Sublist.cons_cons _ (List.nil_sublist _))) ?_
  all_goals refine DD 0 ?_
  all_goals refine DD 1 ?_
  all_goals refine DD 2 ?_
  all_goals refine DD 3 ?_
  all_goals refine DD 4 ?_
  all_goals refine DD 5 ?_
  all_goals (try (refine D7 6 ?_; (repeat' (first | refine KO ?_ | (refine KB ?_ ?_ <;> intro hp)))))
  all_goals refine DD 6 ?_
  all_goals refine DD 7 ?_
  all_goals (first | (refine D3 8 ?_; refine D5 ?_; (first | ((with_reducible apply F1 68); exact rfl; exact EN; (exact fun w μc hw hse => hbit w μc hw)) | (refine CF 39 ?_; (with_reducible apply g_ce 2); exact rfl; exact rfl; exact rfl; ((with_reducible apply e_call4); kernel_rfl; exact rfl; exact rfl; exact rfl; exact rfl); exact rfl; (exact hR); (exact bad_spec xb mb t _ ou _ _ _ _); (intro v1 μ1 i1 hle1 hR); (dsimp only [List.cons_append, List.nil_append]); (have hk := hk.mono hle1); (have hp0 := hp0.mono hle1); (have hm := hm.mono hle1))); refine D9 ?_) | refine D3 8 (D6 ?_))
  all_goals refine DD 9 ?_
  all_goals refine DD 10 ?_
  all_goals (try (refine D7 11 ?_; (repeat' (first | refine KO ?_ | (refine KB ?_ ?_ <;> intro hp)))))
  all_goals refine DD 11 ?_
  all_goals refine DD 12 ?_
  all_goals refine DD 13 ?_
  all_goals refine DD 14 ?_
  all_goals (try (refine D7 15 ?_; (repeat' (first | refine KO ?_ | (refine KB ?_ ?_ <;> intro hp)))))
  all_goals refine DD 15 ?_
  all_goals refine DD 16 ?_
  all_goals refine DD 17 ?_
  all_goals refine DD 18 ?_
  all_goals (try (refine D7 19 ?_; (repeat' (first | refine KO ?_ | (refine KB ?_ ?_ <;> intro hp)))))
  all_goals refine DD 19 ?_
  all_goals refine DD 20 ?_
  all_goals refine DD 21 ?_
  all_goals refine DD 22 ?_
  all_goals refine DD 23 ?_
  all_goals refine DD 24 ?_
  all_goals (first | (refine D3 25 ?_; refine D5 ?_; (first | ((with_reducible apply F1 68); exact rfl; exact EN; (exact fun w μc hw hse => hbit w μc hw)) | (refine CF 39 ?_; (with_reducible apply g_ce 2); exact rfl; exact rfl; exact rfl; ((with_reducible apply e_call4); kernel_rfl; exact rfl; exact rfl; exact rfl; exact rfl); exact rfl; (exact hR); (exact bad_spec xb mb t _ ou _ _ _ _); (intro v1 μ1 i1 hle1 hR); (dsimp only [List.cons_append, List.nil_append]); (have hk := hk.mono hle1); (have hp0 := hp0.mono hle1); (have hm := hm.mono hle1))); refine D9 ?_))
  all_goals refine D8 ?_
  all_goals try (exfalso; first | omega | contradiction)
  all_goals repeat' (first | refine KO ?_ | (refine CF 18 ?_; (with_reducible apply g_ce 2); exact rfl; exact rfl; exact rfl; ((with_reducible apply e_call3); kernel_rfl; exact rfl; exact rfl; exact rfl); exact rfl; (exact hR); (exact hN xb mb _ _ p _ _ hk hp0 hB (hS.bad _ _ _) hm); (intro v1 μ1 i1 hle1 hR); (dsimp only [List.cons_append, List.nil_append])) | refine KI ?_ | refine NB fun b => ?_ | ((refine KB ?_ ?_ <;> intro hp)) | refine KG ?_ | fail)
  all_goals exact ret_ce 2 i1 (by first | exact .inr rfl | exact .inl rfl) hcnt rfl rfl (by rw [← hs']; simp_all) hR
theorem eround_spec (N : T → EP → ES → ES) (t : T) (hN : NCk N t) (u pv mv : Value) (p : EP) (mine : List ByteArray) (s : ES) (μ : Mem) (xb mb : Nat) (hk : KR μ t.kids u) (hp : PV μ p pv) (hmv : SsV μ mv mine) (hB : PB { p with loops := p.loops ++ mine } t.size) (hS : SB s t.size) (hm : MaxQ μ) :
    CEs 72 [.pointer (some ⟨xb, 0, none⟩), .agg (encT t u).toArray, pv, mv] xb mb s (roundE N t p mine s) μ := by
  intro w fs hμ hR hO
  have hcnt := ids_count hO.diff
  have hp0 := hp
  obtain ⟨r, lb, lo, mi, rfl, hpr, hplb, hplo, hpmi⟩ := hp
  have o1 := hpr.one
  have o2 := hplb.one
  have o3 := hplo.one
  have o4 := hpmi.one
  have ou := hk.one
  obtain ⟨A, c, rfl, hSm, hcm⟩ := hmv
  have hll := hB.loops
  have hla := hB.labels
  dsimp only at hll hla
  rw [List.length_append] at hll
  have e1 : (p.loops.flatMap encStr).length = p.loops.length := flatS p.loops
  have e2 := ones_S p.loops
  have e3 : (mine.flatMap encStr).length = mine.length := flatS mine
  have e4 := ones_S mine
  refine call_introM (args := [.pointer (some ⟨xb, 0, none⟩), .agg (encT t u).toArray, .agg (encPl p r lb lo mi).toArray, .slice A mine.length c]) Tryz.func72 rfl Tryz.ntmps72 (by simp) hμ hO ?_
  repeat' (first | ((with_reducible show GC _ _ (Code.region 3 _ _) _ _ _ _); (apply gc_stop)) | refine KO ?_ | ((with_reducible apply F3 41); exact rfl; exact EN; (exact fun w μc hw hse => clone_S w μc hw p.loops lo (hplo.mono hse.le) (by omega)); intro vr) | (refine AX (S := by (with_reducible apply src_sh); exact rfl; exact hSm; simp) (A := by rw [e3, Nat.mul_one]) (O := e4) (k := fun v => ?_); (with_reducible apply g_rowOk 0); exact rfl; (rintro A1 c1 rfl hok1)) | refine KI ?_ | refine NB fun b => ?_ | ((refine KB ?_ ?_ <;> intro hp)) | refine KG ?_ | fail)
  refine gcs (gc_share_0 rfl ?_)
  intro μ4 hle4 hsh4
  have hv := SsV.of_row (xs := p.loops ++ mine) hsh4 (by simp) (by rw [List.flatMap_append])
  have hp4 : PV μ4 { p with loop := true, loops := p.loops ++ mine } (.agg (encPl { p with loop := true, loops := p.loops ++ mine } r lb (.slice A1 (p.loops.length + mine.length) c1) mi).toArray) := ⟨_, _, _, _, rfl, hpr.mono hle4, hplb.mono hle4, hv, hpmi.mono hle4⟩
  have hR := hR.mono hle4
  repeat' (first | refine KO ?_ | (refine CF 37 ?_; (with_reducible apply g_ce 2); exact rfl; exact rfl; exact rfl; ((with_reducible apply e_call3); kernel_rfl; exact rfl; exact rfl; exact rfl); exact rfl; (exact hR); (exact ealone_spec N t hN _ _ { p with loop := true, loops := p.loops ++ mine } _ _ xb mb (hk.mono hle4) hp4 ⟨hB.ne, hB.regs, hB.labels, hB.loops⟩ hS (hm.mono hle4)); (intro v1 μ1 i1 hle1 hR); (dsimp only [List.cons_append, List.nil_append])) | refine KI ?_ | refine NB fun b => ?_ | ((refine KB ?_ ?_ <;> intro hp)) | refine KG ?_ | fail)
  exact ret_ce 2 i1 (by first | exact .inr rfl | exact .inl rfl) hcnt rfl rfl rfl hR
end Go.Proofs.YtfabmichdhbiaaaGreatDoor
