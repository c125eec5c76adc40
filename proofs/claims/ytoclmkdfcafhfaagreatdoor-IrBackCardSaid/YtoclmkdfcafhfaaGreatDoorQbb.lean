/- Package ir: the reader's node, walked. -/
import Derived.Test.YtoclmkdfcafhfaaGreatDoorQba
set_option maxRecDepth 20000
set_option maxHeartbeats 2000000
namespace Go.Proofs.YtoclmkdfcafhfaaGreatDoor
open Go.RowKit Go.Vcg Ou
abbrev RiN (M : List Nat) (w : World) (μ : Mem) (rb : Nat) (s : List UInt8) (m : Nat) (P : Mem → Value → Int × Int × Int → Prop) (en : Ending) (w' : World) : Prop := ∃ (r : Value) (μ' : Mem) (i : Int × Int × Int), en = .returned r ∧ BackM M w w' μ (rdI rb (s, i.1, i.2.1, i.2.2, m)) μ' ∧ P μ' r i
def NodeP (s : List UInt8) (R : Iq.RdR T) (μ : Mem) (v : Value) (i : Int × Int × Int) : Prop := match R with
  | .ok (t, r, k') => (∃ a : Nat, i = ((a : Int), k', 0) ∧ a ≤ s.length ∧ s.drop a = r ∧ (0 ≤ k' ∧ k' ≤ a)) ∧ TV μ t v ∧ AllT qN t
  | .error (k', c) => i.2.1 = k' ∧ i.2.2 = c ∧ c ≠ 0 ∧ ∃ t u, v = .agg (encT t u).toArray ∧ u.oneCell' = true
theorem nodeR_none {f : Nat} {deep line : Int} {u : List UInt8} (h : Ou.cutB 10 u = none) : Iq.nodeR opOf (f + 1) deep line u = .error (line + 1, 8) := by
  unfold Iq.nodeR; rw [h]
theorem nodeR_bad {f : Nat} {deep line : Int} {u x r : List UInt8} (h : Ou.cutB 10 u = some (x, r)) (h2 : Iq.lineN opOf x = none) : Iq.nodeR opOf (f + 1) deep line u = .error (line + 1, 7) := by
  unfold Iq.nodeR; rw [h]; dsimp only; rw [h2]
theorem nodeR_deep {f : Nat} {deep line : Int} {u x r : List UInt8} {p : Int × Int × Int × Nat × List UInt8} (h : Ou.cutB 10 u = some (x, r)) (h2 : Iq.lineN opOf x = some p) (h3 : 2048 < deep) : Iq.nodeR opOf (f + 1) deep line u = .error (line + 1, 10) := by
  obtain ⟨op, n, m, c, t⟩ := p
  unfold Iq.nodeR; rw [h]; dsimp only; rw [h2]; dsimp only; rw [if_pos h3]
theorem nodeR_kids {f : Nat} {deep line : Int} {u x r : List UInt8} {op n m : Int} {c : Nat} {t : List UInt8} (h : Ou.cutB 10 u = some (x, r)) (h2 : Iq.lineN opOf x = some (op, n, m, c, t)) (h3 : ¬ 2048 < deep) : Iq.nodeR opOf (f + 1) deep line u = match Iq.kidsR opOf f deep c (line + 1) r with
    | .error e => .error e
    | .ok (ks, r', k') => .ok (.mk op 0 n m (ofB t) ks, r', k') := by
  rw [Iq.nodeR]; rw [h]; dsimp only; rw [h2]; dsimp only; rw [if_neg h3]; rfl
theorem splitn5 {x w0 w1 w2 w3 r3 : List UInt8} (hsp : splN 4 x = [w0, w1, w2, w3, r3]) (hx : x.length ≤ 1000000) (w : World) (μ : Mem) (hμ : MOk μ w) (hm : MaxQ μ) : Calls Tryz.prog 95 #[.string (ofB x), .string ⟨#[32]⟩, .int .i64 5] w fun e w' => ∃ (v : Value) (μ' : Mem) (i : Nat), e = .returned v ∧ BackM [] w w' μ [.inl ⟨i, 9, 5, idx 0 (strsV [w0, w1, w2, w3, r3])⟩] μ' ∧ v = .slice (some ⟨i, 0, none⟩) 5 5 := by
  have h := splitn_spec x hx w μ hμ hm
  have hlen := (splN_len 4 x).2.2
  rw [hsp] at h hlen
  have h5 : min 5 (x.length + 1) = 5 := by
    have : 5 ≤ x.length + 1 := hlen
    omega
  rw [h5] at h
  exact h
theorem nodeP_err {s : List UInt8} {R : Iq.RdR T} {k' c : Int} (h : R = .error (k', c)) (hc : c ≠ 0) (μ : Mem) (a : Int) (t : T) (u : Value) (ho : u.oneCell' = true) : NodeP s R μ (.agg (encT t u).toArray) (a, k', c) := by
  subst h; exact ⟨rfl, rfl, hc, t, u, rfl, ho⟩
theorem nodeP_form {s : List UInt8} {R : Iq.RdR T} {μ : Mem} {v : Value} {i : Int × Int × Int} (h : NodeP s R μ v i) : ∃ t u, v = .agg (encT t u).toArray ∧ u.oneCell' = true ∧ ((∃ (a : Nat) (r : List UInt8) (k' : Int), R = .ok (t, r, k') ∧ i = ((a : Int), k', 0) ∧ a ≤ s.length ∧ s.drop a = r ∧ (0 ≤ k' ∧ k' ≤ a) ∧ KR μ t.kids u ∧ AllT qN t) ∨ (∃ k' c, R = .error (k', c) ∧ i.2 = (k', c) ∧ c ≠ 0)) := by
  unfold NodeP at h
  split at h
  · rename_i t r k'
    obtain ⟨⟨a, h1, h2, h3, h4⟩, ⟨u, h5, h6⟩, h7⟩ := h
    exact ⟨t, u, h5, KR.one h6, .inl ⟨a, r, k', rfl, h1, h2, h3, h4, h6, h7⟩⟩
  · rename_i k' c
    obtain ⟨h1, h2, h3, t, u, h4, h5⟩ := h
    exact ⟨t, u, h4, h5, .inr ⟨k', c, rfl, Prod.ext h1 h2, h3⟩⟩
def preK (ks : List T) (R : Iq.RdR (List T)) : Iq.RdR (List T) := match R with
  | .error e => .error e
  | .ok (ts, r', k') => .ok (ks ++ ts, r', k')
theorem preK_nil (R : Iq.RdR (List T)) : preK [] R = R := by
  unfold preK
  cases R with
  | error e => rfl
  | ok p => obtain ⟨ts, r', k'⟩ := p; rfl
theorem kids_ok1 {g : Nat} {deep ln k' : Int} {j : Nat} {u r : List UInt8} {t : T} (ks : List T) (h : Iq.nodeR opOf g (deep + 1) ln u = .ok (t, r, k')) : preK ks (Iq.kidsR opOf (g + 1) deep (j + 1) ln u) = preK (ks ++ [t]) (Iq.kidsR opOf g deep j k' r) := by
  rw [Iq.kidsR, h]
  dsimp only
  unfold preK
  cases Iq.kidsR opOf g deep j k' r with
  | error e => rfl
  | ok p => obtain ⟨ts, r', k2⟩ := p; simp
theorem kids_err1 {g : Nat} {deep ln k' c : Int} {j : Nat} {u : List UInt8} (ks : List T) (h : Iq.nodeR opOf g (deep + 1) ln u = .error (k', c)) : preK ks (Iq.kidsR opOf (g + 1) deep (j + 1) ln u) = .error (k', c) := by
  rw [Iq.kidsR, h]
  rfl
theorem kids_zero {g : Nat} {deep ln : Int} {u : List UInt8} (ks : List T) : preK ks (Iq.kidsR opOf (g + 1) deep 0 ln u) = .ok (ks, u, ln) := by
  rw [Iq.kidsR]
  unfold preK
  simp
theorem nodeR_less {g : Nat} {deep ln k' : Int} {u r : List UInt8} {t : T} (h : Iq.nodeR opOf g deep ln u = .ok (t, r, k')) : r.length < u.length := by
  have h1 := (Iq.read_text rowOp g).1 _ _ _ _ _ _ h
  have h2 := Iq.nf_len (row := rowI) t
  rw [h1, List.length_append]
  omega
theorem nodeP_ok {s : List UInt8} {R : Iq.RdR T} {t : T} {r : List UInt8} {k' : Int} {u : Value} {μ : Mem} {a : Nat} (h : R = .ok (t, r, k')) (ha : a ≤ s.length) (hd : s.drop a = r) (hk : 0 ≤ k' ∧ k' ≤ a) (hu : KR μ t.kids u) (hq : AllT qN t) : NodeP s R μ (.agg (encT t u).toArray) ((a : Int), k', 0) := by
  subst h
  exact ⟨⟨a, rfl, ha, hd, hk⟩, ⟨u, rfl, hu⟩, hq⟩
theorem opOf_rng {w : List UInt8} {op : Int} (h : opOf w = some op) : 100 ≤ op ∧ op ≤ 172 := by
  have h1 : (nmL 73).all (fun x => decide (100 ≤ x.2) && decide (x.2 ≤ 172)) = true := by kernel_rfl
  have := List.all_eq_true.1 h1 _ (opL_mem h)
  simp at this
  exact this
theorem lineM_rng {w0 w1 w2 w3 r3 s : List UInt8} {op n m : Int} {k : Nat} (h : lineM w0 w1 w2 w3 r3 = some (op, n, m, k, s)) : (100 ≤ op ∧ op ≤ 172) ∧ s.length ≤ 65536 := by
  unfold lineM at h
  split at h
  · rename_i op' n' m' k' s' e0 e1 e2 e3 e4
    simp only [Option.some.injEq, Prod.mk.injEq] at h
    obtain ⟨rfl, rfl, rfl, rfl, rfl⟩ := h
    exact ⟨opOf_rng e0, (quotedB_ok (lastB_ok e4)).2.2⟩
  · cases h
def LoopJ (f c : Nat) (deep line : Int) (r s : List UInt8) (μ0 : Mem) (i : Nat × List (T × Value) × Mem × Value × Int × Int × Int) : Prop :=
  i.1 ≤ c ∧ i.2.1.length = i.1 ∧ MLe μ0 i.2.2.1 ∧ (∀ u ∈ i.2.1.flatMap encTV, u.oneCell' = true) ∧
  ((i.2.2.2.2.2.2 = 0 ∧ ∃ a g : Nat, i.2.2.2.2.1 = (a : Int) ∧ a ≤ s.length ∧ (0 ≤ i.2.2.2.2.2.1 ∧ i.2.2.2.2.2.1 ≤ a) ∧ 2 * (s.length - a) + 3 ≤ g ∧ g ≤ f ∧ Kids i.2.2.1 i.2.1 ∧ (∀ p ∈ i.2.1, AllT qN p.1) ∧
      Iq.kidsR opOf f deep c line r = preK (i.2.1.map (·.1)) (Iq.kidsR opOf g deep (c - i.1) i.2.2.2.2.2.1 (s.drop a))) ∨
    (i.2.2.2.2.2.2 ≠ 0 ∧ Iq.kidsR opOf f deep c line r = .error (i.2.2.2.2.2.1, i.2.2.2.2.2.2)))
theorem loop_step {f c g j a9 : Nat} {deep line ln9 a5 l5 e5 : Int} {r s : List UInt8} {μ0 μ9 μ5 : Mem} {ps : List (T × Value)} {t5 : T} {u5 v : Value} (hlt : j < c) (hpl : ps.length = j) (hle9 : MLe μ0 μ9) (hone : ∀ u ∈ ps.flatMap encTV, u.oneCell' = true) (hlb : 0 ≤ ln9 ∧ ln9 ≤ (a9 : Int)) (ha : a9 ≤ s.length) (hfu : 2 * (s.length - a9) + 3 ≤ g + 1) (hgf : g + 1 ≤ f)
    (hkids : Kids μ9 ps) (hall : ∀ p ∈ ps, AllT qN p.1) (hEq : Iq.kidsR opOf f deep c line r = preK (ps.map (·.1)) (Iq.kidsR opOf (g + 1) deep (c - j - 1 + 1) ln9 (s.drop a9))) (hle5 : MLe μ9 μ5) (ho5 : u5.oneCell' = true)
    (hc5 : (∃ (a : Nat) (r : List UInt8) (k' : Int), Iq.nodeR opOf g (deep + 1) ln9 (s.drop a9) = .ok (t5, r, k') ∧ (a5, l5, e5) = ((a : Int), k', (0 : Int)) ∧ a ≤ s.length ∧ s.drop a = r ∧ (0 ≤ k' ∧ k' ≤ a) ∧ KR μ5 t5.kids u5 ∧ AllT qN t5) ∨ (∃ k' c, Iq.nodeR opOf g (deep + 1) ln9 (s.drop a9) = .error (k', c) ∧ (a5, l5, e5).2 = (k', c) ∧ c ≠ 0)) :
    LoopJ f c deep line r s μ0 (j + 1, ps ++ [(t5, u5)], μ5, v, a5, l5, e5) := by
  refine ⟨by dsimp only; omega, by simp; omega, hle9.trans hle5, fun u hu => ?_, ?_⟩
  · rw [List.flatMap_append] at hu
    rcases List.mem_append.1 hu with hu | hu
    · exact hone u hu
    · simp at hu
      rcases hu with rfl | rfl | rfl | rfl | rfl | rfl
      all_goals first | rfl | exact ho5
  · rcases hc5 with ⟨a, r', k', h1, h2, h3, h4, h5, h6, h7⟩ | ⟨k', c', h1, h2, h3⟩
    · simp only [Prod.mk.injEq] at h2
      obtain ⟨rfl, rfl, rfl⟩ := h2
      have hless := nodeR_less h1
      rw [← h4, List.length_drop, List.length_drop] at hless
      refine .inl ⟨rfl, a, g, rfl, h3, h5, by omega, by omega, fun p hp => ?_, fun p hp => ?_, ?_⟩
      · rcases List.mem_append.1 hp with hp | hp
        · exact (hkids p hp).mono hle5
        · cases List.mem_singleton.1 hp; exact h6
      · rcases List.mem_append.1 hp with hp | hp
        · exact hall p hp
        · cases List.mem_singleton.1 hp; exact h7
      · rw [hEq, kids_ok1 _ h1]
        dsimp only
        rw [List.map_append, List.map_singleton, h4, Nat.sub_sub]
    · simp only [Prod.mk.injEq] at h2
      obtain ⟨rfl, rfl⟩ := h2
      exact .inr ⟨h3, hEq.trans (kids_err1 _ h1)⟩
def NodeC (s : List UInt8) (m g : Nat) : Prop := ∀ (rb k : Nat), k ≤ s.length → ∀ line deep : Int, (0 ≤ line ∧ line ≤ k) → (0 ≤ deep ∧ deep ≤ 3000) → 2 * (s.length - k) + 2 ≤ g → ∀ (w : World) (μ : Mem), MOk μ w → MaxQ μ → TabOk μ → NamT μ m → Go.Vcg.Own μ (rdI rb (s, (k : Int), line, 0, m)) w →
    Calls Tryz.prog 65 #[.pointer (some ⟨rb, 0, none⟩), .int .i64 deep] w (RiN (idsOf (rdI rb (s, (k : Int), line, 0, m))) w μ rb s m (NodeP s (Iq.nodeR opOf g deep line (s.drop k))))
attribute [local irreducible] nmL splN lineE Iq.lineN G GC GQ GA GAop Calls IntKind.wrap Int.decLt Int.decLe
theorem node_step (f : Nat) (rb : Nat) (s : List UInt8) (hs : s.length ≤ 1000000) (m : Nat) (ih : ∀ g, g ≤ f → NodeC s m g) (k : Nat) (hfu0 : 2 * (s.length - k) + 2 ≤ f + 1) (hk : k ≤ s.length) (line deep : Int) (hl : 0 ≤ line ∧ line ≤ k) (hd : 0 ≤ deep ∧ deep ≤ 3000) (w : World) (μ : Mem) (hμ : MOk μ w) (hmq : MaxQ μ) (hT : TabOk μ) (hnm : NamT μ m) (hO : Go.Vcg.Own μ (rdI rb (s, (k : Int), line, 0, m)) w) :
    Calls Tryz.prog 65 #[.pointer (some ⟨rb, 0, none⟩), .int .i64 deep] w (RiN (idsOf (rdI rb (s, (k : Int), line, 0, m))) w μ rb s m (NodeP s (Iq.nodeR opOf (f + 1) deep line (s.drop k)))) := by
  have hcnt := ids_count hO.diff
  refine call_introM (args := [.pointer (some ⟨rb, 0, none⟩), .int .i64 deep]) Tryz.func65 rfl Tryz.ntmps65 (by simp) hμ hO ?_
  show GC _ _ _ _ _ _ [.inl ⟨rb, 55, 5, [(0, .string (ofB s)), (1, .int .i64 (k : Int)), (2, .int .i64 line), (3, .int .i64 0), (4, .map (some m))]⟩]
  repeat' (first | ((with_reducible show GC _ _ (Code.seq (Code.region 1 _ _) _) _ _ _ _); (apply gc_stop)) | refine KK ?_ | refine NB fun b => ?_ | (refine KB ?_ ?_ <;> intro hp) | refine KG ?_ | fail)
  refine gcs ?_
  refine gc_sel (l' := [(4, .pointer (some ⟨b, 0, none⟩)), (1, .int .i64 deep), (0, .pointer (some ⟨rb, 0, none⟩))]) (L' := [.inl ⟨rb, 55, 5, [(0, .string (ofB s)), (1, .int .i64 (k : Int)), (2, .int .i64 line), (3, .int .i64 0), (4, .map (some m))]⟩, .inl ⟨b, 42, 6, []⟩]) PU PS ?_
  cases hc : Ou.cutB 10 (s.drop k) with
  | none =>
    repeat' (first | refine KO ?_ | (refine CF 29 ?_; (with_reducible apply g_enter_bor 1); exact rfl; exact rfl; exact rfl; ((with_reducible apply e_call1); kernel_rfl; exact rfl); exact rfl; (exact fun w hw hO => take_no rb s k line 0 m hc hk (by omega) (by omega) w _ hw hO); (rintro v2 μ2 ⟨⟩ hle2 rfl); (dsimp only [List.cons_append, List.nil_append])) | refine KI ?_ | refine NB fun b => ?_ | (refine KB ?_ ?_ <;> intro hp) | refine KG ?_ | fail)
    all_goals first | (exfalso; first | omega | contradiction | exact absurd ‹_› ‹¬ _›) | skip
    exact ret_bor (Ls := fun i : Int × Int × Int => rdI rb (s, i.1, i.2.1, i.2.2, m)) (Post := NodeP s (Iq.nodeR opOf (f + 1) deep line (s.drop k))) 1 ((k : Int), line + 1, 8) hcnt rfl (RG (vs := [.int .i64 0, .int .i64 0, .int .i64 0, .int .i64 0, .string ⟨#[]⟩, .slice none 0 0]) 1 rfl rfl rfl rfl rfl) rfl rfl (fun μ' _ => nodeP_err (nodeR_none hc) (by decide) _ _ (.mk 0 0 0 0 ⟨#[]⟩ []) (.slice none 0 0) rfl)
  | some p =>
    obtain ⟨x, r⟩ := p
    repeat' (first | ((with_reducible show GC _ _ (Code.seq (Code.region 4 _ _) _) _ _ _ _); (apply gc_stop)) | refine KO ?_ | (refine CF 29 ?_; (with_reducible apply g_enter_bor 1); exact rfl; exact rfl; exact rfl; ((with_reducible apply e_call1); kernel_rfl; exact rfl); exact rfl; (exact fun w hw hO => take_ok rb s k line 0 m hc hk (by omega) (by omega) w _ hw hO); (rintro v2 μ2 ⟨⟩ hle2 rfl); (dsimp only [List.cons_append, List.nil_append])) | refine KI ?_ | refine NB fun b => ?_ | (refine KB ?_ ?_ <;> intro hp) | refine KG ?_ | fail)
    all_goals first | (exfalso; first | omega | contradiction | exact absurd ‹_› ‹¬ _›) | skip
    have hxl := (cut_len hc).2
    rw [List.length_drop] at hxl
    refine gcs ?_
    refine gc_sel (l' := [(5, .string (ofB x)), (4, .pointer (some ⟨b, 0, none⟩)), (1, .int .i64 deep), (0, .pointer (some ⟨rb, 0, none⟩))]) (L' := [.inl ⟨rb, 55, 5, [(0, .string (ofB s)), (1, .int .i64 ((k + x.length + 1 : Nat) : Int)), (2, .int .i64 (line + 1)), (3, .int .i64 0), (4, .map (some m))]⟩, .inl ⟨b, 42, 6, []⟩]) PU PS ?_
    rcases line_cases x with ⟨w0, w1, w2, w3, r3, hsp, hln, z0, z1, z2, z3, z4⟩ | ⟨hlt, hln⟩
    · have hlook : lookV Tryz.prog 3 (Instr.findNow .string (.string (ofB w0)) nmM 0) = some (.int .i64 ((opOf w0).getD 0), (opOf w0).isSome) := look_nm (by kernel_rfl) w0 (nmL 73) 0 0
      repeat' (first | ((with_reducible show GC _ _ (Code.seq (Code.region 8 _ _) _) _ _ _ _); (apply gc_stop)) | refine KO ?_ | (refine CF 95 ?_; (with_reducible apply g_enter_bor (Ls := fun i => [.inl ⟨i, 9, 5, idx 0 (strsV [w0, w1, w2, w3, r3])⟩]) 0); exact rfl; exact rfl; exact rfl; ((with_reducible apply e_call3); kernel_rfl; exact rfl; exact rfl; exact rfl); exact rfl; (exact fun w hw _ => splitn5 hsp (by omega) w _ hw (hmq.mono hle2)); (rintro v3 μ3 i3 hle3 rfl); (dsimp only [List.cons_append, List.nil_append])) | refine KI ?_ | refine NB fun b => ?_ | (refine KB ?_ ?_ <;> intro hp) | refine KG ?_ | fail)
      all_goals first | (exfalso; first | omega | contradiction | exact absurd ‹_› ‹¬ _›) | skip
      have hnm3 := hnm.mono (hle2.trans hle3)
      refine gcs ?_
      refine gc_sel (l' := [(6, .slice (some ⟨i3, 0, none⟩) 5 5), (4, .pointer (some ⟨b, 0, none⟩)), (1, .int .i64 deep), (0, .pointer (some ⟨rb, 0, none⟩))]) (L' := [.inl ⟨rb, 55, 5, [(0, .string (ofB s)), (1, .int .i64 ((k + x.length + 1 : Nat) : Int)), (2, .int .i64 (line + 1)), (3, .int .i64 0), (4, .map (some m))]⟩, .inl ⟨i3, 9, 5, idx 0 (strsV [w0, w1, w2, w3, r3])⟩, .inl ⟨b, 42, 6, []⟩]) PU PS ?_
      refine gc_seq ?_
      refine gc_draw 13 _ (by kernel_rfl) rfl (List.Sublist.cons_cons _ (List.Sublist.cons_cons _ (List.Sublist.cons_cons _ (List.nil_sublist _)))) ?_
      all_goals refine DD 0 ?_
      all_goals refine DD 1 ?_
      all_goals (first | refine D1 2 ?_ | (refine DV (k := 2) (b := by first | exact U1 0 | ((with_reducible apply v_lookup2_sh); exact rfl; exact rfl; exact rfl; exact rfl; (first | exact trivial | exact rfl); exact hnm3; exact hlook)) (c := ?_)) | refine DD 2 ?_ | fail)
      all_goals (first | refine D1 3 ?_ | (refine DV (k := 3) (b := by first | exact U1 0 | ((with_reducible apply v_lookup2_sh); exact rfl; exact rfl; exact rfl; exact rfl; (first | exact trivial | exact rfl); exact hnm3; exact hlook)) (c := ?_)) | (refine D3 3 (DW (b := by first | exact U1 0 | ((with_reducible apply v_lookup2_sh); exact rfl; exact rfl; exact rfl; exact rfl; (first | exact trivial | exact rfl); exact hnm3; exact hlook)) (c := ?_))) | refine DD 3 ?_ | fail)
      all_goals refine DD 4 ?_
      all_goals (first | refine D1 5 ?_ | (refine DV (k := 5) (b := by first | exact U1 0 | ((with_reducible apply v_lookup2_sh); exact rfl; exact rfl; exact rfl; exact rfl; (first | exact trivial | exact rfl); exact hnm3; exact hlook)) (c := ?_)) | refine DD 5 ?_ | fail)
      all_goals (first | refine D1 6 ?_ | (refine DV (k := 6) (b := by first | exact U1 0 | ((with_reducible apply v_lookup2_sh); exact rfl; exact rfl; exact rfl; exact rfl; (first | exact trivial | exact rfl); exact hnm3; exact hlook)) (c := ?_)) | (refine D3 6 (DW (b := by first | exact U1 0 | ((with_reducible apply v_lookup2_sh); exact rfl; exact rfl; exact rfl; exact rfl; (first | exact trivial | exact rfl); exact hnm3; exact hlook)) (c := ?_))) | refine DD 6 ?_ | fail)
      all_goals (first | refine D1 7 ?_ | (refine DV (k := 7) (b := by first | exact U1 0 | ((with_reducible apply v_lookup2_sh); exact rfl; exact rfl; exact rfl; exact rfl; (first | exact trivial | exact rfl); exact hnm3; exact hlook)) (c := ?_)) | refine DD 7 ?_ | fail)
      all_goals refine DD 8 ?_
      all_goals refine DD 9 ?_
      all_goals refine DD 10 ?_
      all_goals refine DD 11 ?_
      all_goals refine DD 12 ?_
      all_goals refine D8 ?_
      refine gq_then (gc_join (ι := Mem) (fun i => MLe μ3 i) (fun i => i) (fun _ => [(7, .int .i64 ((opOf w0).getD 0)), (6, .slice (some ⟨i3, 0, none⟩) 5 5), (4, .pointer (some ⟨b, 0, none⟩)), (1, .int .i64 deep), (0, .pointer (some ⟨rb, 0, none⟩))]) (fun _ => [.inl ⟨rb, 55, 5, [(0, .string (ofB s)), (1, .int .i64 ((k + x.length + 1 : Nat) : Int)), (2, .int .i64 (line + 1)), (3, .int .i64 (okS (opOf w0).isSome 0 7)), (4, .map (some m))]⟩, .inl ⟨i3, 9, 5, idx 0 (strsV [w0, w1, w2, w3, r3])⟩, .inl ⟨b, 42, 6, []⟩]) ?_ ?_)
      · cases hop : (opOf w0).isSome with
        | true =>
          repeat' (first | refine KK ?_ | refine NB fun b => ?_ | (refine KB ?_ ?_ <;> intro hp) | refine KG ?_ | fail)
          all_goals first | (exfalso; first | omega | contradiction | exact absurd ‹_› ‹¬ _›) | skip
          exact J1 μ3 (MLe.refl _)
        | false =>
          repeat' (first | refine KO ?_ | (refine CF 30 ?_; (with_reducible apply g_enter_bor 1); exact rfl; exact rfl; exact rfl; ((with_reducible apply e_call2); kernel_rfl; exact rfl; exact rfl); exact rfl; (exact fun w hw hO => fail_spec rb (s, ((k + x.length + 1 : Nat) : Int), line + 1, 0, m) 7 w _ hw hO); (rintro v2 μ2 ⟨⟩ hle2 hv); (dsimp only [List.cons_append, List.nil_append])) | refine KI ?_ | refine NB fun b => ?_ | (refine KB ?_ ?_ <;> intro hp) | refine KG ?_ | fail)
          all_goals first | (exfalso; first | omega | contradiction | exact absurd ‹_› ‹¬ _›) | skip
          exact J1 _ hle2
      intro μ4 hle4
      have hmq4 := hmq.mono (hle2.trans (hle3.trans hle4))
      have hT4 := hT.mono (hle2.trans (hle3.trans hle4))
      generalize he1 : okS (opOf w0).isSome 0 7 = e1
      have y1 : w1.length ≤ 1000000 := by omega
      have y2 : w2.length ≤ 1000000 := by omega
      have y3 : w3.length ≤ 1000000 := by omega
      have y4 : r3.length ≤ 1000000 := by omega
      refine gc_join (ι := Mem × Nat) (fun i => MLe μ4 i.1) (fun i => i.1) (fun i => [(9, .pointer (some ⟨i.2, 0, none⟩)), (6, .slice (some ⟨i3, 0, none⟩) 5 5), (4, .pointer (some ⟨b, 0, none⟩)), (1, .int .i64 deep), (0, .pointer (some ⟨rb, 0, none⟩))]) (fun i => [.inl ⟨rb, 55, 5, [(0, .string (ofB s)), (1, .int .i64 ((k + x.length + 1 : Nat) : Int)), (2, .int .i64 (line + 1)), (3, .int .i64 (okS (numIn (-9007199254740992) 9007199254740992 w2).isSome (okS (numIn (-9007199254740992) 9007199254740992 w1).isSome e1 7) 7)), (4, .map (some m))]⟩, .inl ⟨i3, 9, 5, idx 0 (strsV [w0, w1, w2, w3, r3])⟩, .inl ⟨i.2, 42, 6, idx 0 [.int .i64 ((opOf w0).getD 0), .int .i64 0, .int .i64 (numV (-9007199254740992) 9007199254740992 w1), .int .i64 (numV (-9007199254740992) 9007199254740992 w2), .string ⟨#[]⟩, .slice none 0 0]⟩, .inl ⟨b, 42, 6, []⟩]) ?_ ?_
      · refine gc_draw 14 _ (by kernel_rfl) rfl (List.Sublist.cons _ (List.Sublist.cons_cons _ (List.Sublist.cons_cons _ (List.nil_sublist _)))) ?_
        all_goals (first | refine D1 0 ?_ | (refine DV (k := 0) (b := by first | exact U1 1 | exact U1 2) (c := ?_)) | (refine D3 0 (DW (b := by first | exact U1 1 | exact U1 2) (c := ?_))) | refine DD 0 ?_ | fail)
        all_goals (first | refine D1 1 ?_ | (refine DV (k := 1) (b := by first | exact U1 1 | exact U1 2) (c := ?_)) | (refine D3 1 (DW (b := by first | exact U1 1 | exact U1 2) (c := ?_))) | refine DD 1 ?_ | fail)
        all_goals (first | refine D1 2 ?_ | (refine DV (k := 2) (b := by first | exact U1 1 | exact U1 2) (c := ?_)) | (refine D3 2 (DW (b := by first | exact U1 1 | exact U1 2) (c := ?_))) | refine DD 2 ?_ | fail)
        all_goals (first | refine D1 3 ?_ | (refine DV (k := 3) (b := by first | exact U1 1 | exact U1 2) (c := ?_)) | (refine D3 3 (DW (b := by first | exact U1 1 | exact U1 2) (c := ?_))) | refine DD 3 ?_ | fail)
        all_goals (first | refine D1 4 ?_ | (refine DV (k := 4) (b := by first | exact U1 1 | exact U1 2) (c := ?_)) | (refine D3 4 (DW (b := by first | exact U1 1 | exact U1 2) (c := ?_))) | refine DD 4 ?_ | fail)
        all_goals (first | refine D1 6 ?_ | (refine DV (k := 6) (b := by first | exact U1 1 | exact U1 2) (c := ?_)) | (refine D3 6 (DW (b := by first | exact U1 1 | exact U1 2) (c := ?_))) | refine DD 6 ?_ | fail)
        all_goals (first | refine D1 7 ?_ | (refine DV (k := 7) (b := by first | exact U1 1 | exact U1 2) (c := ?_)) | (refine D3 7 (DW (b := by first | exact U1 1 | exact U1 2) (c := ?_))) | refine DD 7 ?_ | fail)
        all_goals (first | refine D1 8 ?_ | (refine DV (k := 8) (b := by first | exact U1 1 | exact U1 2) (c := ?_)) | (refine D3 8 (DW (b := by first | exact U1 1 | exact U1 2) (c := ?_))) | refine DD 8 ?_ | fail)
        all_goals (first | refine D1 9 ?_ | (refine DV (k := 9) (b := by first | exact U1 1 | exact U1 2) (c := ?_)) | (refine D3 9 (DW (b := by first | exact U1 1 | exact U1 2) (c := ?_))) | refine DD 9 ?_ | fail)
        refine ga_all2 5 12 (by kernel_rfl) ?dr24_5 ?dr24_12
        case' dr24_5 =>
          (first | (refine D5 ?_; (first | ((with_reducible apply g_enter_bor 1); exact rfl; exact rfl; exact rfl; ((with_reducible apply e_call4); kernel_rfl; exact rfl; exact rfl; exact rfl; exact rfl); exact rfl; (first | exact fun w5 hw5 hO5 => number_any w1 _ _ rb (s, ((k + x.length + 1 : Nat) : Int), line + 1, e1, m) y1 w5 _ hw5 hT4 hO5 | exact fun w5 hw5 hO5 => number_any w2 _ _ rb (s, ((k + x.length + 1 : Nat) : Int), line + 1, okS (numIn (-9007199254740992) 9007199254740992 w1).isSome e1 7, m) y2 w5 _ hw5 (hT4.mono hle5) hO5); (rintro v2 μ5 ⟨⟩ hle5 rfl); (dsimp only [List.cons_append, List.nil_append])) | ((with_reducible apply g_swap); (with_reducible apply g_enter_bor 1); exact rfl; exact rfl; exact rfl; ((with_reducible apply e_call4); kernel_rfl; exact rfl; exact rfl; exact rfl; exact rfl); exact rfl; (first | exact fun w5 hw5 hO5 => number_any w1 _ _ rb (s, ((k + x.length + 1 : Nat) : Int), line + 1, e1, m) y1 w5 _ hw5 hT4 hO5 | exact fun w5 hw5 hO5 => number_any w2 _ _ rb (s, ((k + x.length + 1 : Nat) : Int), line + 1, okS (numIn (-9007199254740992) 9007199254740992 w1).isSome e1 7, m) y2 w5 _ hw5 (hT4.mono hle5) hO5); (rintro v2 μ5 ⟨⟩ hle5 rfl); (dsimp only [List.cons_append, List.nil_append]); (with_reducible apply g_swap)) | fail); refine D9 ?_))
          refine ga_all2 10 12 (by kernel_rfl) ?dr25_10 ?dr25_12
          case' dr25_10 =>
            (first | (refine D5 ?_; (first | ((with_reducible apply g_enter_bor 1); exact rfl; exact rfl; exact rfl; ((with_reducible apply e_call4); kernel_rfl; exact rfl; exact rfl; exact rfl; exact rfl); exact rfl; (first | exact fun w5 hw5 hO5 => number_any w1 _ _ rb (s, ((k + x.length + 1 : Nat) : Int), line + 1, e1, m) y1 w5 _ hw5 hT4 hO5 | exact fun w5 hw5 hO5 => number_any w2 _ _ rb (s, ((k + x.length + 1 : Nat) : Int), line + 1, okS (numIn (-9007199254740992) 9007199254740992 w1).isSome e1 7, m) y2 w5 _ hw5 (hT4.mono hle5) hO5); (rintro v2 μ5 ⟨⟩ hle5 rfl); (dsimp only [List.cons_append, List.nil_append])) | ((with_reducible apply g_swap); (with_reducible apply g_enter_bor 1); exact rfl; exact rfl; exact rfl; ((with_reducible apply e_call4); kernel_rfl; exact rfl; exact rfl; exact rfl; exact rfl); exact rfl; (first | exact fun w5 hw5 hO5 => number_any w1 _ _ rb (s, ((k + x.length + 1 : Nat) : Int), line + 1, e1, m) y1 w5 _ hw5 hT4 hO5 | exact fun w5 hw5 hO5 => number_any w2 _ _ rb (s, ((k + x.length + 1 : Nat) : Int), line + 1, okS (numIn (-9007199254740992) 9007199254740992 w1).isSome e1 7, m) y2 w5 _ hw5 (hT4.mono hle5) hO5); (rintro v2 μ5 ⟨⟩ hle5 rfl); (dsimp only [List.cons_append, List.nil_append]); (with_reducible apply g_swap)) | fail); refine D9 ?_))
            all_goals (first | refine D1 11 ?_ | (refine DV (k := 11) (b := by first | exact U1 1 | exact U1 2) (c := ?_)) | (refine D3 11 (DW (b := by first | exact U1 1 | exact U1 2) (c := ?_))) | refine DD 11 ?_ | fail)
            all_goals (first | (refine D3 12 ?_; refine D5 ?_; refine NB fun b => ?_; refine D9 ?_))
            all_goals (first | (refine D3 13 ?_; refine D5 ?_; refine Y0 ?_; refine D9 ?_))
            all_goals refine D8 ?_
          case' dr25_12 =>
            (first | (refine D5 ?_; refine NB fun b => ?_; refine D9 ?_))
            all_goals (first | (refine D3 10 ?_; refine D5 ?_; (first | ((with_reducible apply g_enter_bor 1); exact rfl; exact rfl; exact rfl; ((with_reducible apply e_call4); kernel_rfl; exact rfl; exact rfl; exact rfl; exact rfl); exact rfl; (first | exact fun w5 hw5 hO5 => number_any w1 _ _ rb (s, ((k + x.length + 1 : Nat) : Int), line + 1, e1, m) y1 w5 _ hw5 hT4 hO5 | exact fun w5 hw5 hO5 => number_any w2 _ _ rb (s, ((k + x.length + 1 : Nat) : Int), line + 1, okS (numIn (-9007199254740992) 9007199254740992 w1).isSome e1 7, m) y2 w5 _ hw5 (hT4.mono hle5) hO5); (rintro v2 μ5 ⟨⟩ hle5 rfl); (dsimp only [List.cons_append, List.nil_append])) | ((with_reducible apply g_swap); (with_reducible apply g_enter_bor 1); exact rfl; exact rfl; exact rfl; ((with_reducible apply e_call4); kernel_rfl; exact rfl; exact rfl; exact rfl; exact rfl); exact rfl; (first | exact fun w5 hw5 hO5 => number_any w1 _ _ rb (s, ((k + x.length + 1 : Nat) : Int), line + 1, e1, m) y1 w5 _ hw5 hT4 hO5 | exact fun w5 hw5 hO5 => number_any w2 _ _ rb (s, ((k + x.length + 1 : Nat) : Int), line + 1, okS (numIn (-9007199254740992) 9007199254740992 w1).isSome e1 7, m) y2 w5 _ hw5 (hT4.mono hle5) hO5); (rintro v2 μ5 ⟨⟩ hle5 rfl); (dsimp only [List.cons_append, List.nil_append]); (with_reducible apply g_swap)) | fail); refine D9 ?_))
            all_goals (first | refine D1 11 ?_ | (refine DV (k := 11) (b := by first | exact U1 1 | exact U1 2) (c := ?_)) | (refine D3 11 (DW (b := by first | exact U1 1 | exact U1 2) (c := ?_))) | refine DD 11 ?_ | fail)
            all_goals (first | (refine D3 13 ?_; refine D5 ?_; refine Y0 ?_; refine D9 ?_))
            all_goals refine D8 ?_
        case' dr24_12 =>
          (first | (refine D5 ?_; refine NB fun b => ?_; refine D9 ?_))
          all_goals (first | (refine D3 5 ?_; refine D5 ?_; (first | ((with_reducible apply g_enter_bor 1); exact rfl; exact rfl; exact rfl; ((with_reducible apply e_call4); kernel_rfl; exact rfl; exact rfl; exact rfl; exact rfl); exact rfl; (first | exact fun w5 hw5 hO5 => number_any w1 _ _ rb (s, ((k + x.length + 1 : Nat) : Int), line + 1, e1, m) y1 w5 _ hw5 hT4 hO5 | exact fun w5 hw5 hO5 => number_any w2 _ _ rb (s, ((k + x.length + 1 : Nat) : Int), line + 1, okS (numIn (-9007199254740992) 9007199254740992 w1).isSome e1 7, m) y2 w5 _ hw5 (hT4.mono hle5) hO5); (rintro v2 μ5 ⟨⟩ hle5 rfl); (dsimp only [List.cons_append, List.nil_append])) | ((with_reducible apply g_swap); (with_reducible apply g_enter_bor 1); exact rfl; exact rfl; exact rfl; ((with_reducible apply e_call4); kernel_rfl; exact rfl; exact rfl; exact rfl; exact rfl); exact rfl; (first | exact fun w5 hw5 hO5 => number_any w1 _ _ rb (s, ((k + x.length + 1 : Nat) : Int), line + 1, e1, m) y1 w5 _ hw5 hT4 hO5 | exact fun w5 hw5 hO5 => number_any w2 _ _ rb (s, ((k + x.length + 1 : Nat) : Int), line + 1, okS (numIn (-9007199254740992) 9007199254740992 w1).isSome e1 7, m) y2 w5 _ hw5 (hT4.mono hle5) hO5); (rintro v2 μ5 ⟨⟩ hle5 rfl); (dsimp only [List.cons_append, List.nil_append]); (with_reducible apply g_swap)) | fail); refine D9 ?_))
          all_goals (first | (refine D3 10 ?_; refine D5 ?_; (first | ((with_reducible apply g_enter_bor 1); exact rfl; exact rfl; exact rfl; ((with_reducible apply e_call4); kernel_rfl; exact rfl; exact rfl; exact rfl; exact rfl); exact rfl; (first | exact fun w5 hw5 hO5 => number_any w1 _ _ rb (s, ((k + x.length + 1 : Nat) : Int), line + 1, e1, m) y1 w5 _ hw5 hT4 hO5 | exact fun w5 hw5 hO5 => number_any w2 _ _ rb (s, ((k + x.length + 1 : Nat) : Int), line + 1, okS (numIn (-9007199254740992) 9007199254740992 w1).isSome e1 7, m) y2 w5 _ hw5 (hT4.mono hle5) hO5); (rintro v2 μ5 ⟨⟩ hle5 rfl); (dsimp only [List.cons_append, List.nil_append])) | ((with_reducible apply g_swap); (with_reducible apply g_enter_bor 1); exact rfl; exact rfl; exact rfl; ((with_reducible apply e_call4); kernel_rfl; exact rfl; exact rfl; exact rfl; exact rfl); exact rfl; (first | exact fun w5 hw5 hO5 => number_any w1 _ _ rb (s, ((k + x.length + 1 : Nat) : Int), line + 1, e1, m) y1 w5 _ hw5 hT4 hO5 | exact fun w5 hw5 hO5 => number_any w2 _ _ rb (s, ((k + x.length + 1 : Nat) : Int), line + 1, okS (numIn (-9007199254740992) 9007199254740992 w1).isSome e1 7, m) y2 w5 _ hw5 (hT4.mono hle5) hO5); (rintro v2 μ5 ⟨⟩ hle5 rfl); (dsimp only [List.cons_append, List.nil_append]); (with_reducible apply g_swap)) | fail); refine D9 ?_))
          all_goals (first | refine D1 11 ?_ | (refine DV (k := 11) (b := by first | exact U1 1 | exact U1 2) (c := ?_)) | (refine D3 11 (DW (b := by first | exact U1 1 | exact U1 2) (c := ?_))) | refine DD 11 ?_ | fail)
          all_goals (first | (refine D3 13 ?_; refine D5 ?_; refine Y0 ?_; refine D9 ?_))
          all_goals refine D8 ?_
        all_goals exact J1 (_, b) (by refine MLe.trans ?_ hle5; assumption)
      rintro ⟨μ6, bn⟩ hle6
      dsimp only at hle6
      have hT6 := hT4.mono hle6
      generalize he3 : okS (numIn (-9007199254740992) 9007199254740992 w2).isSome (okS (numIn (-9007199254740992) 9007199254740992 w1).isSome e1 7) 7 = e3
      generalize hnd : numV (-9007199254740992) 9007199254740992 w1 = vn
      generalize hmd : numV (-9007199254740992) 9007199254740992 w2 = vm
      generalize hod : (opOf w0).getD 0 = vop
      repeat' (first | ((with_reducible show GC _ _ (Code.seq (Code.seq (Code.region 14 _ _) _) _) _ _ _ _); (apply gc_stop)) | refine KO ?_ | (refine CF 31 ?_; (with_reducible apply g_enter_bor 1); exact rfl; exact rfl; exact rfl; ((with_reducible apply e_call4); kernel_rfl; exact rfl; exact rfl; exact rfl; exact rfl); exact rfl; (exact fun w hw hO => number_any w3 _ _ rb (s, ((k + x.length + 1 : Nat) : Int), line + 1, e3, m) y3 w _ hw hT6 hO); (rintro v2 μ7 ⟨⟩ hle7 rfl); (dsimp only [List.cons_append, List.nil_append])) | (refine CF 64 ?_; (with_reducible apply g_enter_bor 1); exact rfl; exact rfl; exact rfl; ((with_reducible apply e_call2); kernel_rfl; exact rfl; exact rfl); exact rfl; (exact fun w hw hO => quoted_any r3 rb (s, ((k + x.length + 1 : Nat) : Int), line + 1, okS (numIn 0 1048576 w3).isSome e3 7, m) y4 w _ hw hO); (rintro v2 μ8 ⟨⟩ hle8 rfl); (dsimp only [List.cons_append, List.nil_append])) | (refine KV (b := by first | exact U1 3 | exact U1 4) (c := ?_)) | refine KI ?_ | refine NB fun b => ?_ | (refine KB ?_ ?_ <;> intro hp) | refine KG ?_ | fail)
      all_goals first | (exfalso; first | omega | contradiction | exact absurd ‹_› ‹¬ _›) | skip
      have hleA : MLe μ μ8 := hle2.trans (hle3.trans (hle4.trans (hle6.trans (MLe.trans hle7 hle8))))
      generalize he5 : okS (lastB r3).isSome (okS (numIn 0 1048576 w3).isSome e3 7) 7 = e5
      generalize hkd : numV 0 1048576 w3 = vk
      generalize htd : quoV r3 = vt
      have hE : lineE w0 w1 w2 w3 r3 = e5 := by rw [lineE, he1, he3, he5]
      refine gcs ?_
      refine gc_sel (l' := [(10, .int .i64 vk), (9, .pointer (some ⟨bn, 0, none⟩)), (4, .pointer (some ⟨b, 0, none⟩)), (1, .int .i64 deep), (0, .pointer (some ⟨rb, 0, none⟩))]) (L' := [.inl ⟨rb, 55, 5, [(0, .string (ofB s)), (1, .int .i64 ((k + x.length + 1 : Nat) : Int)), (2, .int .i64 (line + 1)), (3, .int .i64 e5), (4, .map (some m))]⟩, .inl ⟨bn, 42, 6, idx 0 [.int .i64 vop, .int .i64 0, .int .i64 vn, .int .i64 vm, .string (ofB vt), .slice none 0 0]⟩, .inl ⟨b, 42, 6, []⟩]) PU PS ?_
      have hdp := Int.lt_or_le 2048 deep
      cases hM : lineM w0 w1 w2 w3 r3 with
      | none =>
        have he := lineE_none hM
        rw [hE] at he
        subst he
        rcases hdp with hdp | hdp
        · repeat' (first | refine KO ?_ | (refine CF 30 ?_; (with_reducible apply g_enter_bor 1); exact rfl; exact rfl; exact rfl; ((with_reducible apply e_call2); kernel_rfl; exact rfl; exact rfl); exact rfl; (exact fun w hw hO => fail_spec rb (s, ((k + x.length + 1 : Nat) : Int), line + 1, 7, m) 10 w _ hw hO); (rintro v2 μ2 ⟨⟩ hle2 hv); (dsimp only [List.cons_append, List.nil_append])) | refine KI ?_ | refine NB fun b => ?_ | (refine KB ?_ ?_ <;> intro hp) | refine KG ?_ | fail)
          all_goals first | (exfalso; first | omega | contradiction | exact absurd ‹_› ‹¬ _›) | skip
          refine gc_loop (ι := Unit) (fun _ => True) (fun _ => 0) (fun _ => _) (fun _ => [(11, .int .i64 0), (10, .int .i64 vk), (9, .pointer (some ⟨bn, 0, none⟩)), (4, .pointer (some ⟨b, 0, none⟩)), (0, .pointer (some ⟨rb, 0, none⟩))]) (fun _ => [.inl ⟨rb, 55, 5, [(0, .string (ofB s)), (1, .int .i64 ((k + x.length + 1 : Nat) : Int)), (2, .int .i64 (line + 1)), (3, .int .i64 7), (4, .map (some m))]⟩, .inl ⟨bn, 42, 6, idx 0 [.int .i64 vop, .int .i64 0, .int .i64 vn, .int .i64 vm, .string (ofB vt), .slice none 0 0]⟩, .inl ⟨b, 42, 6, []⟩]) () trivial (fun a w hs => J5 hs) ?_
          intro _ _
          repeat' (first | refine KK ?_ | refine NB fun b => ?_ | (refine KB ?_ ?_ <;> intro hp) | refine KG ?_ | fail)
          all_goals first | (exfalso; first | omega | contradiction | exact absurd ‹_› ‹¬ _›) | skip
          all_goals exact ret_bor (Ls := fun i : Int × Int × Int => rdI rb (s, i.1, i.2.1, i.2.2, m)) (Post := NodeP s (Iq.nodeR opOf (f + 1) deep line (s.drop k))) 1 (((k + x.length + 1 : Nat) : Int), line + 1, 7) hcnt rfl (RG (vs := [.int .i64 vop, .int .i64 0, .int .i64 vn, .int .i64 vm, .string (ofB vt), .slice none 0 0]) 2 rfl rfl rfl rfl rfl) rfl rfl (fun μ' _ => nodeP_err (nodeR_bad hc (hln.trans hM)) (by decide) _ _ (.mk vop 0 vn vm (ofB vt) []) (.slice none 0 0) rfl)
        · repeat' (first | refine KK ?_ | refine NB fun b => ?_ | (refine KB ?_ ?_ <;> intro hp) | refine KG ?_ | fail)
          all_goals first | (exfalso; first | omega | contradiction | exact absurd ‹_› ‹¬ _›) | skip
          refine gc_loop (ι := Unit) (fun _ => True) (fun _ => 0) (fun _ => _) (fun _ => [(11, .int .i64 0), (10, .int .i64 vk), (9, .pointer (some ⟨bn, 0, none⟩)), (4, .pointer (some ⟨b, 0, none⟩)), (0, .pointer (some ⟨rb, 0, none⟩))]) (fun _ => [.inl ⟨rb, 55, 5, [(0, .string (ofB s)), (1, .int .i64 ((k + x.length + 1 : Nat) : Int)), (2, .int .i64 (line + 1)), (3, .int .i64 7), (4, .map (some m))]⟩, .inl ⟨bn, 42, 6, idx 0 [.int .i64 vop, .int .i64 0, .int .i64 vn, .int .i64 vm, .string (ofB vt), .slice none 0 0]⟩, .inl ⟨b, 42, 6, []⟩]) () trivial (fun a w hs => J5 hs) ?_
          intro _ _
          repeat' (first | refine KK ?_ | refine NB fun b => ?_ | (refine KB ?_ ?_ <;> intro hp) | refine KG ?_ | fail)
          all_goals first | (exfalso; first | omega | contradiction | exact absurd ‹_› ‹¬ _›) | skip
          all_goals exact ret_bor (Ls := fun i : Int × Int × Int => rdI rb (s, i.1, i.2.1, i.2.2, m)) (Post := NodeP s (Iq.nodeR opOf (f + 1) deep line (s.drop k))) 1 (((k + x.length + 1 : Nat) : Int), line + 1, 7) hcnt rfl (RG (vs := [.int .i64 vop, .int .i64 0, .int .i64 vn, .int .i64 vm, .string (ofB vt), .slice none 0 0]) 2 rfl rfl rfl rfl rfl) rfl rfl (fun μ' _ => nodeP_err (nodeR_bad hc (hln.trans hM)) (by decide) _ _ (.mk vop 0 vn vm (ofB vt) []) (.slice none 0 0) rfl)
      | some q =>
        obtain ⟨op, vn', vm', c, t⟩ := q
        obtain ⟨he, g1, g2, g3, g4, g5, g6⟩ := lineE_some hM
        rw [hE] at he
        subst he
        rcases hdp with hdp | hdp
        · repeat' (first | refine KO ?_ | (refine CF 30 ?_; (with_reducible apply g_enter_bor 1); exact rfl; exact rfl; exact rfl; ((with_reducible apply e_call2); kernel_rfl; exact rfl; exact rfl); exact rfl; (exact fun w hw hO => fail_spec rb (s, ((k + x.length + 1 : Nat) : Int), line + 1, 0, m) 10 w _ hw hO); (rintro v2 μ2 ⟨⟩ hle2 hv); (dsimp only [List.cons_append, List.nil_append])) | refine KI ?_ | refine NB fun b => ?_ | (refine KB ?_ ?_ <;> intro hp) | refine KG ?_ | fail)
          all_goals first | (exfalso; first | omega | contradiction | exact absurd ‹_› ‹¬ _›) | skip
          refine gc_loop (ι := Unit) (fun _ => True) (fun _ => 0) (fun _ => _) (fun _ => [(11, .int .i64 0), (10, .int .i64 vk), (9, .pointer (some ⟨bn, 0, none⟩)), (4, .pointer (some ⟨b, 0, none⟩)), (0, .pointer (some ⟨rb, 0, none⟩))]) (fun _ => [.inl ⟨rb, 55, 5, [(0, .string (ofB s)), (1, .int .i64 ((k + x.length + 1 : Nat) : Int)), (2, .int .i64 (line + 1)), (3, .int .i64 10), (4, .map (some m))]⟩, .inl ⟨bn, 42, 6, idx 0 [.int .i64 vop, .int .i64 0, .int .i64 vn, .int .i64 vm, .string (ofB vt), .slice none 0 0]⟩, .inl ⟨b, 42, 6, []⟩]) () trivial (fun a w hs => J5 hs) ?_
          intro _ _
          repeat' (first | refine KK ?_ | refine NB fun b => ?_ | (refine KB ?_ ?_ <;> intro hp) | refine KG ?_ | fail)
          all_goals first | (exfalso; first | omega | contradiction | exact absurd ‹_› ‹¬ _›) | skip
          all_goals exact ret_bor (Ls := fun i : Int × Int × Int => rdI rb (s, i.1, i.2.1, i.2.2, m)) (Post := NodeP s (Iq.nodeR opOf (f + 1) deep line (s.drop k))) 1 (((k + x.length + 1 : Nat) : Int), line + 1, 10) hcnt rfl (RG (vs := [.int .i64 vop, .int .i64 0, .int .i64 vn, .int .i64 vm, .string (ofB vt), .slice none 0 0]) 2 rfl rfl rfl rfl rfl) rfl rfl (fun μ' _ => nodeP_err (nodeR_deep hc (hln.trans hM) hdp) (by decide) _ _ (.mk vop 0 vn vm (ofB vt) []) (.slice none 0 0) rfl)
        · repeat' (first | refine KK ?_ | refine NB fun b => ?_ | (refine KB ?_ ?_ <;> intro hp) | refine KG ?_ | fail)
          all_goals first | (exfalso; first | omega | contradiction | exact absurd ‹_› ‹¬ _›) | skip
          obtain rfl : vk = (c : Int) := by rw [← hkd, g4]
          have hrg := lineM_rng hM
          obtain rfl : vop = op := hod.symm.trans g1
          obtain rfl : vn = vn' := hnd.symm.trans g2
          obtain rfl : vm = vm' := hmd.symm.trans g3
          obtain rfl : vt = t := htd.symm.trans g5
          have hR := nodeR_kids (f := f) (deep := deep) (line := line) hc (hln.trans hM) (by omega)
          have hnm8 := hnm.mono hleA
          have hmq8 := hmq.mono hleA
          have hT8 := hT.mono hleA
          have hr : s.drop (k + x.length + 1) = r := by
            have h1 := (cut_len hc).1
            have h2 := congrArg (List.drop (x.length + 1)) h1
            rw [List.drop_drop] at h2
            rw [show k + x.length + 1 = k + (x.length + 1) by omega, h2]
            simp
          refine gc_loop (ι := Nat × List (T × Value) × Mem × Value × Int × Int × Int) (LoopJ f c deep (line + 1) r s μ8) (fun i => c + 1 - i.1) (fun i => i.2.2.1) (fun i => [(11, .int .i64 (i.1 : Int)), (10, .int .i64 (c : Int)), (9, .pointer (some ⟨bn, 0, none⟩)), (4, .pointer (some ⟨b, 0, none⟩)), (1, .int .i64 deep), (0, .pointer (some ⟨rb, 0, none⟩))]) (fun i => [.inl ⟨rb, 55, 5, [(0, .string (ofB s)), (1, .int .i64 i.2.2.2.2.1), (2, .int .i64 i.2.2.2.2.2.1), (3, .int .i64 i.2.2.2.2.2.2), (4, .map (some m))]⟩, .inr ⟨i.2.2.2.1, 42, 6, i.2.1.length, i.2.1.flatMap encTV⟩, .inl ⟨bn, 42, 6, idx 0 [.int .i64 vop, .int .i64 0, .int .i64 vn, .int .i64 vm, .string (ofB vt), i.2.2.2.1]⟩, .inl ⟨b, 42, 6, []⟩]) (0, [], μ8, .slice none 0 0, ((k + x.length + 1 : Nat) : Int), line + 1, 0)
            ⟨Nat.zero_le _, rfl, MLe.refl _, (by simp), .inl ⟨rfl, k + x.length + 1, f, rfl, by omega, by dsimp only; omega, by omega, Nat.le_refl _, fun p hp => (by cases hp), fun p hp => (by cases hp), by rw [hr]; exact (preK_nil _).symm⟩⟩ (fun a w hs => (hs.nilRow 42 6).sel PU PS) ?_
          rintro ⟨j, ps, μ9, v9, at9, ln9, e9⟩ ⟨hj, hpl, hle9, hone, hcase⟩
          dsimp only at hj hpl hle9 hone hcase ⊢
          refine gc_rowOk 1 rfl ?_
          rintro A1 c1 rfl hok
          rcases hcase with ⟨he0, a9, g9, ha9, ha, hlb, hfu, hgf, hkids, hall, hEq⟩ | ⟨hne, hEq⟩
          · subst he0
            subst ha9
            by_cases hlt : j < c
            · obtain ⟨g, rfl⟩ : ∃ g, g9 = g + 1 := ⟨g9 - 1, by omega⟩
              have hcj : c - j = (c - j - 1) + 1 := by omega
              rw [hcj] at hEq
              have ihc := ih g (by omega) rb a9 ha ln9 (deep + 1) hlb (by omega) (by omega)
              have hnm9 := hnm8.mono hle9
              have hmq9 := hmq8.mono hle9
              have hT9 := hT8.mono hle9
              repeat' (first | refine KK ?_ | refine NB fun b => ?_ | (refine KB ?_ ?_ <;> intro hp) | refine KG ?_ | fail)
              all_goals first | (exfalso; first | omega | contradiction | exact absurd ‹_› ‹¬ _›) | skip
              refine gc_draw 10 _ (by kernel_rfl) rfl (List.Sublist.cons _ (List.Sublist.cons _ (List.Sublist.cons _ (List.Sublist.cons_cons _ (List.nil_sublist _))))) ?_
              all_goals refine DD 0 ?_
              all_goals refine DD 2 ?_
              all_goals refine DD 3 ?_
              all_goals refine DD 4 ?_
              refine ga_all2 1 5 (by kernel_rfl) ?dr26_1 ?dr26_5
              case' dr26_1 =>
                (first | ((with_reducible apply gaop_val); exact rfl; exact rfl; exact rfl; exact rfl; (first | ((with_reducible apply pv_sound); exact rfl) | ((with_reducible apply v_ld); exact rfl; (repeat first | with_reducible exact inb_hd | with_reducible apply inb_tl); exact rfl))))
                all_goals (first | (refine D3 5 ?_; refine D5 ?_; (with_reducible apply g_enter_bor 1); exact rfl; exact rfl; exact rfl; ((with_reducible apply e_call2); kernel_rfl; exact rfl; exact rfl); exact rfl; (exact fun w5 hw5 hO5 => ihc w5 _ hw5 hmq9 hT9 hnm9 hO5); (rintro v5 μ5 ⟨a5, l5, e5⟩ hle5 hp5); (obtain ⟨t5, u5, rfl, ho5, hc5⟩ := nodeP_form hp5); (dsimp only [List.cons_append, List.nil_append]); refine D9 ?_))
                all_goals (first | (refine D3 6 ?_; refine D5 ?_; refine NB fun b => ?_; refine D9 ?_))
                all_goals (first | (refine D3 7 ?_; refine D5 ?_; (first | ((with_reducible apply g_ap); exact rfl; exact rfl; exact rfl; (repeat first | with_reducible exact rowup_hd | with_reducible apply rowup_tl); (iterate 6 exact rfl); (first | ((with_reducible apply src_in); exact rfl; (repeat first | with_reducible exact inb_hd | with_reducible apply inb_tl); exact rfl)); (first | exact rfl | omega | simp); (first | assumption | (exact ones_mem (by (repeat first | with_reducible exact ones_nil | ((with_reducible apply ones_cons); (first | exact rfl | assumption))))) | simp [Value.oneCell']); omega; omega; intro v) | ((with_reducible apply g_append0); (iterate 9 exact rfl); (first | ((with_reducible apply src_in); exact rfl; (repeat first | with_reducible exact inb_hd | with_reducible apply inb_tl); exact rfl)); (first | exact rfl | omega | simp); (first | assumption | (exact ones_mem (by (repeat first | with_reducible exact ones_nil | ((with_reducible apply ones_cons); (first | exact rfl | assumption))))) | simp [Value.oneCell']); omega; omega; intro v)); refine D9 ?_))
                all_goals refine DD 8 ?_
                all_goals (first | (refine D3 9 ?_; refine D5 ?_; (first | refine Y0 ?_ | ((with_reducible apply g_rowOk 2); exact rfl; rintro A4 c4 rfl hok4; (with_reducible apply g_st); exact rfl; exact rfl; (repeat first | with_reducible exact ones_nil | ((with_reducible apply ones_cons); (first | exact rfl | assumption))); (repeat first | with_reducible apply upb_hd | with_reducible apply upb_tl); exact rfl; (repeat first | with_reducible exact pc_nil | with_reducible apply pc_cons))); refine D9 ?_))
                all_goals refine D8 ?_
              case' dr26_5 =>
                (first | (refine D5 ?_; (with_reducible apply g_enter_bor 1); exact rfl; exact rfl; exact rfl; ((with_reducible apply e_call2); kernel_rfl; exact rfl; exact rfl); exact rfl; (exact fun w5 hw5 hO5 => ihc w5 _ hw5 hmq9 hT9 hnm9 hO5); (rintro v5 μ5 ⟨a5, l5, e5⟩ hle5 hp5); (obtain ⟨t5, u5, rfl, ho5, hc5⟩ := nodeP_form hp5); (dsimp only [List.cons_append, List.nil_append]); refine D9 ?_))
                refine ga_all2 1 6 (by kernel_rfl) ?dr27_1 ?dr27_6
                case' dr27_1 =>
                  (first | ((with_reducible apply gaop_val); exact rfl; exact rfl; exact rfl; exact rfl; (first | ((with_reducible apply pv_sound); exact rfl) | ((with_reducible apply v_ld); exact rfl; (repeat first | with_reducible exact inb_hd | with_reducible apply inb_tl); exact rfl))))
                  all_goals (first | (refine D3 6 ?_; refine D5 ?_; refine NB fun b => ?_; refine D9 ?_))
                  all_goals (first | (refine D3 7 ?_; refine D5 ?_; (first | ((with_reducible apply g_ap); exact rfl; exact rfl; exact rfl; (repeat first | with_reducible exact rowup_hd | with_reducible apply rowup_tl); (iterate 6 exact rfl); (first | ((with_reducible apply src_in); exact rfl; (repeat first | with_reducible exact inb_hd | with_reducible apply inb_tl); exact rfl)); (first | exact rfl | omega | simp); (first | assumption | (exact ones_mem (by (repeat first | with_reducible exact ones_nil | ((with_reducible apply ones_cons); (first | exact rfl | assumption))))) | simp [Value.oneCell']); omega; omega; intro v) | ((with_reducible apply g_append0); (iterate 9 exact rfl); (first | ((with_reducible apply src_in); exact rfl; (repeat first | with_reducible exact inb_hd | with_reducible apply inb_tl); exact rfl)); (first | exact rfl | omega | simp); (first | assumption | (exact ones_mem (by (repeat first | with_reducible exact ones_nil | ((with_reducible apply ones_cons); (first | exact rfl | assumption))))) | simp [Value.oneCell']); omega; omega; intro v)); refine D9 ?_))
                  all_goals refine DD 8 ?_
                  all_goals (first | (refine D3 9 ?_; refine D5 ?_; (first | refine Y0 ?_ | ((with_reducible apply g_rowOk 2); exact rfl; rintro A4 c4 rfl hok4; (with_reducible apply g_st); exact rfl; exact rfl; (repeat first | with_reducible exact ones_nil | ((with_reducible apply ones_cons); (first | exact rfl | assumption))); (repeat first | with_reducible apply upb_hd | with_reducible apply upb_tl); exact rfl; (repeat first | with_reducible exact pc_nil | with_reducible apply pc_cons))); refine D9 ?_))
                  all_goals refine D8 ?_
                case' dr27_6 =>
                  (first | (refine D5 ?_; refine NB fun b => ?_; refine D9 ?_))
                  all_goals (first | (refine D3 1 ?_; (with_reducible apply gaop_val); exact rfl; exact rfl; exact rfl; exact rfl; (first | ((with_reducible apply pv_sound); exact rfl) | ((with_reducible apply v_ld); exact rfl; (repeat first | with_reducible exact inb_hd | with_reducible apply inb_tl); exact rfl))))
                  all_goals (first | (refine D3 7 ?_; refine D5 ?_; (first | ((with_reducible apply g_ap); exact rfl; exact rfl; exact rfl; (repeat first | with_reducible exact rowup_hd | with_reducible apply rowup_tl); (iterate 6 exact rfl); (first | ((with_reducible apply src_in); exact rfl; (repeat first | with_reducible exact inb_hd | with_reducible apply inb_tl); exact rfl)); (first | exact rfl | omega | simp); (first | assumption | (exact ones_mem (by (repeat first | with_reducible exact ones_nil | ((with_reducible apply ones_cons); (first | exact rfl | assumption))))) | simp [Value.oneCell']); omega; omega; intro v) | ((with_reducible apply g_append0); (iterate 9 exact rfl); (first | ((with_reducible apply src_in); exact rfl; (repeat first | with_reducible exact inb_hd | with_reducible apply inb_tl); exact rfl)); (first | exact rfl | omega | simp); (first | assumption | (exact ones_mem (by (repeat first | with_reducible exact ones_nil | ((with_reducible apply ones_cons); (first | exact rfl | assumption))))) | simp [Value.oneCell']); omega; omega; intro v)); refine D9 ?_))
                  all_goals refine DD 8 ?_
                  all_goals (first | (refine D3 9 ?_; refine D5 ?_; (first | refine Y0 ?_ | ((with_reducible apply g_rowOk 2); exact rfl; rintro A4 c4 rfl hok4; (with_reducible apply g_st); exact rfl; exact rfl; (repeat first | with_reducible exact ones_nil | ((with_reducible apply ones_cons); (first | exact rfl | assumption))); (repeat first | with_reducible apply upb_hd | with_reducible apply upb_tl); exact rfl; (repeat first | with_reducible exact pc_nil | with_reducible apply pc_cons))); refine D9 ?_))
                  all_goals refine D8 ?_
              all_goals repeat' (first | refine KK ?_ | refine NB fun b => ?_ | (refine KB ?_ ?_ <;> intro hp) | refine KG ?_ | fail)
              all_goals refine gq_rowEq (n' := (ps ++ [(t5, u5)]).length) (xs' := (ps ++ [(t5, u5)]).flatMap encTV) 2 rfl (by simp) (by simp) ?_
              all_goals refine J2 (j + 1, ps ++ [(t5, u5)], μ5, .slice A4 (ps.length + 1) c4, a5, l5, e5) ?_ (by dsimp only; omega)
              all_goals exact loop_step hlt hpl hle9 hone hlb ha hfu hgf hkids hall hEq hle5 ho5 hc5
            · obtain rfl : j = c := by omega
              obtain ⟨g, rfl⟩ : ∃ g, g9 = g + 1 := ⟨g9 - 1, by omega⟩
              rw [Nat.sub_self, kids_zero] at hEq
              have hR2 : Iq.nodeR opOf (f + 1) deep line (s.drop k) = .ok (T.mk vop 0 vn vm (ofB vt) (ps.map (·.1)), s.drop a9, ln9) := by rw [hR, hEq]
              refine gc_share_1 rfl ?_
              intro μ10 hle10 hsh
              obtain ⟨A2, c2, hv, hS2⟩ := row_sl (enc := encTV) (xs := ps) hsh rfl (by simp) rfl
              have hcap := Bk.cap hsh
              cases hv
              have hkr := KR.of_pairs hS2 hcap (fun p hp => (hkids p hp).mono hle10)
              repeat' (first | refine KK ?_ | refine NB fun b => ?_ | (refine KB ?_ ?_ <;> intro hp) | refine KG ?_ | fail)
              all_goals first | (exfalso; first | omega | contradiction | exact absurd ‹_› ‹¬ _›) | skip
              all_goals exact ret_bor (Ls := fun i : Int × Int × Int => rdI rb (s, i.1, i.2.1, i.2.2, m)) (Post := NodeP s (Iq.nodeR opOf (f + 1) deep line (s.drop k))) 1 ((a9 : Int), ln9, 0) hcnt rfl (RG (vs := [.int .i64 vop, .int .i64 0, .int .i64 vn, .int .i64 vm, .string (ofB vt), .slice A1 ps.length c1]) 2 rfl rfl rfl rfl rfl) rfl rfl (fun μ' hle' => nodeP_ok hR2 ha rfl hlb (hkr.mono hle') (AllT.node ⟨0, ⟨by dsimp only; omega, by dsimp only; omega⟩, by dsimp only; rw [ofB_size]; exact hrg.2⟩ (fun t ht => by obtain ⟨p, hp, rfl⟩ := List.mem_map.1 ht; exact hall p hp)))
          · have hR2 : Iq.nodeR opOf (f + 1) deep line (s.drop k) = .error (ln9, e9) := by rw [hR, hEq]
            repeat' (first | refine KK ?_ | refine NB fun b => ?_ | (refine KB ?_ ?_ <;> intro hp) | refine KG ?_ | fail)
            all_goals first | (exfalso; first | omega | contradiction | exact absurd ‹_› ‹¬ _›) | skip
            all_goals exact ret_bor (Ls := fun i : Int × Int × Int => rdI rb (s, i.1, i.2.1, i.2.2, m)) (Post := NodeP s (Iq.nodeR opOf (f + 1) deep line (s.drop k))) 1 (at9, ln9, e9) hcnt rfl (RG (vs := [.int .i64 vop, .int .i64 0, .int .i64 vn, .int .i64 vm, .string (ofB vt), .slice A1 ps.length c1]) 3 rfl rfl rfl rfl rfl) rfl rfl (fun μ' hle' => nodeP_err hR2 hne _ _ (.mk vop 0 vn vm (ofB vt) []) (.slice A1 ps.length c1) rfl)
    · have hlt5 : ((splN 4 x).length : Int) < 5 := by omega
      repeat' (first | refine KO ?_ | (refine CF 95 ?_; (with_reducible apply g_enter_bor (Ls := fun i => [.inl ⟨i, 9, min 5 (x.length + 1), idx 0 (strsV (splN 4 x))⟩]) 0); exact rfl; exact rfl; exact rfl; ((with_reducible apply e_call3); kernel_rfl; exact rfl; exact rfl; exact rfl); exact rfl; (exact fun w hw _ => splitn_spec x (by omega) w _ hw (hmq.mono hle2)); (rintro v3 μ3 i3 hle3 rfl); (dsimp only [List.cons_append, List.nil_append])) | refine KI ?_ | refine NB fun b => ?_ | (refine KB ?_ ?_ <;> intro hp) | refine KG ?_ | fail)
      all_goals first | (exfalso; first | omega | contradiction | exact absurd ‹_› ‹¬ _›) | skip
      refine g_sel (l' := [(25, .pointer (some ⟨rb, 0, none⟩)), (4, .pointer (some ⟨b, 0, none⟩))]) (L' := [.inl ⟨rb, 55, 5, [(0, .string (ofB s)), (1, .int .i64 ((k + x.length + 1 : Nat) : Int)), (2, .int .i64 (line + 1)), (3, .int .i64 0), (4, .map (some m))]⟩, .inl ⟨b, 42, 6, []⟩]) PU PS ?_
      repeat' (first | refine KO ?_ | (refine CF 30 ?_; (with_reducible apply g_enter_bor 1); exact rfl; exact rfl; exact rfl; ((with_reducible apply e_call2); kernel_rfl; exact rfl; exact rfl); exact rfl; (exact fun w hw hO => fail_spec rb (s, ((k + x.length + 1 : Nat) : Int), line + 1, 0, m) 7 w _ hw hO); (rintro v2 μ2 ⟨⟩ hle2 hv); (dsimp only [List.cons_append, List.nil_append])) | refine KI ?_ | refine NB fun b => ?_ | (refine KB ?_ ?_ <;> intro hp) | refine KG ?_ | fail)
      all_goals first | (exfalso; first | omega | contradiction | exact absurd ‹_› ‹¬ _›) | skip
      exact ret_bor (Ls := fun i : Int × Int × Int => rdI rb (s, i.1, i.2.1, i.2.2, m)) (Post := NodeP s (Iq.nodeR opOf (f + 1) deep line (s.drop k))) 1 (((k + x.length + 1 : Nat) : Int), line + 1, 7) hcnt rfl (RG (vs := [.int .i64 0, .int .i64 0, .int .i64 0, .int .i64 0, .string ⟨#[]⟩, .slice none 0 0]) 1 rfl rfl rfl rfl rfl) rfl rfl (fun μ' _ => nodeP_err (nodeR_bad hc hln) (by decide) _ _ (.mk 0 0 0 0 ⟨#[]⟩ []) (.slice none 0 0) rfl)
theorem node_spec (s : List UInt8) (hs : s.length ≤ 1000000) (m : Nat) : ∀ g, NodeC s m g := fun g => by
  induction g using Nat.strongRecOn with
  | ind g ih =>
    cases g with
    | zero => intro rb k hk line deep hl hd hf; exfalso; omega
    | succ f =>
      intro rb k hk line deep hl hd hf w μ hμ hmq hT hnm hO
      exact node_step f rb s hs m (fun g hg => ih g (by omega)) k hf hk line deep hl hd w μ hμ hmq hT hnm hO
end Go.Proofs.YtoclmkdfcafhfaaGreatDoor
