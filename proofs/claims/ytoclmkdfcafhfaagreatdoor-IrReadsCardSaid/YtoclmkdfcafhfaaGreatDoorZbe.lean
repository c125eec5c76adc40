/- Package ir, the document's reader: a node with its descendants. -/
import Derived.Test.YtoclmkdfcafhfaaGreatDoorZbd
set_option maxRecDepth 20000
set_option maxHeartbeats 2000000
namespace Go.Proofs.YtoclmkdfcafhfaaGreatDoor
section
open Go.RowKit Go.Vcg Ou
abbrev RlN (M : List Nat) (w : World) (μ : Mem) (rb : Nat) (s : List UInt8) (P : Mem → Value → Int × Int × Int → Prop) (en : Ending) (w' : World) : Prop := ∃ (r : Value) (μ' : Mem) (i : Int × Int × Int), en = .returned r ∧ fH M w w' μ (rdL rb (s, i.1, i.2.1, i.2.2)) μ' ∧ P μ' r i
def UH (s : List UInt8) (g : Nat) : Prop := ∀ (rb k : Nat), k ≤ s.length → ∀ line deep : Int, (0 ≤ line ∧ line ≤ k) → (0 ≤ deep ∧ deep ≤ 3000) → 2 * (s.length - k) + 2 ≤ g → ∀ (w : World) (μ : Mem), MOk μ w → fY μ → Go.Vcg.Own μ (rdL rb (s, (k : Int), line, 0)) w →
    Calls Tryz.prog 69 #[.pointer (some ⟨rb, 0, none⟩), .int .i64 deep] w (RlN (bS (rdL rb (s, (k : Int), line, 0))) w μ rb s (jC s (Iq.cN aP g deep line (s.drop k))))
def aG3 (f : Nat) (deep line : Int) (u : List UInt8) (o : Option (Int × Int × Int × Nat × List UInt8)) (e : Int) : Prop := (e = 0 ∧ deep ≤ 2048 ∧ o.isSome = true) ∨ (e ≠ 0 ∧ Iq.cN aP (f + 1) deep line u = .error (line + 1, e))
attribute [local irreducible] nmL qM Iq.mX G GC GQ GA bO Calls IntKind.wrap Int.decLt Int.decLe
theorem ID (f : Nat) (rb : Nat) (s : List UInt8) (hs : s.length ≤ 1000000) (ih : ∀ g, g ≤ f → UH s g) (k : Nat) (hfu0 : 2 * (s.length - k) + 2 ≤ f + 1) (hk : k ≤ s.length) (line deep : Int) (hl : 0 ≤ line ∧ line ≤ k) (hd : 0 ≤ deep ∧ deep ≤ 3000) (w : World) (μ : Mem) (hμ : MOk μ w) (hmq : fY μ) (hO : Go.Vcg.Own μ (rdL rb (s, (k : Int), line, 0)) w) :
    Calls Tryz.prog 69 #[.pointer (some ⟨rb, 0, none⟩), .int .i64 deep] w (RlN (bS (rdL rb (s, (k : Int), line, 0))) w μ rb s (jC s (Iq.cN aP (f + 1) deep line (s.drop k)))) := by
  have hcnt := bE hO.diff
  refine aQ (args := [.pointer (some ⟨rb, 0, none⟩), .int .i64 deep]) Tryz.func69 rfl Tryz.ntmps69 (by simp) hμ hO ?_
  show GC _ _ _ _ _ _ [.inl ⟨rb, 64, 4, [(0, .string (ofB s)), (1, .int .i64 (k : Int)), (2, .int .i64 line), (3, .int .i64 0)]⟩]
  repeat' (first | ((with_reducible show GC _ _ (Code.seq (Code.region 1 _ _) _) _ _ _ _); (apply aY)) | refine KK ?_ | refine NB fun b => ?_ | fail)
  obtain ⟨bz, hbz⟩ : ∃ y, y = b := ⟨_, rfl⟩
  rw [← hbz]
  clear hbz
  refine gcs ?_
  refine bY (l' := [(4, .pointer (some ⟨bz, 0, none⟩)), (1, .int .i64 deep), (0, .pointer (some ⟨rb, 0, none⟩))]) (L' := [.inl ⟨rb, 64, 4, [(0, .string (ofB s)), (1, .int .i64 (k : Int)), (2, .int .i64 line), (3, .int .i64 0)]⟩, .inl ⟨bz, 42, 6, []⟩]) PU PS ?_
  cases hc : Ou.aO 10 (s.drop k) with
  | none =>
    repeat' (first | refine KO ?_ | (refine CF 33 ?_; (with_reducible apply aA 1); (iterate 3 exact rfl); ((with_reducible apply dV); kernel_rfl; exact rfl); exact rfl; (exact fun w hw hO => xD rb s k line 0 hc hk (by omega) (by omega) w _ hw hO); (rintro v2 μ2 ⟨⟩ hle2 rfl); (dsimp only [List.cons_append, List.nil_append])) | ((with_reducible apply F1 25); exact rfl; exact EN; exact fun w μc hw hse => jR [] (by decide) w μc hw) | refine KI ?_ | fail)
    all_goals first | skip
    all_goals exact aS (Ls := fun i : Int × Int × Int => rdL rb (s, i.1, i.2.1, i.2.2)) (Post := jC s (Iq.cN aP (f + 1) deep line (s.drop k))) 1 ((k : Int), line + 1, 8) hcnt rfl (RG (vs := [.int .i64 0, .int .i64 0, .int .i64 0, .int .i64 0, .string ⟨#[]⟩, .slice none 0 0]) 1 rfl rfl rfl rfl rfl) rfl rfl (fun μ' hle' => gM (xZ hc) (by decide) _ _ (.mk 0 0 0 0 ⟨#[]⟩ []) (.slice none 0 0) rfl)
  | some p =>
    obtain ⟨x, r⟩ := p
    have hxl := (cS hc).2
    rw [List.length_drop] at hxl
    have hln := aCl x
    have b0 := iZ x
    have b1 := iZ (cY x).2
    have b2 := iZ (cY (cY x).2).2
    have b3 := iZ (cY (cY (cY x).2).2).2
    have hc0 := fun (w : World) (μc : Mem) (hw : MOk μc w) => jR x (by omega) w μc hw
    have hc1 := fun (w : World) (μc : Mem) (hw : MOk μc w) => jR (cY x).2 (by omega) w μc hw
    have hc2 := fun (w : World) (μc : Mem) (hw : MOk μc w) => jR (cY (cY x).2).2 (by omega) w μc hw
    have hc3 := fun (w : World) (μc : Mem) (hw : MOk μc w) => jR (cY (cY (cY x).2).2).2 (by omega) w μc hw
    generalize cY x = p0 at hln b0 b1 b2 b3 hc0 hc1 hc2 hc3
    obtain ⟨w0, r0⟩ := p0
    dsimp only at hln b0 b1 b2 b3 hc0 hc1 hc2 hc3
    generalize cY r0 = p1 at hln b1 b2 b3 hc1 hc2 hc3
    obtain ⟨w1, r1⟩ := p1
    dsimp only at hln b1 b2 b3 hc1 hc2 hc3
    generalize cY r1 = p2 at hln b2 b3 hc2 hc3
    obtain ⟨w2, r2⟩ := p2
    dsimp only at hln b2 b3 hc2 hc3
    generalize cY r2 = p3 at hln b3 hc3
    obtain ⟨w3, r3⟩ := p3
    dsimp only at hln b3 hc3
    have h1 : w1.length ≤ 1000000 := by omega
    have h2 : w2.length ≤ 1000000 := by omega
    have h3 : w3.length ≤ 1000000 := by omega
    have h4 : r3.length ≤ 1000000 := by omega
    have hleZ : MLe μ μ := MLe.refl _
    repeat' (first | ((with_reducible show GC _ _ (Code.seq (Code.region 5 _ _) _) _ _ _ _); (apply aY)) | refine KO ?_ | (refine CF 33 ?_; (with_reducible apply aA 1); (iterate 3 exact rfl); ((with_reducible apply dV); kernel_rfl; exact rfl); exact rfl; (exact fun w hw hO => xC rb s k line 0 hc hk (by omega) (by omega) w _ hw hO); (rintro v2 μ2 ⟨⟩ hle2 rfl); (have hleZ := MLe.trans hleZ hle2); (dsimp only [List.cons_append, List.nil_append])) | ((with_reducible apply F1 25); exact rfl; exact EN; exact fun w μc hw hse => hc0 w μc hw) | (refine CF 102 ?_; (with_reducible apply aA 1); (iterate 3 exact rfl); ((with_reducible apply aL); kernel_rfl; exact rfl; exact rfl); exact rfl; (exact fun w hw hO => aB0 w0 rb (s, ((k + x.length + 1 : Nat) : Int), line + 1, 0) w _ hw hO (pX (hmq.mono hleZ))); (rintro v2 μ2 ⟨⟩ hle2 rfl); (have hleZ := MLe.trans hleZ hle2); (dsimp only [List.cons_append, List.nil_append])) | refine KI ?_ | refine NB fun b => ?_ | fail)
    all_goals first | skip
    obtain ⟨bn, hbn⟩ : ∃ y, y = b := ⟨_, rfl⟩
    rw [← hbn]
    clear hbn
    generalize he1 : okS (aP w0).isSome 0 7 = e1
    generalize hod : (aP w0).getD 0 = vop
    refine gcs ?_
    refine bY (l' := [(7, .pointer (some ⟨bn, 0, none⟩)), (6, .string (ofB r0)), (4, .pointer (some ⟨bz, 0, none⟩)), (1, .int .i64 deep), (0, .pointer (some ⟨rb, 0, none⟩))]) (L' := [.inl ⟨rb, 64, 4, [(0, .string (ofB s)), (1, .int .i64 ((k + x.length + 1 : Nat) : Int)), (2, .int .i64 (line + 1)), (3, .int .i64 e1)]⟩, .inl ⟨bn, 42, 6, idx 0 [.int .i64 vop, .int .i64 0, .int .i64 0, .int .i64 0, .string ⟨#[]⟩, .slice none 0 0]⟩, .inl ⟨bz, 42, 6, []⟩]) PU PS ?_
    repeat' (first | ((with_reducible show GC _ _ (Code.seq (Code.seq (Code.region 12 _ _) _) _) _ _ _ _); (apply aY)) | refine KO ?_ | ((with_reducible apply F1 25); exact rfl; exact EN; first | exact fun w μc hw hse => hc1 w μc hw | exact fun w μc hw hse => hc2 w μc hw | exact fun w μc hw hse => hc3 w μc hw) | (refine CF 35 ?_; (with_reducible apply aA 1); (iterate 3 exact rfl); ((with_reducible apply cC); kernel_rfl; (iterate 4 exact rfl)); exact rfl; (first | exact fun w hw hO => jY w1 (-9007199254740992) 9007199254740992 rb (s, ((k + x.length + 1 : Nat) : Int), line + 1, e1) h1 w _ hw hO | exact fun w hw hO => jY w2 (-9007199254740992) 9007199254740992 rb (s, ((k + x.length + 1 : Nat) : Int), line + 1, okS (aV (-9007199254740992) 9007199254740992 w1).isSome e1 7) h2 w _ hw hO | exact fun w hw hO => jY w3 0 1048576 rb (s, ((k + x.length + 1 : Nat) : Int), line + 1, okS (aV (-9007199254740992) 9007199254740992 w2).isSome (okS (aV (-9007199254740992) 9007199254740992 w1).isSome e1 7) 7) h3 w _ hw hO); (rintro v2 μ2 ⟨⟩ hle2 rfl); (have hleZ := MLe.trans hleZ hle2); (dsimp only [List.cons_append, List.nil_append])) | (refine CF 68 ?_; (with_reducible apply aA 1); (iterate 3 exact rfl); ((with_reducible apply aL); kernel_rfl; exact rfl; exact rfl); exact rfl; (exact fun w hw hO => uH r3 rb (s, ((k + x.length + 1 : Nat) : Int), line + 1, okS (aV 0 1048576 w3).isSome (okS (aV (-9007199254740992) 9007199254740992 w2).isSome (okS (aV (-9007199254740992) 9007199254740992 w1).isSome e1 7) 7) 7) h4 w _ hw hO); (rintro v2 μ2 ⟨⟩ hle2 rfl); (have hleZ := MLe.trans hleZ hle2); (dsimp only [List.cons_append, List.nil_append])) | refine KI ?_ | fail)
    all_goals first | skip
    generalize he5 : okS (cE r3).isSome (okS (aV 0 1048576 w3).isSome (okS (aV (-9007199254740992) 9007199254740992 w2).isSome (okS (aV (-9007199254740992) 9007199254740992 w1).isSome e1 7) 7) 7) 7 = e5
    generalize hnd : fT (-9007199254740992) 9007199254740992 w1 = vn
    generalize hmd : fT (-9007199254740992) 9007199254740992 w2 = vm
    generalize hkd : fT 0 1048576 w3 = vk
    generalize htd : sD r3 = vt
    have hE : qM w0 w1 w2 w3 r3 = e5 := by rw [qM, he1, he5]
    refine gcs ?_
    refine bY (l' := [(11, .int .i64 vk), (7, .pointer (some ⟨bn, 0, none⟩)), (4, .pointer (some ⟨bz, 0, none⟩)), (1, .int .i64 deep), (0, .pointer (some ⟨rb, 0, none⟩))]) (L' := [.inl ⟨rb, 64, 4, [(0, .string (ofB s)), (1, .int .i64 ((k + x.length + 1 : Nat) : Int)), (2, .int .i64 (line + 1)), (3, .int .i64 e5)]⟩, .inl ⟨bn, 42, 6, idx 0 [.int .i64 vop, .int .i64 0, .int .i64 vn, .int .i64 vm, .string (ofB vt), .slice none 0 0]⟩, .inl ⟨bz, 42, 6, []⟩]) PU PS ?_
    refine cM (ι := Mem × Int) (fun i => MLe μ i.1 ∧ aG3 f deep line (s.drop k) (iM w0 w1 w2 w3 r3) i.2) (fun i => i.1) (fun i => [(11, .int .i64 vk), (7, .pointer (some ⟨bn, 0, none⟩)), (4, .pointer (some ⟨bz, 0, none⟩)), (1, .int .i64 deep), (0, .pointer (some ⟨rb, 0, none⟩))]) (fun i => [.inl ⟨rb, 64, 4, [(0, .string (ofB s)), (1, .int .i64 ((k + x.length + 1 : Nat) : Int)), (2, .int .i64 (line + 1)), (3, .int .i64 i.2)]⟩, .inl ⟨bn, 42, 6, idx 0 [.int .i64 vop, .int .i64 0, .int .i64 vn, .int .i64 vm, .string (ofB vt), .slice none 0 0]⟩, .inl ⟨bz, 42, 6, []⟩]) ?_ ?_
    · have hdp := Int.lt_or_le 2048 deep
      cases hM : iM w0 w1 w2 w3 r3 with
      | none =>
        have he := yO hM
        rw [hE] at he
        subst he
        rcases hdp with hdp | hdp
        all_goals repeat' (first | refine KO ?_ | (refine CF 34 ?_; (with_reducible apply aA 1); (iterate 3 exact rfl); ((with_reducible apply aL); kernel_rfl; exact rfl; exact rfl); exact rfl; (exact fun w hw hO => eM rb (s, ((k + x.length + 1 : Nat) : Int), line + 1, 7) 10 w _ hw hO); (rintro v2 μ2 ⟨⟩ hle2 hv); (have hleZ := MLe.trans hleZ hle2); (dsimp only [List.cons_append, List.nil_append])) | fail)
        all_goals first | skip
        all_goals exact J1 (_, 7) ⟨hleZ, .inr ⟨(by decide : (7 : Int) ≠ 0), pV hc (hln.trans hM)⟩⟩
      | some q =>
        have he := (rG hM).1
        rw [hE] at he
        subst he
        rcases hdp with hdp | hdp
        · repeat' (first | refine KO ?_ | (refine CF 34 ?_; (with_reducible apply aA 1); (iterate 3 exact rfl); ((with_reducible apply aL); kernel_rfl; exact rfl; exact rfl); exact rfl; (exact fun w hw hO => eM rb (s, ((k + x.length + 1 : Nat) : Int), line + 1, 0) 10 w _ hw hO); (rintro v2 μ2 ⟨⟩ hle2 hv); (have hleZ := MLe.trans hleZ hle2); (dsimp only [List.cons_append, List.nil_append])) | fail)
          all_goals first | skip
          all_goals exact J1 (_, 10) ⟨hleZ, .inr ⟨(by decide : (10 : Int) ≠ 0), yB hc (hln.trans hM) hdp⟩⟩
        · repeat' (first | refine KK ?_ | fail)
          all_goals first | skip
          all_goals exact J1 (_, 0) ⟨hleZ, .inl ⟨rfl, hdp, rfl⟩⟩
    rintro ⟨μ8, e6⟩ ⟨hleA, hL⟩
    dsimp only at hleA hL ⊢
    repeat' (first | refine KK ?_ | fail)
    all_goals first | skip
    rcases hL with ⟨rfl, hdp, hsome⟩ | ⟨hne, hR⟩
    rotate_left
    · refine aX (ι := Unit) (fun _ => True) (fun _ => 0) (fun _ => _) (fun _ => [(12, .int .i64 0), (11, .int .i64 vk), (7, .pointer (some ⟨bn, 0, none⟩)), (4, .pointer (some ⟨bz, 0, none⟩)), (1, .int .i64 deep), (0, .pointer (some ⟨rb, 0, none⟩))]) (fun _ => [.inl ⟨rb, 64, 4, [(0, .string (ofB s)), (1, .int .i64 ((k + x.length + 1 : Nat) : Int)), (2, .int .i64 (line + 1)), (3, .int .i64 e6)]⟩, .inl ⟨bn, 42, 6, idx 0 [.int .i64 vop, .int .i64 0, .int .i64 vn, .int .i64 vm, .string (ofB vt), .slice none 0 0]⟩, .inl ⟨bz, 42, 6, []⟩]) () trivial (fun a w hs => J5 hs) ?_
      intro _ _
      repeat' (first | refine KK ?_ | (refine KB ?_ ?_ <;> intro hp) | refine KG ?_ | fail)
      all_goals first | skip
      all_goals exact aS (Ls := fun i : Int × Int × Int => rdL rb (s, i.1, i.2.1, i.2.2)) (Post := jC s (Iq.cN aP (f + 1) deep line (s.drop k))) 1 (((k + x.length + 1 : Nat) : Int), line + 1, e6) hcnt rfl (RG (vs := [.int .i64 vop, .int .i64 0, .int .i64 vn, .int .i64 vm, .string (ofB vt), .slice none 0 0]) 2 rfl rfl rfl rfl rfl) rfl rfl (fun μ' hle' => gM hR hne _ _ (.mk vop 0 vn vm (ofB vt) []) (.slice none 0 0) rfl)
    obtain ⟨q, hM⟩ := Option.isSome_iff_exists.1 hsome
    obtain ⟨op, vn', vm', c, t⟩ := q
    obtain ⟨he, g1, g2, g3, g4, g5, g6⟩ := rG hM
    obtain rfl : vk = (c : Int) := by rw [← hkd, g4]
    have hrg := CT hM
    obtain rfl : vop = op := hod.symm.trans g1
    obtain rfl : vn = vn' := hnd.symm.trans g2
    obtain rfl : vm = vm' := hmd.symm.trans g3
    obtain rfl : vt = t := htd.symm.trans g5
    have hR := yA (f := f) (deep := deep) (line := line) hc (hln.trans hM) (by omega)
    have hmq8 := hmq.mono hleA
    have hr : s.drop (k + x.length + 1) = r := by
      have h1 := (cS hc).1
      have h2 := congrArg (List.drop (x.length + 1)) h1
      rw [List.drop_drop] at h2
      rw [show k + x.length + 1 = k + (x.length + 1) by omega, h2]
      simp
    refine aX (ι := Nat × List (T × Value) × Mem × Value × Int × Int × Int) (aBc f c deep (line + 1) r s μ8) (fun i => c + 1 - i.1) (fun i => i.2.2.1) (fun i => [(12, .int .i64 (i.1 : Int)), (11, .int .i64 (c : Int)), (7, .pointer (some ⟨bn, 0, none⟩)), (4, .pointer (some ⟨bz, 0, none⟩)), (1, .int .i64 deep), (0, .pointer (some ⟨rb, 0, none⟩))]) (fun i => [.inl ⟨rb, 64, 4, [(0, .string (ofB s)), (1, .int .i64 i.2.2.2.2.1), (2, .int .i64 i.2.2.2.2.2.1), (3, .int .i64 i.2.2.2.2.2.2)]⟩, .inr ⟨i.2.2.2.1, 42, 6, i.2.1.length, i.2.1.flatMap qO⟩, .inl ⟨bn, 42, 6, idx 0 [.int .i64 vop, .int .i64 0, .int .i64 vn, .int .i64 vm, .string (ofB vt), i.2.2.2.1]⟩, .inl ⟨bz, 42, 6, []⟩]) (0, [], μ8, .slice none 0 0, ((k + x.length + 1 : Nat) : Int), line + 1, 0)
      ⟨Nat.zero_le _, rfl, MLe.refl _, (by simp), .inl ⟨rfl, k + x.length + 1, f, rfl, by omega, by dsimp only; omega, by omega, Nat.le_refl _, fun p hp => (by cases hp), fun p hp => (by cases hp), by rw [hr]; exact (JA _).symm⟩⟩ (fun a w hs => (hs.rE 42 6).sel PU PS) ?_
    rintro ⟨j, ps, μ9, v9, at9, ln9, e9⟩ ⟨hj, hpl, hle9, hone, hcase⟩
    dsimp only at hj hpl hle9 hone hcase ⊢
    refine nB 1 rfl ?_
    rintro A1 c1 rfl hok
    rcases hcase with ⟨he0, a9, g9, ha9, ha, hlb, hfu, hgf, hkids, hall, hEq⟩ | ⟨hne, hEq⟩
    · subst he0
      subst ha9
      by_cases hlt : j < c
      · obtain ⟨g, rfl⟩ : ∃ g, g9 = g + 1 := ⟨g9 - 1, by omega⟩
        have hcj : c - j = (c - j - 1) + 1 := by omega
        rw [hcj] at hEq
        have ihc := ih g (by omega) rb a9 ha ln9 (deep + 1) hlb (by omega) (by omega)
        have hmq9 := hmq8.mono hle9
        repeat' (first | refine KK ?_ | refine KG ?_ | fail)
        all_goals first | skip
        refine aN 10 _ (by kernel_rfl) rfl (List.Sublist.cons _ (List.Sublist.cons _ (List.Sublist.cons _ (List.Sublist.cons_cons _ (List.nil_sublist _))))) ?_
        all_goals refine DD 0 ?_
        all_goals refine DD 2 ?_
        all_goals refine DD 3 ?_
        all_goals refine DD 4 ?_
        refine bT 1 5 (by kernel_rfl) ?dr32_1 ?dr32_5
        case' dr32_1 =>
          (((with_reducible apply bJ); (iterate 4 exact rfl); (((with_reducible apply iQ); exact rfl; (repeat first | with_reducible exact bG | with_reducible apply dJ); exact rfl))))
          all_goals ((refine D3 5 ?_; refine D5 ?_; (with_reducible apply aA 1); (iterate 3 exact rfl); ((with_reducible apply aL); kernel_rfl; exact rfl; exact rfl); exact rfl; (exact fun w5 hw5 hO5 => ihc w5 _ hw5 hmq9 hO5); (rintro v5 μ5 ⟨a5, l5, e5⟩ hle5 hp5); (obtain ⟨t5, u5, rfl, ho5, hc5⟩ := jK hp5); (dsimp only [List.cons_append, List.nil_append]); refine D9 ?_))
          all_goals ((refine D3 6 ?_; refine D5 ?_; refine NB fun b => ?_; refine D9 ?_))
          all_goals ((refine D3 7 ?_; refine D5 ?_; (((with_reducible apply lI); (iterate 3 exact rfl); (repeat first | with_reducible exact cF | with_reducible apply cQ); (iterate 6 exact rfl); (((with_reducible apply eZ); exact rfl; (repeat with_reducible exact bG); exact rfl)); (exact rfl); ((exact dP (by (repeat first | with_reducible exact bH | ((with_reducible apply aU); (first | exact rfl | assumption)))))); omega; omega; intro v)); refine D9 ?_))
          all_goals refine DD 8 ?_
          all_goals ((refine D3 9 ?_; refine D5 ?_; (((with_reducible apply iA 2); exact rfl; rintro A4 c4 rfl hok4; (with_reducible apply sN); exact rfl; exact rfl; (repeat first | with_reducible exact bH | ((with_reducible apply aU); (exact rfl))); (repeat first | with_reducible apply iD | with_reducible apply iC); exact rfl; (repeat first | with_reducible exact iE | with_reducible apply fK))); refine D9 ?_))
          all_goals refine D8 ?_
        case' dr32_5 =>
          ((refine D5 ?_; (with_reducible apply aA 1); (iterate 3 exact rfl); ((with_reducible apply aL); kernel_rfl; exact rfl; exact rfl); exact rfl; (exact fun w5 hw5 hO5 => ihc w5 _ hw5 hmq9 hO5); (rintro v5 μ5 ⟨a5, l5, e5⟩ hle5 hp5); (obtain ⟨t5, u5, rfl, ho5, hc5⟩ := jK hp5); (dsimp only [List.cons_append, List.nil_append]); refine D9 ?_))
          refine bT 1 6 (by kernel_rfl) ?dr33_1 ?dr33_6
          case' dr33_1 =>
            (((with_reducible apply bJ); (iterate 4 exact rfl); (((with_reducible apply iQ); exact rfl; (repeat first | with_reducible exact bG | with_reducible apply dJ); exact rfl))))
            all_goals ((refine D3 6 ?_; refine D5 ?_; refine NB fun b => ?_; refine D9 ?_))
            all_goals ((refine D3 7 ?_; refine D5 ?_; (((with_reducible apply lI); (iterate 3 exact rfl); (repeat first | with_reducible exact cF | with_reducible apply cQ); (iterate 6 exact rfl); (((with_reducible apply eZ); exact rfl; (repeat with_reducible exact bG); exact rfl)); (exact rfl); ((exact dP (by (repeat first | with_reducible exact bH | ((with_reducible apply aU); (first | exact rfl | assumption)))))); omega; omega; intro v)); refine D9 ?_))
            all_goals refine DD 8 ?_
            all_goals ((refine D3 9 ?_; refine D5 ?_; (((with_reducible apply iA 2); exact rfl; rintro A4 c4 rfl hok4; (with_reducible apply sN); exact rfl; exact rfl; (repeat first | with_reducible exact bH | ((with_reducible apply aU); (exact rfl))); (repeat first | with_reducible apply iD | with_reducible apply iC); exact rfl; (repeat first | with_reducible exact iE | with_reducible apply fK))); refine D9 ?_))
            all_goals refine D8 ?_
          case' dr33_6 =>
            ((refine D5 ?_; refine NB fun b => ?_; refine D9 ?_))
            all_goals ((refine D3 1 ?_; (with_reducible apply bJ); (iterate 4 exact rfl); (((with_reducible apply iQ); exact rfl; (repeat first | with_reducible exact bG | with_reducible apply dJ); exact rfl))))
            all_goals ((refine D3 7 ?_; refine D5 ?_; (((with_reducible apply lI); (iterate 3 exact rfl); (repeat first | with_reducible exact cF | with_reducible apply cQ); (iterate 6 exact rfl); (((with_reducible apply eZ); exact rfl; (repeat with_reducible exact bG); exact rfl)); (exact rfl); ((exact dP (by (repeat first | with_reducible exact bH | ((with_reducible apply aU); (first | exact rfl | assumption)))))); omega; omega; intro v)); refine D9 ?_))
            all_goals refine DD 8 ?_
            all_goals ((refine D3 9 ?_; refine D5 ?_; (((with_reducible apply iA 2); exact rfl; rintro A4 c4 rfl hok4; (with_reducible apply sN); exact rfl; exact rfl; (repeat first | with_reducible exact bH | ((with_reducible apply aU); (exact rfl))); (repeat first | with_reducible apply iD | with_reducible apply iC); exact rfl; (repeat first | with_reducible exact iE | with_reducible apply fK))); refine D9 ?_))
            all_goals refine D8 ?_
        all_goals repeat' (first | refine KK ?_ | fail)
        all_goals refine dQ (n' := (ps ++ [(t5, u5)]).length) (xs' := (ps ++ [(t5, u5)]).flatMap qO) 2 rfl (by simp) (by simp) ?_
        all_goals refine J2 (j + 1, ps ++ [(t5, u5)], μ5, .slice A4 (ps.length + 1) c4, a5, l5, e5) ?_ (by dsimp only; omega)
        all_goals exact CO hlt hpl hle9 hone hlb ha hfu hgf hkids hall hEq hle5 ho5 hc5
      · obtain rfl : j = c := by omega
        obtain ⟨g, rfl⟩ : ∃ g, g9 = g + 1 := ⟨g9 - 1, by omega⟩
        rw [Nat.sub_self, CY] at hEq
        have hR2 : Iq.cN aP (f + 1) deep line (s.drop k) = .ok (T.mk vop 0 vn vm (ofB vt) (ps.map (·.1)), s.drop a9, ln9) := by rw [hR, hEq]
        refine nS rfl ?_
        intro μ10 hle10 hsh
        obtain ⟨A2, c2, hv, hS2⟩ := NT (enc := qO) (xs := ps) hsh rfl (by simp) rfl
        have hcap := Bk.cap hsh
        cases hv
        have hkr := KR.JM hS2 hcap (fun p hp => (hkids p hp).mono hle10)
        repeat' (first | refine KK ?_ | refine KG ?_ | fail)
        all_goals first | skip
        all_goals exact aS (Ls := fun i : Int × Int × Int => rdL rb (s, i.1, i.2.1, i.2.2)) (Post := jC s (Iq.cN aP (f + 1) deep line (s.drop k))) 1 ((a9 : Int), ln9, 0) hcnt rfl (RG (vs := [.int .i64 vop, .int .i64 0, .int .i64 vn, .int .i64 vm, .string (ofB vt), .slice A1 ps.length c1]) 2 rfl rfl rfl rfl rfl) rfl rfl (fun μ' hle' => JQ hR2 ha rfl hlb (hkr.mono hle') (gU.node ⟨0, ⟨by dsimp only; omega, by dsimp only; omega⟩, by dsimp only; rw [bF]; exact hrg.2⟩ (fun t ht => by obtain ⟨p, hp, rfl⟩ := List.mem_map.1 ht; exact hall p hp)))
    · have hR2 : Iq.cN aP (f + 1) deep line (s.drop k) = .error (ln9, e9) := by rw [hR, hEq]
      repeat' (first | refine KK ?_ | (refine KB ?_ ?_ <;> intro hp) | refine KG ?_ | fail)
      all_goals first | skip
      all_goals exact aS (Ls := fun i : Int × Int × Int => rdL rb (s, i.1, i.2.1, i.2.2)) (Post := jC s (Iq.cN aP (f + 1) deep line (s.drop k))) 1 (at9, ln9, e9) hcnt rfl (RG (vs := [.int .i64 vop, .int .i64 0, .int .i64 vn, .int .i64 vm, .string (ofB vt), .slice A1 ps.length c1]) 3 rfl rfl rfl rfl rfl) rfl rfl (fun μ' hle' => gM hR2 hne _ _ (.mk vop 0 vn vm (ofB vt) []) (.slice A1 ps.length c1) rfl)
theorem NW (s : List UInt8) (hs : s.length ≤ 1000000) : ∀ g, UH s g := fun g => by
  induction g using Nat.strongRecOn with
  | ind g ih =>
    cases g with
    | zero => intro rb k hk line deep hl hd hf; exfalso; omega
    | succ f =>
      intro rb k hk line deep hl hd hf w μ hμ hmq hO
      exact ID f rb s hs (fun g hg => ih g (by omega)) k hf hk line deep hl hd w μ hμ hmq hO
end
section
open Go.RowKit Go.Vcg Ou
theorem JL (b : Bool) : okS b 7 7 = 7 := by cases b <;> rfl
theorem TT : Fr 32 ([102, 117, 110, 99] : List UInt8) := by unfold Fr; decide +kernel
theorem IZ {x r : List UInt8} (h : Iq.pre Iq.iX x = some r) : cY x = ([102, 117, 110, 99], r) := by
  apply dL
  rw [Iq.pre_some h]
  exact zJ TT
theorem aHm {x w0 rest : List UInt8} (hcut : cY x = (w0, rest)) (hq : ¬ rest[Iq.bI rest]? = some 32) : Iq.gH x = none := by
  cases hp : Iq.pre Iq.iX x with
  | none => exact DJ hp
  | some r =>
    have := IZ hp
    rw [hcut] at this
    cases this
    exact aC5 hp hq
theorem aHl {x w0 rest w1 r1 w2 w3 : List UInt8} {e2 e5 : Int} (hcut : cY x = (w0, rest)) (hq : rest[Iq.bI rest]? = some 32) (hw1 : cY (rest.drop (Iq.bI rest + 1)) = (w1, r1)) (hw2 : cY r1 = (w2, w3)) (he2 : e2 = if w0 = [102, 117, 110, 99] then 0 else 7)
    (he5 : okS (aV (-9007199254740992) 9007199254740992 w3).isSome (okS (aV (-9007199254740992) 9007199254740992 w2).isSome (okS (aV (-9007199254740992) 9007199254740992 w1).isSome (okS (cE (rest.take (Iq.bI rest))).isSome e2 7) 7) 7) 7 = e5) :
    (e5 = 0 ∧ Iq.gH x = some (sD (rest.take (Iq.bI rest)), fT (-9007199254740992) 9007199254740992 w1, fT (-9007199254740992) 9007199254740992 w2, fT (-9007199254740992) 9007199254740992 w3)) ∨ (e5 = 7 ∧ Iq.gH x = none) := by
  by_cases hw : w0 = [102, 117, 110, 99]
  · rw [if_pos hw] at he2
    subst he2
    have hp : Iq.pre Iq.iX x = some rest := by
      cases hc : Ou.aO 32 x with
      | none =>
        rw [fR hc] at hcut
        cases hcut
        simp at hq
      | some p =>
        obtain ⟨a, r⟩ := p
        rw [dL hc] at hcut
        cases hcut
        subst hw
        exact YZ TT hc
    have hF := aC4 hp hq
    rw [hw1] at hF
    dsimp only at hF
    rw [hw2] at hF
    dsimp only at hF
    unfold sO at hF
    unfold fT sD
    rw [gL, gL, gL] at he5 ⊢
    cases h0 : cE (rest.take (Iq.bI rest)) <;> cases h1 : Iq.cU w1 <;> cases h2 : Iq.cU w2 <;> cases h3 : Iq.cU w3 <;> rw [h0, h1, h2, h3] at hF he5 <;> first | exact .inl ⟨he5.symm, hF⟩ | exact .inr ⟨he5.symm, hF⟩
  · rw [if_neg hw] at he2
    subst he2
    refine .inr ⟨by rw [← he5, JL, JL, JL, JL], ?_⟩
    cases hp : Iq.pre Iq.iX x with
    | none => exact DJ hp
    | some r =>
      have := IZ hp
      rw [hcut] at this
      cases this
      exact absurd rfl hw
attribute [local irreducible] nmL Iq.bI Iq.gH Iq.mX G GC GQ GA bO Calls IntKind.wrap Int.decLt Int.decLe
theorem YR (g : Nat) (rb : Nat) (s : List UInt8) (hs : s.length ≤ 1000000) (k : Nat) (hk : k ≤ s.length) (hg : 2 * (s.length - k) + 2 ≤ g) (line : Int) (hl : 0 ≤ line ∧ line ≤ k) (w : World) (μ : Mem) (hμ : MOk μ w) (hmq : fY μ) (hO : Go.Vcg.Own μ (rdL rb (s, (k : Int), line, 0)) w) :
    Calls Tryz.prog 36 #[.pointer (some ⟨rb, 0, none⟩)] w (RlN (bS (rdL rb (s, (k : Int), line, 0))) w μ rb s (pK s (fn1 g line (s.drop k)))) := by
  have hcnt := bE hO.diff
  refine aQ (args := [.pointer (some ⟨rb, 0, none⟩)]) Tryz.func36 rfl Tryz.ntmps36 (by simp) hμ hO ?_
  show GC _ _ _ _ _ _ [.inl ⟨rb, 64, 4, [(0, .string (ofB s)), (1, .int .i64 (k : Int)), (2, .int .i64 line), (3, .int .i64 0)]⟩]
  repeat' (first | ((with_reducible show GC _ _ (Code.seq (Code.region 1 _ _) _) _ _ _ _); (apply aY)) | refine KK ?_ | refine NB fun b => ?_ | fail)
  obtain ⟨bz, hbz⟩ : ∃ y, y = b := ⟨_, rfl⟩
  rw [← hbz]
  clear hbz
  refine gcs ?_
  refine bY (l' := [(2, .pointer (some ⟨bz, 0, none⟩)), (0, .pointer (some ⟨rb, 0, none⟩))]) (L' := [.inl ⟨rb, 64, 4, [(0, .string (ofB s)), (1, .int .i64 (k : Int)), (2, .int .i64 line), (3, .int .i64 0)]⟩, .inl ⟨bz, 44, 10, []⟩]) PU PS ?_
  cases hc : Ou.aO 10 (s.drop k) with
  | none =>
    repeat' (first | refine KO ?_ | (refine CF 33 ?_; (with_reducible apply aA 1); (iterate 3 exact rfl); ((with_reducible apply dV); kernel_rfl; exact rfl); exact rfl; (exact fun w hw hO => xD rb s k line 0 hc hk (by omega) (by omega) w _ hw hO); (rintro v2 μ2 ⟨⟩ hle2 rfl); (dsimp only [List.cons_append, List.nil_append])) | refine KI ?_ | fail)
    all_goals first | skip
    all_goals exact aS (Ls := fun i : Int × Int × Int => rdL rb (s, i.1, i.2.1, i.2.2)) (Post := pK s (fn1 g line (s.drop k))) 1 ((k : Int), line + 1, 8) hcnt rfl (RG (vs := [.string ⟨#[]⟩, .int .i64 0, .int .i64 0, .int .i64 0, .int .i64 0, .int .i64 0, .int .i64 0, .int .i64 0, .string ⟨#[]⟩, .slice none 0 0]) 1 rfl rfl rfl rfl rfl) rfl rfl (fun μ' hle' => iY (LJ hc) (by decide) _ _ HA (.slice none 0 0) rfl)
  | some p =>
    obtain ⟨x, r⟩ := p
    have hxl := (cS hc).2
    rw [List.length_drop] at hxl
    have b0 := iZ x
    have hc0 := fun (w : World) (μc : Mem) (hw : MOk μc w) => jR x (by omega) w μc hw
    obtain ⟨⟨w0, rest⟩, hcut⟩ : ∃ p, cY x = p := ⟨_, rfl⟩
    rw [hcut] at b0 hc0
    dsimp only at b0 hc0
    have hsz := bF rest
    have hql := KN rest
    have hleZ : MLe μ μ := MLe.refl _
    repeat' (first | ((with_reducible show GC _ _ (Code.seq (Code.seq (Code.region 5 _ _) _) _) _ _ _ _); (apply aY)) | refine KO ?_ | (refine CF 33 ?_; (with_reducible apply aA 1); (iterate 3 exact rfl); ((with_reducible apply dV); kernel_rfl; exact rfl); exact rfl; (exact fun w hw hO => xC rb s k line 0 hc hk (by omega) (by omega) w _ hw hO); (rintro v2 μ2 ⟨⟩ hle2 rfl); (have hleZ := MLe.trans hleZ hle2); (dsimp only [List.cons_append, List.nil_append])) | ((with_reducible apply F1 25); exact rfl; exact EN; exact fun w μc hw hse => hc0 w μc hw) | refine KI ?_ | fail)
    all_goals first | skip
    refine gcs ?_
    refine cM (ι := Mem × Int) (fun i => MLe μ i.1 ∧ i.2 = if w0 = [102, 117, 110, 99] then 0 else 7) (fun i => i.1) (fun i => [(5, .string (ofB rest)), (2, .pointer (some ⟨bz, 0, none⟩)), (0, .pointer (some ⟨rb, 0, none⟩))]) (fun i => [.inl ⟨rb, 64, 4, [(0, .string (ofB s)), (1, .int .i64 ((k + x.length + 1 : Nat) : Int)), (2, .int .i64 (line + 1)), (3, .int .i64 i.2)]⟩, .inl ⟨bz, 44, 10, []⟩]) ?_ ?_
    · by_cases hw0 : w0 = [102, 117, 110, 99]
      · have hw1 : ofB w0 = ⟨#[102, 117, 110, 99]⟩ := by rw [hw0]; rfl
        repeat' (first | refine KK ?_ | (refine KB ?_ ?_ <;> intro hp) | fail)
        all_goals first | (exfalso; contradiction) | skip
        all_goals exact J1 (_, 0) ⟨hleZ, (if_pos hw0).symm⟩
      · have hw1 : ¬ ofB w0 = ⟨#[102, 117, 110, 99]⟩ := fun h => hw0 (sG (h.trans rfl))
        repeat' (first | refine KO ?_ | (refine CF 34 ?_; (with_reducible apply aA 1); (iterate 3 exact rfl); ((with_reducible apply aL); kernel_rfl; exact rfl; exact rfl); exact rfl; (exact fun w hw hO => eM rb (s, ((k + x.length + 1 : Nat) : Int), line + 1, 0) 7 w _ hw hO); (rintro v2 μ2 ⟨⟩ hle2 hv); (have hleZ := MLe.trans hleZ hle2); (dsimp only [List.cons_append, List.nil_append])) | fail)
        all_goals first | skip
        all_goals exact J1 (_, 7) ⟨hleZ, (if_neg hw0).symm⟩
    rintro ⟨μ2, e2⟩ ⟨hleZ, he2⟩
    dsimp only at hleZ he2 ⊢
    repeat' (first | ((with_reducible show GC _ _ (Code.seq (Code.block 0 _) _) _ _ _ _); (apply aY)) | refine KK ?_ | fail)
    all_goals first | skip
    refine gcs ?_
    rw [hsz]
    refine cM (ι := Unit) (fun _ => True) (fun _ => μ2) (fun _ => [(6, .int .i64 ((Iq.bI rest : Nat) : Int)), (5, .string (ofB rest)), (2, .pointer (some ⟨bz, 0, none⟩)), (0, .pointer (some ⟨rb, 0, none⟩))]) (fun _ => [.inl ⟨rb, 64, 4, [(0, .string (ofB s)), (1, .int .i64 ((k + x.length + 1 : Nat) : Int)), (2, .int .i64 (line + 1)), (3, .int .i64 e2)]⟩, .inl ⟨bz, 44, 10, []⟩]) ?_ ?_
    · repeat' (first | refine KK ?_ | fail)
      refine aX (ι := Nat) (fun j => j ≤ rest.length ∧ Iq.bI rest ≤ j) (fun j => j) (fun _ => μ2) (fun j => [(6, .int .i64 (j : Int)), (5, .string (ofB rest)), (2, .pointer (some ⟨bz, 0, none⟩)), (0, .pointer (some ⟨rb, 0, none⟩))]) (fun _ => [.inl ⟨rb, 64, 4, [(0, .string (ofB s)), (1, .int .i64 ((k + x.length + 1 : Nat) : Int)), (2, .int .i64 (line + 1)), (3, .int .i64 e2)]⟩, .inl ⟨bz, 44, 10, []⟩]) rest.length ⟨Nat.le_refl _, hql⟩ (fun a w hs => J5 hs) ?_
      rintro j ⟨hj1, hj2⟩
      cases j with
      | zero =>
        have hq0 : ((Iq.bI rest : Nat) : Int) = 0 := by omega
        rw [hq0]
        repeat' (first | refine KK ?_ | refine KG ?_ | fail)
        all_goals first | skip
        all_goals exact J1 () trivial
      | succ j =>
        obtain ⟨d, hd⟩ : ∃ d, rest[j]? = some d := ⟨_, List.getElem?_eq_getElem (by omega)⟩
        have hd2 : bAt (ofB rest) j = d.toNat := jT (by rw [fV]; exact hd)
        by_cases hd3 : d = 34
        · have hq1 := PR hj2 (by rw [hd, hd3])
          have hd4 : bAt (ofB rest) j = 34 := by rw [hd2, hd3]; rfl
          rw [hq1]
          repeat' (first | refine KO ?_ | (refine KV (b := by exact U2 j) (c := ?_)) | refine KI ?_ | refine KG ?_ | fail)
          all_goals first | skip
          all_goals exact J1 () trivial
        · have hq1 := PT hj2 hd hd3
          have hd4 : ¬ bAt (ofB rest) j = 34 := fun h => hd3 (UInt8.toNat_inj.1 (by rw [hd2] at h; show d.toNat = 34; omega))
          repeat' (first | refine KO ?_ | (refine KV (b := by exact U2 j) (c := ?_)) | refine KI ?_ | refine KG ?_ | fail)
          all_goals first | skip
          all_goals rw [show ((j + 1 : Nat) : Int) - 1 = (j : Int) by omega]
          all_goals exact J2 j ⟨by omega, hq1⟩ (by omega)
    rintro ⟨⟩ -
    obtain ⟨q, hqd⟩ : ∃ q, Iq.bI rest = q := ⟨_, rfl⟩
    have hfC := aHm hcut
    have hfD := fun {w1 r1 w2 w3 : List UInt8} {e5 : Int} (a : rest[Iq.bI rest]? = some 32) => aHl (w1 := w1) (r1 := r1) (w2 := w2) (w3 := w3) (e2 := e2) (e5 := e5) hcut a
    rw [hqd] at hql hfC hfD ⊢
    have hx1 : (ofB rest).extract 0 q = ofB (rest.take q) := LL _ _
    have hx2 : (ofB rest).extract (q + 1) (ofB rest).size = ofB (rest.drop (q + 1)) := sQ _ _
    have htk : (rest.take q).length ≤ 1000000 := by rw [List.length_take]; omega
    repeat' (first | ((with_reducible show GC _ _ (Code.seq (Code.seq (Code.region 11 _ _) _) _) _ _ _ _); (apply aY)) | refine KO ?_ | (refine CF 68 ?_; (with_reducible apply aA 1); (iterate 3 exact rfl); ((with_reducible apply aL); kernel_rfl; exact rfl; exact rfl); exact rfl; (exact fun w hw hO => uH (rest.take q) rb (s, ((k + x.length + 1 : Nat) : Int), line + 1, e2) htk w _ hw hO); (rintro v2 μ2 ⟨⟩ hle2 rfl); (have hleZ := MLe.trans hleZ hle2); (dsimp only [List.cons_append, List.nil_append])) | (refine KV (b := by ((with_reducible apply AO q hx1); (iterate 4 exact rfl); omega)) (c := ?_)) | refine KI ?_ | refine NB fun b => ?_ | fail)
    all_goals first | skip
    obtain ⟨bn, hbn⟩ : ∃ y, y = b := ⟨_, rfl⟩
    rw [← hbn]
    clear hbn
    generalize hvq : sD (rest.take q) = vq
    generalize he3 : okS (cE (rest.take q)).isSome e2 7 = e3
    refine gcs ?_
    refine bY (l' := [(7, .pointer (some ⟨bn, 0, none⟩)), (6, .int .i64 (q : Int)), (5, .string (ofB rest)), (2, .pointer (some ⟨bz, 0, none⟩)), (0, .pointer (some ⟨rb, 0, none⟩))]) (L' := [.inl ⟨rb, 64, 4, [(0, .string (ofB s)), (1, .int .i64 ((k + x.length + 1 : Nat) : Int)), (2, .int .i64 (line + 1)), (3, .int .i64 e3)]⟩, .inl ⟨bn, 44, 10, idx 0 [.string (ofB vq), .int .i64 0, .int .i64 0, .int .i64 0, .int .i64 0, .int .i64 0, .int .i64 0, .int .i64 0, .string ⟨#[]⟩, .slice none 0 0]⟩, .inl ⟨bz, 44, 10, []⟩]) PU PS ?_
    by_cases hq32 : rest[q]? = some 32
    rotate_left
    · have hfn := hfC hq32
      have he3' : e3 = 0 ∨ e3 = 7 := by
        rw [← he3, he2]
        split <;> cases (cE (rest.take q)).isSome <;> simp [okS, bump]
      have hb7 : bump e3 7 = 7 := by rcases he3' with h | h <;> rw [h] <;> rfl
      rcases Nat.lt_or_ge q rest.length with hlt | hge
      · obtain ⟨d, hd⟩ : ∃ d, rest[q]? = some d := ⟨_, List.getElem?_eq_getElem hlt⟩
        have hd2 : bAt (ofB rest) q = d.toNat := jT (by rw [fV]; exact hd)
        have hd3 : ¬ bAt (ofB rest) q = 32 := fun h => hq32 (by rw [hd]; exact congrArg some (UInt8.toNat_inj.1 (by rw [hd2] at h; show d.toNat = 32; omega)))
        repeat' (first | refine KO ?_ | (refine CF 34 ?_; (with_reducible apply aA 1); (iterate 3 exact rfl); ((with_reducible apply aL); kernel_rfl; exact rfl; exact rfl); exact rfl; (exact fun w hw hO => eM rb (s, ((k + x.length + 1 : Nat) : Int), line + 1, e3) 7 w _ hw hO); (rintro v2 μ2 ⟨⟩ hle2 hv); (have hleZ := MLe.trans hleZ hle2); (dsimp only [List.cons_append, List.nil_append])) | (refine KV (b := by exact U2 q) (c := ?_)) | refine KI ?_ | refine KG ?_ | fail)
        all_goals first | skip
        all_goals exact aS (Ls := fun i : Int × Int × Int => rdL rb (s, i.1, i.2.1, i.2.2)) (Post := pK s (fn1 g line (s.drop k))) 1 (((k + x.length + 1 : Nat) : Int), line + 1, bump e3 7) hcnt rfl (qW (vs := [(.string (ofB vq)), .int .i64 0, .int .i64 0, .int .i64 0, .int .i64 0, .int .i64 0, .int .i64 0, .int .i64 0, .string ⟨#[]⟩, .slice none 0 0]) 2 rfl rfl rfl rfl rfl (by repeat first | exact tQ | refine sJ rfl ?_)) rfl rfl (fun μ' hle' => by rw [hb7]; exact iY (nT hc hfn) (by decide) _ _ ⟨ofB vq, 0, 0, 0, .mk 0 0 0 0 ⟨#[]⟩ []⟩ (.slice none 0 0) rfl)
      · repeat' (first | refine KO ?_ | (refine CF 34 ?_; (with_reducible apply aA 1); (iterate 3 exact rfl); ((with_reducible apply aL); kernel_rfl; exact rfl; exact rfl); exact rfl; (exact fun w hw hO => eM rb (s, ((k + x.length + 1 : Nat) : Int), line + 1, e3) 7 w _ hw hO); (rintro v2 μ2 ⟨⟩ hle2 hv); (have hleZ := MLe.trans hleZ hle2); (dsimp only [List.cons_append, List.nil_append])) | refine KI ?_ | refine KG ?_ | fail)
        all_goals first | skip
        all_goals exact aS (Ls := fun i : Int × Int × Int => rdL rb (s, i.1, i.2.1, i.2.2)) (Post := pK s (fn1 g line (s.drop k))) 1 (((k + x.length + 1 : Nat) : Int), line + 1, bump e3 7) hcnt rfl (qW (vs := [(.string (ofB vq)), .int .i64 0, .int .i64 0, .int .i64 0, .int .i64 0, .int .i64 0, .int .i64 0, .int .i64 0, .string ⟨#[]⟩, .slice none 0 0]) 2 rfl rfl rfl rfl rfl (by repeat first | exact tQ | refine sJ rfl ?_)) rfl rfl (fun μ' hle' => by rw [hb7]; exact iY (nT hc hfn) (by decide) _ _ ⟨ofB vq, 0, 0, 0, .mk 0 0 0 0 ⟨#[]⟩ []⟩ (.slice none 0 0) rfl)
    have hlt := (List.getElem?_eq_some_iff.1 hq32).1
    have hd3 : bAt (ofB rest) q = 32 := jT (by rw [fV]; exact hq32)
    have b1 := iZ (rest.drop (q + 1))
    have hc1 := fun (w : World) (μc : Mem) (hw : MOk μc w) => jR (rest.drop (q + 1)) (by rw [List.length_drop]; omega) w μc hw
    rw [List.length_drop] at b1
    obtain ⟨⟨w1, r1⟩, hcut1⟩ : ∃ p, cY (rest.drop (q + 1)) = p := ⟨_, rfl⟩
    rw [hcut1] at b1 hc1
    dsimp only at b1 hc1
    have b2 := iZ r1
    have hc2 := fun (w : World) (μc : Mem) (hw : MOk μc w) => jR r1 (by omega) w μc hw
    obtain ⟨⟨w2, w3⟩, hcut2⟩ : ∃ p, cY r1 = p := ⟨_, rfl⟩
    rw [hcut2] at b2 hc2
    dsimp only at b2 hc2
    have h1 : w1.length ≤ 1000000 := by omega
    have h2 : w2.length ≤ 1000000 := by omega
    have h3 : w3.length ≤ 1000000 := by omega
    repeat' (first | ((with_reducible show GC _ _ (Code.seq (Code.seq (Code.region 19 _ _) _) _) _ _ _ _); (apply aY)) | refine KO ?_ | ((with_reducible apply F1 25); exact rfl; exact EN; first | exact fun w μc hw hse => hc1 w μc hw | exact fun w μc hw hse => hc2 w μc hw) | (refine CF 35 ?_; (with_reducible apply aA 1); (iterate 3 exact rfl); ((with_reducible apply cC); kernel_rfl; (iterate 4 exact rfl)); exact rfl; (first | exact fun w hw hO => jY w1 (-9007199254740992) 9007199254740992 rb (s, ((k + x.length + 1 : Nat) : Int), line + 1, e3) h1 w _ hw hO | exact fun w hw hO => jY w2 (-9007199254740992) 9007199254740992 rb (s, ((k + x.length + 1 : Nat) : Int), line + 1, okS (aV (-9007199254740992) 9007199254740992 w1).isSome e3 7) h2 w _ hw hO | exact fun w hw hO => jY w3 (-9007199254740992) 9007199254740992 rb (s, ((k + x.length + 1 : Nat) : Int), line + 1, okS (aV (-9007199254740992) 9007199254740992 w2).isSome (okS (aV (-9007199254740992) 9007199254740992 w1).isSome e3 7) 7) h3 w _ hw hO); (rintro v2 μ2 ⟨⟩ hle2 rfl); (have hleZ := MLe.trans hleZ hle2); (dsimp only [List.cons_append, List.nil_append])) | (refine KV (b := by first | exact U2 q | ((with_reducible apply AN (q + 1) hx2); (iterate 4 exact rfl); omega)) (c := ?_)) | refine KI ?_ | refine KG ?_ | fail)
    all_goals first | skip
    generalize he5 : okS (aV (-9007199254740992) 9007199254740992 w3).isSome (okS (aV (-9007199254740992) 9007199254740992 w2).isSome (okS (aV (-9007199254740992) 9007199254740992 w1).isSome e3 7) 7) 7 = e5
    have hfin := hfD (w1 := w1) (r1 := r1) (w2 := w2) (w3 := w3) (e5 := e5) hq32 hcut1 hcut2 he2 (by rw [he3]; exact he5)
    rw [hvq] at hfin
    generalize hv1 : fT (-9007199254740992) 9007199254740992 w1 = v1 at hfin ⊢
    generalize hv2 : fT (-9007199254740992) 9007199254740992 w2 = v2 at hfin ⊢
    generalize hv3 : fT (-9007199254740992) 9007199254740992 w3 = v3 at hfin ⊢
    refine gcs ?_
    refine bY (l' := [(7, .pointer (some ⟨bn, 0, none⟩)), (2, .pointer (some ⟨bz, 0, none⟩)), (0, .pointer (some ⟨rb, 0, none⟩))]) (L' := [.inl ⟨rb, 64, 4, [(0, .string (ofB s)), (1, .int .i64 ((k + x.length + 1 : Nat) : Int)), (2, .int .i64 (line + 1)), (3, .int .i64 e5)]⟩, .inl ⟨bn, 44, 10, idx 0 [.string (ofB vq), .int .i64 v1, .int .i64 v2, .int .i64 v3, .int .i64 0, .int .i64 0, .int .i64 0, .int .i64 0, .string ⟨#[]⟩, .slice none 0 0]⟩, .inl ⟨bz, 44, 10, []⟩]) PU PS ?_
    rcases hfin with ⟨rfl, hfn⟩ | ⟨rfl, hfn⟩
    · have hn := NW s hs g rb (k + x.length + 1) (by omega) (line + 1) 1 (by omega) (by omega) (by omega)
      have hr : s.drop (k + x.length + 1) = r := by
        have h1 := (cS hc).1
        have h2 := congrArg (List.drop (x.length + 1)) h1
        rw [List.drop_drop] at h2
        rw [show k + x.length + 1 = k + (x.length + 1) by omega, h2]
        simp
      rw [hr] at hn
      repeat' (first | refine KO ?_ | (refine CF 69 ?_; (with_reducible apply aA 1); (iterate 3 exact rfl); ((with_reducible apply aL); kernel_rfl; exact rfl; exact rfl); exact rfl; (exact fun w5 hw5 hO5 => hn w5 _ hw5 (hmq.mono hleZ) hO5); (rintro v5 μ5 ⟨a5, l5, e5⟩ hle5 hp5); (obtain ⟨t5, u5, rfl, ho5, hc5⟩ := jK hp5); (dsimp only [List.cons_append, List.nil_append])) | refine KI ?_ | fail)
      all_goals first | skip
      all_goals exact aS (Ls := fun i : Int × Int × Int => rdL rb (s, i.1, i.2.1, i.2.2)) (Post := pK s (fn1 g line (s.drop k))) 1 (a5, l5, e5) hcnt rfl (RG (vs := [.string (ofB vq), .int .i64 v1, .int .i64 v2, .int .i64 v3, .int .i64 t5.op, .int .i64 t5.at', .int .i64 t5.n, .int .i64 t5.m, .string t5.s, u5]) 2 rfl rfl rfl rfl rfl) rfl rfl (fun μ' hle' => TX hc hfn ho5 hc5 hle')
    · repeat' (first | refine KK ?_ | fail)
      all_goals first | skip
      all_goals exact aS (Ls := fun i : Int × Int × Int => rdL rb (s, i.1, i.2.1, i.2.2)) (Post := pK s (fn1 g line (s.drop k))) 1 (((k + x.length + 1 : Nat) : Int), line + 1, 7) hcnt rfl (RG (vs := [.string (ofB vq), .int .i64 v1, .int .i64 v2, .int .i64 v3, .int .i64 0, .int .i64 0, .int .i64 0, .int .i64 0, .string ⟨#[]⟩, .slice none 0 0]) 2 rfl rfl rfl rfl rfl) rfl rfl (fun μ' hle' => iY (nT hc hfn) (by decide) _ _ ⟨ofB vq, v1, v2, v3, .mk 0 0 0 0 ⟨#[]⟩ []⟩ (.slice none 0 0) rfl)
end
end Go.Proofs.YtoclmkdfcafhfaaGreatDoor
