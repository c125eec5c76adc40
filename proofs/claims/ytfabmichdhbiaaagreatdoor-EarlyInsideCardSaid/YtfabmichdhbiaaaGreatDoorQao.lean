/- Package early: function, walked. (and what leans on it). No statement of the seat is proved here. -/
import Derived.Test.YtfabmichdhbiaaaGreatDoorQan
import Derived.Test.YtfabmichdhbiaaaGreatDoorQae
set_option maxRecDepth 20000
set_option maxHeartbeats 2000000
namespace Go.Proofs.YtfabmichdhbiaaaGreatDoor
open Go.RowKit Go.Vcg Ou
def fun1 (wd : ByteArray → Int) (t : T) (p : EP) (s : ES) : ES := if t.s ≠ ⟨#[]⟩ then nameE wd t t.s { p with strict := (inP t p).strict } s else s
def fun3 (t : T) (p : EP) (own : Bool) (s : ES) : ES := if bitE t.n 1 then declE t.at' t.s ⟨!own, if own then p.regs else nearE p, 0, false⟩ s else s
def funT (t : T) (p : EP) : Bool := (inP t p).strict || bitE t.n 2 || bitE t.n 8 || !simpleE (kidE t 0)
theorem funE_eq (wd : ByteArray → Int) (N : T → EP → ES → ES) (B : T → EP → ED → ES → ES) (t : T) (p : EP) (own : Bool) (s : ES) : funE wd N B t p own s =
  (let s3 := fun3 t p own (badE (strictE t && !simpleE (kidE t 0)) t.at' 35 (fun1 wd t p s))
  let i := withP (inP t p) s3
  let s5 := (kidE t 0).kids.foldl (fun s k => B k { i with head := true } ⟨false, i.regs, ((withS s3).regs : Int), funT t p⟩ s) (withS s3)
  if (kidE t 1).op ≠ 6 then N (kidE t 1) i s5 else allE N (kidE t 1).kids { i with own := true } s5) := rfl
def inE (ist g : Bool) : EP := ⟨ist, g, true, false, [], [], [], false, false, [], false, false⟩
theorem gr_fun1 (wd : ByteArray → Int) (t : T) (p : EP) (s : ES) : Gr FF 0 s (fun1 wd t p s) := by
  unfold fun1
  split
  · exact gr_name _ _ _ _ _
  · exact Gr.refl s
theorem gr_fun3 (t : T) (p : EP) (own : Bool) (s : ES) : Gr FF 1 s (fun3 t p own s) := by
  unfold fun3
  split
  · exact gr_decl _ _ _ _ (fun h => h)
  · exact Gr.refl s
theorem bit_is (n k : Int) (b : Bool) (h : bitE n k = b) (w : World) (μ : Mem) (hμ : MOk μ w) : Calls Tryz.prog 68 #[.int .i64 n, .int .i64 k] w fun e w' => e = .returned (.bool b) ∧ Below w.heap.size w w' := by
  subst h
  exact bit_spec n k w μ hμ
attribute [local irreducible] wdL anI famD mkD G GC GQ GA GAop Calls IntKind.wrap Int.decLt Int.decLe
theorem efun_spec (N : T → EP → ES → ES) (B : T → EP → ED → ES → ES) (t : T) (hq : AllN qE t) (h4 : t.op = 4) (hts : t.size ≤ 80000) (hN : ∀ k, AllN qE k → k.size < t.size → NCk N k ∧ NG N k) (hBC : ∀ k, AllN qE k → k.size < t.size → BCk B k ∧ BG B k)
    (xb mb : Nat) (u pv : Value) (p : EP) (own : Bool) (s : ES) (μ : Mem) (hk : KR μ t.kids u) (hp : PV μ p pv) (hB : PB p t.size) (hS : SB s t.size) (hm : MaxQ μ) :
    CEs 32 [.pointer (some ⟨xb, 0, none⟩), .agg (encT t u).toArray, pv, .bool own] xb mb s (funE wdF N B t p own s) μ := by
  intro w fs hμ hR hO
  have hcnt := ids_count hO.diff
  have hp0 := hp
  obtain ⟨r, lb, lo, mi, rfl, hpr, hplb, hplo, hpmi⟩ := hp
  have o1 := hpr.one
  have o2 := hplb.one
  have o3 := hplo.one
  have o4 := hpmi.one
  have hpr0 := hpr
  obtain ⟨Ar, cr, rfl, -, -⟩ := hpr0
  have ou := hk.one
  have hts9 := hq.here.2
  have hne := hB.ne
  have hrl := hB.regs
  have h2 := hq.here.1.two (by simp [h4])
  have hsz := size_szs t
  obtain ⟨rr, hrr⟩ := kids2 h2
  rw [hrr, szs_cons, szs_cons] at hsz
  have hz0 := size_szs (kidE t 0)
  have hz1 := size_szs (kidE t 1)
  have ha0 := hq.kid (kidE_mem (t := t) (i := 0) (by omega))
  have ha1 := hq.kid (kidE_mem (t := t) (i := 1) (by omega))
  have hln0 := len_szs (kidE t 0).kids
  have hln1 := len_szs (kidE t 1).kids
  obtain ⟨nv, hnv, hnear⟩ := near_spec μ p _ hp0 hne (by omega)
  have hnv0 := hnv
  obtain ⟨An, cn, rfl, -, -⟩ := hnv0
  have hnl : (nearE p).length ≤ 100000 := by
    unfold nearE
    rw [List.length_drop]
    omega
  have hpl : p.regs.length ≤ 100000 := by omega
  have hk00 := hk
  obtain ⟨A, c, rfl, hcap, hget⟩ := hk.form
  obtain ⟨ad, x0, rfl, hm0, hox0, hk0⟩ := hget 0 _ (kidE_get (by omega))
  obtain ⟨ad', x1, e, hm1, hox1, hk1⟩ := hget 1 _ (kidE_get (by omega))
  cases e
  generalize hs' : funE wdF N B t p own s = s'
  rw [funE_eq] at hs'
  dsimp only at hs'
  have g1 := gr_fun1 wdF t p s
  obtain ⟨S1, hS1⟩ : ∃ S, fun1 wdF t p s = S := ⟨_, rfl⟩
  rw [hS1] at hs' g1
  have hstr := fun (w : World) (μc : Mem) (hw : MOk μc w) (hle : MLe μ μc) => estrict_spec t _ w μc hw (hk00.mono hle) (by omega)
  have hsim := fun (w : World) (μc : Mem) (hw : MOk μc w) (hle : MLe μ μc) => esimple_spec (kidE t 0) _ w μc hw (hk0.mono hle) (by omega)
  obtain ⟨says, hsays⟩ : ∃ b, strictE t = b := ⟨_, rfl⟩
  obtain ⟨ist, hist⟩ : ∃ b, (p.strict || says) = b := ⟨_, rfl⟩
  have hin : inP t p = inE ist (bitE t.n 4) := by
    unfold inP inE
    rw [hsays, hist]
  obtain ⟨sm, hsm⟩ : ∃ b, simpleE (kidE t 0) = b := ⟨_, rfl⟩
  rw [hsays] at hs' hstr
  rw [hin] at hs'
  rw [hsm] at hs' hsim
  have g2 := gr_bad (F := FF) (says && !sm) t.at' 35 S1
  obtain ⟨S2, hS2⟩ : ∃ S, badE (says && !sm) t.at' 35 S1 = S := ⟨_, rfl⟩
  rw [hS2] at hs' g2
  have g3 := gr_fun3 t p own S2
  obtain ⟨S3, hS3⟩ : ∃ S, fun3 t p own S2 = S := ⟨_, rfl⟩
  rw [hS3] at hs' g3
  have htot2 : totE S2.names ≤ 1000000 := by
    have := (g1.trans g2 (Nat.le_refl _)).wt
    unfold SB at hS
    omega
  have hreg3 : S3.regs ≤ 1000000 := by
    have := ((g1.trans g2 (Nat.le_refl _)).trans g3 (Nat.le_refl _)).wt
    unfold SB at hS
    omega
  have hsb4 : SB (withS S3) (szs (kidE t 0).kids + (kidE t 1).size) := by
    have := (((g1.trans g2 (Nat.le_refl _)).trans g3 (Nat.le_refl _)).trans (gr_with S3) (Nat.le_refl _)).wt
    unfold SB at hS ⊢
    omega
  have hT : funT t p = (ist || bitE t.n 2 || bitE t.n 8 || !sm) := by
    unfold funT
    rw [hin, hsm]
    rfl
  refine call_introM (args := [.pointer (some ⟨xb, 0, none⟩), .agg (encT t (.slice (some ad) t.kids.length c)).toArray, .agg (encPl p (.slice Ar p.regs.length cr) lb lo mi).toArray, .bool own]) Tryz.func32 rfl Tryz.ntmps32 (by simp) hμ hO ?_
  repeat' (first | ((with_reducible show GC _ _ (Code.seq (Code.region 2 _ _) _) _ _ _ _); (apply gc_stop)) | refine KO ?_ | ((with_reducible apply F1 14); exact rfl; exact EN; (exact fun w μc hw hse => hstr w μc hw hse.le)) | refine KI ?_ | refine NB fun b => ?_ | ((refine KB ?_ ?_ <;> intro hp)) | refine KG ?_ | fail)
  rename_i bn
  obtain ⟨bp, hbp⟩ : ∃ y, y = b := ⟨_, rfl⟩
  rw [← hbp]
  clear hbp
  refine gcs (gc_join (ι := Nat) (fun _ => True) (fun _ => μ) (fun bi => [(0, .pointer (some ⟨xb, 0, none⟩)), (3, .bool own), (5, .pointer (some ⟨bn, 0, none⟩)), (6, .pointer (some ⟨bp, 0, none⟩)), (8, .bool says), (9, .pointer (some ⟨bi, 0, none⟩))]) (fun bi => .inl ⟨bi, 47, 12, idx 0 (encPl (inE ist (bitE t.n 4)) (.slice none 0 0) (.slice none 0 0) (.slice none 0 0) (.slice none 0 0))⟩ :: .inl ⟨bp, 47, 12, idx 0 (encPl p (.slice Ar p.regs.length cr) lb lo mi)⟩ :: .inl ⟨bn, 27, 6, idx 0 (encT t (.slice (some ad) t.kids.length c))⟩ :: EB xb mb s fs) ?_ ?_)
  · repeat' (first | refine KO ?_ | ((with_reducible apply F1 68); exact rfl; exact EN; (exact fun w μc hw hse => bit_is t.n 4 _ rfl w μc hw)) | refine KI ?_ | refine NB fun b => ?_ | ((refine KB ?_ ?_ <;> intro hp)) | refine KG ?_ | fail)
    · obtain rfl : true = ist := by rw [← hist, hp]; rfl
      exact gq_joinS b trivial rfl PU (sel_0 (.cells PU) (sel_0 (.cells PU) (sel_0 (.cells PU) (sel_all _))))
    obtain rfl : says = ist := by rw [← hist, hp]; rfl
    exact gq_joinS b trivial rfl PU (sel_0 (.cells PU) (sel_0 (.cells PU) (sel_0 (.cells PU) (sel_all _))))
  rintro bi -
  refine gc_join (ι := Mem × List FR) (fun q => MLe μ q.1 ∧ ER q.1 q.2 S1) (fun q => q.1) (fun _ => [(0, .pointer (some ⟨xb, 0, none⟩)), (3, .bool own), (5, .pointer (some ⟨bn, 0, none⟩)), (6, .pointer (some ⟨bp, 0, none⟩)), (8, .bool says), (9, .pointer (some ⟨bi, 0, none⟩))]) (fun q => .inl ⟨bi, 47, 12, idx 0 (encPl (inE ist (bitE t.n 4)) (.slice none 0 0) (.slice none 0 0) (.slice none 0 0) (.slice none 0 0))⟩ :: .inl ⟨bp, 47, 12, idx 0 (encPl p (.slice Ar p.regs.length cr) lb lo mi)⟩ :: .inl ⟨bn, 27, 6, idx 0 (encT t (.slice (some ad) t.kids.length c))⟩ :: EB xb mb S1 q.2) ?_ ?_
  · unfold fun1 at hS1
    by_cases hnil : t.s = ⟨#[]⟩
    · rw [if_neg (fun h => h hnil)] at hS1
      subst hS1
      repeat' (first | refine KK ?_ | refine NB fun b => ?_ | ((refine KB ?_ ?_ <;> intro hp)) | refine KG ?_ | fail)
      all_goals try (exfalso; first | omega | contradiction)
      all_goals exact gq_joinS (μ, fs) ⟨MLe.refl _, hR⟩ rfl PU (sel_0 (.cells PU) (sel_0 (.cells PU) (sel_0 (.cells PU) (sel_all _))))
    · rw [if_pos hnil, hin] at hS1
      repeat' (first | refine KO ?_ | (refine CF 38 ?_; (with_reducible apply g_ce 4); exact rfl; exact rfl; exact rfl; ((with_reducible apply e_call4); kernel_rfl; exact rfl; exact rfl; exact rfl; exact rfl); exact rfl; (exact hR); (exact ename_spec xb mb t _ ou _ (by omega) { p with strict := ist } _ _ _ ⟨_, _, _, _, rfl, hpr, hplb, hplo, hpmi⟩ hm); (intro v1 μ1 i1 hle1 hR); (dsimp only [List.cons_append, List.nil_append])) | refine KI ?_ | refine NB fun b => ?_ | ((refine KB ?_ ?_ <;> intro hp)) | refine KG ?_ | fail)
      all_goals try (exfalso; first | omega | contradiction)
      have hS1 : nameE wdF t t.s { p with strict := ist } s = S1 := hS1
      rw [hS1] at hR ⊢
      exact gq_joinS (μ1, i1) ⟨hle1, hR⟩ rfl PU (sel_1 (.cells PU) (sel_1 (.cells PU) (sel_1 (.cells PU) (sel_drop _ (sel_all _)))))
  rintro ⟨μ2, i2⟩ ⟨hle2, hR⟩
  dsimp only at hle2 hR ⊢
  have hmm0 := hm0.mono hle2
  repeat' (first | ((with_reducible show GC _ _ (Code.seq (Code.region 8 _ _) _) _ _ _ _); (apply gc_stop)) | refine KO ?_ | ((with_reducible apply F1 69); exact rfl; exact EN; (exact fun w μc hw hse => hsim w μc hw (hle2.trans hse.le))) | (refine KV (b := by first | exact U1 0 | exact U4 hmm0) (c := ?_)) | refine KI ?_ | refine NB fun b => ?_ | ((refine KB ?_ ?_ <;> intro hp)) | refine KG ?_ | fail)
  refine gcs (gc_join (ι := Mem × List FR) (fun q => MLe μ q.1 ∧ ER q.1 q.2 S2) (fun q => q.1) (fun _ => [(0, .pointer (some ⟨xb, 0, none⟩)), (3, .bool own), (5, .pointer (some ⟨bn, 0, none⟩)), (6, .pointer (some ⟨bp, 0, none⟩)), (9, .pointer (some ⟨bi, 0, none⟩)), (11, .bool sm)]) (fun q => .inl ⟨bi, 47, 12, idx 0 (encPl (inE ist (bitE t.n 4)) (.slice none 0 0) (.slice none 0 0) (.slice none 0 0) (.slice none 0 0))⟩ :: .inl ⟨bp, 47, 12, idx 0 (encPl p (.slice Ar p.regs.length cr) lb lo mi)⟩ :: .inl ⟨bn, 27, 6, idx 0 (encT t (.slice (some ad) t.kids.length c))⟩ :: EB xb mb S2 q.2) ?_ ?_)
  · repeat' (first | refine KO ?_ | (refine CF 39 ?_; (with_reducible apply g_ce 3); exact rfl; exact rfl; exact rfl; ((with_reducible apply e_call4); kernel_rfl; exact rfl; exact rfl; exact rfl; exact rfl); exact rfl; (exact hR); (exact bad_is xb mb t _ ou _ (says && !sm) (by simp_all) _ _ _); (intro v1 μ1 i1 hle1 hR); (dsimp only [List.cons_append, List.nil_append])) | refine KI ?_ | refine NB fun b => ?_ | ((refine KB ?_ ?_ <;> intro hp)) | refine KG ?_ | fail)
    all_goals try (exfalso; first | omega | contradiction)
    all_goals rw [hS2] at hR ⊢
    all_goals exact gq_joinS (μ1, i1) ⟨hle2.trans hle1, hR⟩ rfl PU (sel_0 (.cells PU) (sel_0 (.cells PU) (sel_0 (.cells PU) (sel_all _))))
  clear hle2 hR hmm0
  rintro ⟨μ2, i2⟩ ⟨hle2, hR⟩
  dsimp only at hle2 hR ⊢
  refine gc_join (ι := Mem × List FR) (fun q => MLe μ q.1 ∧ ER q.1 q.2 S3) (fun q => q.1) (fun _ => [(0, .pointer (some ⟨xb, 0, none⟩)), (5, .pointer (some ⟨bn, 0, none⟩)), (9, .pointer (some ⟨bi, 0, none⟩)), (11, .bool sm)]) (fun q => .inl ⟨bi, 47, 12, idx 0 (encPl (inE ist (bitE t.n 4)) (.slice none 0 0) (.slice none 0 0) (.slice none 0 0) (.slice none 0 0))⟩ :: .inl ⟨bn, 27, 6, idx 0 (encT t (.slice (some ad) t.kids.length c))⟩ :: EB xb mb S3 q.2) ?_ ?_
  · unfold fun3 at hS3
    obtain ⟨b1, hb1⟩ : ∃ b, bitE t.n 1 = b := ⟨_, rfl⟩
    rw [hb1] at hS3
    have hpr2 := hpr.mono hle2
    have hnv2 := hnv.mono hle2
    cases b1
    · rw [if_neg (by simp)] at hS3
      subst hS3
      repeat' (first | refine KO ?_ | ((with_reducible apply F1 68); exact rfl; exact EN; (exact fun w μc hw hse => bit_is t.n 1 _ hb1 w μc hw)) | refine KI ?_ | refine NB fun b => ?_ | ((refine KB ?_ ?_ <;> intro hp)) | refine KG ?_ | fail)
      all_goals exact gq_joinS (μ2, i2) ⟨hle2, hR⟩ rfl PU (sel_0 (.cells PU) (sel_1 (.cells PU) (sel_drop _ (sel_all _))))
    · rw [if_pos rfl] at hS3
      cases own
      · repeat' (first | refine KO ?_ | ((with_reducible apply F1 68); exact rfl; exact EN; (exact fun w μc hw hse => bit_is t.n 1 _ hb1 w μc hw)) | ((with_reducible apply F1 35); exact rfl; exact EN; (exact fun w μc hw hse => hnear w μc hw (hle2.trans hse.le))) | (refine CF 70 ?_; (with_reducible apply g_ce 4); exact rfl; exact rfl; exact rfl; ((with_reducible apply e_call4); kernel_rfl; exact rfl; exact rfl; exact rfl; exact rfl); exact rfl; (exact hR); (exact declare_spec xb mb t _ ou t.s ⟨true, nearE p, 0, false⟩ _ _ _ hnv2 (by simp only []; omega) htot2); (intro v1 μ1 i1 hle1 hR); (dsimp only [List.cons_append, List.nil_append])) | refine KI ?_ | refine NB fun b => ?_ | ((refine KB ?_ ?_ <;> intro hp)) | refine KG ?_ | fail)
        all_goals try (exfalso; first | omega | contradiction)
        have hS3 : declE t.at' t.s ⟨true, nearE p, 0, false⟩ S2 = S3 := hS3
        rw [hS3] at hR ⊢
        exact gq_joinS (μ1, i1) ⟨hle2.trans hle1, hR⟩ rfl PU (sel_1 (.cells PU) (sel_2 (.cells PU) (sel_drop _ (sel_drop _ (sel_all _)))))
      · repeat' (first | refine KO ?_ | ((with_reducible apply F1 68); exact rfl; exact EN; (exact fun w μc hw hse => bit_is t.n 1 _ hb1 w μc hw)) | ((with_reducible apply F1 35); exact rfl; exact EN; (exact fun w μc hw hse => hnear w μc hw (hle2.trans hse.le))) | (refine CF 70 ?_; (with_reducible apply g_ce 4); exact rfl; exact rfl; exact rfl; ((with_reducible apply e_call4); kernel_rfl; exact rfl; exact rfl; exact rfl; exact rfl); exact rfl; (exact hR); (exact declare_spec xb mb t _ ou t.s ⟨false, p.regs, 0, false⟩ _ _ _ hpr2 (by simp only []; omega) htot2); (intro v1 μ1 i1 hle1 hR); (dsimp only [List.cons_append, List.nil_append])) | refine KI ?_ | refine NB fun b => ?_ | ((refine KB ?_ ?_ <;> intro hp)) | refine KG ?_ | fail)
        all_goals try (exfalso; first | omega | contradiction)
        have hS3 : declE t.at' t.s ⟨false, p.regs, 0, false⟩ S2 = S3 := hS3
        rw [hS3] at hR ⊢
        exact gq_joinS (μ1, i1) ⟨hle2.trans hle1, hR⟩ rfl PU (sel_1 (.cells PU) (sel_2 (.cells PU) (sel_drop _ (sel_drop _ (sel_all _)))))
  clear hle2 hR
  rintro ⟨μ2, i2⟩ ⟨hle2, hR⟩
  dsimp only at hle2 hR ⊢
  repeat' (first | ((with_reducible show GC _ _ (Code.seq (Code.region 17 _ _) _) _ _ _ _); (apply gc_stop)) | refine KO ?_ | (refine CF 33 ?_; (with_reducible apply g_cer 2); exact rfl; exact rfl; exact rfl; ((with_reducible apply e_call2); kernel_rfl; exact rfl; exact rfl); exact rfl; (exact hR); (exact with_spec xb mb (inE ist (bitE t.n 4)) _ _ _ ⟨_, _, _, _, rfl, IsV.nil _, SsV.nil _, SsV.nil _, SsV.nil _⟩ (Nat.zero_le _) hreg3); (intro v1 μ1 i1 hle1 hR hP1); (dsimp only [List.cons_append, List.nil_append]); (obtain ⟨r2, lb2, lo2, mi2, rfl, hr2, hlb2, hlo2, hmi2⟩ := hP1); (have q1 := hr2.one); (have q2 := hlb2.one); (have q3 := hlo2.one); (have q4 := hmi2.one)) | refine KI ?_ | refine NB fun b => ?_ | ((refine KB ?_ ?_ <;> intro hp)) | refine KG ?_ | fail)
  obtain ⟨bh, hbh⟩ : ∃ y, y = b := ⟨_, rfl⟩
  rw [← hbh]
  clear hbh
  have hr2f := hr2
  obtain ⟨Ai, ci, rfl, -, -⟩ := hr2f
  have hiS : (withP (inE ist (bitE t.n 4)) S3).strict = ist := rfl
  have hPB : ∀ n, n ≤ 80000 → PB (withP (inE ist (bitE t.n 4)) S3) n := fun n hn => ⟨Nat.succ_pos _, by show 1 + n ≤ 90000; omega, by show 0 + n ≤ 90000; omega, Nat.le_refl _⟩
  have hil : (withP (inE ist (bitE t.n 4)) S3).regs.length ≤ 100000 := by show 1 ≤ _; omega
  generalize withP (inE ist (bitE t.n 4)) S3 = iP at hs' hr2 hlb2 hlo2 hmi2 hiS hPB hil ⊢
  obtain ⟨tw, htw⟩ : ∃ b, funT t p = b := ⟨_, rfl⟩
  rw [htw] at hs' hT
  rw [← hiS] at hT
  refine gcs ?_
  refine gc_LEq (show _ = _ :: _ :: _ :: Bk.inl ⟨xb, 40, 4, [(0, .map (some mb)), (1, .int .i64 ((withS S3).regs : Int)), (2, .int .i64 (withS S3).at'), (3, .int .i64 (withS S3).e)]⟩ :: .mp ⟨mb, mkD i1 0, i1.length⟩ :: famD i1 from rfl) ?_
  refine gc_join (ι := Nat × Bool) (fun q => q.2 = tw) (fun _ => μ1) (fun q => [(14, .pointer (some ⟨q.1, 0, none⟩)), (0, .pointer (some ⟨xb, 0, none⟩)), (5, .pointer (some ⟨bn, 0, none⟩)), (9, .pointer (some ⟨bi, 0, none⟩)), (11, .bool sm), (13, .pointer (some ⟨bh, 0, none⟩))]) (fun q => .inl ⟨q.1, 62, 4, idx 0 (encD (⟨false, iP.regs, ((withS S3).regs : Int), q.2⟩, .slice Ai iP.regs.length ci))⟩ :: .inl ⟨bh, 47, 12, idx 0 (encPl { iP with head := true } (.slice Ai iP.regs.length ci) lb2 lo2 mi2)⟩ :: .inl ⟨bi, 47, 12, idx 0 (encPl iP (.slice Ai iP.regs.length ci) lb2 lo2 mi2)⟩ :: .inl ⟨bn, 27, 6, idx 0 (encT t (.slice (some ad) t.kids.length c))⟩ :: EB xb mb (withS S3) i1) ?_ ?_
  · clear hs'
    obtain ⟨b2, hb2⟩ : ∃ b, bitE t.n 2 = b := ⟨_, rfl⟩
    obtain ⟨b8, hb8⟩ : ∃ b, bitE t.n 8 = b := ⟨_, rfl⟩
    rw [hb2, hb8] at hT
    obtain ⟨st, gg, fnn, hdd, rg, lbs, los, lp, chh, mns, ow, ea⟩ := iP
    dsimp only at hT
    cases st
    rotate_left
    · refine gc_draw 27 _ (by kernel_rfl) rfl (List.Sublist.cons _ (List.Sublist.cons_cons _ (List.Sublist.cons_cons _ (List.Sublist.cons_cons _ (List.nil_sublist _))))) ?_
      all_goals refine DD 0 ?_
      all_goals refine DD 1 ?_
      all_goals refine DD 2 ?_
      all_goals refine DD 3 ?_
      all_goals refine DD 4 ?_
      all_goals refine DD 5 ?_
      all_goals refine DD 6 ?_
      all_goals refine DD 7 ?_
      all_goals refine DD 8 ?_
      all_goals refine DD 9 ?_
      all_goals refine DD 10 ?_
      all_goals (try (refine D7 11 ?_; (repeat' (first | refine KO ?_ | (refine KB ?_ ?_ <;> intro hp)))))
      all_goals refine DD 11 ?_
      all_goals refine DD 12 ?_
      refine ga_all2 13 25 (by kernel_rfl) ?dr1_13 ?dr1_25
      case' dr1_13 =>
        (first | (refine D5 ?_; (with_reducible apply F1 68); exact rfl; exact EN; (exact fun w μc hw hse => bit_is t.n _ _ (by assumption) w μc hw); refine D9 ?_) | refine D6 ?_)
        all_goals refine DD 14 ?_
        all_goals refine DD 15 ?_
        all_goals (try (refine D7 16 ?_; (repeat' (first | refine KO ?_ | (refine KB ?_ ?_ <;> intro hp)))))
        all_goals refine DD 16 ?_
        all_goals refine DD 17 ?_
        refine ga_all2 18 25 (by kernel_rfl) ?dr2_18 ?dr2_25
        case' dr2_18 =>
          (first | (refine D5 ?_; (with_reducible apply F1 68); exact rfl; exact EN; (exact fun w μc hw hse => bit_is t.n _ _ (by assumption) w μc hw); refine D9 ?_) | refine D6 ?_)
          all_goals refine DD 19 ?_
          all_goals refine DD 20 ?_
          all_goals (try (refine D7 21 ?_; (repeat' (first | refine KO ?_ | (refine KB ?_ ?_ <;> intro hp)))))
          all_goals refine DD 21 ?_
          all_goals refine DD 22 ?_
          all_goals refine DD 23 ?_
          all_goals refine DD 24 ?_
          all_goals (first | (refine D3 25 ?_; refine D5 ?_; refine NB fun b => ?_; refine D9 ?_))
          all_goals (first | (refine D3 26 ?_; refine D5 ?_; refine Y0 ?_; refine D9 ?_))
          all_goals refine D8 ?_
        case' dr2_25 =>
          (first | (refine D5 ?_; refine NB fun b => ?_; refine D9 ?_))
          all_goals (first | (refine D3 18 ?_; refine D5 ?_; (with_reducible apply F1 68); exact rfl; exact EN; (exact fun w μc hw hse => bit_is t.n _ _ (by assumption) w μc hw); refine D9 ?_) | refine D3 18 (D6 ?_))
          all_goals refine DD 19 ?_
          all_goals refine DD 20 ?_
          all_goals (try (refine D7 21 ?_; (repeat' (first | refine KO ?_ | (refine KB ?_ ?_ <;> intro hp)))))
          all_goals refine DD 21 ?_
          all_goals refine DD 22 ?_
          all_goals refine DD 23 ?_
          all_goals refine DD 24 ?_
          all_goals (first | (refine D3 26 ?_; refine D5 ?_; refine Y0 ?_; refine D9 ?_))
          all_goals refine D8 ?_
      case' dr1_25 =>
        (first | (refine D5 ?_; refine NB fun b => ?_; refine D9 ?_))
        all_goals (first | (refine D3 13 ?_; refine D5 ?_; (with_reducible apply F1 68); exact rfl; exact EN; (exact fun w μc hw hse => bit_is t.n _ _ (by assumption) w μc hw); refine D9 ?_) | refine D3 13 (D6 ?_))
        all_goals refine DD 14 ?_
        all_goals refine DD 15 ?_
        all_goals (try (refine D7 16 ?_; (repeat' (first | refine KO ?_ | (refine KB ?_ ?_ <;> intro hp)))))
        all_goals refine DD 16 ?_
        all_goals refine DD 17 ?_
        all_goals (first | (refine D3 18 ?_; refine D5 ?_; (with_reducible apply F1 68); exact rfl; exact EN; (exact fun w μc hw hse => bit_is t.n _ _ (by assumption) w μc hw); refine D9 ?_) | refine D3 18 (D6 ?_))
        all_goals refine DD 19 ?_
        all_goals refine DD 20 ?_
        all_goals (try (refine D7 21 ?_; (repeat' (first | refine KO ?_ | (refine KB ?_ ?_ <;> intro hp)))))
        all_goals refine DD 21 ?_
        all_goals refine DD 22 ?_
        all_goals refine DD 23 ?_
        all_goals refine DD 24 ?_
        all_goals (first | (refine D3 26 ?_; refine D5 ?_; refine Y0 ?_; refine D9 ?_))
        all_goals refine D8 ?_
      all_goals repeat' (first | refine KK ?_ | refine NB fun b => ?_ | ((refine KB ?_ ?_ <;> intro hp)) | refine KG ?_ | fail)
      all_goals refine gq_joinS (b, _) ?_ rfl PU (sel_0 (.cells PU) (sel_0 (.cells PU) (sel_0 (.cells PU) (sel_0 (.cells PU) (sel_all _)))))
      all_goals dsimp only
      all_goals rw [hT]
      all_goals (clear hS hB hN hBC; cases sm <;> simp_all)
    cases b2
    rotate_left
    · refine gc_draw 27 _ (by kernel_rfl) rfl (List.Sublist.cons _ (List.Sublist.cons_cons _ (List.Sublist.cons_cons _ (List.Sublist.cons_cons _ (List.nil_sublist _))))) ?_
      all_goals refine DD 0 ?_
      all_goals refine DD 1 ?_
      all_goals refine DD 2 ?_
      all_goals refine DD 3 ?_
      all_goals refine DD 4 ?_
      all_goals refine DD 5 ?_
      all_goals refine DD 6 ?_
      all_goals refine DD 7 ?_
      all_goals refine DD 8 ?_
      all_goals refine DD 9 ?_
      all_goals refine DD 10 ?_
      all_goals (try (refine D7 11 ?_; (repeat' (first | refine KO ?_ | (refine KB ?_ ?_ <;> intro hp)))))
      all_goals refine DD 11 ?_
      all_goals refine DD 12 ?_
      refine ga_all2 13 25 (by kernel_rfl) ?dr3_13 ?dr3_25
      case' dr3_13 =>
        (first | (refine D5 ?_; (with_reducible apply F1 68); exact rfl; exact EN; (exact fun w μc hw hse => bit_is t.n _ _ (by assumption) w μc hw); refine D9 ?_) | refine D6 ?_)
        all_goals refine DD 14 ?_
        all_goals refine DD 15 ?_
        all_goals (try (refine D7 16 ?_; (repeat' (first | refine KO ?_ | (refine KB ?_ ?_ <;> intro hp)))))
        all_goals refine DD 16 ?_
        all_goals refine DD 17 ?_
        refine ga_all2 18 25 (by kernel_rfl) ?dr4_18 ?dr4_25
        case' dr4_18 =>
          (first | (refine D5 ?_; (with_reducible apply F1 68); exact rfl; exact EN; (exact fun w μc hw hse => bit_is t.n _ _ (by assumption) w μc hw); refine D9 ?_) | refine D6 ?_)
          all_goals refine DD 19 ?_
          all_goals refine DD 20 ?_
          all_goals (try (refine D7 21 ?_; (repeat' (first | refine KO ?_ | (refine KB ?_ ?_ <;> intro hp)))))
          all_goals refine DD 21 ?_
          all_goals refine DD 22 ?_
          all_goals refine DD 23 ?_
          all_goals refine DD 24 ?_
          all_goals (first | (refine D3 25 ?_; refine D5 ?_; refine NB fun b => ?_; refine D9 ?_))
          all_goals (first | (refine D3 26 ?_; refine D5 ?_; refine Y0 ?_; refine D9 ?_))
          all_goals refine D8 ?_
        case' dr4_25 =>
          (first | (refine D5 ?_; refine NB fun b => ?_; refine D9 ?_))
          all_goals (first | (refine D3 18 ?_; refine D5 ?_; (with_reducible apply F1 68); exact rfl; exact EN; (exact fun w μc hw hse => bit_is t.n _ _ (by assumption) w μc hw); refine D9 ?_) | refine D3 18 (D6 ?_))
          all_goals refine DD 19 ?_
          all_goals refine DD 20 ?_
          all_goals (try (refine D7 21 ?_; (repeat' (first | refine KO ?_ | (refine KB ?_ ?_ <;> intro hp)))))
          all_goals refine DD 21 ?_
          all_goals refine DD 22 ?_
          all_goals refine DD 23 ?_
          all_goals refine DD 24 ?_
          all_goals (first | (refine D3 26 ?_; refine D5 ?_; refine Y0 ?_; refine D9 ?_))
          all_goals refine D8 ?_
      case' dr3_25 =>
        (first | (refine D5 ?_; refine NB fun b => ?_; refine D9 ?_))
        all_goals (first | (refine D3 13 ?_; refine D5 ?_; (with_reducible apply F1 68); exact rfl; exact EN; (exact fun w μc hw hse => bit_is t.n _ _ (by assumption) w μc hw); refine D9 ?_) | refine D3 13 (D6 ?_))
        all_goals refine DD 14 ?_
        all_goals refine DD 15 ?_
        all_goals (try (refine D7 16 ?_; (repeat' (first | refine KO ?_ | (refine KB ?_ ?_ <;> intro hp)))))
        all_goals refine DD 16 ?_
        all_goals refine DD 17 ?_
        all_goals (first | (refine D3 18 ?_; refine D5 ?_; (with_reducible apply F1 68); exact rfl; exact EN; (exact fun w μc hw hse => bit_is t.n _ _ (by assumption) w μc hw); refine D9 ?_) | refine D3 18 (D6 ?_))
        all_goals refine DD 19 ?_
        all_goals refine DD 20 ?_
        all_goals (try (refine D7 21 ?_; (repeat' (first | refine KO ?_ | (refine KB ?_ ?_ <;> intro hp)))))
        all_goals refine DD 21 ?_
        all_goals refine DD 22 ?_
        all_goals refine DD 23 ?_
        all_goals refine DD 24 ?_
        all_goals (first | (refine D3 26 ?_; refine D5 ?_; refine Y0 ?_; refine D9 ?_))
        all_goals refine D8 ?_
      all_goals repeat' (first | refine KK ?_ | refine NB fun b => ?_ | ((refine KB ?_ ?_ <;> intro hp)) | refine KG ?_ | fail)
      all_goals refine gq_joinS (b, _) ?_ rfl PU (sel_0 (.cells PU) (sel_0 (.cells PU) (sel_0 (.cells PU) (sel_0 (.cells PU) (sel_all _)))))
      all_goals dsimp only
      all_goals rw [hT]
      all_goals (clear hS hB hN hBC; cases sm <;> simp_all)
    cases b8
    rotate_left
    · refine gc_draw 27 _ (by kernel_rfl) rfl (List.Sublist.cons _ (List.Sublist.cons_cons _ (List.Sublist.cons_cons _ (List.Sublist.cons_cons _ (List.nil_sublist _))))) ?_
      all_goals refine DD 0 ?_
      all_goals refine DD 1 ?_
      all_goals refine DD 2 ?_
      all_goals refine DD 3 ?_
      all_goals refine DD 4 ?_
      all_goals refine DD 5 ?_
      all_goals refine DD 6 ?_
      all_goals refine DD 7 ?_
      all_goals refine DD 8 ?_
      all_goals refine DD 9 ?_
      all_goals refine DD 10 ?_
      all_goals (try (refine D7 11 ?_; (repeat' (first | refine KO ?_ | (refine KB ?_ ?_ <;> intro hp)))))
      all_goals refine DD 11 ?_
      all_goals refine DD 12 ?_
      refine ga_all2 13 25 (by kernel_rfl) ?dr5_13 ?dr5_25
      case' dr5_13 =>
        (first | (refine D5 ?_; (with_reducible apply F1 68); exact rfl; exact EN; (exact fun w μc hw hse => bit_is t.n _ _ (by assumption) w μc hw); refine D9 ?_) | refine D6 ?_)
        all_goals refine DD 14 ?_
        all_goals refine DD 15 ?_
        all_goals (try (refine D7 16 ?_; (repeat' (first | refine KO ?_ | (refine KB ?_ ?_ <;> intro hp)))))
        all_goals refine DD 16 ?_
        all_goals refine DD 17 ?_
        refine ga_all2 18 25 (by kernel_rfl) ?dr6_18 ?dr6_25
        case' dr6_18 =>
          (first | (refine D5 ?_; (with_reducible apply F1 68); exact rfl; exact EN; (exact fun w μc hw hse => bit_is t.n _ _ (by assumption) w μc hw); refine D9 ?_) | refine D6 ?_)
          all_goals refine DD 19 ?_
          all_goals refine DD 20 ?_
          all_goals (try (refine D7 21 ?_; (repeat' (first | refine KO ?_ | (refine KB ?_ ?_ <;> intro hp)))))
          all_goals refine DD 21 ?_
          all_goals refine DD 22 ?_
          all_goals refine DD 23 ?_
          all_goals refine DD 24 ?_
          all_goals (first | (refine D3 25 ?_; refine D5 ?_; refine NB fun b => ?_; refine D9 ?_))
          all_goals (first | (refine D3 26 ?_; refine D5 ?_; refine Y0 ?_; refine D9 ?_))
          all_goals refine D8 ?_
        case' dr6_25 =>
          (first | (refine D5 ?_; refine NB fun b => ?_; refine D9 ?_))
          all_goals (first | (refine D3 18 ?_; refine D5 ?_; (with_reducible apply F1 68); exact rfl; exact EN; (exact fun w μc hw hse => bit_is t.n _ _ (by assumption) w μc hw); refine D9 ?_) | refine D3 18 (D6 ?_))
          all_goals refine DD 19 ?_
          all_goals refine DD 20 ?_
          all_goals (try (refine D7 21 ?_; (repeat' (first | refine KO ?_ | (refine KB ?_ ?_ <;> intro hp)))))
          all_goals refine DD 21 ?_
          all_goals refine DD 22 ?_
          all_goals refine DD 23 ?_
          all_goals refine DD 24 ?_
          all_goals (first | (refine D3 26 ?_; refine D5 ?_; refine Y0 ?_; refine D9 ?_))
          all_goals refine D8 ?_
      case' dr5_25 =>
        (first | (refine D5 ?_; refine NB fun b => ?_; refine D9 ?_))
        all_goals (first | (refine D3 13 ?_; refine D5 ?_; (with_reducible apply F1 68); exact rfl; exact EN; (exact fun w μc hw hse => bit_is t.n _ _ (by assumption) w μc hw); refine D9 ?_) | refine D3 13 (D6 ?_))
        all_goals refine DD 14 ?_
        all_goals refine DD 15 ?_
        all_goals (try (refine D7 16 ?_; (repeat' (first | refine KO ?_ | (refine KB ?_ ?_ <;> intro hp)))))
        all_goals refine DD 16 ?_
        all_goals refine DD 17 ?_
        all_goals (first | (refine D3 18 ?_; refine D5 ?_; (with_reducible apply F1 68); exact rfl; exact EN; (exact fun w μc hw hse => bit_is t.n _ _ (by assumption) w μc hw); refine D9 ?_) | refine D3 18 (D6 ?_))
        all_goals refine DD 19 ?_
        all_goals refine DD 20 ?_
        all_goals (try (refine D7 21 ?_; (repeat' (first | refine KO ?_ | (refine KB ?_ ?_ <;> intro hp)))))
        all_goals refine DD 21 ?_
        all_goals refine DD 22 ?_
        all_goals refine DD 23 ?_
        all_goals refine DD 24 ?_
        all_goals (first | (refine D3 26 ?_; refine D5 ?_; refine Y0 ?_; refine D9 ?_))
        all_goals refine D8 ?_
      all_goals repeat' (first | refine KK ?_ | refine NB fun b => ?_ | ((refine KB ?_ ?_ <;> intro hp)) | refine KG ?_ | fail)
      all_goals refine gq_joinS (b, _) ?_ rfl PU (sel_0 (.cells PU) (sel_0 (.cells PU) (sel_0 (.cells PU) (sel_0 (.cells PU) (sel_all _)))))
      all_goals dsimp only
      all_goals rw [hT]
      all_goals (clear hS hB hN hBC; cases sm <;> simp_all)
    · refine gc_draw 27 _ (by kernel_rfl) rfl (List.Sublist.cons _ (List.Sublist.cons_cons _ (List.Sublist.cons_cons _ (List.Sublist.cons_cons _ (List.nil_sublist _))))) ?_
      all_goals refine DD 0 ?_
      all_goals refine DD 1 ?_
      all_goals refine DD 2 ?_
      all_goals refine DD 3 ?_
      all_goals refine DD 4 ?_
      all_goals refine DD 5 ?_
      all_goals refine DD 6 ?_
      all_goals refine DD 7 ?_
      all_goals refine DD 8 ?_
      all_goals refine DD 9 ?_
      all_goals refine DD 10 ?_
      all_goals (try (refine D7 11 ?_; (repeat' (first | refine KO ?_ | (refine KB ?_ ?_ <;> intro hp)))))
      all_goals refine DD 11 ?_
      all_goals refine DD 12 ?_
      refine ga_all2 13 25 (by kernel_rfl) ?dr7_13 ?dr7_25
      case' dr7_13 =>
        (first | (refine D5 ?_; (with_reducible apply F1 68); exact rfl; exact EN; (exact fun w μc hw hse => bit_is t.n _ _ (by assumption) w μc hw); refine D9 ?_) | refine D6 ?_)
        all_goals refine DD 14 ?_
        all_goals refine DD 15 ?_
        all_goals (try (refine D7 16 ?_; (repeat' (first | refine KO ?_ | (refine KB ?_ ?_ <;> intro hp)))))
        all_goals refine DD 16 ?_
        all_goals refine DD 17 ?_
        refine ga_all2 18 25 (by kernel_rfl) ?dr8_18 ?dr8_25
        case' dr8_18 =>
          (first | (refine D5 ?_; (with_reducible apply F1 68); exact rfl; exact EN; (exact fun w μc hw hse => bit_is t.n _ _ (by assumption) w μc hw); refine D9 ?_) | refine D6 ?_)
          all_goals refine DD 19 ?_
          all_goals refine DD 20 ?_
          all_goals (try (refine D7 21 ?_; (repeat' (first | refine KO ?_ | (refine KB ?_ ?_ <;> intro hp)))))
          all_goals refine DD 21 ?_
          all_goals refine DD 22 ?_
          all_goals refine DD 23 ?_
          all_goals refine DD 24 ?_
          all_goals (first | (refine D3 25 ?_; refine D5 ?_; refine NB fun b => ?_; refine D9 ?_))
          all_goals (first | (refine D3 26 ?_; refine D5 ?_; refine Y0 ?_; refine D9 ?_))
          all_goals refine D8 ?_
        case' dr8_25 =>
          (first | (refine D5 ?_; refine NB fun b => ?_; refine D9 ?_))
          all_goals (first | (refine D3 18 ?_; refine D5 ?_; (with_reducible apply F1 68); exact rfl; exact EN; (exact fun w μc hw hse => bit_is t.n _ _ (by assumption) w μc hw); refine D9 ?_) | refine D3 18 (D6 ?_))
          all_goals refine DD 19 ?_
          all_goals refine DD 20 ?_
          all_goals (try (refine D7 21 ?_; (repeat' (first | refine KO ?_ | (refine KB ?_ ?_ <;> intro hp)))))
          all_goals refine DD 21 ?_
          all_goals refine DD 22 ?_
          all_goals refine DD 23 ?_
          all_goals refine DD 24 ?_
          all_goals (first | (refine D3 26 ?_; refine D5 ?_; refine Y0 ?_; refine D9 ?_))
          all_goals refine D8 ?_
      case' dr7_25 =>
        (first | (refine D5 ?_; refine NB fun b => ?_; refine D9 ?_))
        all_goals (first | (refine D3 13 ?_; refine D5 ?_; (with_reducible apply F1 68); exact rfl; exact EN; (exact fun w μc hw hse => bit_is t.n _ _ (by assumption) w μc hw); refine D9 ?_) | refine D3 13 (D6 ?_))
        all_goals refine DD 14 ?_
        all_goals refine DD 15 ?_
        all_goals (try (refine D7 16 ?_; (repeat' (first | refine KO ?_ | (refine KB ?_ ?_ <;> intro hp)))))
        all_goals refine DD 16 ?_
        all_goals refine DD 17 ?_
        all_goals (first | (refine D3 18 ?_; refine D5 ?_; (with_reducible apply F1 68); exact rfl; exact EN; (exact fun w μc hw hse => bit_is t.n _ _ (by assumption) w μc hw); refine D9 ?_) | refine D3 18 (D6 ?_))
        all_goals refine DD 19 ?_
        all_goals refine DD 20 ?_
        all_goals (try (refine D7 21 ?_; (repeat' (first | refine KO ?_ | (refine KB ?_ ?_ <;> intro hp)))))
        all_goals refine DD 21 ?_
        all_goals refine DD 22 ?_
        all_goals refine DD 23 ?_
        all_goals refine DD 24 ?_
        all_goals (first | (refine D3 26 ?_; refine D5 ?_; refine Y0 ?_; refine D9 ?_))
        all_goals refine D8 ?_
      all_goals repeat' (first | refine KK ?_ | refine NB fun b => ?_ | ((refine KB ?_ ?_ <;> intro hp)) | refine KG ?_ | fail)
      all_goals refine gq_joinS (b, _) ?_ rfl PU (sel_0 (.cells PU) (sel_0 (.cells PU) (sel_0 (.cells PU) (sel_0 (.cells PU) (sel_all _)))))
      all_goals dsimp only
      all_goals rw [hT]
      all_goals (clear hS hB hN hBC; cases sm <;> simp_all)
  rintro ⟨bd, x⟩ hx
  dsimp only at hx ⊢
  subst x
  have hlec := hle2.trans hle1
  have hkk0 := hk0.mono hlec
  have hmm0 := hm0.mono hlec
  obtain ⟨A2, c2, rfl, hcap2, hget2⟩ := hkk0.form
  repeat' (first | refine KO ?_ | (refine KV (b := by first | exact U1 0 | exact U4 hmm0) (c := ?_)) | refine KI ?_ | refine NB fun b => ?_ | ((refine KB ?_ ?_ <;> intro hp)) | refine KG ?_ | fail)
  refine gc_loop (ι := Nat × Mem × List FR) (fun q => q.1 ≤ (kidE t 0).kids.length ∧ MLe μ1 q.2.1 ∧ ER q.2.1 q.2.2 (((kidE t 0).kids.take q.1).foldl (fun s k => B k { iP with head := true } ⟨false, iP.regs, ((withS S3).regs : Int), tw⟩ s) (withS S3))) (fun q => (kidE t 0).kids.length - q.1) (fun q => q.2.1) (fun q => [(114, .int .i64 (q.1 : Int)), (113, .int .i64 ((kidE t 0).kids.length : Int)), (112, .slice A2 (kidE t 0).kids.length c2), (0, .pointer (some ⟨xb, 0, none⟩)), (5, .pointer (some ⟨bn, 0, none⟩)), (9, .pointer (some ⟨bi, 0, none⟩)), (13, .pointer (some ⟨bh, 0, none⟩)), (14, .pointer (some ⟨bd, 0, none⟩))]) (fun q => .inl ⟨bd, 62, 4, idx 0 (encD (⟨false, iP.regs, ((withS S3).regs : Int), tw⟩, .slice Ai iP.regs.length ci))⟩ :: .inl ⟨bh, 47, 12, idx 0 (encPl { iP with head := true } (.slice Ai iP.regs.length ci) lb2 lo2 mi2)⟩ :: .inl ⟨bi, 47, 12, idx 0 (encPl iP (.slice Ai iP.regs.length ci) lb2 lo2 mi2)⟩ :: .inl ⟨bn, 27, 6, idx 0 (encT t (.slice (some ad) t.kids.length c))⟩ :: EB xb mb (((kidE t 0).kids.take q.1).foldl (fun s k => B k { iP with head := true } ⟨false, iP.regs, ((withS S3).regs : Int), tw⟩ s) (withS S3)) q.2.2) (0, μ1, i1) ⟨Nat.zero_le _, MLe.refl _, hR⟩ (fun a w hs => hs.sel PU (sel_all _)) ?_
  clear hR
  rintro ⟨i, μ0, fs0⟩ ⟨hi, hle, hR⟩
  dsimp only at hi hle hR ⊢
  have hgrT : ∀ n, Gr FF (2 * szs ((kidE t 0).kids.take n)) (withS S3) (((kidE t 0).kids.take n).foldl (fun s k => B k { iP with head := true } ⟨false, iP.regs, ((withS S3).regs : Int), tw⟩ s) (withS S3)) := fun n => by
    have h9 := gr_fold (F := FF) (g := (fun s k => B k { iP with head := true } ⟨false, iP.regs, ((withS S3).regs : Int), tw⟩ s)) (c := fun k => 2 * T.size k) ((kidE t 0).kids.take n) (withS S3) (fun k hk s => (hBC k (ha0.kid (List.mem_of_mem_take hk)) (by
      have : k.size ≤ szs (kidE t 0).kids := T.sum_mem (List.mem_map.2 ⟨k, List.mem_of_mem_take hk, rfl⟩)
      omega)).2 _ _ _)
    rwa [sum_two] at h9
  by_cases hlt : i < (kidE t 0).kids.length
  · obtain ⟨k, hkk⟩ : ∃ k, (kidE t 0).kids[i]? = some k := ⟨_, List.getElem?_eq_getElem hlt⟩
    obtain ⟨ad3, x3, rfl, hm3, hox3, hkx3⟩ := hget2 i k hkk
    have hmm3 := hm3.mono hle
    have hmem := List.mem_of_getElem? hkk
    have hz := szs_take hkk
    obtain ⟨hn1, -⟩ := hBC k (ha0.kid hmem) (by omega)
    have hsb := SB.gr (n := szs ((kidE t 0).kids.take i)) (m := k.size) (hsb4.mono (by omega)) (hgrT i)
    have hnext : (fun s k => B k { iP with head := true } ⟨false, iP.regs, ((withS S3).regs : Int), tw⟩ s) (((kidE t 0).kids.take i).foldl (fun s k => B k { iP with head := true } ⟨false, iP.regs, ((withS S3).regs : Int), tw⟩ s) (withS S3)) k = (((kidE t 0).kids.take (i + 1)).foldl (fun s k => B k { iP with head := true } ⟨false, iP.regs, ((withS S3).regs : Int), tw⟩ s) (withS S3)) := (fold_take (fun s k => B k { iP with head := true } ⟨false, iP.regs, ((withS S3).regs : Int), tw⟩ s) (kidE t 0).kids (withS S3) hkk).symm
    dsimp only at hnext
    repeat' (first | refine KO ?_ | (refine CF 34 ?_; (with_reducible apply g_ce 5); exact rfl; exact rfl; exact rfl; ((with_reducible apply e_call4); kernel_rfl; exact rfl; exact rfl; exact rfl; exact rfl); exact rfl; (exact hR); (exact hn1 xb mb _ _ _ { iP with head := true } ⟨false, iP.regs, ((withS S3).regs : Int), tw⟩ _ _ (hkx3.mono hle) ⟨_, _, _, _, rfl, hr2.mono hle, hlb2.mono hle, hlo2.mono hle, hmi2.mono hle⟩ (hr2.mono hle) hil ⟨(hPB k.size (by omega)).ne, (hPB k.size (by omega)).regs, (hPB k.size (by omega)).labels, (hPB k.size (by omega)).loops⟩ hsb (hm.mono (hlec.trans hle))); (intro v1 μ1 i1 hle1 hR); (dsimp only [List.cons_append, List.nil_append])) | (refine KV (b := by first | exact U1 i | exact U4 hmm3) (c := ?_)) | refine KI ?_ | refine NB fun b => ?_ | ((refine KB ?_ ?_ <;> intro hp)) | refine KG ?_ | fail)
    all_goals try (exfalso; first | omega | contradiction)
    rw [hnext] at hR ⊢
    exact gq_backS (i + 1, μ1, i1) ⟨by dsimp only; omega, hle.trans hle1, hR⟩ (by dsimp only; omega) rfl PU (sel_1 (.refl _) (sel_1 (.refl _) (sel_1 (.refl _) (sel_1 (.refl _) (sel_drop _ (sel_all _))))))
  · have hil2 : i = (kidE t 0).kids.length := by omega
    have hgrA := hgrT (kidE t 0).kids.length
    subst hil2
    rw [List.take_of_length_le (Nat.le_refl _)] at hR hgrA ⊢
    generalize (kidE t 0).kids.foldl (fun s k => B k { iP with head := true } ⟨false, iP.regs, ((withS S3).regs : Int), tw⟩ s) (withS S3) = S5 at hR hs' hgrA ⊢
    have hsb5 := SB.gr (n := szs (kidE t 0).kids) (m := (kidE t 1).size) hsb4 hgrA
    have hlea := hlec.trans hle
    have hmm1 := hm1.mono hlea
    have hkk1 := hk1.mono hlea
    have hmq := hm.mono hlea
    by_cases h6 : (kidE t 1).op = 6
    · rw [if_neg (fun h => h h6)] at hs'
      have hND : ∀ y ∈ (kidE t 1).kids, NCk N y ∧ NG N y := fun y hy => hN y (ha1.kid hy) (by
        have : y.size ≤ szs (kidE t 1).kids := T.sum_mem (List.mem_map.2 ⟨y, hy, rfl⟩)
        omega)
      have hyz : ∀ y ∈ (kidE t 1).kids, y.size ≤ 80000 := fun y hy => by
        have : y.size ≤ szs (kidE t 1).kids := T.sum_mem (List.mem_map.2 ⟨y, hy, rfl⟩)
        omega
      repeat' (first | refine KO ?_ | (refine KV (b := by first | exact U1 1 | exact U4 hmm1) (c := ?_)) | refine KI ?_ | refine NB fun b => ?_ | ((refine KB ?_ ?_ <;> intro hp)) | refine KG ?_ | fail)
      all_goals try (exfalso; first | omega | contradiction)
      refine gc_draw 8 _ (by kernel_rfl) rfl (List.Sublist.cons _ (List.Sublist.cons _ (List.Sublist.cons_cons _ (List.Sublist.cons_cons _ (List.nil_sublist _))))) ?_
      all_goals refine DD 0 ?_
      all_goals (first | refine D1 1 ?_ | (refine DV (k := 1) (b := by first | exact U1 1 | exact U4 hmm1) (c := ?_)) | refine DD 1 ?_ | fail)
      all_goals (first | refine D1 2 ?_ | (refine DV (k := 2) (b := by first | exact U1 1 | exact U4 hmm1) (c := ?_)) | (refine D3 2 (DW (b := by first | exact U1 1 | exact U4 hmm1) (c := ?_))) | refine DD 2 ?_ | fail)
      all_goals (first | refine D1 3 ?_ | (refine DV (k := 3) (b := by first | exact U1 1 | exact U4 hmm1) (c := ?_)) | refine DD 3 ?_ | fail)
      all_goals (first | refine D1 4 ?_ | (refine DV (k := 4) (b := by first | exact U1 1 | exact U4 hmm1) (c := ?_)) | refine DD 4 ?_ | fail)
      all_goals (first | refine D1 5 ?_ | (refine DV (k := 5) (b := by first | exact U1 1 | exact U4 hmm1) (c := ?_)) | (refine D3 5 (DW (b := by first | exact U1 1 | exact U4 hmm1) (c := ?_))) | refine DD 5 ?_ | fail)
      all_goals (first | refine D1 6 ?_ | (refine DV (k := 6) (b := by first | exact U1 1 | exact U4 hmm1) (c := ?_)) | (refine D3 6 (DW (b := by first | exact U1 1 | exact U4 hmm1) (c := ?_))) | refine DD 6 ?_ | fail)
      all_goals (first | (refine D3 7 ?_; refine D5 ?_; refine CF 13 ?_; (with_reducible apply g_ce 4); exact rfl; exact rfl; exact rfl; ((with_reducible apply e_call3); kernel_rfl; exact rfl; exact rfl; exact rfl); exact rfl; (exact hR); (exact eall_spec N (kidE t 1).kids _ _ { iP with own := true } _ _ xb mb hND hkk1 ⟨_, _, _, _, rfl, hr2.mono hle, hlb2.mono hle, hlo2.mono hle, hmi2.mono hle⟩ (fun y hy => ⟨(hPB y.size (hyz y hy)).ne, (hPB y.size (hyz y hy)).regs, (hPB y.size (hyz y hy)).labels, (hPB y.size (hyz y hy)).loops⟩) (hsb5.mono (by omega)) (by omega) hmq); (intro v1 μ1 i1 hle1 hR); (dsimp only [List.cons_append, List.nil_append]); refine D9 ?_))
      all_goals refine D8 ?_
      all_goals repeat' (first | refine KK ?_ | refine NB fun b => ?_ | ((refine KB ?_ ?_ <;> intro hp)) | refine KG ?_ | fail)
      all_goals exact ret_ce 4 i1 (by first | exact .inr rfl | exact .inl rfl) hcnt rfl rfl hs' hR
    · rw [if_pos h6] at hs'
      obtain ⟨hn1, -⟩ := hN _ ha1 (by omega)
      repeat' (first | refine KO ?_ | (refine KV (b := by first | exact U1 1 | exact U4 hmm1) (c := ?_)) | refine KI ?_ | refine NB fun b => ?_ | ((refine KB ?_ ?_ <;> intro hp)) | refine KG ?_ | fail)
      all_goals try (exfalso; first | omega | contradiction)
      refine gc_draw 7 _ (by kernel_rfl) rfl (List.Sublist.cons _ (List.Sublist.cons _ (List.Sublist.cons_cons _ (List.Sublist.cons_cons _ (List.nil_sublist _))))) ?_
      all_goals refine DD 0 ?_
      all_goals (first | refine D1 1 ?_ | (refine DV (k := 1) (b := by first | exact U1 1 | exact U4 hmm1) (c := ?_)) | refine DD 1 ?_ | fail)
      all_goals (first | refine D1 2 ?_ | (refine DV (k := 2) (b := by first | exact U1 1 | exact U4 hmm1) (c := ?_)) | (refine D3 2 (DW (b := by first | exact U1 1 | exact U4 hmm1) (c := ?_))) | refine DD 2 ?_ | fail)
      all_goals (first | refine D1 3 ?_ | (refine DV (k := 3) (b := by first | exact U1 1 | exact U4 hmm1) (c := ?_)) | refine DD 3 ?_ | fail)
      all_goals (first | refine D1 4 ?_ | (refine DV (k := 4) (b := by first | exact U1 1 | exact U4 hmm1) (c := ?_)) | (refine D3 4 (DW (b := by first | exact U1 1 | exact U4 hmm1) (c := ?_))) | refine DD 4 ?_ | fail)
      all_goals (first | refine D1 5 ?_ | (refine DV (k := 5) (b := by first | exact U1 1 | exact U4 hmm1) (c := ?_)) | (refine D3 5 (DW (b := by first | exact U1 1 | exact U4 hmm1) (c := ?_))) | refine DD 5 ?_ | fail)
      all_goals (first | (refine D3 6 ?_; refine D5 ?_; refine CF 18 ?_; (with_reducible apply g_ce 4); exact rfl; exact rfl; exact rfl; ((with_reducible apply e_call3); kernel_rfl; exact rfl; exact rfl; exact rfl); exact rfl; (exact hR); (exact hn1 xb mb _ _ iP _ _ hkk1 ⟨_, _, _, _, rfl, hr2.mono hle, hlb2.mono hle, hlo2.mono hle, hmi2.mono hle⟩ (hPB _ (by omega)) hsb5 hmq); (intro v1 μ1 i1 hle1 hR); (dsimp only [List.cons_append, List.nil_append]); refine D9 ?_))
      all_goals refine D8 ?_
      all_goals repeat' (first | refine KK ?_ | refine NB fun b => ?_ | ((refine KB ?_ ?_ <;> intro hp)) | refine KG ?_ | fail)
      all_goals exact ret_ce 4 i1 (by first | exact .inr rfl | exact .inl rfl) hcnt rfl rfl hs' hR
end Go.Proofs.YtfabmichdhbiaaaGreatDoor
