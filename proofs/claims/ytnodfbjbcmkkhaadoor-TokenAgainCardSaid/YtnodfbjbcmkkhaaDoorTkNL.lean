/- strings.ContainsAny at the two line terminators, at every text, ASCII or not: the library's own text is walked. No statement of the seat is proved here. -/
import Derived.Test.YtnodfbjbcmkkhaaDoorShelf
import Derived.Shelf.Strings.IndexAnyAll
import Derived.Shelf.Strings.Runes
import Derived.Lib.DecodeN
import Derived.Laws.IdiomStrings
import Derived.Shelf.Small.Utf8
set_option maxRecDepth 20000
namespace Go.Proofs
open Go.Shelf Go.RowKit Go.Lib
variable {P : Program} {ρ : Ren}

theorem run_next_at (wx : World) (b : Nat) (s : ByteArray) (pos : Nat) (ty : TypeId) (hb : wx.heap[b]? = some (.stringIter s pos)) (h : pos < s.size) :
    (Instr.next (.pointer (some ⟨b, 0, none⟩)) true ty).run P wx =
      .ok (.tuple #[.bool true, .int .i64 pos, .int .i32 (Utf8.decode s pos).1]) { wx with heap := wx.heap.setIfInBounds b (.stringIter s (pos + (Utf8.decode s pos).2)) } := by
  simp only [Instr.next, getObj, setObj, Sem.run_bind, Sem.run, hb, Result.andThen, h, if_true]
  simp [goInt, Sem.run, hb]
theorem run_next_at_end (wx : World) (b : Nat) (s : ByteArray) (pos : Nat) (ty : TypeId) (hb : wx.heap[b]? = some (.stringIter s pos)) (h : ¬ pos < s.size) :
    (Instr.next (.pointer (some ⟨b, 0, none⟩)) true ty).run P wx = .ok (.tuple #[.bool false]) wx := by
  simp [Instr.next, getObj, Sem.run, hb, h]

def nlS : ByteArray := ⟨#[10, 13]⟩
theorem below_iter (w : World) (s : ByteArray) (pos : Nat) : Below w.heap.size w (w.iter s pos) := (Below.refl _ _).alloc (Nat.le_refl _) _
theorem encode_last {r : Int} (h1 : 128 ≤ r) (h2 : Utf8.valid r = true) : ∃ (n : Nat) (x : UInt8), (Utf8.encode r).size = n + 2 ∧ n ≤ 2 ∧ (∀ h : n + 1 < (Utf8.encode r).size, (Utf8.encode r)[n + 1]'h = x) ∧ 128 ≤ x.toNat := by
  obtain ⟨n, rfl⟩ : ∃ n : Nat, r = n := ⟨r.toNat, by omega⟩
  unfold Utf8.encode
  rw [if_pos h2]
  simp only [Int.toNat_natCast]
  have hh : ∀ m : Nat, m < 64 → 128 ≤ (UInt8.ofNat (128 + m)).toNat := fun m hm => by
    rw [UInt8.toNat_ofNat']; omega
  have hm : n % 64 < 64 := Nat.mod_lt _ (by omega)
  split
  · omega
  · split
    · exact ⟨0, _, rfl, by omega, fun _ => rfl, hh _ hm⟩
    · split
      · exact ⟨1, _, rfl, by omega, fun _ => rfl, hh _ hm⟩
      · exact ⟨2, _, rfl, by omega, fun _ => rfl, hh _ hm⟩
set_option maxHeartbeats 8000000 in
set_option maxRecDepth 1000000 in
theorem rune_nl_bad (L : Lays.n152 P ρ) (w : World) : Calls P (ρ.f 152) #[.string nlS, .int .i32 65533] w fun e w' => e = .returned (.int .i64 (-1)) ∧ Below w.heap.size w w' := by
  have t3 := L.t3; have a3 := L.a3; have z3 := L.z3; have v3 := L.v3
  have t4 := L.t4; have a4 := L.a4; have z4 := L.z4; have v4 := L.v4
  have t5 := L.t5; have a5 := L.a5; have z5 := L.z5; have v5 := L.v5
  have t9 := L.t9; have a9 := L.a9; have z9 := L.z9; have v9 := L.v9
  have t21 := L.t21; have a21 := L.a21; have z21 := L.z21; have v21 := L.v21
  go_enter L.f152, Body.n152_ntmps ρ
  go_wp2
  go_loopg [5, 6] 2 (fun g _ _ wx => ∃ i : Nat, i + g = 2 ∧ wx = w.iter nlS i)
  case atStart => exact ⟨0, by omega, rfl⟩
  case round =>
    obtain ⟨i, hig, rfl⟩ := hrel
    cases gk with
    | zero =>
      obtain rfl : i = 2 := by omega
      have hnx := fun ty => run_next_end (P := P) w nlS 2 ty (by decide)
      go_wp2
      go_ret
      exact ⟨rfl, below_iter w _ _⟩
    | succ g =>
      have hi : i = 0 ∨ i = 1 := by omega
      rcases hi with rfl | rfl
      · have hnx := fun ty => run_next_ascii (P := P) w nlS 0 ty (by decide) (by decide)
        rw [show nlS[0]'(by decide) = 10 from rfl] at hnx
        go_wp2
        go_roundg g
        case measure => omega
        case rel => exact ⟨1, by omega, rfl⟩
      · have hnx := fun ty => run_next_ascii (P := P) w nlS 1 ty (by decide) (by decide)
        rw [show nlS[1]'(by decide) = 13 from rfl] at hnx
        go_wp2
        go_roundg g
        case measure => omega
        case rel => exact ⟨2, by omega, rfl⟩
/-- what the model's decode says of a place with a byte from 128 on -/
theorem decode_far0 (s : ByteArray) (g : Nat → Nat) (hg : ∀ j, (s.get! j).toNat = g j) (i : Nat) (hi : i < s.size) (h : 128 ≤ g i) :
    128 ≤ (Utf8.decode s i).1 ∧ Utf8.valid (Utf8.decode s i).1 = true ∧ 1 ≤ (Utf8.decode s i).2 ∧ i + (Utf8.decode s i).2 ≤ s.size ∧ ∀ j, i ≤ j → j < i + (Utf8.decode s i).2 → 128 ≤ g j := by
  rw [decode_at, hg, hg, hg, hg]
  have hj : ∀ k, (∀ m, m < k → 128 ≤ g (i + m)) → ∀ j, i ≤ j → j < i + k → 128 ≤ g j := fun k hk j h1 h2 => by
    have := hk (j - i) (by omega)
    rwa [show i + (j - i) = j by omega] at this
  unfold decodeN
  rw [if_neg (by omega)]
  have one : ∀ j, i ≤ j → j < i + 1 → 128 ≤ g j := hj 1 fun m hm => by
    obtain rfl : m = 0 := by omega
    exact h
  have bad : 128 ≤ ((65533, 1) : Nat × Nat).1 ∧ Utf8.valid (((65533, 1) : Nat × Nat).1 : Int) = true ∧ 1 ≤ ((65533, 1) : Nat × Nat).2 ∧ i + ((65533, 1) : Nat × Nat).2 ≤ s.size ∧ ∀ j, i ≤ j → j < i + ((65533, 1) : Nat × Nat).2 → 128 ≤ g j := ⟨by simp, by decide, by simp, by simp; omega, one⟩
  split
  · rename_i c
    split
    · rename_i d
      refine ⟨d, by simp [Utf8.valid]; omega, by simp, by simp only; omega, hj 2 fun m hm => ?_⟩
      rcases (show m = 0 ∨ m = 1 by omega) with rfl | rfl
      · exact h
      · omega
    · exact bad
  · split
    · rename_i c
      split
      · rename_i d
        refine ⟨by simp only; omega, by simp [Utf8.valid]; omega, by simp, by simp only; omega, hj 3 fun m hm => ?_⟩
        rcases (show m = 0 ∨ m = 1 ∨ m = 2 by omega) with rfl | rfl | rfl
        · exact h
        · omega
        · omega
      · exact bad
    · split
      · rename_i c
        split
        · rename_i d
          refine ⟨by simp only; omega, by simp [Utf8.valid]; omega, by simp, by simp only; omega, hj 4 fun m hm => ?_⟩
          rcases (show m = 0 ∨ m = 1 ∨ m = 2 ∨ m = 3 by omega) with rfl | rfl | rfl | rfl
          · exact h
          · omega
          · omega
          · omega
        · exact bad
      · exact bad
theorem decode_far (s : ByteArray) (i : Nat) (hi : i < s.size) (h : 128 ≤ (s.data.toList[i]?.getD 0).toNat) :
    128 ≤ (Utf8.decode s i).1 ∧ Utf8.valid (Utf8.decode s i).1 = true ∧ 1 ≤ (Utf8.decode s i).2 ∧ i + (Utf8.decode s i).2 ≤ s.size ∧ ∀ j, i ≤ j → j < i + (Utf8.decode s i).2 → 128 ≤ (s.data.toList[j]?.getD 0).toNat :=
  decode_far0 s (fun j => (s.data.toList[j]?.getD 0).toNat) (fun j => by
    show (s.data[j]!).toNat = _
    rw [Array.getElem?_toList, getElem!_def]
    cases s.data[j]? <;> rfl) i hi h
set_option maxHeartbeats 8000000 in
set_option maxRecDepth 1000000 in
/-- s of at most 8 bytes, ASCII or not, and chars ASCII: 'hR' is what IndexRune answers at a rune that is not ASCII -/
theorem indexAny_far (L : Lays.n153 P ρ) (s chars : ByteArray) (w : World) (h2 : 2 ≤ chars.size) (h8 : s.size ≤ 8) (hac : ∀ x ∈ chars.data.toList, x.toNat < 128)
    (hR : ∀ (r : Int) (w : World), 128 ≤ r → Utf8.valid r = true → Calls P (ρ.f 152) #[.string chars, .int .i32 r] w fun e w' => e = .returned (.int .i64 (-1)) ∧ Below w.heap.size w w') :
    Calls P (ρ.f 153) #[.string s, .string chars] w fun e w' => e = .returned (.int .i64 (Lib.indexAny s.data.toList chars.data.toList)) ∧ Below w.heap.size w w' := by
  have hemp : chars.toList.isEmpty = false := by
    rw [Lib.toList_data]
    cases h : chars.data.toList with
    | nil => have := Lib.size_eq chars; rw [h, List.length_nil] at this; omega
    | cons _ _ => rfl
  have HC : Aside (∀ x ∈ chars.data.toList, x.toNat < 128) := hac
  clear hac
  have hn1 : ((chars.size : Int) == 1) = false := beq_eq_false_iff_ne.2 (by omega)
  have h8z : decide ((8 : Int) < (s.size : Int)) = false := decide_eq_false (by omega)
  have t3 := L.t3; have a3 := L.a3; have z3 := L.z3; have v3 := L.v3
  have t4 := L.t4; have a4 := L.a4; have z4 := L.z4; have v4 := L.v4
  have t5 := L.t5; have a5 := L.a5; have z5 := L.z5; have v5 := L.v5
  have t9 := L.t9; have a9 := L.a9; have z9 := L.z9; have v9 := L.v9
  have t21 := L.t21; have a21 := L.a21; have z21 := L.z21; have v21 := L.v21
  have e152 : ∀ args w, (callFunc (ρ.f 152) args).run P w = .ok (.enter (ρ.f 152) args) w := enters_of L.f152 (by kernel_rfl) rfl
  have e226 : ∀ args w, (callFunc (ρ.f 226) args).run P w = .ok (.enter (ρ.f 226) args) w := enters_of L.f226 (by kernel_rfl) rfl
  go_enter L.f153, Body.n153_ntmps ρ
  go_wp2_with (go_at_fn (ρ.f 226); refine (Any.strings_shouldUseASCIISet { L with } _ _).mono ?_; rintro e w' ⟨rfl, hw⟩; rw [hw, h8z])
  go_loopg [9, 10] s.size (fun g _ _ wx => ∃ i : Nat, i ≤ s.size ∧ s.size ≤ i + g ∧ wx.heap[w.heap.size]? = some (.stringIter s i) ∧ Below w.heap.size w wx ∧ Lib.NoAny s.data.toList chars.data.toList i)
  case atStart => exact ⟨0, by omega, by omega, by simp [World.iter_heap], below_iter w _ _, Lib.NoAny.zero _ _⟩
  case round =>
    obtain ⟨i, hig0, hig, hat, hbel, hno⟩ := hrel
    have HN : Aside (Lib.NoAny s.data.toList chars.data.toList i) := hno
    clear hno
    have HB : Aside (Below w.heap.size w wr) := hbel
    clear hbel
    by_cases hi : i < s.size
    · cases gk with
      | zero => omega
      | succ g =>
      obtain ⟨x, hx⟩ : ∃ x : UInt8, s[i]'hi = x := ⟨_, rfl⟩
      have hxl : s.data.toList[i]? = some x := by rw [← hx]; exact Lib.data_getElem? s i hi
      have hnx := fun ty => run_next_at (P := P) wr w.heap.size s i ty hat hi
      obtain ⟨d, hd⟩ : ∃ d, Utf8.decode s i = d := ⟨_, rfl⟩
      obtain ⟨c, e⟩ := d
      rw [hd] at hnx
      obtain ⟨wn, hwn⟩ : ∃ wn : World, wn = { wr with heap := wr.heap.setIfInBounds w.heap.size (.stringIter s (i + e)) } := ⟨_, rfl⟩
      simp only [← hwn] at hnx
      have hlt : w.heap.size < wr.heap.size := (Array.getElem?_eq_some_iff.1 hat).1
      have hatn : wn.heap[w.heap.size]? = some (.stringIter s (i + e)) := by rw [hwn]; simp [hlt]
      have hbn : Below w.heap.size w wn := by
        have hb := HB.out
        rw [hwn]
        refine ⟨hb.1, hb.2, hb.3, by simp; exact Nat.le_of_lt hlt, fun b hb' => ?_⟩
        simp only
        rw [Array.getElem?_setIfInBounds_ne (by omega)]
        exact hb.5 b hb'
      clear hwn hat
      have HB2 : Aside (Below w.heap.size w wn) := hbn
      clear hbn
      have Hn : Aside (wn.heap[w.heap.size]? = some (.stringIter s (i + e))) := hatn
      clear hatn
      by_cases hx8 : x.toNat < 128
      · have hce : c = x.toNat ∧ e = 1 := by
          have := decode_ascii s i hi (by rw [hx]; exact hx8)
          rw [hd, hx] at this
          cases this; exact ⟨rfl, rfl⟩
        obtain ⟨rfl, rfl⟩ := hce
        have Hx : Aside (s.data.toList[i]? = some x) := hxl
        clear hxl hx hd
        have hcon := Lib.contains_iff_indexByte chars.data.toList x
        have hback : ((x.toNat : Int)).toNat.toUInt8 = x := by simp
        cases hin : chars.data.toList.contains x
        · rw [hin] at hcon
          have hlt' : ¬ ((0 : Int) ≤ Lib.indexByte chars.data.toList x) := of_decide_eq_false hcon.symm
          clear hcon
          go_wp2_with (go_at_fn (ρ.f 152); refine (Any.strings_IndexRune_ascii { L with } _ _ _ (by omega) (by omega)).mono ?_; rintro e w' ⟨rfl, hw⟩; rw [hw, hback])
          go_roundg g
          case measure => omega
          case rel => exact ⟨i + 1, by omega, by omega, Hn.out, HB2.out, HN.out.succ Hx.out hin⟩
        · rw [hin] at hcon
          have hge : (0 : Int) ≤ Lib.indexByte chars.data.toList x := of_decide_eq_true hcon.symm
          clear hcon
          go_wp2_with (go_at_fn (ρ.f 152); refine (Any.strings_IndexRune_ascii { L with } _ _ _ (by omega) (by omega)).mono ?_; rintro e w' ⟨rfl, hw⟩; rw [hw, hback])
          go_ret
          exact ⟨by rw [Lib.indexAny_hit HN.out Hx.out hin]; rfl, HB2.out⟩
      · have hx8' : 128 ≤ (s.data.toList[i]?.getD 0).toNat := by rw [hxl]; simpa using hx8
        have hf := decode_far s i hi hx8'
        rw [hd] at hf
        simp only at hf
        obtain ⟨f1, f2, f3, f4, f5⟩ := hf
        have f1' : (128 : Int) ≤ (c : Int) := by omega
        have HF : Aside (∀ j, i ≤ j → j < i + e → 128 ≤ (s.data.toList[j]?.getD 0).toNat) := f5
        clear f5 hd hxl hx
        go_wp2_with (go_at_fn (ρ.f 152); refine (hR _ _ f1' f2).mono ?_; rintro e' w' ⟨rfl, hw⟩)
        go_roundg g
        case measure => omega
        case rel =>
          refine ⟨i + e, by omega, by omega, ?_, ?_, fun j b hj hb => ?_⟩
          · have hl := (Array.getElem?_eq_some_iff.1 Hn.out).1
            rw [hw.block _ hl]; exact Hn.out
          · exact HB2.out.trans ⟨hw.os, hw.tape, hw.output, hw.size, fun k hk => hw.block k (by have := HB2.out.size; omega)⟩
          · by_cases hji : j < i
            · exact HN.out j b hji hb
            · have := HF.out j (by omega) hj
              rw [hb] at this
              simp only [Option.getD_some] at this
              cases hq : chars.data.toList.contains b with
              | false => rfl
              | true => have := HC.out b (by simpa using hq); omega
    · have hnx := fun ty => run_next_at_end (P := P) wr w.heap.size s i ty hat hi
      go_wp2
      go_ret
      obtain rfl : i = s.size := by omega
      exact ⟨by rw [Lib.indexAny_none (by rw [← Lib.size_eq]; exact HN.out)]; rfl, HB.out⟩
end Go.Proofs
