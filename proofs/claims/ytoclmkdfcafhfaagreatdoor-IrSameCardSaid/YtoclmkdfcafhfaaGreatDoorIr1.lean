/- What the library's functions answer to package ir, and what the machine may take as known. No statement of the seat is proved here. -/
import Derived.Test.YtoclmkdfcafhfaaGreatDoorRn
import Derived.Test.YtoclmkdfcafhfaaGreatDoorShelf
import Derived.KernelRfl
set_option maxRecDepth 20000
namespace Go.Proofs.YtoclmkdfcafhfaaGreatDoor
open Go.Rex Go.RowKit Go.Vcg Go.Shelf
set_option maxRecDepth 20000

theorem mixed : Tryz.prog.follows .mixedOrders = true := by kernel_rfl
/-- the listed variables are there -/
def MaxAt (w : World) : Prop := ∃ m, w.cell? ⟨Tryz.lays145_ren.g 1, 0, none⟩ = some (.int .i64 m)
theorem MaxAt.keep {w w' : World} (h : MaxAt w) (hk : Keep [] w w') : MaxAt w' := by
  obtain ⟨m, hm⟩ := h
  refine ⟨m, ?_⟩
  have hlt : (Tryz.lays145_ren.g 1) < w.heap.size := by
    unfold World.cell? at hm
    split at hm
    · rename_i h1; exact (Array.getElem?_eq_some_iff.1 h1).1
    · cases hm
  unfold World.cell? at hm ⊢
  rw [hk.block _ hlt (by simp)]
  exact hm

/-! the library's functions on lists of bytes, as the kernel runs them fast -/
def cutF (c : UInt8) : List UInt8 → List UInt8 → Option (List UInt8 × List UInt8)
  | [], _ => none
  | b :: l, acc => match Nat.beq b.toNat c.toNat with
    | true => some (acc.reverse, l)
    | false => cutF c l (b :: acc)
theorem u8_beq {b c : UInt8} (h : Nat.beq b.toNat c.toNat = true) : b = c := UInt8.toNat_inj.1 (Nat.eq_of_beq_eq_true h)
theorem u8_bne {b c : UInt8} (h : Nat.beq b.toNat c.toNat = false) : (c == b) = false := by
  rw [beq_eq_false_iff_ne]
  rintro rfl
  rw [Nat.beq_refl] at h
  cases h
theorem cutF_spec (c : UInt8) : ∀ (l acc : List UInt8), match cutF c l acc with
    | some (x, y) => 0 ≤ Lib.index l [c] ∧ x = acc.reverse ++ l.take (Lib.index l [c]).toNat ∧ y = l.drop ((Lib.index l [c]).toNat + 1)
    | none => Lib.index l [c] = -1
  | [], acc => by simp [cutF, Lib.index]
  | b :: l, acc => by
    unfold cutF
    cases hb : Nat.beq b.toNat c.toNat
    · have h1 : [c].isPrefixOf (b :: l) = false := by simp [List.isPrefixOf, u8_bne hb]
      have ih := cutF_spec c l (b :: acc)
      have hge := Lib.index_ge l [c]
      unfold Lib.index
      rw [h1]
      simp only [Bool.false_eq_true, if_false]
      split at ih
      · rename_i x y he
        obtain ⟨h2, h3, h4⟩ := ih
        have hne : (Lib.index l [c] == -1) = false := by rw [beq_eq_false_iff_ne]; omega
        simp only [hne, Bool.false_eq_true, if_false]
        have ht : (Lib.index l [c] + 1).toNat = (Lib.index l [c]).toNat + 1 := by omega
        refine ⟨by omega, ?_, ?_⟩
        · rw [h3, ht]; simp
        · rw [h4, ht]; simp
      · rename_i he
        simp [ih]
    · have hbc := u8_beq hb
      subst hbc
      have h1 : [b].isPrefixOf (b :: l) = true := by simp [List.isPrefixOf]
      unfold Lib.index
      simp [h1]
def cutV (c : UInt8) (l : List UInt8) : Value := match cutF c l [] with
  | some (x, y) => .tuple ⟨[.string ⟨⟨x⟩⟩, .string ⟨⟨y⟩⟩, .bool true]⟩
  | none => .tuple ⟨[.string ⟨⟨l⟩⟩, .string ⟨⟨[]⟩⟩, .bool false]⟩
theorem cutV_eq (c : UInt8) (l : List UInt8) : cutV c l = .tuple #[.string ⟨(Lib.cut l [c]).1.toArray⟩, .string ⟨(Lib.cut l [c]).2.1.toArray⟩, .bool (Lib.cut l [c]).2.2] := by
  have h := cutF_spec c l []
  unfold cutV Lib.cut
  split at h
  · rename_i x y he
    obtain ⟨h1, rfl, rfl⟩ := h
    simp [h1]
  · rename_i he
    simp [h]
theorem cutV_flat (c : UInt8) (l : List UInt8) : flat2 (cutV c l) = true := by
  unfold cutV
  split <;> rfl
def cntF (c : UInt8) : List UInt8 → Nat
  | [] => 0
  | b :: l => match Nat.beq b.toNat c.toNat with
    | true => Nat.succ (cntF c l)
    | false => cntF c l
theorem cntF_eq (c : UInt8) : ∀ l : List UInt8, Lib.countByte l c = cntF c l
  | [] => rfl
  | b :: l => by
    have ih := cntF_eq c l
    unfold Lib.countByte at ih ⊢
    unfold cntF
    rw [List.count_cons, ih]
    cases hb : Nat.beq b.toNat c.toNat
    · have := u8_bne hb
      rw [beq_eq_false_iff_ne] at this
      simp [Ne.symm this]
    · have := u8_beq hb
      simp [this]
def idxF (c : UInt8) : List UInt8 → Nat → Int
  | [], _ => -1
  | b :: l, n => match Nat.beq b.toNat c.toNat with
    | true => .ofNat n
    | false => idxF c l (n + 1)
theorem idxF_ge (c : UInt8) : ∀ (l : List UInt8) (n : Nat), (Lib.index l [c] = -1 → idxF c l n = -1) ∧ (Lib.index l [c] ≠ -1 → idxF c l n = n + Lib.index l [c])
  | [], n => by simp [idxF, Lib.index]
  | b :: l, n => by
    have ih := idxF_ge c l (n + 1)
    have hge := Lib.index_ge l [c]
    unfold idxF Lib.index
    cases hb : Nat.beq b.toNat c.toNat
    · have h1 : [c].isPrefixOf (b :: l) = false := by simp [List.isPrefixOf, u8_bne hb]
      rw [h1]
      simp only [Bool.false_eq_true, if_false]
      by_cases h : Lib.index l [c] = -1
      · simp [h, ih.1 h]
      · have hne : (Lib.index l [c] == -1) = false := by rw [beq_eq_false_iff_ne]; exact h
        simp only [hne, Bool.false_eq_true, if_false]
        rw [ih.2 h]
        constructor
        · intro h2; omega
        · intro _; omega
    · have hbc := u8_beq hb
      subst hbc
      have h1 : [b].isPrefixOf (b :: l) = true := by simp [List.isPrefixOf]
      simp [h1]
theorem idxF_eq (c : UInt8) (l : List UInt8) : Lib.index l [c] = idxF c l 0 := by
  have h := idxF_ge c l 0
  by_cases h1 : Lib.index l [c] = -1
  · rw [h.1 h1, h1]
  · rw [h.2 h1]; omega
theorem idxB_eq (c : UInt8) : ∀ l : List UInt8, Lib.indexByte l c = Lib.index l [c]
  | [] => by simp [Lib.indexByte, Lib.index]
  | b :: l => by
    have ih := idxB_eq c l
    unfold Lib.indexByte Lib.index
    rw [ih]
    cases hb : Nat.beq b.toNat c.toNat
    · have h1 : [c].isPrefixOf (b :: l) = false := by simp [List.isPrefixOf, u8_bne hb]
      have h2 : (b == c) = false := by
        have := u8_bne hb
        rw [beq_eq_false_iff_ne] at this ⊢
        exact Ne.symm this
      rw [h1, h2]
    · have hbc := u8_beq hb
      subst hbc
      have h1 : [b].isPrefixOf (b :: l) = true := by simp [List.isPrefixOf]
      simp [h1]
/-- a byte of a literal -/
def u8of (v : Value) : Option UInt8 := Rex.byteOf v
theorem u8of_sound {v : Value} {c : UInt8} (h : Rex.byteOf v = some c) : v = .int .u8 c.toNat := by
  have := Rex.bytesOf_sound (cs := [v]) (l := [c]) (by simp [Rex.bytesOf, h])
  simpa using this
def ble64 (l : List UInt8) : Bool := Nat.ble l.length 65536
def memoS : Memo := fun f vs => match Nat.beq f 55 with
  | true => match vs with
    | [.string ⟨⟨l⟩⟩, .string ⟨⟨[c]⟩⟩] => match ble64 l with
      | true => some (cutV c l)
      | false => none
    | _ => none
  | false => match Nat.beq f 54 with
    | true => match vs with
      | [.string ⟨⟨l⟩⟩, .string ⟨⟨[c]⟩⟩] => some (.int .i64 (.ofNat (cntF c l)))
      | _ => none
    | false => match Nat.beq f 82 with
      | true => match vs with
        | [.string ⟨⟨l⟩⟩, .string ⟨⟨[c]⟩⟩] => match ble64 l with
          | true => some (.int .i64 (idxF c l 0))
          | false => none
        | _ => none
      | false => match Nat.beq f 59 with
        | true => match vs with
          | [.string ⟨⟨l⟩⟩, v] => match Rex.byteOf v with
            | some c => some (.int .i64 (idxF c l 0))
            | none => none
          | _ => none
        | false => match Nat.beq f 62 with
          | true => match vs with
            | [.string s, v] => match Rex.byteOf v with
              | some c => match Nat.ble s.size 65536 with
                | true => some (.int .i64 (Lib.lastIndexByte s c.toNat))
                | false => none
              | none => none
            | _ => none
          | false => match Nat.beq f 86 with
            | true => match vs with
              | [.string s, .string ⟨⟨[9, 10, 13, 32]⟩⟩] => match Nat.ble s.size 65536 with
                | true => some (.string ⟨⟨Lib.trimS (bl s) [9, 10, 13, 32]⟩⟩)
                | false => none
              | _ => none
            | false => none
theorem belowN (w : World) (n : Nat) : Below w.heap.size w (w.drewN n) := ⟨rfl, rfl, rfl, Nat.le_refl _, fun _ _ => rfl⟩
theorem memoS_ok {w : World} (h : MaxAt w) : MemoOk Tryz.prog w memoS := fun f vs v e => by
  unfold memoS at e
  split at e
  · rename_i hf
    have hf := Nat.eq_of_beq_eq_true hf
    subst hf
    split at e
    · rename_i l c
      split at e
      · rename_i hl
        have hl : l.length ≤ 65536 := ble_t hl
        cases e
        refine ⟨rfl, cutV_flat c l, fun w' hk => ?_⟩
        obtain ⟨m, hm⟩ := h.keep hk
        refine (Any.strings_Cut Tryz.lays145 ⟨⟨l⟩⟩ ⟨⟨[c]⟩⟩ m w' (show l.length < _ by omega) hm).mono fun e w'' ⟨h1, n, h2⟩ => ⟨?_, h2 ▸ belowN w' n⟩
        rw [h1, cutV_eq]
      · cases e
    · cases e
  · split at e
    · rename_i hf
      have hf := Nat.eq_of_beq_eq_true hf
      subst hf
      split at e
      · rename_i l c
        cases e
        refine ⟨rfl, rfl, fun w' hk => ?_⟩
        refine (Any.strings_Count_one Tryz.lays138 ⟨⟨l⟩⟩ c w').mono fun e w'' ⟨h1, h2⟩ => ⟨?_, h2 ▸ Below.refl _ _⟩
        rw [h1, ← cntF_eq]
        rfl
      · cases e
    · split at e
      · rename_i hf
        have hf := Nat.eq_of_beq_eq_true hf
        subst hf
        split at e
        · rename_i l c
          split at e
          · rename_i hl
            have hl : l.length ≤ 65536 := ble_t hl
            cases e
            refine ⟨rfl, rfl, fun w' hk => ?_⟩
            obtain ⟨m, hm⟩ := h.keep hk
            refine (Any.strings_Index Tryz.lays143 ⟨⟨l⟩⟩ ⟨⟨[c]⟩⟩ m w' (show l.length < _ by omega) hm).mono fun e w'' ⟨h1, h2⟩ => ⟨?_, h2 ▸ Below.refl _ _⟩
            rw [h1, ← idxF_eq]
          · cases e
        · cases e
      · split at e
        · rename_i hf
          have hf := Nat.eq_of_beq_eq_true hf
          subst hf
          split at e
          · rename_i l v
            split at e
            · rename_i c hc
              cases e
              have hv := u8of_sound hc
              subst hv
              refine ⟨rfl, rfl, fun w' hk => ?_⟩
              refine (Any.strings_IndexByte Tryz.lays137 ⟨⟨l⟩⟩ c.toNat w').mono fun e w'' ⟨h1, h2⟩ => ⟨?_, h2 ▸ Below.refl _ _⟩
              have hcc : ((c.toNat : Int)).toNat.toUInt8 = c := by simp
              rw [h1, hcc, idxB_eq, ← idxF_eq]
            · cases e
          · cases e
        · split at e
          · rename_i hf
            have hf := Nat.eq_of_beq_eq_true hf
            subst hf
            split at e
            · rename_i s v
              split at e
              · rename_i c hc
                split at e
                · rename_i hl
                  have hl : s.size ≤ 65536 := ble_t hl
                  cases e
                  have hv := u8of_sound hc
                  subst hv
                  refine ⟨rfl, rfl, fun w' hk => ?_⟩
                  exact (Any.strings_LastIndexByte Tryz.lays149 s c.toNat (by omega) w').mono fun e w'' ⟨h1, h2⟩ => ⟨h1, h2 ▸ Below.refl _ _⟩
                · cases e
              · cases e
            · cases e
          · split at e
            · rename_i hf
              have hf := Nat.eq_of_beq_eq_true hf
              subst hf
              split at e
              · rename_i s
                split at e
                · rename_i hl
                  have hl : s.size ≤ 65536 := ble_t hl
                  cases e
                  refine ⟨rfl, rfl, fun w' hk => ?_⟩
                  exact Any.strings_Trim_laid Tryz.lays160 (by kernel_rfl) s ⟨#[9, 10, 13, 32]⟩ w' (by omega) (by decide) (ascii_of_all (by decide))
                · cases e
              · cases e
            · cases e
end Go.Proofs.YtoclmkdfcafhfaaGreatDoor
