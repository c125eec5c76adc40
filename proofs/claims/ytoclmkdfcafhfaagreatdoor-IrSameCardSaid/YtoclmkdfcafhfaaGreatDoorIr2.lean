/- Package ir's row: closed runs at every kind, and the contract at every int. No statement of the seat is proved here. -/
import Derived.Test.YtoclmkdfcafhfaaGreatDoorIr1
set_option maxRecDepth 20000
namespace Go.Proofs.YtoclmkdfcafhfaaGreatDoor
open Go.Rex Go.RowKit Go.Vcg Go.Shelf
set_option maxRecDepth 20000
abbrev Row := Nat × List UInt8 × List UInt8
def rowT0 : List Row := [(100, [85, 110, 100, 101, 102], []), (101, [78, 117, 108, 108], []), (102, [66, 111, 111, 108], []), (103, [78, 117, 109], []), (104, [78, 97, 78], []), (105, [84, 101, 120, 116], []), (106, [72, 111, 108, 101], []), (107, [76, 111, 99, 97, 108], []), (108, [83, 101, 116, 76, 111, 99, 97, 108], [101]), (109, [72, 101, 108, 100], []), (110, [83, 101, 116, 72, 101, 108, 100], [101]), (111, [67, 104, 101, 99, 107], [101]), (112, [67, 111, 110, 115, 116], [101]), (113, [71, 108, 111, 98, 97, 108], []), (114, [83, 101, 116, 71, 108, 111, 98, 97, 108], [101]), (115, [84, 121, 112, 101, 79, 102], [101])]
def rowT1 : List Row := [(116, [84, 104, 105, 115], []), (117, [65, 114, 103], []), (118, [82, 101, 115, 116], []), (119, [70, 117, 110, 99], []), (120, [79, 98, 106, 101, 99, 116], [112, 42]), (121, [80, 117, 116], [101, 101]), (122, [67, 111, 112, 121], [101]), (123, [65, 114, 114, 97, 121], [97, 42]), (124, [83, 112, 114, 101, 97, 100], [101]), (125, [71, 101, 116], [101, 101]), (126, [83, 101, 116], [101, 101, 101]), (127, [68, 101, 108, 101, 116, 101], [101, 101])]
def rowT2 : List Row := [(128, [73, 110], [101, 101]), (129, [67, 97, 108, 108], [101, 97, 42]), (130, [67, 97, 108, 108, 79, 110], [101, 101, 97, 42]), (131, [78, 101, 119], [101, 97, 42]), (132, [85, 110, 97, 114, 121], [101]), (133, [66, 105, 110, 97, 114, 121], [101, 101]), (134, [76, 111, 103, 105, 99], [101, 101]), (135, [67, 111, 110, 100], [101, 101, 101]), (136, [83, 101, 113], [98, 42, 101]), (137, [89, 105, 101, 108, 100], [101])]
def rowT3 : List Row := [(138, [68, 101, 108, 101, 103, 97, 116, 101], [101]), (139, [75, 101, 121], [101]), (140, [84, 111, 84, 101, 120, 116], [101]), (141, [84, 111, 78, 117, 109], [101]), (142, [73, 116, 101, 114], [101]), (143, [78, 101, 120, 116], [101]), (144, [67, 108, 111, 115, 101], [101]), (145, [75, 101, 121, 115], [101]), (146, [79, 116, 104, 101, 114, 115], [101, 101, 42]), (147, [78, 101, 101, 100], [101])]
def rowT4 : List Row := [(160, [68, 111], [101]), (161, [66, 108, 111, 99, 107], [115, 42]), (162, [73, 102], [101, 115, 115]), (163, [76, 111, 111, 112], [101, 115, 115]), (164, [76, 97, 98, 101, 108], [115]), (165, [66, 114, 101, 97, 107], []), (166, [65, 103, 97, 105, 110], []), (167, [82, 101, 116, 117, 114, 110], [101]), (168, [84, 104, 114, 111, 119], [101]), (169, [84, 114, 121], [115, 115, 115]), (170, [83, 99, 111, 112, 101], [115]), (171, [70, 114, 101, 115, 104], []), (172, [78, 111, 110, 101], [])]
def rowT : List Row := rowT0 ++ (rowT1 ++ (rowT2 ++ (rowT3 ++ (rowT4))))
/-- a kind's row -/
def findR (k : Nat) : List Row → Option (List UInt8 × List UInt8)
  | [] => none
  | (j, x) :: r => match Nat.beq j k with
    | true => some x
    | false => findR k r
def rowAt (k : Nat) : List UInt8 × List UInt8 := match findR k rowT with
  | some x => x
  | none => ([], [])
def strV (l : List UInt8) : Value := .string ⟨⟨l⟩⟩
def rowV (x : List UInt8 × List UInt8) : Value := .tuple ⟨[.string ⟨⟨x.1⟩⟩, .string ⟨⟨x.2⟩⟩]⟩
def pr0 : CallF := memoC memoS
theorem pr0_ok {w : World} (h : MaxAt w) : CallOk Tryz.prog w 1000 pr0 := memoC_ok (memoS_ok h)
theorem noQ : ∀ f ∈ ([] : List FuncId), QuietF Tryz.prog f := fun f h => by cases h
/-- a function of one int, run at each kind of a table -/
def runs (f : FuncId) (g : List UInt8 × List UInt8 → Value) : List Row → Prop
  | [] => True
  | (k, x) :: r => runP Tryz.prog 1000 [] pr0 [] 400 f [.int .i64 (.ofNat k)] = some (g x) ∧ runs f g r
theorem runs_find {f : FuncId} {g : List UInt8 × List UInt8 → Value} {k : Nat} {x : List UInt8 × List UInt8} : ∀ {l : List Row}, runs f g l → findR k l = some x → runP Tryz.prog 1000 [] pr0 [] 400 f [.int .i64 (.ofNat k)] = some (g x)
  | [], _, h => by cases h
  | (j, y) :: r, hr, h => by
    unfold findR at h
    split at h
    · rename_i hj
      cases h
      rw [← Nat.eq_of_beq_eq_true hj]
      exact hr.1
    · exact runs_find hr.2 h
theorem runs_app {f : FuncId} {g : List UInt8 × List UInt8 → Value} : ∀ {l m : List Row}, runs f g l → runs f g m → runs f g (l ++ m)
  | [], _, _, h => h
  | (_, _) :: _, _, h, h' => ⟨h.1, runs_app h.2 h'⟩
theorem find_none {k : Nat} : ∀ {l : List Row}, findR k l = none → ∀ j ∈ l.map (·.1), j ≠ k
  | [], _, j, hj => by cases hj
  | (i, y) :: r, h, j, hj => by
    unfold findR at h
    split at h
    · cases h
    · rename_i hb
      rcases List.mem_cons.1 hj with rfl | hj
      · rintro rfl
        rw [Nat.beq_refl] at hb
        cases hb
      · exact find_none h j hj
end Go.Proofs.YtoclmkdfcafhfaaGreatDoor
