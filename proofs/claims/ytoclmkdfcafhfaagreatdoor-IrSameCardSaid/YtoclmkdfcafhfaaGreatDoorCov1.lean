/- The list of items; the guard few; the comparison of texts. -/
import Derived.Test.YtoclmkdfcafhfaaGreatDoorTree
set_option maxRecDepth 20000
namespace Go.Proofs.YtoclmkdfcafhfaaGreatDoor
open Go.RowKit Go.Vcg
attribute [local irreducible] G GC GQ GA GAop Calls IntKind.wrap Int.decLt Int.decLe

structure It where
  op : Int
  at' : Int
  n : Int
  m : Int
  s : ByteArray
  k : Int
abbrev encIt (x : It) : List Value := [.int .i64 x.op, .int .i64 x.at', .int .i64 x.n, .int .i64 x.m, .string x.s, .int .i64 x.k]

def BoolOr (p : Prop) (_ : Mem) (v : Value) : Prop := ∃ b, v = .bool b ∧ (b = true → p)

end Go.Proofs.YtoclmkdfcafhfaaGreatDoor
