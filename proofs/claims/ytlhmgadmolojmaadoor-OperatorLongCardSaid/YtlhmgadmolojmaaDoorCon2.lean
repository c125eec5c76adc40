/- The words of faults: convert.Why, convert.Fault and the reference's. -/
import Derived.Test.YtlhmgadmolojmaaDoorCon1
set_option maxRecDepth 20000
namespace Go.Vcg
open Go.RowKit
section
variable {P : Program} {μ : Mem} {l : Slots} {L : List Bk} {ds : Option Nat} {ty : TypeId} {pos : String} {af : Array Edge} {gd : Option (Nat × Bool)}
theorem v_index_arr {p q : Operand} {t e : TypeId} {A : Addr} {len n : Nat} {i : Int} (k : Nat) (ht : P.underlying t = some (.array len e)) (hs : sizeT P e = some (n + 1)) (hx0 : ev l p = some (.pointer (some A))) (hx1 : ev l q = some (.int .i64 i)) (hi : i = (k : Int)) (hk : k < len) :
    Val P μ l L ⟨ds, .indexAddr t p q, ty, pos, af, gd⟩ (.pointer (some (A.add (k * (n + 1))))) := fun a w hs' => by
  have e0 := hs'.eval hx0; have e1 := hs'.eval hx1; generalize a.eval = ρ at e0 e1; subst hi
  have h1 : (0 : Int) ≤ (k : Int) ∧ (k : Int) < (len : Int) := by omega
  simp [execOp, e0, e1, Instr.indexAt, Instr.sureAddr, asIntOf, run_underlying ht, run_sizeOf hs, hk]
end
end Go.Vcg
namespace Go.Proofs.YtlhmgadmolojmaaDoor
open Go.RowKit Go.Vcg
def whyL : List ByteArray := [⟨#[]⟩, ⟨#[110, 111, 116, 32, 99, 97, 108, 108, 97, 98, 108, 101]⟩, ⟨#[110, 111, 116, 32, 97, 32, 99, 111, 110, 115, 116, 114, 117, 99, 116, 111, 114]⟩, ⟨#[110, 111, 116, 32, 97, 110, 32, 111, 98, 106, 101, 99, 116]⟩, ⟨#[110, 111, 32, 112, 114, 111, 112, 101, 114, 116, 105, 101, 115]⟩, ⟨#[110, 111, 116, 32, 105, 116, 101, 114, 97, 98, 108, 101]⟩, ⟨#[110, 111, 116, 32, 100, 101, 102, 105, 110, 101, 100]⟩, ⟨#[116, 111, 111, 32, 101, 97, 114, 108, 121]⟩, ⟨#[99, 111, 110, 115, 116, 97, 110, 116]⟩, ⟨#[114, 101, 97, 100, 32, 111, 110, 108, 121]⟩, ⟨#[110, 111, 116, 32, 101, 120, 116, 101, 110, 115, 105, 98, 108, 101]⟩, ⟨#[110, 111, 116, 32, 99, 111, 110, 102, 105, 103, 117, 114, 97, 98, 108, 101]⟩, ⟨#[115, 121, 109, 98, 111, 108]⟩, ⟨#[110, 111, 32, 112, 114, 105, 109, 105, 116, 105, 118, 101]⟩, ⟨#[116, 111, 111, 32, 108, 111, 110, 103]⟩, ⟨#[116, 111, 111, 32, 100, 101, 101, 112]⟩, ⟨#[110, 111, 32, 108, 101, 110, 103, 116, 104]⟩, ⟨#[114, 117, 110, 110, 105, 110, 103]⟩, ⟨#[114, 105, 110, 103]⟩, ⟨#[110, 111, 32, 116, 104, 114, 111, 119]⟩, ⟨#[110, 111, 32, 100, 101, 115, 99, 114, 105, 112, 116, 105, 111, 110]⟩, ⟨#[110, 111, 32, 107, 101, 121]⟩]
def faultL : List ByteArray := [⟨#[69, 114, 114, 111, 114]⟩, ⟨#[84, 121, 112, 101, 69, 114, 114, 111, 114]⟩, ⟨#[82, 101, 102, 101, 114, 101, 110, 99, 101, 69, 114, 114, 111, 114]⟩, ⟨#[82, 97, 110, 103, 101, 69, 114, 114, 111, 114]⟩]
def nameF (l : List ByteArray) : Int → ByteArray
  | .ofNat k => (l[k]?).getD ⟨#[]⟩
  | .negSucc _ => ⟨#[]⟩
theorem nameF_out {l : List ByteArray} {n : Int} (h : n < 0 ∨ (l.length : Int) ≤ n) : nameF l n = ⟨#[]⟩ := by
  cases n with
  | ofNat k =>
    show (l[k]?).getD ⟨#[]⟩ = _
    rw [List.getElem?_eq_none (by simp at h; omega)]; rfl
  | negSucc k => rfl
attribute [local irreducible] G GC GQ GA GAop Calls IntKind.wrap Int.decLt Int.decLe bAt
section
variable (w : World) (μ : Mem) (hμ : MOk μ w)
include hμ
end
end Go.Proofs.YtlhmgadmolojmaaDoor
