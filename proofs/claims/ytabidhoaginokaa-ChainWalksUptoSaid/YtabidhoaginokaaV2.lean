/-
  THE FORMULAS of the code of some functions: printed by a program, checked by the kernel.
-/
import Derived.Test.YtabidhoaginokaaV0
import Derived.Test.YtabidhoaginokaaProg
namespace Go.Proofs.Ytabidhoaginokaa
open Go Go.Proofs Go.Proofs.Ytabidhoaginokaa.Vc
set_option maxRecDepth 100000
set_option maxHeartbeats 4000000
set_option linter.unusedVariables false
theorem vc8_111010011 (p0 : Option Addr) (n0 : Nat) (c0 : Nat) (p1 : Option Addr) (n1 : Nat) (c1 : Nat) (x2 : Int) (p8 : Option Addr) (n8 : Nat) (c8 : Nat) (x9 : Int) (x10 : Int) (ds : List Deferred) (h : Heap) (K : Exit → Fr → List Deferred → Heap → Prop) : (dn Try.prog M8 none (codeAt (bodyC Try.f8) [1, 1, 1, 0, 1, 0, 0, 1, 1]) (FrL 56 [(0, Value.slice p0 n0 c0), (1, Value.slice p1 n1 c1), (2, Value.int IntKind.i64 x2), (8, Value.slice p8 n8 c8), (9, Value.int IntKind.i64 x9), (10, Value.int IntKind.i64 x10)]) ds h K) = (K Exit.normal (FrL 56 [(0, Value.slice p0 n0 c0), (1, Value.slice p1 n1 c1), (2, Value.int IntKind.i64 x2), (8, Value.slice p8 n8 c8), (9, Value.int IntKind.i64 x9), (10, Value.int IntKind.i64 (IntKind.wrap IntKind.i64 (x10 + 1)))]) ds h) := by kernel_rfl
end Go.Proofs.Ytabidhoaginokaa
