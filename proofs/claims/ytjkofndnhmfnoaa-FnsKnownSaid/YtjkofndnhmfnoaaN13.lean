/-
  Layer 21 (anamnesislaw21): what the laws' words read: a thing's function, a function's version; awake.
-/
import Derived.Test.YtjkofndnhmfnoaaN12
import Derived.Test.YtjkofndnhmfnoaaN5
namespace Go.Proofs.Ytjkofndnhmfnoaa
open Go Go.RowKit

set_option maxRecDepth 100000 in
/-- The function of a thing that is told. -/
theorem field_func (w : World) (k n v : Int) (b : Bool) (A1 A2 A3 A4 A5 : Option Addr) (n1 c1 n2 c2 n3 c3 n4 c4 n5 c5 : Nat) (s1 s2 s3 s4 s5 : ByteArray) :
    (Instr.field 39 (.agg #[.int .u8 k, .bool b, .slice A1 n1 c1, .slice A2 n2 c2, .string s1, .string s2, .string s3, .string s4, .slice A3 n3 c3, .slice A4 n4 c4, .int .i64 v, .slice A5 n5 c5, .int .i64 n, .string s5]) 2).run Try.prog w = .ok (.agg #[.string s1, .string s2, .string s3, .string s4, .slice A3 n3 c3, .slice A4 n4 c4, .int .i64 v]) w := by
  kernel_rfl
set_option maxRecDepth 100000 in
/-- Its version. -/
theorem field_ver (w : World) (v : Int) (A3 A4 : Option Addr) (n3 c3 n4 c4 : Nat) (s1 s2 s3 s4 : ByteArray) :
    (Instr.field 32 (.agg #[.string s1, .string s2, .string s3, .string s4, .slice A3 n3 c3, .slice A4 n4 c4, .int .i64 v]) 6).run Try.prog w = .ok (.int .i64 v) w := by
  kernel_rfl
end Go.Proofs.Ytjkofndnhmfnoaa
