/- Facts on the types that the functions use, one instance each: written by typegen.py. -/
import Derived.Test.YteomgcebbjoklaaSlC
import Derived.Test.YteomgcebbjoklaaChecked
namespace Go.Sl
open Go Go.Proofs
instance : TyA Try.prog 0 false := ⟨by kernel_rfl⟩
instance : TyU Try.prog 2 (.int .i64) := ⟨Try.underlying2⟩
instance : TyA Try.prog 2 false := ⟨by kernel_rfl⟩
instance : TyS Try.prog 2 1 8 [.int .i64 0] := ⟨by kernel_rfl⟩
instance : TyU Try.prog 3 (.int .i64) := ⟨Try.underlying3⟩
instance : TyA Try.prog 3 false := ⟨by kernel_rfl⟩
instance : TyS Try.prog 3 1 8 [.int .i64 0] := ⟨by kernel_rfl⟩
instance : TyU Try.prog 4 (.bool) := ⟨Try.underlying4⟩
instance : TyA Try.prog 4 false := ⟨by kernel_rfl⟩
instance : TyS Try.prog 4 1 1 [.bool false] := ⟨by kernel_rfl⟩
instance : TyU Try.prog 5 (.int .u8) := ⟨Try.underlying5⟩
instance : TyA Try.prog 5 false := ⟨by kernel_rfl⟩
instance : TyS Try.prog 5 1 1 [.int .u8 0] := ⟨by kernel_rfl⟩
instance : TyU Try.prog 21 (.int .i32) := ⟨Try.underlying21⟩
instance : TyA Try.prog 21 false := ⟨by kernel_rfl⟩
instance : TyS Try.prog 21 1 4 [.int .i32 0] := ⟨by kernel_rfl⟩
instance : TyU Try.prog 24 (.pointer 65) := ⟨Try.underlying24⟩
instance : TyA Try.prog 24 false := ⟨by kernel_rfl⟩
instance : TyS Try.prog 24 1 8 [.pointer none] := ⟨by kernel_rfl⟩
instance : TyU Try.prog 26 (.func #[3] #[4] false) := ⟨Try.underlying26⟩
instance : TyA Try.prog 26 false := ⟨by kernel_rfl⟩
instance : TyS Try.prog 26 1 8 [.nilFunc] := ⟨by kernel_rfl⟩
instance : TyU Try.prog 29 (.slice 5) := ⟨Try.underlying29⟩
instance : TyA Try.prog 29 false := ⟨by kernel_rfl⟩
instance : TyS Try.prog 29 1 24 [.slice none 0 0] := ⟨by kernel_rfl⟩
instance : TyU Try.prog 30 (.map 3 3) := ⟨Try.underlying30⟩
instance : TyA Try.prog 30 false := ⟨by kernel_rfl⟩
instance : TyS Try.prog 30 1 8 [.map none] := ⟨by kernel_rfl⟩
instance : TyU Try.prog 35 (.slice 3) := ⟨Try.underlying35⟩
instance : TyA Try.prog 35 false := ⟨by kernel_rfl⟩
instance : TyS Try.prog 35 1 24 [.slice none 0 0] := ⟨by kernel_rfl⟩
instance : TyU Try.prog 38 (.pointer 45) := ⟨Try.underlying38⟩
instance : TyA Try.prog 38 false := ⟨by kernel_rfl⟩
instance : TyS Try.prog 38 1 8 [.pointer none] := ⟨by kernel_rfl⟩
instance : TyU Try.prog 40 (.pointer 80) := ⟨Try.underlying40⟩
instance : TyA Try.prog 40 false := ⟨by kernel_rfl⟩
instance : TyS Try.prog 40 1 8 [.pointer none] := ⟨by kernel_rfl⟩
instance : TyU Try.prog 43 (.int .i64) := ⟨Try.underlying43⟩
instance : TyA Try.prog 43 false := ⟨by kernel_rfl⟩
instance : TyS Try.prog 43 1 8 [.int .i64 0] := ⟨by kernel_rfl⟩
instance : TyA Try.prog 45 true := ⟨by kernel_rfl⟩
instance : TyS Try.prog 45 2 16 [.pointer none, .pointer none] := ⟨by kernel_rfl⟩
instance : TyU Try.prog 47 (.slice 43) := ⟨Try.underlying47⟩
instance : TyA Try.prog 47 false := ⟨by kernel_rfl⟩
instance : TyS Try.prog 47 1 24 [.slice none 0 0] := ⟨by kernel_rfl⟩
instance : TyA Try.prog 52 true := ⟨by kernel_rfl⟩
instance : TyS Try.prog 52 0 0 [] := ⟨by kernel_rfl⟩
instance : TyA Try.prog 53 true := ⟨by kernel_rfl⟩
instance : TyS Try.prog 53 0 0 [] := ⟨by kernel_rfl⟩
instance : TyU Try.prog 54 (.int .u32) := ⟨Try.underlying54⟩
instance : TyA Try.prog 54 false := ⟨by kernel_rfl⟩
instance : TyS Try.prog 54 1 4 [.int .u32 0] := ⟨by kernel_rfl⟩
instance : TyA Try.prog 56 true := ⟨by kernel_rfl⟩
instance : TyS Try.prog 56 1 4 [.int .u32 0] := ⟨by kernel_rfl⟩
instance : TyA Try.prog 58 true := ⟨by kernel_rfl⟩
instance : TyS Try.prog 58 2 8 [.int .i32 0, .int .u32 0] := ⟨by kernel_rfl⟩
instance : TyA Try.prog 60 true := ⟨by kernel_rfl⟩
instance : TyS Try.prog 60 2 8 [.int .i32 0, .int .u32 0] := ⟨by kernel_rfl⟩
instance : TyA Try.prog 62 true := ⟨by kernel_rfl⟩
instance : TyS Try.prog 62 3 12 [.int .u32 0, .int .i32 0, .int .u32 0] := ⟨by kernel_rfl⟩
instance : TyU Try.prog 63 (.slice 76) := ⟨Try.underlying63⟩
instance : TyA Try.prog 63 false := ⟨by kernel_rfl⟩
instance : TyS Try.prog 63 1 24 [.slice none 0 0] := ⟨by kernel_rfl⟩
instance : TyA Try.prog 65 true := ⟨by kernel_rfl⟩
instance : TyS Try.prog 65 5 48 [.int .i64 0, .int .u32 0, .int .i32 0, .int .u32 0, .slice none 0 0] := ⟨by kernel_rfl⟩
instance : TyU Try.prog 67 (.int .u64) := ⟨Try.underlying67⟩
instance : TyA Try.prog 67 false := ⟨by kernel_rfl⟩
instance : TyS Try.prog 67 1 8 [.int .u64 0] := ⟨by kernel_rfl⟩
instance : TyA Try.prog 74 true := ⟨by kernel_rfl⟩
instance : TyS Try.prog 74 0 0 [] := ⟨by kernel_rfl⟩
instance : TyA Try.prog 76 true := ⟨by kernel_rfl⟩
instance : TyS Try.prog 76 1 8 [.int .u64 0] := ⟨by kernel_rfl⟩
instance : TyU Try.prog 78 (.slice 82) := ⟨Try.underlying78⟩
instance : TyA Try.prog 78 false := ⟨by kernel_rfl⟩
instance : TyS Try.prog 78 1 24 [.slice none 0 0] := ⟨by kernel_rfl⟩
instance : TyA Try.prog 80 true := ⟨by kernel_rfl⟩
instance : TyS Try.prog 80 4 64 [.slice none 0 0, .slice none 0 0, .pointer none, .int .i64 0] := ⟨by kernel_rfl⟩
instance : TyA Try.prog 82 true := ⟨by kernel_rfl⟩
instance : TyS Try.prog 82 2 16 [.int .i64 0, .int .i64 0] := ⟨by kernel_rfl⟩
instance : TyU Try.prog 104 (.pointer 58) := ⟨Try.underlying104⟩
instance : TyA Try.prog 104 false := ⟨by kernel_rfl⟩
instance : TyS Try.prog 104 1 8 [.pointer none] := ⟨by kernel_rfl⟩
instance : TyU Try.prog 108 (.unsafePointer) := ⟨Try.underlying108⟩
instance : TyA Try.prog 108 false := ⟨by kernel_rfl⟩
instance : TyS Try.prog 108 1 8 [.pointer none] := ⟨by kernel_rfl⟩
instance : Fld Try.prog 45 0 0 := ⟨by kernel_rfl⟩
instance : Fld Try.prog 45 1 1 := ⟨by kernel_rfl⟩
instance : Fld Try.prog 56 1 0 := ⟨by kernel_rfl⟩
instance : Fld Try.prog 58 0 0 := ⟨by kernel_rfl⟩
instance : Fld Try.prog 58 1 1 := ⟨by kernel_rfl⟩
instance : Fld Try.prog 60 1 0 := ⟨by kernel_rfl⟩
instance : Fld Try.prog 62 1 0 := ⟨by kernel_rfl⟩
instance : Fld Try.prog 62 2 1 := ⟨by kernel_rfl⟩
instance : Fld Try.prog 65 0 0 := ⟨by kernel_rfl⟩
instance : Fld Try.prog 65 1 1 := ⟨by kernel_rfl⟩
instance : Fld Try.prog 65 2 4 := ⟨by kernel_rfl⟩
instance : Fld Try.prog 76 2 0 := ⟨by kernel_rfl⟩
instance : Fld Try.prog 80 0 0 := ⟨by kernel_rfl⟩
instance : Fld Try.prog 80 1 1 := ⟨by kernel_rfl⟩
instance : Fld Try.prog 80 2 2 := ⟨by kernel_rfl⟩
instance : Fld Try.prog 80 3 3 := ⟨by kernel_rfl⟩
instance : Fld Try.prog 82 0 0 := ⟨by kernel_rfl⟩
instance : Fld Try.prog 82 1 1 := ⟨by kernel_rfl⟩
instance : TyB Try.prog 45 [0, 1] (fun vs => vs) := ⟨trivial⟩
instance : TyB Try.prog 65 [0] (fun vs => match vs with | [a0] => [a0, .int .u32 0, .int .i32 0, .int .u32 0, .slice none 0 0] | _ => []) := ⟨trivial⟩
instance : TyB Try.prog 80 [0, 1, 3] (fun vs => match vs with | [a0, a1, a2] => [a0, a1, .pointer none, a2] | _ => []) := ⟨trivial⟩
instance : TyB Try.prog 82 [0] (fun vs => match vs with | [a0] => [a0, .int .i64 0] | _ => []) := ⟨trivial⟩
instance : TyBS Try.prog 35 4 3 [0, 1, 2, 3] (fun vs => vs) := ⟨trivial⟩
instance : TyBS Try.prog 47 2 43 [0, 1] (fun vs => vs) := ⟨trivial⟩
theorem mixed : Try.prog.follows .mixedOrders = true := by kernel_rfl
end Go.Sl
