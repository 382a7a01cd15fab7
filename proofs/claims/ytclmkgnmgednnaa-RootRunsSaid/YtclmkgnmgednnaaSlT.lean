/- Facts on the types that the functions use, one instance each: written by typegen.py. -/
import Derived.Test.YtclmkgnmgednnaaSlC
import Derived.Test.YtclmkgnmgednnaaChecked
namespace Go.Sl
open Go Go.Proofs
instance : TyA Try.prog 0 false := ⟨by kernel_rfl⟩
instance : TyU Try.prog 3 (.int .i64) := ⟨Try.underlying3⟩
instance : TyA Try.prog 3 false := ⟨by kernel_rfl⟩
instance : TyS Try.prog 3 1 8 [.int .i64 0] := ⟨by kernel_rfl⟩
instance : TyU Try.prog 4 (.bool) := ⟨Try.underlying4⟩
instance : TyA Try.prog 4 false := ⟨by kernel_rfl⟩
instance : TyS Try.prog 4 1 1 [.bool false] := ⟨by kernel_rfl⟩
instance : TyU Try.prog 5 (.int .u8) := ⟨Try.underlying5⟩
instance : TyA Try.prog 5 false := ⟨by kernel_rfl⟩
instance : TyS Try.prog 5 1 1 [.int .u8 0] := ⟨by kernel_rfl⟩
instance : TyU Try.prog 9 (.string) := ⟨Try.underlying9⟩
instance : TyA Try.prog 9 false := ⟨by kernel_rfl⟩
instance : TyS Try.prog 9 1 16 [.string ByteArray.empty] := ⟨by kernel_rfl⟩
instance : TyU Try.prog 22 (.slice 42) := ⟨Try.underlying22⟩
instance : TyA Try.prog 22 false := ⟨by kernel_rfl⟩
instance : TyS Try.prog 22 1 24 [.slice none 0 0] := ⟨by kernel_rfl⟩
instance : TyU Try.prog 23 (.slice 83) := ⟨Try.underlying23⟩
instance : TyA Try.prog 23 false := ⟨by kernel_rfl⟩
instance : TyS Try.prog 23 1 24 [.slice none 0 0] := ⟨by kernel_rfl⟩
instance : TyU Try.prog 26 (.slice 5) := ⟨Try.underlying26⟩
instance : TyA Try.prog 26 false := ⟨by kernel_rfl⟩
instance : TyS Try.prog 26 1 24 [.slice none 0 0] := ⟨by kernel_rfl⟩
instance : TyU Try.prog 28 (.int .i64) := ⟨Try.underlying28⟩
instance : TyA Try.prog 28 false := ⟨by kernel_rfl⟩
instance : TyS Try.prog 28 1 8 [.int .i64 0] := ⟨by kernel_rfl⟩
instance : TyA Try.prog 42 true := ⟨by kernel_rfl⟩
instance : TyS Try.prog 42 6 48 [.int .i64 0, .int .i64 0, .int .i64 0, .int .i64 0, .int .i64 0, .int .i64 0] := ⟨by kernel_rfl⟩
instance : TyU Try.prog 45 (.pointer 3) := ⟨Try.underlying45⟩
instance : TyA Try.prog 45 false := ⟨by kernel_rfl⟩
instance : TyS Try.prog 45 1 8 [.pointer none] := ⟨by kernel_rfl⟩
instance : TyU Try.prog 46 (.slice 45) := ⟨Try.underlying46⟩
instance : TyA Try.prog 46 false := ⟨by kernel_rfl⟩
instance : TyS Try.prog 46 1 24 [.slice none 0 0] := ⟨by kernel_rfl⟩
instance : TyU Try.prog 48 (.slice 58) := ⟨Try.underlying48⟩
instance : TyA Try.prog 48 false := ⟨by kernel_rfl⟩
instance : TyS Try.prog 48 1 24 [.slice none 0 0] := ⟨by kernel_rfl⟩
instance : TyA Try.prog 50 true := ⟨by kernel_rfl⟩
instance : TyS Try.prog 50 11 88 [.int .i64 0, .bool false, .int .i64 0, .int .i64 0, .int .i64 0, .int .i64 0, .int .i64 0, .int .i64 0, .int .i64 0, .int .i64 0, .int .i64 0] := ⟨by kernel_rfl⟩
instance : TyU Try.prog 52 (.pointer 97) := ⟨Try.underlying52⟩
instance : TyA Try.prog 52 false := ⟨by kernel_rfl⟩
instance : TyS Try.prog 52 1 8 [.pointer none] := ⟨by kernel_rfl⟩
instance : TyU Try.prog 54 (.map 3 59) := ⟨Try.underlying54⟩
instance : TyA Try.prog 54 false := ⟨by kernel_rfl⟩
instance : TyS Try.prog 54 1 8 [.map none] := ⟨by kernel_rfl⟩
instance : TyU Try.prog 55 (.slice 56) := ⟨Try.underlying55⟩
instance : TyA Try.prog 55 false := ⟨by kernel_rfl⟩
instance : TyS Try.prog 55 1 24 [.slice none 0 0] := ⟨by kernel_rfl⟩
instance : TyU Try.prog 56 (.int .i64) := ⟨Try.underlying56⟩
instance : TyA Try.prog 56 false := ⟨by kernel_rfl⟩
instance : TyS Try.prog 56 1 8 [.int .i64 0] := ⟨by kernel_rfl⟩
instance : TyA Try.prog 58 true := ⟨by kernel_rfl⟩
instance : TyS Try.prog 58 4 32 [.int .i64 0, .int .i64 0, .int .i64 0, .int .i64 0] := ⟨by kernel_rfl⟩
instance : TyU Try.prog 59 (.array 2 56) := ⟨Try.underlying59⟩
instance : TyA Try.prog 59 true := ⟨by kernel_rfl⟩
instance : TyS Try.prog 59 2 16 [.int .i64 0, .int .i64 0] := ⟨by kernel_rfl⟩
instance : TyU Try.prog 62 (.pointer 100) := ⟨Try.underlying62⟩
instance : TyA Try.prog 62 false := ⟨by kernel_rfl⟩
instance : TyS Try.prog 62 1 8 [.pointer none] := ⟨by kernel_rfl⟩
instance : TyA Try.prog 83 true := ⟨by kernel_rfl⟩
instance : TyS Try.prog 83 7 16 [.int .u8 0, .int .u8 0, .int .u8 0, .int .u8 0, .int .u8 0, .int .u8 0, .int .i64 0] := ⟨by kernel_rfl⟩
instance : TyU Try.prog 85 (.array 6 45) := ⟨Try.underlying85⟩
instance : TyA Try.prog 85 true := ⟨by kernel_rfl⟩
instance : TyS Try.prog 85 6 48 [.pointer none, .pointer none, .pointer none, .pointer none, .pointer none, .pointer none] := ⟨by kernel_rfl⟩
instance : TyA Try.prog 91 true := ⟨by kernel_rfl⟩
instance : TyS Try.prog 91 2 32 [.slice none 0 0, .bool false] := ⟨by kernel_rfl⟩
instance : TyU Try.prog 92 (.slice 3) := ⟨Try.underlying92⟩
instance : TyA Try.prog 92 false := ⟨by kernel_rfl⟩
instance : TyS Try.prog 92 1 24 [.slice none 0 0] := ⟨by kernel_rfl⟩
instance : TyU Try.prog 93 (.int .u64) := ⟨Try.underlying93⟩
instance : TyA Try.prog 93 false := ⟨by kernel_rfl⟩
instance : TyS Try.prog 93 1 8 [.int .u64 0] := ⟨by kernel_rfl⟩
instance : TyU Try.prog 95 (.array 4 62) := ⟨Try.underlying95⟩
instance : TyA Try.prog 95 true := ⟨by kernel_rfl⟩
instance : TyS Try.prog 95 4 32 [.pointer none, .pointer none, .pointer none, .pointer none] := ⟨by kernel_rfl⟩
instance : TyA Try.prog 97 true := ⟨by kernel_rfl⟩
instance : TyS Try.prog 97 16 144 [.int .i64 0, .bool false, .int .i64 0, .int .i64 0, .int .i64 0, .int .i64 0, .int .i64 0, .int .i64 0, .int .i64 0, .int .i64 0, .int .i64 0, .slice none 0 0, .pointer none, .pointer none, .pointer none, .pointer none] := ⟨by kernel_rfl⟩
instance : TyA Try.prog 100 true := ⟨by kernel_rfl⟩
instance : TyS Try.prog 100 3 56 [.slice none 0 0, .slice none 0 0, .int .i64 0] := ⟨by kernel_rfl⟩
instance : TyU Try.prog 101 (.func #[56] #[4] false) := ⟨Try.underlying101⟩
instance : TyA Try.prog 101 false := ⟨by kernel_rfl⟩
instance : TyS Try.prog 101 1 8 [.nilFunc] := ⟨by kernel_rfl⟩
instance : TyU Try.prog 103 (.array 2 55) := ⟨Try.underlying103⟩
instance : TyA Try.prog 103 true := ⟨by kernel_rfl⟩
instance : TyS Try.prog 103 2 48 [.slice none 0 0, .slice none 0 0] := ⟨by kernel_rfl⟩
instance : Fld Try.prog 42 0 0 := ⟨by kernel_rfl⟩
instance : Fld Try.prog 42 1 1 := ⟨by kernel_rfl⟩
instance : Fld Try.prog 42 2 2 := ⟨by kernel_rfl⟩
instance : Fld Try.prog 42 3 3 := ⟨by kernel_rfl⟩
instance : Fld Try.prog 42 4 4 := ⟨by kernel_rfl⟩
instance : Fld Try.prog 42 5 5 := ⟨by kernel_rfl⟩
instance : Fld Try.prog 50 3 3 := ⟨by kernel_rfl⟩
instance : Fld Try.prog 50 4 4 := ⟨by kernel_rfl⟩
instance : Fld Try.prog 50 5 5 := ⟨by kernel_rfl⟩
instance : Fld Try.prog 50 6 6 := ⟨by kernel_rfl⟩
instance : Fld Try.prog 58 0 0 := ⟨by kernel_rfl⟩
instance : Fld Try.prog 58 1 1 := ⟨by kernel_rfl⟩
instance : Fld Try.prog 58 2 2 := ⟨by kernel_rfl⟩
instance : Fld Try.prog 58 3 3 := ⟨by kernel_rfl⟩
instance : Fld Try.prog 83 0 0 := ⟨by kernel_rfl⟩
instance : Fld Try.prog 83 1 1 := ⟨by kernel_rfl⟩
instance : Fld Try.prog 83 2 2 := ⟨by kernel_rfl⟩
instance : Fld Try.prog 83 3 3 := ⟨by kernel_rfl⟩
instance : Fld Try.prog 83 4 4 := ⟨by kernel_rfl⟩
instance : Fld Try.prog 83 5 5 := ⟨by kernel_rfl⟩
instance : Fld Try.prog 83 6 6 := ⟨by kernel_rfl⟩
instance : Fld Try.prog 91 0 0 := ⟨by kernel_rfl⟩
instance : Fld Try.prog 91 1 1 := ⟨by kernel_rfl⟩
instance : Fld Try.prog 97 0 0 := ⟨by kernel_rfl⟩
instance : Fld Try.prog 97 1 11 := ⟨by kernel_rfl⟩
instance : Fld Try.prog 97 2 12 := ⟨by kernel_rfl⟩
instance : Fld Try.prog 100 0 0 := ⟨by kernel_rfl⟩
instance : Fld Try.prog 100 1 1 := ⟨by kernel_rfl⟩
instance : Fld Try.prog 100 2 2 := ⟨by kernel_rfl⟩
instance : TyB Try.prog 42 [0, 1, 2, 3, 4, 5] (fun vs => vs) := ⟨trivial⟩
instance : TyB Try.prog 42 [0, 1, 5] (fun vs => match vs with | [a0, a1, a2] => [a0, a1, .int .i64 0, .int .i64 0, .int .i64 0, a2] | _ => []) := ⟨trivial⟩
instance : TyB Try.prog 50 [3, 4, 5, 6] (fun vs => match vs with | [a0, a1, a2, a3] => [.int .i64 0, .bool false, .int .i64 0, a0, a1, a2, a3, .int .i64 0, .int .i64 0, .int .i64 0, .int .i64 0] | _ => []) := ⟨trivial⟩
instance : TyB Try.prog 50 [3, 4, 6] (fun vs => match vs with | [a0, a1, a2] => [.int .i64 0, .bool false, .int .i64 0, a0, a1, .int .i64 0, a2, .int .i64 0, .int .i64 0, .int .i64 0, .int .i64 0] | _ => []) := ⟨trivial⟩
instance : TyB Try.prog 85 [0, 1, 2, 3, 4, 5] (fun vs => vs) := ⟨trivial⟩
instance : TyB Try.prog 91 [0] (fun vs => match vs with | [a0] => [a0, .bool false] | _ => []) := ⟨trivial⟩
instance : TyB Try.prog 100 [0, 2] (fun vs => match vs with | [a0, a1] => [a0, .slice none 0 0, a1] | _ => []) := ⟨trivial⟩
instance : TyB Try.prog 103 [0, 1] (fun vs => vs) := ⟨trivial⟩
instance : TyBS Try.prog 22 1 42 [0] (fun vs => vs.flatMap fun v => match v with | .agg a => a.toList | v => [v]) := ⟨trivial⟩
instance : TyBS Try.prog 26 1 5 [0] (fun vs => vs) := ⟨trivial⟩
instance : TyBS Try.prog 26 2 5 [0, 1] (fun vs => vs) := ⟨trivial⟩
instance : TyBS Try.prog 46 6 45 [0, 1, 2, 3, 4, 5] (fun vs => vs) := ⟨trivial⟩
instance : TyBS Try.prog 55 1 56 [0] (fun vs => vs) := ⟨trivial⟩
instance : TyBS Try.prog 92 6 3 [0, 1, 2, 3, 4, 5] (fun vs => vs) := ⟨trivial⟩
theorem mixed : Try.prog.follows .mixedOrders = true := by kernel_rfl
end Go.Sl
