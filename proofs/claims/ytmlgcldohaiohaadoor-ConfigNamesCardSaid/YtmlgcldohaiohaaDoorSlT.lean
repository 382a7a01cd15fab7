/- Facts on the types that the functions use, one instance each: written by typegen.py. -/
import Derived.Test.YtmlgcldohaiohaaDoorSlC
import Derived.Test.YtmlgcldohaiohaaDoorChecked
namespace Go.Sl
open Go Go.Proofs
instance : TyU Tryd.prog 3 (.int .i64) := ⟨Tryd.underlying3⟩
instance : TyA Tryd.prog 3 false := ⟨by kernel_rfl⟩
instance : TyS Tryd.prog 3 1 8 [.int .i64 0] := ⟨by kernel_rfl⟩
instance : TyU Tryd.prog 4 (.bool) := ⟨Tryd.underlying4⟩
instance : TyA Tryd.prog 4 false := ⟨by kernel_rfl⟩
instance : TyS Tryd.prog 4 1 1 [.bool false] := ⟨by kernel_rfl⟩
instance : TyU Tryd.prog 5 (.int .u8) := ⟨Tryd.underlying5⟩
instance : TyA Tryd.prog 5 false := ⟨by kernel_rfl⟩
instance : TyS Tryd.prog 5 1 1 [.int .u8 0] := ⟨by kernel_rfl⟩
instance : TyU Tryd.prog 9 (.string) := ⟨Tryd.underlying9⟩
instance : TyA Tryd.prog 9 false := ⟨by kernel_rfl⟩
instance : TyS Tryd.prog 9 1 16 [.string ByteArray.empty] := ⟨by kernel_rfl⟩
instance : TyA Tryd.prog 23 true := ⟨by kernel_rfl⟩
instance : TyS Tryd.prog 23 6 48 [.int .i64 0, .int .i64 0, .int .i64 0, .int .i64 0, .int .i64 0, .int .i64 0] := ⟨by kernel_rfl⟩
instance : TyU Tryd.prog 25 (.slice 9) := ⟨Tryd.underlying25⟩
instance : TyA Tryd.prog 25 false := ⟨by kernel_rfl⟩
instance : TyS Tryd.prog 25 1 24 [.slice none 0 0] := ⟨by kernel_rfl⟩
instance : TyU Tryd.prog 31 (.slice 3) := ⟨Tryd.underlying31⟩
instance : TyA Tryd.prog 31 false := ⟨by kernel_rfl⟩
instance : TyS Tryd.prog 31 1 24 [.slice none 0 0] := ⟨by kernel_rfl⟩
instance : TyA Tryd.prog 36 true := ⟨by kernel_rfl⟩
instance : TyS Tryd.prog 36 11 88 [.int .i64 0, .bool false, .int .i64 0, .int .i64 0, .int .i64 0, .int .i64 0, .int .i64 0, .int .i64 0, .int .i64 0, .int .i64 0, .int .i64 0] := ⟨by kernel_rfl⟩
instance : TyU Tryd.prog 37 (.array 6 5) := ⟨Tryd.underlying37⟩
instance : TyA Tryd.prog 37 true := ⟨by kernel_rfl⟩
instance : TyS Tryd.prog 37 6 6 [.int .u8 0, .int .u8 0, .int .u8 0, .int .u8 0, .int .u8 0, .int .u8 0] := ⟨by kernel_rfl⟩
instance : TyU Tryd.prog 38 (.int .i64) := ⟨Tryd.underlying38⟩
instance : TyA Tryd.prog 38 false := ⟨by kernel_rfl⟩
instance : TyS Tryd.prog 38 1 8 [.int .i64 0] := ⟨by kernel_rfl⟩
instance : TyU Tryd.prog 43 (.int .i8) := ⟨Tryd.underlying43⟩
instance : TyA Tryd.prog 43 false := ⟨by kernel_rfl⟩
instance : TyS Tryd.prog 43 1 1 [.int .i8 0] := ⟨by kernel_rfl⟩
instance : TyU Tryd.prog 44 (.array 10 3) := ⟨Tryd.underlying44⟩
instance : TyA Tryd.prog 44 true := ⟨by kernel_rfl⟩
instance : TyS Tryd.prog 44 10 80 [.int .i64 0, .int .i64 0, .int .i64 0, .int .i64 0, .int .i64 0, .int .i64 0, .int .i64 0, .int .i64 0, .int .i64 0, .int .i64 0] := ⟨by kernel_rfl⟩
instance : TyU Tryd.prog 45 (.pointer 3) := ⟨Tryd.underlying45⟩
instance : TyA Tryd.prog 45 false := ⟨by kernel_rfl⟩
instance : TyS Tryd.prog 45 1 8 [.pointer none] := ⟨by kernel_rfl⟩
instance : TyU Tryd.prog 46 (.array 10 45) := ⟨Tryd.underlying46⟩
instance : TyA Tryd.prog 46 true := ⟨by kernel_rfl⟩
instance : TyS Tryd.prog 46 10 80 [.pointer none, .pointer none, .pointer none, .pointer none, .pointer none, .pointer none, .pointer none, .pointer none, .pointer none, .pointer none] := ⟨by kernel_rfl⟩
instance : TyU Tryd.prog 48 (.slice 36) := ⟨Tryd.underlying48⟩
instance : TyA Tryd.prog 48 false := ⟨by kernel_rfl⟩
instance : TyS Tryd.prog 48 1 24 [.slice none 0 0] := ⟨by kernel_rfl⟩
instance : TyU Tryd.prog 53 (.array 3 5) := ⟨Tryd.underlying53⟩
instance : TyA Tryd.prog 53 true := ⟨by kernel_rfl⟩
instance : TyS Tryd.prog 53 3 3 [.int .u8 0, .int .u8 0, .int .u8 0] := ⟨by kernel_rfl⟩
instance : TyU Tryd.prog 58 (.slice 60) := ⟨Tryd.underlying58⟩
instance : TyA Tryd.prog 58 false := ⟨by kernel_rfl⟩
instance : TyS Tryd.prog 58 1 24 [.slice none 0 0] := ⟨by kernel_rfl⟩
instance : TyA Tryd.prog 60 true := ⟨by kernel_rfl⟩
instance : TyS Tryd.prog 60 4 24 [.string ByteArray.empty, .bool false, .bool false, .bool false] := ⟨by kernel_rfl⟩
instance : TyU Tryd.prog 61 (.array 3 4) := ⟨Tryd.underlying61⟩
instance : TyA Tryd.prog 61 true := ⟨by kernel_rfl⟩
instance : TyS Tryd.prog 61 3 3 [.bool false, .bool false, .bool false] := ⟨by kernel_rfl⟩
instance : TyU Tryd.prog 62 (.array 3 3) := ⟨Tryd.underlying62⟩
instance : TyA Tryd.prog 62 true := ⟨by kernel_rfl⟩
instance : TyS Tryd.prog 62 3 24 [.int .i64 0, .int .i64 0, .int .i64 0] := ⟨by kernel_rfl⟩
instance : TyU Tryd.prog 64 (.slice 68) := ⟨Tryd.underlying64⟩
instance : TyA Tryd.prog 64 false := ⟨by kernel_rfl⟩
instance : TyS Tryd.prog 64 1 24 [.slice none 0 0] := ⟨by kernel_rfl⟩
instance : TyU Tryd.prog 66 (.func #[36] #[3] false) := ⟨Tryd.underlying66⟩
instance : TyA Tryd.prog 66 false := ⟨by kernel_rfl⟩
instance : TyS Tryd.prog 66 1 8 [.nilFunc] := ⟨by kernel_rfl⟩
instance : TyA Tryd.prog 68 true := ⟨by kernel_rfl⟩
instance : TyS Tryd.prog 68 3 24 [.nilFunc, .int .i64 0, .int .i64 0] := ⟨by kernel_rfl⟩
instance : TyU Tryd.prog 70 (.array 4 9) := ⟨Tryd.underlying70⟩
instance : TyA Tryd.prog 70 true := ⟨by kernel_rfl⟩
instance : TyS Tryd.prog 70 4 64 [.string ByteArray.empty, .string ByteArray.empty, .string ByteArray.empty, .string ByteArray.empty] := ⟨by kernel_rfl⟩
instance : TyU Tryd.prog 71 (.array 2 4) := ⟨Tryd.underlying71⟩
instance : TyA Tryd.prog 71 true := ⟨by kernel_rfl⟩
instance : TyS Tryd.prog 71 2 2 [.bool false, .bool false] := ⟨by kernel_rfl⟩
instance : Fld Tryd.prog 23 2 2 := ⟨by kernel_rfl⟩
instance : Fld Tryd.prog 23 3 3 := ⟨by kernel_rfl⟩
instance : Fld Tryd.prog 23 4 4 := ⟨by kernel_rfl⟩
instance : Fld Tryd.prog 23 5 5 := ⟨by kernel_rfl⟩
instance : Fld Tryd.prog 36 0 0 := ⟨by kernel_rfl⟩
instance : Fld Tryd.prog 36 1 1 := ⟨by kernel_rfl⟩
instance : Fld Tryd.prog 36 2 2 := ⟨by kernel_rfl⟩
instance : Fld Tryd.prog 36 3 3 := ⟨by kernel_rfl⟩
instance : Fld Tryd.prog 36 4 4 := ⟨by kernel_rfl⟩
instance : Fld Tryd.prog 36 5 5 := ⟨by kernel_rfl⟩
instance : Fld Tryd.prog 36 6 6 := ⟨by kernel_rfl⟩
instance : Fld Tryd.prog 36 7 7 := ⟨by kernel_rfl⟩
instance : Fld Tryd.prog 36 8 8 := ⟨by kernel_rfl⟩
instance : Fld Tryd.prog 36 9 9 := ⟨by kernel_rfl⟩
instance : Fld Tryd.prog 36 10 10 := ⟨by kernel_rfl⟩
instance : Fld Tryd.prog 60 0 0 := ⟨by kernel_rfl⟩
instance : Fld Tryd.prog 60 1 1 := ⟨by kernel_rfl⟩
instance : Fld Tryd.prog 60 2 2 := ⟨by kernel_rfl⟩
instance : Fld Tryd.prog 60 3 3 := ⟨by kernel_rfl⟩
instance : Fld Tryd.prog 68 0 0 := ⟨by kernel_rfl⟩
instance : Fld Tryd.prog 68 1 1 := ⟨by kernel_rfl⟩
instance : Fld Tryd.prog 68 2 2 := ⟨by kernel_rfl⟩
instance : TyB Tryd.prog 23 [2, 3, 5] (fun vs => match vs with | [a0, a1, a2] => [.int .i64 0, .int .i64 0, a0, a1, .int .i64 0, a2] | _ => []) := ⟨trivial⟩
instance : TyB Tryd.prog 23 [2, 4] (fun vs => match vs with | [a0, a1] => [.int .i64 0, .int .i64 0, a0, .int .i64 0, a1, .int .i64 0] | _ => []) := ⟨trivial⟩
instance : TyB Tryd.prog 23 [2, 5] (fun vs => match vs with | [a0, a1] => [.int .i64 0, .int .i64 0, a0, .int .i64 0, .int .i64 0, a1] | _ => []) := ⟨trivial⟩
instance : TyB Tryd.prog 36 [0, 1, 2, 3, 4, 5, 6, 7, 8, 9, 10] (fun vs => vs) := ⟨trivial⟩
instance : TyB Tryd.prog 36 [2, 3, 4, 8, 10] (fun vs => match vs with | [a0, a1, a2, a3, a4] => [.int .i64 0, .bool false, a0, a1, a2, .int .i64 0, .int .i64 0, .int .i64 0, a3, .int .i64 0, a4] | _ => []) := ⟨trivial⟩
instance : TyB Tryd.prog 44 [0, 1, 2, 3, 4, 5, 6, 7, 8, 9] (fun vs => vs) := ⟨trivial⟩
instance : TyB Tryd.prog 46 [0, 1, 2, 3, 4, 5, 6, 7, 8, 9] (fun vs => vs) := ⟨trivial⟩
instance : TyB Tryd.prog 60 [0, 1, 2, 3] (fun vs => vs) := ⟨trivial⟩
instance : TyB Tryd.prog 61 [0, 1, 2] (fun vs => vs) := ⟨trivial⟩
instance : TyB Tryd.prog 62 [0, 1, 2] (fun vs => vs) := ⟨trivial⟩
instance : TyB Tryd.prog 68 [0, 1, 2] (fun vs => vs) := ⟨trivial⟩
instance : TyB Tryd.prog 70 [0, 1, 2, 3] (fun vs => vs) := ⟨trivial⟩
instance : TyB Tryd.prog 71 [0, 1] (fun vs => vs) := ⟨trivial⟩
instance : TyBS Tryd.prog 25 4 9 [0, 1, 2, 3] (fun vs => vs) := ⟨trivial⟩
instance : TyBS Tryd.prog 25 13 9 [0, 1, 2, 3, 4, 5, 6, 7, 8, 9, 10, 11, 12] (fun vs => vs) := ⟨trivial⟩
instance : TyBS Tryd.prog 31 1 3 [0] (fun vs => vs) := ⟨trivial⟩
instance : TyBS Tryd.prog 31 2 3 [0, 1] (fun vs => vs) := ⟨trivial⟩
instance : TyBS Tryd.prog 31 6 3 [0, 1, 2, 3, 4, 5] (fun vs => vs) := ⟨trivial⟩
instance : TyBS Tryd.prog 48 1 36 [0] (fun vs => vs.flatMap fun v => match v with | .agg a => a.toList | v => [v]) := ⟨trivial⟩
instance : TyBS Tryd.prog 58 13 60 [0, 1, 2, 3, 4, 5, 6, 7, 8, 9, 10, 11, 12] (fun vs => vs.flatMap fun v => match v with | .agg a => a.toList | v => [v]) := ⟨trivial⟩
instance : TyBS Tryd.prog 64 10 68 [0, 1, 2, 3, 4, 5, 6, 7, 8, 9] (fun vs => vs.flatMap fun v => match v with | .agg a => a.toList | v => [v]) := ⟨trivial⟩
theorem mixed : Tryd.prog.follows .mixedOrders = true := by kernel_rfl
end Go.Sl
