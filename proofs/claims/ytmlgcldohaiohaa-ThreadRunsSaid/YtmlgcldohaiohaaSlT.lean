/- Facts on the types that the functions use, one instance each: written by typegen.py. -/
import Derived.Test.YtmlgcldohaiohaaSlC
import Derived.Test.YtmlgcldohaiohaaChecked
namespace Go.Sl
open Go Go.Proofs
instance : TyU Try.prog 3 (.int .i64) := ⟨Try.underlying3⟩
instance : TyA Try.prog 3 false := ⟨by kernel_rfl⟩
instance : TyS Try.prog 3 1 8 [.int .i64 0] := ⟨by kernel_rfl⟩
instance : TyU Try.prog 4 (.bool) := ⟨Try.underlying4⟩
instance : TyA Try.prog 4 false := ⟨by kernel_rfl⟩
instance : TyS Try.prog 4 1 1 [.bool false] := ⟨by kernel_rfl⟩
instance : TyU Try.prog 5 (.int .u8) := ⟨Try.underlying5⟩
instance : TyA Try.prog 5 false := ⟨by kernel_rfl⟩
instance : TyS Try.prog 5 1 1 [.int .u8 0] := ⟨by kernel_rfl⟩
instance : TyU Try.prog 22 (.slice 28) := ⟨Try.underlying22⟩
instance : TyA Try.prog 22 false := ⟨by kernel_rfl⟩
instance : TyS Try.prog 22 1 24 [.slice none 0 0] := ⟨by kernel_rfl⟩
instance : TyU Try.prog 24 (.pointer 48) := ⟨Try.underlying24⟩
instance : TyA Try.prog 24 false := ⟨by kernel_rfl⟩
instance : TyS Try.prog 24 1 8 [.pointer none] := ⟨by kernel_rfl⟩
instance : TyU Try.prog 26 (.int .i64) := ⟨Try.underlying26⟩
instance : TyA Try.prog 26 false := ⟨by kernel_rfl⟩
instance : TyS Try.prog 26 1 8 [.int .i64 0] := ⟨by kernel_rfl⟩
instance : TyU Try.prog 28 (.int .i64) := ⟨Try.underlying28⟩
instance : TyA Try.prog 28 false := ⟨by kernel_rfl⟩
instance : TyS Try.prog 28 1 8 [.int .i64 0] := ⟨by kernel_rfl⟩
instance : TyU Try.prog 34 (.slice 36) := ⟨Try.underlying34⟩
instance : TyA Try.prog 34 false := ⟨by kernel_rfl⟩
instance : TyS Try.prog 34 1 24 [.slice none 0 0] := ⟨by kernel_rfl⟩
instance : TyA Try.prog 36 true := ⟨by kernel_rfl⟩
instance : TyS Try.prog 36 3 24 [.int .i64 0, .int .i64 0, .int .i64 0] := ⟨by kernel_rfl⟩
instance : TyU Try.prog 45 (.slice 4) := ⟨Try.underlying45⟩
instance : TyA Try.prog 45 false := ⟨by kernel_rfl⟩
instance : TyS Try.prog 45 1 24 [.slice none 0 0] := ⟨by kernel_rfl⟩
instance : TyA Try.prog 48 true := ⟨by kernel_rfl⟩
instance : TyS Try.prog 48 3 56 [.slice none 0 0, .slice none 0 0, .int .i64 0] := ⟨by kernel_rfl⟩
instance : TyU Try.prog 50 (.array 2 22) := ⟨Try.underlying50⟩
instance : TyA Try.prog 50 true := ⟨by kernel_rfl⟩
instance : TyS Try.prog 50 2 48 [.slice none 0 0, .slice none 0 0] := ⟨by kernel_rfl⟩
instance : Fld Try.prog 36 0 0 := ⟨by kernel_rfl⟩
instance : Fld Try.prog 36 1 1 := ⟨by kernel_rfl⟩
instance : Fld Try.prog 36 2 2 := ⟨by kernel_rfl⟩
instance : Fld Try.prog 48 0 0 := ⟨by kernel_rfl⟩
instance : Fld Try.prog 48 1 1 := ⟨by kernel_rfl⟩
instance : Fld Try.prog 48 2 2 := ⟨by kernel_rfl⟩
instance : TyB Try.prog 48 [0, 2] (fun vs => match vs with | [a0, a1] => [a0, .slice none 0 0, a1] | _ => []) := ⟨trivial⟩
instance : TyB Try.prog 50 [0, 1] (fun vs => vs) := ⟨trivial⟩
instance : TyBS Try.prog 22 1 28 [0] (fun vs => vs) := ⟨trivial⟩
theorem mixed : Try.prog.follows .mixedOrders = true := by kernel_rfl
end Go.Sl
