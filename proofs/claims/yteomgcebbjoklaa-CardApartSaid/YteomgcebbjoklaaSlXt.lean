/- The functions without a body that this program has. -/
import Derived.Test.YteomgcebbjoklaaSl7
import Derived.Test.YteomgcebbjoklaaSlT
import Derived.KernelRfl
namespace Go.Sl
open Go Go.Proofs
instance : Ext Try.prog 49 (Extern.Atomic.update (Op.intBits .or) .u64 false) := ⟨⟨Try.f49, Try.func49, by kernel_rfl, by kernel_rfl, by kernel_rfl, by kernel_rfl⟩⟩
instance : Ext Try.prog 50 (Extern.Atomic.loadT (.int .u64)) := ⟨⟨Try.f50, Try.func50, by kernel_rfl, by kernel_rfl, by kernel_rfl, by kernel_rfl⟩⟩
instance : Ext Try.prog 53 (Extern.Atomic.update (Op.intBits .and) .u64 false) := ⟨⟨Try.f53, Try.func53, by kernel_rfl, by kernel_rfl, by kernel_rfl, by kernel_rfl⟩⟩
instance : Ext Try.prog 54 (Extern.Atomic.storeT) := ⟨⟨Try.f54, Try.func54, by kernel_rfl, by kernel_rfl, by kernel_rfl, by kernel_rfl⟩⟩
instance : Ext Try.prog 60 (Extern.Atomic.loadT (.int .u32)) := ⟨⟨Try.f60, Try.func60, by kernel_rfl, by kernel_rfl, by kernel_rfl, by kernel_rfl⟩⟩
instance : Ext Try.prog 66 (Extern.Atomic.storeT) := ⟨⟨Try.f66, Try.func66, by kernel_rfl, by kernel_rfl, by kernel_rfl, by kernel_rfl⟩⟩
instance : Ext Try.prog 68 (fun _ => do mark .disable; pure Extern.Race.none_) := ⟨⟨Try.f68, Try.func68, by kernel_rfl, by kernel_rfl, by kernel_rfl, by kernel_rfl⟩⟩
instance : Ext Try.prog 69 (Extern.Atomic.casT (.int .i32)) := ⟨⟨Try.f69, Try.func69, by kernel_rfl, by kernel_rfl, by kernel_rfl, by kernel_rfl⟩⟩
instance : Ext Try.prog 70 (fun _ => do mark .enable; pure Extern.Race.none_) := ⟨⟨Try.f70, Try.func70, by kernel_rfl, by kernel_rfl, by kernel_rfl, by kernel_rfl⟩⟩
instance : Ext Try.prog 71 (Extern.Race.marked .acquire) := ⟨⟨Try.f71, Try.func71, by kernel_rfl, by kernel_rfl, by kernel_rfl, by kernel_rfl⟩⟩
instance : Ext Try.prog 73 (Extern.Race.marked .releaseMerge) := ⟨⟨Try.f73, Try.func73, by kernel_rfl, by kernel_rfl, by kernel_rfl, by kernel_rfl⟩⟩
instance : Ext Try.prog 74 (Extern.Atomic.update (Op.intArith .add) .i32 true) := ⟨⟨Try.f74, Try.func74, by kernel_rfl, by kernel_rfl, by kernel_rfl, by kernel_rfl⟩⟩
end Go.Sl
