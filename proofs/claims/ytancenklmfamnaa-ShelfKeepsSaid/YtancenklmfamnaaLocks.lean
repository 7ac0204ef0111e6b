/- The numbers under which this translation holds sync.Mutex. -/
import Derived.Test.YtancenklmfamnaaProg
import Derived.Conc.MuData
import Derived.Conc.MuLone
import Derived.KernelRfl
namespace Go.Proofs
abbrev Try.muLink : Go.Conc.Locks.MuLink := { lock := 19, unlock := 20, ilock := 35, iunlock := 36, lockSlow := 53, unlockSlow := 56, disable := 49, enable := 51, acquire := 52, relMerge := 54, cas32 := 50, add32 := 55, tMutex := 68, tIMutex := 66, tPMutex := 88, tPIMutex := 107, tPI32 := 109, tUP := 111, tNoCopy := 63, tU32 := 64 }
theorem Try.muLib : Go.Conc.Locks.MuLib Try.prog Try.muLink :=
  ⟨Try.func19, Try.func20, Try.func35, Try.func36, Try.func49, Try.func51, Try.func52, Try.func54, Try.func50, Try.func55, Try.underlying66, Try.runUnderlying66, Try.sizeOf66, Try.isAgg66, Try.zeroValue66, Try.underlying68, Try.runUnderlying68, Try.sizeOf68, Try.isAgg68, Try.zeroValue68, Try.underlying88, Try.runUnderlying88, Try.sizeOf88, Try.isAgg88, Try.zeroValue88, Try.underlying107, Try.runUnderlying107, Try.sizeOf107, Try.isAgg107, Try.zeroValue107, Try.underlying109, Try.runUnderlying109, Try.sizeOf109, Try.isAgg109, Try.zeroValue109, Try.underlying111, Try.runUnderlying111, Try.sizeOf111, Try.isAgg111, Try.zeroValue111, Try.underlying63, Try.runUnderlying63, Try.sizeOf63, Try.isAgg63, Try.zeroValue63, Try.underlying21, Try.runUnderlying21, Try.sizeOf21, Try.isAgg21, Try.zeroValue21, (by kernel_rfl)⟩
end Go.Proofs
