/- The numbers of the locks' functions and types in this seat (r29 alone). -/
import Derived.Test.YtlddeagolhdieaaProg
import Derived.Conc.MuLib
import Derived.KernelRfl
namespace Go.Proofs.Ytlddeagolhdieaa
abbrev muL : Go.Conc.Locks.MuLink := { lock := 36, unlock := 37, ilock := 57, iunlock := 58, lockSlow := 70, unlockSlow := 72, disable := 47, enable := 49, acquire := 50, relMerge := 59, cas32 := 69, add32 := 71, tMutex := 74, tIMutex := 72, tPMutex := 118, tPIMutex := 129, tPI32 := 131, tUP := 112, tNoCopy := 69, tU32 := 70 }
theorem muLib : Go.Conc.Locks.MuLib Try.prog muL :=
  ⟨Try.func36, Try.func37, Try.func57, Try.func58, Try.func47, Try.func49, Try.func50, Try.func59, Try.func69, Try.func71, Try.underlying72, Try.runUnderlying72, Try.sizeOf72, Try.isAgg72, Try.zeroValue72, Try.underlying74, Try.runUnderlying74, Try.sizeOf74, Try.isAgg74, Try.zeroValue74, Try.underlying118, Try.runUnderlying118, Try.sizeOf118, Try.isAgg118, Try.zeroValue118, Try.underlying129, Try.runUnderlying129, Try.sizeOf129, Try.isAgg129, Try.zeroValue129, Try.underlying131, Try.runUnderlying131, Try.sizeOf131, Try.isAgg131, Try.zeroValue131, Try.underlying112, Try.runUnderlying112, Try.sizeOf112, Try.isAgg112, Try.zeroValue112, Try.underlying69, Try.runUnderlying69, Try.sizeOf69, Try.isAgg69, Try.zeroValue69, Try.underlying21, Try.runUnderlying21, Try.sizeOf21, Try.isAgg21, Try.zeroValue21, (by kernel_rfl)⟩
end Go.Proofs.Ytlddeagolhdieaa
