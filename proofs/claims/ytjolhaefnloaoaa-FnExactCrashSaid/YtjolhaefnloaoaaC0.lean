/- The lock's functions and types by their numbers; its contracts. -/
import Derived.Test.YtjolhaefnloaoaaA1
import Derived.Conc.RwLib
import Derived.Conc.MuData
import Derived.Conc.MuLone
import Derived.KernelRfl
namespace Go.Proofs.Ytjolhaefnloaoaa
abbrev muLink : Go.Conc.Locks.MuLink := { lock := 83, unlock := 84, ilock := 103, iunlock := 104, lockSlow := 119, unlockSlow := 122, disable := 115, enable := 117, acquire := 118, relMerge := 120, cas32 := 116, add32 := 121, tMutex := 85, tIMutex := 83, tPMutex := 165, tPIMutex := 187, tPI32 := 189, tUP := 191, tNoCopy := 80, tU32 := 81 }
theorem muLib : Go.Conc.Locks.MuLib Try.prog muLink :=
  ⟨Try.func83, Try.func84, Try.func103, Try.func104, Try.func115, Try.func117, Try.func118, Try.func120, Try.func116, Try.func121, Try.underlying83, Try.runUnderlying83, Try.sizeOf83, Try.isAgg83, Try.zeroValue83, Try.underlying85, Try.runUnderlying85, Try.sizeOf85, Try.isAgg85, Try.zeroValue85, Try.underlying165, Try.runUnderlying165, Try.sizeOf165, Try.isAgg165, Try.zeroValue165, Try.underlying187, Try.runUnderlying187, Try.sizeOf187, Try.isAgg187, Try.zeroValue187, Try.underlying189, Try.runUnderlying189, Try.sizeOf189, Try.isAgg189, Try.zeroValue189, Try.underlying191, Try.runUnderlying191, Try.sizeOf191, Try.isAgg191, Try.zeroValue191, Try.underlying80, Try.runUnderlying80, Try.sizeOf80, Try.isAgg80, Try.zeroValue80, Try.underlying21, Try.runUnderlying21, Try.sizeOf21, Try.isAgg21, Try.zeroValue21, (by kernel_rfl)⟩
end Go.Proofs.Ytjolhaefnloaoaa
