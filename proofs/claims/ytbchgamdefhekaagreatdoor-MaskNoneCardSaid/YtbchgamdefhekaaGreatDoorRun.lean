/- Runs of the interpreter, by the kernel. -/
import Derived.Test.YtbchgamdefhekaaGreatDoorCtx
import Derived.KernelRfl
namespace Go.Proofs.YtbchgamdefhekaaGreatDoor.A
open Go Go.Ai
theorem run_zero : F cx 300 3 [.i (.lit (.int .i64 (Int.ofNat 0))), .junk] [] = some (.ret (.i (.lit (.bool true))), []) := by kernel_rfl
theorem run_pos (k : Nat) : F cx 300 3 [.i (.lit (.int .i64 (Int.ofNat (k + 1)))), .junk] [] = some (.ret (.i (.lit (.bool true))), []) := by kernel_rfl
theorem run_neg (k : Nat) : F cx 300 3 [.i (.lit (.int .i64 (Int.negSucc k))), .junk] [] = some (.ret (.i (.lit (.bool true))), []) := by kernel_rfl
end Go.Proofs.YtbchgamdefhekaaGreatDoor.A
