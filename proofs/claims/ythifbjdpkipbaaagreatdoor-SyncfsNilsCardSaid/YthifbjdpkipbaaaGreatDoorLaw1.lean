/- SyncfsNils: the chapter's example, alive(), comes to true from any world, whatever Go leaves open: run by the kernel over an abstract heap. -/
import Derived.Test.YthifbjdpkipbaaaGreatDoorLaw0
set_option linter.all false
namespace Go.Proofs.YthifbjdpkipbaaaGreatDoor
open Go Go.Eng

/-- THE EXAMPLE, RUN BY THE KERNEL: whatever Go leaves open, it comes to true. -/
theorem alive_run : okOf ((recF Tryz.prog cfg 5000).call 4 [] A0) = true := by kernel_rfl

theorem alive_calls (n : Nat) (w : World) : CallsIn (fence none) n Tryz.prog 4 #[] w fun e w' => e = .returned (.bool true) ∧ Same w w' :=
  calls_ok (by rw [recF_eq]; exact eval_ok mixed cfg_ok 5000) alive_run (locs := []) (by decide) (us := []) rfl n w

end Go.Proofs.YthifbjdpkipbaaaGreatDoor
