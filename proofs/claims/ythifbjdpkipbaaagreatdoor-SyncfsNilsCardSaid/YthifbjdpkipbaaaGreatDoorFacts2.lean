/- SyncfsNils: the closed facts of the given row, together. -/
import Derived.Test.YthifbjdpkipbaaaGreatDoorFacts
set_option linter.all false
namespace Go.Proofs.YthifbjdpkipbaaaGreatDoor
open Go
theorem facts : joinedFacts Tryz.prog 3 Tryz.f3 Rows.syncfsNilsSpec Rows.syncfsNilsRow = true := by
  unfold joinedFacts
  simp only [k1, k2, k3, k4, k5, k7, k9, k10, k11, k12, k13, k14, k15, k16, k17, k18, k20, k21, k22, k23, k25, k26, k27, k28, k30, k31, k32, Bool.and_true, Bool.true_and]
  kernel_rfl
end Go.Proofs.YthifbjdpkipbaaaGreatDoor
