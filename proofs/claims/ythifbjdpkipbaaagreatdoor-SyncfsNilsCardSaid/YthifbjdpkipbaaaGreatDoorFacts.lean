/- SyncfsNils: the closed facts of the given row, each by the kernel. -/
import Derived.Test.YthifbjdpkipbaaaGreatDoorCards
import Derived.Test.YthifbjdpkipbaaaGreatDoorTie
import Derived.JoinedOf
import Derived.KernelRfl
set_option linter.all false
namespace Go.Proofs.YthifbjdpkipbaaaGreatDoor
open Go

theorem k1 : Rows.syncfsNilsRow.wf (OpenSpec.ofChange Rows.syncfsNilsSpec) = true := by kernel_rfl
theorem k2 : laidOutB Tryz.prog = true := by kernel_rfl
theorem k3 : mapsRowed Tryz.prog = true := by kernel_rfl
theorem k4 : Tryz.f3.params.all (Tryz.prog.readableRec ·) = true := by kernel_rfl
theorem k5 : namedTie Tryz.prog Rows.syncfsNilsRow.named Rows.syncfsNilsSpec.vars = true := by kernel_rfl
theorem k7 : (Tryz.prog.stops == []) = true := by kernel_rfl
theorem k9 : (Tryz.prog.stopKnobs == []) = true := by kernel_rfl
theorem k10 : (Rows.syncfsNilsRow.inPlace == Tryz.prog.inPlace 3) = true := by kernel_rfl
theorem k11 : (Rows.syncfsNilsRow.unfollowed == Tryz.prog.unfollowed 3) = true := by kernel_rfl
theorem k12 : (Rows.syncfsNilsRow.recurses == Tryz.prog.recurses 3) = true := by kernel_rfl
theorem k13 : (Rows.syncfsNilsRow.named == Tryz.prog.varsNamed 3) = true := by kernel_rfl
theorem k14 : (Rows.syncfsNilsRow.maps == (Tryz.f3.params.toList ++ Rows.syncfsNilsSpec.plain.varTypes Tryz.prog).any (Tryz.prog.mapsRec ·)) = true := by kernel_rfl
theorem k15 : (Rows.syncfsNilsRow.ifaces == (Tryz.f3.params.toList ++ Rows.syncfsNilsSpec.plain.varTypes Tryz.prog).any (Tryz.prog.ifacesRec ·)) = true := by kernel_rfl
theorem k16 : (Rows.syncfsNilsRow.mapsOut == Tryz.prog.mapsAmong Tryz.f3.resultTypes.toList) = true := by kernel_rfl
theorem k17 : (Rows.syncfsNilsRow.loops == (Tryz.f3.params.toList ++ Rows.syncfsNilsSpec.plain.varTypes Tryz.prog).any (Tryz.prog.loopsFrom ·)) = true := by kernel_rfl
theorem k18 : (Rows.syncfsNilsRow.wideKeys == (Tryz.f3.params.toList ++ Rows.syncfsNilsSpec.plain.varTypes Tryz.prog ++ Tryz.f3.resultTypes.toList).any (Tryz.prog.wideKeysFrom ·)) = true := by kernel_rfl
theorem k20 : Tryz.f3.resultTypes.all (fun t => Tryz.prog.readableRec t && decide (t < Tryz.prog.types.size)) = true := by kernel_rfl
theorem k21 : (Rows.syncfsNilsRow.ifacesOut == Tryz.f3.resultTypes.toList.any (Tryz.prog.ifacesRec ·)) = true := by kernel_rfl
theorem k22 : (Rows.syncfsNilsRow.loopsOut == Tryz.f3.resultTypes.toList.any (Tryz.prog.loopsFrom ·)) = true := by kernel_rfl
theorem k23 : (Rows.syncfsNilsRow.plainKeys == Tryz.prog.plainKeys) = true := by kernel_rfl
theorem k25 : Tryz.prog.stopsHeard = true := by kernel_rfl
theorem k26 : Tryz.prog.mayEnter = true := by kernel_rfl
theorem k27 : (Rows.syncfsNilsRow.lifted == Tryz.prog.liftsFinal) = true := by kernel_rfl
theorem k28 : (Tryz.prog.make == some Rows.syncfsNilsRow.make) = true := by kernel_rfl
theorem k29 : (Rows.syncfsNilsRow.kinds == (if Rows.syncfsNilsRow.domain.isEmpty then [] else Tryz.f3.params.toList.map fun t => match Tryz.prog.underlying t with | some (.int k) => some k | _ => none)) = true := by kernel_rfl
theorem k30 : (Rows.syncfsNilsRow.pinned == Rows.syncfsNilsRow.pinnedBy) = true := by kernel_rfl
theorem k31 : (Rows.syncfsNilsRow.veiled == (Tryz.f3.params.toList ++ Rows.syncfsNilsSpec.plain.varTypes Tryz.prog ++ Tryz.f3.resultTypes.toList).any (Tryz.prog.veiledRec ·)) = true := by kernel_rfl
theorem k32 : Rows.syncfsNilsRow.veiledFits Tryz.prog Tryz.f3.params.toList (Tryz.f3.params.toList ++ Rows.syncfsNilsSpec.plain.varTypes Tryz.prog ++ Tryz.f3.resultTypes.toList) = true := by kernel_rfl
theorem kwf : Rows.syncfsNilsRow.wfByText (OpenSpec.ofChange Rows.syncfsNilsSpec) = true := by kernel_rfl

end Go.Proofs.YthifbjdpkipbaaaGreatDoor
