/- SyncfsNils: the given tied card holds: for every input the law returns true, and its arguments read as before; no condition is added. -/
import Derived.Test.YthifbjdpkipbaaaGreatDoorLaw5
import Derived.Test.YthifbjdpkipbaaaGreatDoorFacts2
import Derived.Test.YthifbjdpkipbaaaGreatDoorGoes
import Derived.SevenTiedAt
set_option linter.all false
namespace Go.Proofs.YthifbjdpkipbaaaGreatDoor
open Go Go.ChangeShapes Go.WideShapes Go.WideMaps Go.WideElems Go.ChangeMaps Go.ChangeAt Go.RowKit
theorem named3 : Tryz.pinned.checked.prog.funcNamed Rows.syncfsNilsRow.func = some 3 := by kernel_rfl
theorem instance3b : decide (Tryz.f3.isInstance Tryz.pinned.checked.prog Rows.syncfsNilsRow.origin Rows.syncfsNilsRow.targs) = true := by kernel_rfl
theorem instance3 : Tryz.f3.isInstance Tryz.pinned.checked.prog Rows.syncfsNilsRow.origin Rows.syncfsNilsRow.targs := of_decide_eq_true instance3b
theorem wrapper3 : Tryz.f3.isWrapper Tryz.pinned.checked.prog Rows.syncfsNilsRow.wrapper Rows.syncfsNilsRow.mainSum := by
  unfold Func.isWrapper
  first | (rw [if_pos (by decide +kernel)]; kernel_rfl) | (rw [if_neg (by decide +kernel)]; exact ⟨rfl, rfl⟩)
theorem main3 : Tryz.pinned.checked.prog.mainIs = some (true, "2d87d2bc0242c15a6129bc5dde489a2b4af7cf57b67172e6b8e0bb41c14bf01f".toList) := by kernel_rfl
theorem looks3 : true = Tryz.pinned.checked.prog.looks [] := by kernel_rfl
theorem standIns3 : ([9, 22].all fun u => !Tryz.prog.wantsStandIn u) = true := by kernel_rfl

theorem row_holds : Rows.SyncfsNilsSaid :=
  OpenClaim.holds_of_wide 3 Tryz.f3 rfl rfl rfl rfl rfl rfl rfl ⟨rfl, rfl, rfl, rfl, rfl⟩ rfl rfl rfl rfl rfl named3 Tryz.func3 facts
    instance3 wrapper3
    (fun os started H enc _ => lifted os started H enc)

theorem card_holds : Rows.SyncfsNilsCardSaid :=
  Claim7.holds_tied_plain_at .later [] [.data, .data, .data, .data, .pinned] true (true, "2d87d2bc0242c15a6129bc5dde489a2b4af7cf57b67172e6b8e0bb41c14bf01f") true row_holds (fun _ h => by cases h) kwf (fun _ h => by cases h) syncfsNils_row_tie rfl ⟨rfl, rfl⟩ main3 rfl
    (fun f fn hf hfn => by
      obtain rfl : f = 3 := Option.some.inj (named3.symm.trans hf) |>.symm
      obtain rfl : fn = Tryz.f3 := (Option.some.inj (Tryz.func3.symm.trans hfn)).symm
      exact ⟨looks3, fun j t ht => by
        rw [Tryz.params3] at ht
        have hm : t ∈ [9, 22] := by simpa using Array.mem_of_getElem? ht
        exact (show Tryz.prog.wantsStandIn t = false by simpa using List.all_eq_true.1 standIns3 t hm)⟩)
    kgoes
#print axioms card_holds

end Go.Proofs.YthifbjdpkipbaaaGreatDoor
