/- SyncfsNils: no function of the program has a go statement. -/
import Derived.Test.YthifbjdpkipbaaaGreatDoorCards
import Derived.KernelRfl
set_option linter.all false
namespace Go.Proofs.YthifbjdpkipbaaaGreatDoor
open Go
theorem no_goes : (Tryz.prog.funcs.toList.all fun fn => !Func.goes fn) = true := by kernel_rfl
theorem goes_none (f : FuncId) : Tryz.prog.goes f = false := by
  have h1 : ∀ (g : Nat) (fn : Func), Tryz.prog.funcs[g]? = some fn → Func.goes fn = false := fun g fn h => by
    have := List.all_eq_true.1 no_goes fn (Array.mem_toList_iff.2 (Array.mem_of_getElem? h))
    simpa using this
  have h2 : (Tryz.prog.funcs.any Func.goes) = false := by
    rw [Array.any_eq_false]
    intro i hi
    have := h1 i _ (Array.getElem?_eq_getElem hi)
    simp [this]
  unfold Program.goes
  rw [h2, Bool.and_false, Bool.or_false, List.any_eq_false]
  intro g _
  cases h : Tryz.prog.funcs[g]? with
  | none => simp
  | some fn => simp [h1 g fn h]
theorem kgoes : false = Rows.syncfsNilsRow.goesBy Tryz.pinned.checked.prog := by
  have hp : Tryz.pinned.checked.prog = Tryz.prog := rfl
  rw [hp]
  unfold OpenClaim.goesBy Program.goesAt Program.goesFrom
  have hs : Rows.syncfsNilsRow.start = .entering := rfl
  rw [hs]
  cases Tryz.prog.funcNamed Rows.syncfsNilsRow.func with
  | none => rfl
  | some f => simp [goes_none f]
end Go.Proofs.YthifbjdpkipbaaaGreatDoor
