/- SyncfsNils: the functions without a body that the engine knows in this program are the model's own; no function is NumGoroutine. -/
import Derived.Test.YthifbjdpkipbaaaGreatDoorEng30
import Derived.Test.YthifbjdpkipbaaaGreatDoorRows
import Derived.KernelRfl
set_option linter.all false
namespace Go.Proofs.YthifbjdpkipbaaaGreatDoor
open Go Go.Eng

def cfg : Cfg := { ext := fun f => bif Nat.beq f 414 then some .indexByte else bif Nat.beq f 379 then some .count else bif Nat.beq f 389 then some .makeNoZero else bif Nat.beq f 388 then some .same else none, join := fun _ => false }

theorem names_ok : (Tryz.prog.funcs.all fun fn => !(fn.name == "runtime.NumGoroutine")) = true := by kernel_rfl

theorem cfg_ok : CfgOk Tryz.prog cfg where
  name := fun f fn h => by
    have := (Array.all_eq_true'.1 names_ok) fn (Array.mem_of_getElem? h)
    simpa using this
  ext := fun f e fn h hf => by
    simp only [cfg, Bool.cond_eq_ite] at h
    split at h
    · rename_i e; have e := Nat.eq_of_beq_eq_true e; subst e
      cases h
      obtain rfl := Option.some.inj (Tryz.func414.symm.trans hf)
      exact ⟨Extern.BytealgIndexByte.indexByte, by kernel_rfl, by kernel_rfl, rfl⟩
    · split at h
      · rename_i e; have e := Nat.eq_of_beq_eq_true e; subst e
        cases h
        obtain rfl := Option.some.inj (Tryz.func379.symm.trans hf)
        exact ⟨Extern.BytealgCount.count, by kernel_rfl, by kernel_rfl, rfl⟩
      · split at h
        · rename_i e; have e := Nat.eq_of_beq_eq_true e; subst e
          cases h
          obtain rfl := Option.some.inj (Tryz.func389.symm.trans hf)
          exact ⟨Extern.BytealgMakeNoZero.makeNoZero Tryz.f389.params Tryz.f389.resultTypes, by kernel_rfl, by kernel_rfl, rfl⟩
        · split at h
          · rename_i e; have e := Nat.eq_of_beq_eq_true e; subst e
            cases h
            obtain rfl := Option.some.inj (Tryz.func388.symm.trans hf)
            exact ⟨Extern.AbiNoEscape.same, by kernel_rfl, by kernel_rfl, rfl⟩
          · cases h

theorem mixed : Tryz.prog.follows .mixedOrders = true := by kernel_rfl

theorem body_of {f : FuncId} {fn : Func} (h : Tryz.prog.funcs[f]? = some fn) (hb : fn.body.isSome = true) : ∃ (fn : Func) (c : Code), Tryz.prog.funcs[f]? = some fn ∧ fn.body = some c := by
  obtain ⟨c, hc⟩ := Option.isSome_iff_exists.1 hb
  exact ⟨fn, c, h, hc⟩

end Go.Proofs.YthifbjdpkipbaaaGreatDoor
