/- SyncfsNils: a call of the law returns true, and leaves all memory that was there as it was, for any string and any slice that can be read. -/
import Derived.Test.YthifbjdpkipbaaaGreatDoorLaw1
import Derived.Test.YthifbjdpkipbaaaGreatDoorLaw3
import Derived.Below
import Derived.WideShapes
set_option linter.all false
namespace Go.Proofs.YthifbjdpkipbaaaGreatDoor
open Go Go.Eng Go.RowKit

theorem below_of {w w' : World} (h : Same w w') : Below w.heap.size w w' := ⟨h.os, h.tape, h.output, h.size, h.block⟩

theorem known_ok : KnownOk Tryz.prog (trueAt 4) := trueAt_ok (body_of Tryz.func4 (by kernel_rfl)) alive_calls

theorem rec_ok : RecOk Tryz.prog (rr 3000) := recO_ok mixed cfg_ok known_ok 3000

/-- THE LAW's CALL: any string; a slice that is nil, or lies somewhere. -/
theorem law_nil (s : ByteArray) (w : World) : Calls Tryz.prog 3 #[.string s, .slice none 0 0] w fun e w' => e = .returned (.bool true) ∧ Below w.heap.size w w' := by
  obtain ⟨⟨l⟩⟩ := s
  have h := calls_ok rec_ok (law_run l .nilslice (.inl rfl)) (locs := []) (by decide) (us := [.string ⟨⟨l⟩⟩, .slice none 0 0]) rfl 0 w
  exact (CallsIn.out h).mono fun e w' ⟨he, hs⟩ => ⟨he, below_of hs⟩

theorem law_at (s : ByteArray) (b o len cap : Nat) (w : World) : Calls Tryz.prog 3 #[.string s, .slice (some ⟨b, o, none⟩) len cap] w fun e w' => e = .returned (.bool true) ∧ Below w.heap.size w w' := by
  obtain ⟨⟨l⟩⟩ := s
  have h := calls_ok rec_ok (law_run l (.slice 64 0 len (.ex cap)) (.inr ⟨_, _, _, _, rfl⟩)) (locs := [⟨b, o, 0⟩]) (by simp) (us := [.string ⟨⟨l⟩⟩, .slice (some ⟨b, o, none⟩) len cap]) (by simp [concs, conc, ι0]) 0 w
  exact (CallsIn.out h).mono fun e w' ⟨he, hs⟩ => ⟨he, below_of hs⟩

theorem open_slice_val {P : Program} {w : World} {r : Reach} {base : Nat} {t e : TypeId} {v : Value} (ht : P.underlying t = some (.slice e)) (h : Value.okWide P w r base t v) : v = .slice none 0 0 ∨ ∃ b o len cap, v = .slice (some ⟨b, o, none⟩) len cap := by
  simp only [Value.okWide, ht, Cell.okWide] at h
  cases v <;> simp only [Cell.ok, ht] at h
  rename_i a len cap
  cases a with
  | none =>
    cases len <;> cases cap <;> first | exact .inl rfl | exact h.elim
  | some a =>
    obtain ⟨_, _, _, hs, _⟩ := h
    obtain ⟨b, o, sp⟩ := a
    simp only at hs
    subst hs
    exact .inr ⟨_, _, _, _, rfl⟩

set_option maxRecDepth 100000 in
theorem law (s : ByteArray) {v : Value} {r : Reach} {base : Nat} (w0 w : World) (h : Value.okWide Tryz.prog w0 r base 22 v) : Calls Tryz.prog 3 #[.string s, v] w fun e w' => e = .returned (.bool true) ∧ Below w.heap.size w w' := by
  rcases open_slice_val Tryz.underlying22 h with rfl | ⟨b, o, len, cap, rfl⟩
  · exact law_nil s w
  · exact law_at s b o len cap w

end Go.Proofs.YthifbjdpkipbaaaGreatDoor
