/- SyncfsNils: the two tests at the law's head, for any string and any slice. -/
import Derived.Test.YthifbjdpkipbaaaGreatDoorLaw0
set_option linter.all false
namespace Go.Proofs.YthifbjdpkipbaaaGreatDoor
open Go Go.Eng

noncomputable abbrev rr (n : Nat) : Rec := recO Tryz.prog cfg (trueAt 4) n

def seqL : Code → Code
  | .seq a _ => a
  | c => c
def seqR : Code → Code
  | .seq _ b => b
  | c => c
def regOps : Code → List Oper
  | .region _ ops _ => ops.toList
  | _ => []

noncomputable def c3 : Code := Tryz.f3.body.getD .skip
noncomputable def ops1 : List Oper := regOps (seqL (seqL (seqR c3)))
noncomputable def if1 : Code := seqR (seqL (seqR c3))
noncomputable def rest1 : Code := seqR (seqR c3)

theorem shape0 : (match c3 with | .seq (.region _ _ false) (.seq (.seq (.region _ _ false) (.cond _ _ _)) _) => true | _ => false) = true := by kernel_rfl
theorem len1 : ops1.length = 8 := by kernel_rfl

/-- behind the law's code -/
noncomputable def leave3 (o : Option (List St)) : Bool := okOf (match o with
  | none => none
  | some outs => bindL (fun (s : St) => match s.ex with
    | .exit _ => none
    | _ => match unwindA s.d s.A with
      | none => none
      | some A' => match resultsA Tryz.prog Tryz.f3 s.m A' with
        | some v => some [(v, A')]
        | none => none) outs)

noncomputable def T1 (s : List UInt8) (bv : AV) : Nat → AV := updT (argT [.str s, bv]) 4 (.bool false)
noncomputable def T2 (s : List UInt8) (bv : AV) (x : Bool) : Nat → AV := updT (updT (updT (T1 s bv) 22 (.str s)) 23 (.int .i64 (s.length : Int))) 24 (.bool x)

theorem first_three (r : Rec) (s : List UInt8) (bv : AV) : (opsC Tryz.prog cfg ops1 ops1).x r ⟨T1 s bv, 152⟩ A0 = (opsC Tryz.prog cfg ops1 (ops1.drop 3)).x r ⟨T2 s bv (intLt 200 (s.length : Int)), 152⟩ A0 := by kernel_rfl

/-- behind the first test -/
noncomputable def T3 (s : List UInt8) (bv : AV) (x : Bool) (k : Int) (y : Bool) : Nat → AV :=
  match x with
  | true => updT (updT (updT (updT (updT (T2 s bv true) 25 (.bool true)) 26 (.tuple [])) 27 (.tuple [])) 28 (.tuple [])) 29 (.bool true)
  | false => updT (updT (updT (updT (updT (T2 s bv false) 25 (.bool false)) 26 bv) 27 (.int .i64 k)) 28 (.bool y)) 29 (.bool y)

theorem then_true (r : Rec) (s : List UInt8) (bv : AV) : (opsC Tryz.prog cfg ops1 (ops1.drop 3)).x r ⟨T2 s bv true, 152⟩ A0 = some [(⟨T3 s bv true 0 true, 152⟩, A0)] := by kernel_rfl
theorem then_false (r : Rec) (s : List UInt8) (f o k : Nat) (c : Cap) : (opsC Tryz.prog cfg ops1 (ops1.drop 3)).x r ⟨T2 s (.slice f o k c) false, 152⟩ A0 = some [(⟨T3 s (.slice f o k c) false (k : Int) (intLt 100 (k : Int)), 152⟩, A0)] := by kernel_rfl
theorem then_nil (r : Rec) (s : List UInt8) : (opsC Tryz.prog cfg ops1 (ops1.drop 3)).x r ⟨T2 s .nilslice false, 152⟩ A0 = some [(⟨T3 s .nilslice false 0 false, 152⟩, A0)] := by kernel_rfl

end Go.Proofs.YthifbjdpkipbaaaGreatDoor
