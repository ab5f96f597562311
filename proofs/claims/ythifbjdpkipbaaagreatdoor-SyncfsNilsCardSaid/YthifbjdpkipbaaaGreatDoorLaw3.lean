/- SyncfsNils: behind those tests the law comes to true, for any string and any slice. -/
import Derived.Test.YthifbjdpkipbaaaGreatDoorLaw2
set_option linter.all false
namespace Go.Proofs.YthifbjdpkipbaaaGreatDoor
open Go Go.Eng

noncomputable def K3 (o : Option (List St)) : Bool := leave3 (match o with
  | none => none
  | some [⟨.normal, m', d', A'⟩] => (rr 2997).code 3 none rest1 m' d' A'
  | some outs => bindL (andThen fun s => (rr 2997).code 3 none rest1 s.m s.d s.A) outs)

noncomputable def J3 (o : Option (List (TM × AH))) : Bool := K3 (match o with
  | none => none
  | some [(m', A')] => (rr 2996).code 3 none if1 m' [] A'
  | some outs => bindL (andThen fun s => (rr 2996).code 3 none if1 s.m s.d s.A) (outs.map fun x => ⟨.normal, x.1, [], x.2⟩))

theorem call_eq {P : Program} {cfg : Cfg} {ov : Known} (n : Nat) (f : FuncId) (args : List AV) (A : AH) : (recO P cfg ov (n + 1)).call f args A = (match ov f args A with
    | some outs => some outs
    | none => (funC P f).x (recO P cfg ov n) args A) := rfl

theorem seq_eq {P : Program} {cfg : Cfg} {ov : Known} (n : Nat) (fn : FuncId) (rd : Option Nat) (a b : Code) (m : TM) (d : List ADef) (A : AH) : (recO P cfg ov (n + 1)).code fn rd (.seq a b) m d A = (match (recO P cfg ov n).code fn rd a m d A with
    | none => none
    | some [⟨.normal, m', d', A'⟩] => (recO P cfg ov n).code fn rd b m' d' A'
    | some outs => bindL (andThen fun s => (recO P cfg ov n).code fn rd b s.m s.d s.A) outs) := rfl

theorem region_eq {P : Program} {cfg : Cfg} {ov : Known} (n : Nat) (fn : FuncId) (rd : Option Nat) (id : Nat) (ops : Array Oper) (m : TM) (d : List ADef) (A : AH) : (recO P cfg ov (n + 1)).code fn rd (.region id ops false) m d A = (match (opsC P cfg ops.toList ops.toList).x (recO P cfg ov n) m A with
    | none => none
    | some [(m', A')] => some [⟨.normal, m', d, A'⟩]
    | some outs => some (outs.map fun x => ⟨.normal, x.1, d, x.2⟩)) := rfl

noncomputable def regArr : Code → Array Oper
  | .region _ ops _ => ops
  | _ => #[]
noncomputable def regId : Code → Nat
  | .region i _ _ => i
  | _ => 0

theorem body3 : Tryz.f3.body = some (.seq (.region (regId (seqL c3)) (regArr (seqL c3)) false) (.seq (.seq (.region (regId (seqL (seqL (seqR c3)))) (regArr (seqL (seqL (seqR c3)))) false) if1) rest1)) := by kernel_rfl
theorem first_region (r : Rec) (s : List UInt8) (bv : AV) : (opsC Tryz.prog cfg (regArr (seqL c3)).toList (regArr (seqL c3)).toList).x r ⟨argT [.str s, bv], 152⟩ A0 = some [(⟨T1 s bv, 152⟩, A0)] := by kernel_rfl
theorem ops1_eq : (regArr (seqL (seqL (seqR c3)))).toList = ops1 := by kernel_rfl

theorem split3 (s : List UInt8) (bv : AV) {m : TM} (h : (opsC Tryz.prog cfg ops1 ops1).x (rr 2995) ⟨T1 s bv, 152⟩ A0 = some [(m, A0)]) : okOf ((rr 3000).call 3 [.str s, bv] A0) = J3 (some [(m, A0)]) := by
  have hov : trueAt 4 3 [.str s, bv] A0 = none := rfl
  have h1 : (rr 2998).code 3 none (.region (regId (seqL c3)) (regArr (seqL c3)) false) ⟨argT [.str s, bv], 152⟩ [] A0 = some [⟨.normal, ⟨T1 s bv, 152⟩, [], A0⟩] := by
    rw [region_eq 2997, first_region]
  have h2 : (rr 2996).code 3 none (.region (regId (seqL (seqL (seqR c3)))) (regArr (seqL (seqL (seqR c3)))) false) ⟨T1 s bv, 152⟩ [] A0 = some [⟨.normal, m, [], A0⟩] := by
    rw [region_eq 2995, ops1_eq, h]
  have hn : max [AV.str s, bv].length 152 = 152 := rfl
  rw [call_eq 2999, hov]
  simp only [funC, Tryz.func3, body3, Tryz.ntmps3, hn]
  rw [seq_eq 2998, h1]
  simp only
  rw [seq_eq 2997, seq_eq 2996, h2]
  rfl

theorem run_true (s : List UInt8) (bv : AV) : J3 (some [(⟨T3 s bv true 0 true, 152⟩, A0)]) = true := by kernel_rfl
theorem run_long (s : List UInt8) (f o k : Nat) (c : Cap) : J3 (some [(⟨T3 s (.slice f o k c) false (k : Int) true, 152⟩, A0)]) = true := by kernel_rfl
theorem run_short (s : List UInt8) (f o k : Nat) (c : Cap) : J3 (some [(⟨T3 s (.slice f o k c) false (k : Int) false, 152⟩, A0)]) = true := by kernel_rfl
theorem run_nil (s : List UInt8) : J3 (some [(⟨T3 s .nilslice false 0 false, 152⟩, A0)]) = true := by kernel_rfl

theorem law_run (s : List UInt8) (bv : AV) (hb : bv = .nilslice ∨ ∃ f o k c, bv = .slice f o k c) : okOf ((rr 3000).call 3 [.str s, bv] A0) = true := by
  have h := first_three (rr 2995) s bv
  cases hx : intLt 200 (s.length : Int) with
  | true =>
    rw [hx, then_true] at h
    rw [split3 s bv h]
    exact run_true s bv
  | false =>
    rw [hx] at h
    rcases hb with rfl | ⟨f, o, k, c, rfl⟩
    · rw [then_nil] at h
      rw [split3 s _ h]
      exact run_nil s
    · rw [then_false] at h
      rw [split3 s _ h]
      cases intLt 100 (k : Int) with
      | true => exact run_long s f o k c
      | false => exact run_short s f o k c

end Go.Proofs.YthifbjdpkipbaaaGreatDoor
