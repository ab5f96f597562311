/- THE ENGINE: functions whose calls are known; a walk from an empty heap. -/
import Derived.Test.YthifbjdpkipbaaaGreatDoorEng29
set_option linter.all false
namespace Go.Eng

section
variable {P : Program}

/-- what is known of calls -/
abbrev Known := FuncId → List AV → AH → Option (List (AV × AH))

def KnownOk (P : Program) (ov : Known) : Prop :=
  ∀ {f : FuncId} {args : List AV} {A : AH} {outs : List (AV × AH)}, ov f args A = some outs → (∃ (fn : Func) (c : Code), P.funcs[f]? = some fn ∧ fn.body = some c) ∧
    ∀ (n : Nat) {ι : Img} {w : World} {us : List Value}, Rel P ι A w → Fresh ι A → concs ι args = some us →
      CallsIn (fence none) n P f ⟨us⟩ w (fun e w' => ∃ v, e = .returned v ∧ ∃ x ∈ outs, ∃ ι', conc ι' x.1 = some v ∧ Step P ι A w ι' x.2 w')

noncomputable def recO (P : Program) (cfg : Cfg) (ov : Known) (n : Nat) : Rec :=
  Nat.rec (motive := fun _ => Rec) ⟨fun _ _ _ _ _ _ => none, fun _ _ _ => none⟩
    (fun _ ih => ⟨fun fn rd c m d A => (codeC P cfg c).x ih fn rd m d A, fun f args A => match ov f args A with
      | some outs => some outs
      | none => (funC P f).x ih args A⟩) n

theorem recO_ok {cfg : Cfg} {ov : Known} (hm : P.follows .mixedOrders = true) (hcfg : CfgOk P cfg) (hov : KnownOk P ov) : ∀ N, RecOk P (recO P cfg ov N)
  | 0 => ⟨fun {_ _ _ _} h => (by cases h), fun {_ _ _ _ _ _ _} h => (by cases h), fun {_ _ _ _} h => (by cases h), fun {_ _ _ _ _ _ _} h => (by cases h)⟩
  | N + 1 => by
    have ih := recO_ok hm hcfg hov N
    have hcode : ∀ {fn : FuncId} {rd : Option Nat} {c : Code} {m : TM} {d : List ADef} {A : AH} {outs : List St}, (recO P cfg ov (N + 1)).code fn rd c m d A = some outs → codeStep P cfg (recO P cfg ov N) fn rd c m d A = some outs := fun {fn rd c m d A outs} h => by
      rw [← codeC_eq]; exact h
    have hcall : ∀ {f : FuncId} {args : List AV} {A : AH} {outs : List (AV × AH)}, (recO P cfg ov (N + 1)).call f args A = some outs → ov f args A = some outs ∨ callStep P cfg (recO P cfg ov N) f args A = some outs := fun {f args A outs} h => by
      have h : (match ov f args A with
        | some outs => some outs
        | none => (funC P f).x (recO P cfg ov N) args A) = some outs := h
      cases ho : ov f args A with
      | some o => rw [ho] at h; exact .inl h
      | none => rw [ho] at h; rw [← funC_eq P cfg]; exact .inr h
    refine ⟨fun {f args A outs} h => ?_, fun {fn rd c m d A outs} h n {ι w a rb} h1 h2 h3 h4 h5 => (code_ok hcfg ih (drawn_ok hm hcfg ih) (hcode h) n h1 h2 h3 h4 h5).2 _ rfl, fun {f args A outs} h n {ι w us} h1 h2 h3 => ?_, fun {fn rd c m d A outs} h n {ι w a rb} h1 h2 h3 h4 h5 => (code_ok hcfg ih (drawn_ok hm hcfg ih) (hcode h) n h1 h2 h3 h4 h5).1⟩
    · rcases hcall h with h | h
      · exact (hov h).1
      · unfold callStep at h
        split at h
        · cases h
        · rename_i fn hfn
          split at h
          · cases h
          · rename_i c hb; exact ⟨fn, c, hfn, hb⟩
    · rcases hcall h with h | h
      · exact (hov h).2 n h1 h2 h3
      · exact call_ok ih h n h1 h2 h3

/-! ## from an empty heap -/

/-- a heap of which nothing is known; names from 64 to 99 are the arguments' -/
def A0 : AH := ⟨.nil, 100, .nil⟩

/-- the globals, and the places of the arguments -/
def ι0 (args : List Loc) : Img := fun n => if n < 64 then some ⟨n, 0, 0⟩ else args[n - 64]?

theorem A0_look (f : Nat) : A0.look f = none := by simp [AH.look, A0]

theorem rel0 (args : List Loc) (w : World) : Rel P (ι0 args) A0 w where
  glob := fun g hg => by unfold ι0; rw [if_pos hg]
  base := by simp [A0]
  ent := fun f e h => by rw [A0_look] at h; cases h
  apart := fun f e f' e' l l' h => by rw [A0_look] at h; cases h
  top := fun f c n ty g sf h => by rw [A0_look] at h; cases h
  lt := fun f e h => by simp [A0] at h
  own := fun g x h => by simp [A0] at h

theorem fresh0 {args : List Loc} (h : args.length ≤ 36) : Fresh (ι0 args) A0 := fun n hn => by
  have hn : 100 ≤ n := hn
  unfold ι0
  rw [if_neg (by omega)]
  exact List.getElem?_eq_none (by omega)

/-- memory is as it was; there may be more of it -/
structure Same (w w' : World) : Prop where
  os : w'.os = w.os
  tape : w'.tape = w.tape
  output : w'.output = w.output
  size : w.heap.size ≤ w'.heap.size
  block : ∀ k, k < w.heap.size → w'.heap[k]? = w.heap[k]?

theorem Step.same {ι ι' : Img} {A' : AH} {w w' : World} (h : Step P ι A0 w ι' A' w') : Same w w' :=
  ⟨h.out.1, h.out.2.1, h.out.2.2, h.size, fun k hk => h.frame k hk fun ⟨f, e, l, hf, _⟩ => by rw [A0_look] at hf; cases hf⟩

/-- does a call come to true, whatever Go leaves open? -/
def okOf (o : Option (List (AV × AH))) : Bool := match o with
  | some l => l.all fun x => match x.1 with | .bool b => b | _ => false
  | none => false

theorem calls_ok {r : Rec} (hr : RecOk P r) {f : FuncId} {args : List AV} (h : okOf (r.call f args A0) = true) {locs : List Loc} (hl : locs.length ≤ 36) {us : List Value} (hus : concs (ι0 locs) args = some us) (n : Nat) (w : World) :
    CallsIn (fence none) n P f ⟨us⟩ w fun e w' => e = .returned (.bool true) ∧ Same w w' := by
  unfold okOf at h
  split at h
  · rename_i outs ho
    refine (hr.call ho n (rel0 locs w) (fresh0 hl) hus).mono fun e w' ⟨v, he, x, hx, ι', hc, hs⟩ => ?_
    have hb := List.all_eq_true.1 h x hx
    split at hb
    · rename_i b hxb
      rw [hxb] at hc
      simp only [conc, Option.some.injEq] at hc
      subst hb
      exact ⟨by rw [he, ← hc], hs.same⟩
    · cases hb
  · cases h

/-- such a call, from any heap: nothing of it turns -/
theorem known_of {ι : Img} {A : AH} {w w' : World} (hr : Rel P ι A w) (h : Same w w') : Step P ι A w ι A w' where
  ext := Exts.refl ι
  new := fun _ _ e => .inl e
  nx := Nat.le_refl _
  rel := hr.frame fun b hb => h.block b (hr.im_lt hb)
  size := h.size
  frame := fun b hb _ => h.block b hb
  img := fun _ e _ => e
  out := ⟨h.os, h.tape, h.output⟩

/-- one call of no arguments is known: true, and nothing turns -/
def trueAt (g : FuncId) : Known := fun f args A => match Nat.beq f g with
  | true => match args with
    | [] => some [(.bool true, A)]
    | _ => none
  | false => none

theorem trueAt_ok {g : FuncId} (hb : ∃ (fn : Func) (c : Code), P.funcs[g]? = some fn ∧ fn.body = some c) (h : ∀ n w, CallsIn (fence none) n P g #[] w fun e w' => e = .returned (.bool true) ∧ Same w w') : KnownOk P (trueAt g) := by
  intro f args A outs ho
  unfold trueAt at ho
  split at ho
  · rename_i hf
    have hf := Nat.eq_of_beq_eq_true hf
    subst hf
    split at ho
    · cases ho
      refine ⟨hb, fun n ι w us hr _ hus => ?_⟩
      simp only [concs, Option.some.injEq] at hus
      subst hus
      exact (h n w).mono fun e w' ⟨he, hs⟩ => ⟨_, he, _, List.mem_singleton.2 rfl, ι, rfl, known_of hr hs⟩
    · cases ho
  · cases ho

theorem fence_wide : fence none = Fence.wide := rfl

/-- out of the fence -/
theorem CallsIn.out {n : Nat} {f : FuncId} {args : Array Value} {w : World} {R : Ending → World → Prop} (h : CallsIn (fence none) n P f args w R) : Calls P f args w R := callsIn_wide.1 h

end
end Go.Eng
