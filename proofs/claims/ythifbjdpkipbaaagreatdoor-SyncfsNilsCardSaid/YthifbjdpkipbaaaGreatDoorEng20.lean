/- THE ENGINE: every operation. -/
import Derived.Test.YthifbjdpkipbaaaGreatDoorEng19
set_option linter.all false
namespace Go.Eng

section
variable {P : Program}

/-- names from here on are free -/
def Fresh (ι : Img) (A : AH) : Prop := ∀ n, A.next ≤ n → ι n = none

theorem Step.fresh {ι ι' : Img} {A A' : AH} {w w' : World} (h : Step P ι A w ι' A' w') (hf : Fresh ι A) : Fresh ι' A' := fun n hn => by
  cases e : ι' n with
  | none => rfl
  | some l =>
    rcases h.new n l e with e' | ⟨_, h4⟩
    · rw [hf n (Nat.le_trans h.nx hn)] at e'; cases e'
    · omega

theorem Rel.skip {ι : Img} {A : AH} {w : World} (h : Rel P ι A w) : Rel P ι A.skip w :=
  { h with
    base := by have := h.base; simp only [AH.skip]; omega
    lt := fun f e he => by have := h.lt f e he; simp only [AH.skip]; omega
    own := fun g x hx => by have := h.own g x hx; simp only [AH.skip]; omega }

/-- a name alone -/
theorem Step.skip {ι : Img} {A : AH} {w w' : World} {l : Loc} (h : Rel P ι A w) (hn : ι A.next = none) (hW : HeapIs w w' w.heap) : Step P ι A w (Img.set ι A.next l) A.skip w' := by
  have hx := Img.set_ext l hn
  have hw := hW.heap
  refine ⟨hx, fun n k hk => ?_, by simp [AH.skip], ((h.congr hw).skip).mono hx, by rw [hw]; exact Nat.le_refl _, fun _ _ _ => by rw [hw], ?_, hW.out⟩
  · by_cases en : n = A.next
    · exact .inr ⟨by omega, by simp [AH.skip]; omega⟩
    · rw [Img.set_ne _ _ en] at hk; exact .inl hk
  · rintro b ⟨f, e, lf, hf, hl, rfl⟩ _
    have hf' : A.look f = some e := hf
    obtain ⟨k, hk, _⟩ := h.ent f e hf'
    have := hx f k hk
    rw [hl] at this; cases this
    exact ⟨f, e, _, hf', hk, rfl⟩

/-- EVERY OPERATION. -/
theorem op_ok {cfg : Cfg} (hcfg : CfgOk P cfg) {A : AH} {m : TM} {o : Oper} {L : List (AR × AH)} (h : aop P cfg A m o = some L) {ι : Img} {w : World} {a : Act} (hr : Rel P ι A w) (hf : Fresh ι A) (ht : TMok ι m a.tmps) :
    ∃ x ∈ L, ∃ (n : Next) (w' : World) (ι' : Img), (execOp a.eval o).run P w = .ok n w' ∧ ARok ι' x.1 n ∧ Step P ι A w ι' x.2 w' := by
  have hn := hf A.next (Nat.le_refl _)
  cases hc : opClass P o.op with
  | free =>
    obtain ⟨v, eff, rfl, hrun⟩ := free_ok h hc
    refine ⟨_, List.mem_singleton.2 rfl, ?_⟩
    have := hrun ι w a hr.glob ht (fun _ => hn)
    cases eff with
    | none =>
      obtain ⟨u, w', h1, h2, h3⟩ := this
      exact ⟨.value u, w', ι, h1, h3, Step.of_heap hr h2⟩
    | skip =>
      obtain ⟨u, w', l, h1, h2, h3⟩ := this
      exact ⟨.value u, w', _, h1, h3, Step.skip hr hn h2⟩
    | new e =>
      obtain ⟨u, w', l, ob, h1, h2, h3, h4, h5, h6⟩ := this
      exact ⟨.value u, w', _, h1, h6, Step.alloc hr h2 hn h3 h4 h5⟩
  | reads =>
    obtain ⟨v, rfl, hrun⟩ := reads_ok h hc
    obtain ⟨u, h1, h2⟩ := hrun ι w a hr ht
    exact ⟨_, List.mem_singleton.2 rfl, .value u, w, ι, h1, h2, Step.refl hr⟩
  | acts => exact acts_ok hcfg h hc hr ht (fun _ _ _ => hn)

end
end Go.Eng
