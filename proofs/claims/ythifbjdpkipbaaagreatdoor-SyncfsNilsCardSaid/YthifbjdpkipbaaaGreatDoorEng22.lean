/- THE ENGINE: code. -/
import Derived.Test.YthifbjdpkipbaaaGreatDoorEng21
set_option linter.all false
namespace Go.Eng

section
variable {P : Program}

theorem conc_bool_inv {ι : Img} {v : AV} {b : Bool} (h : conc ι v = some (.bool b)) : v = .bool b := by
  cases v
  case bool x => simp [conc] at h; subst h; rfl
  case slice f o n c => cases c <;> simp only [conc] at h <;> split at h <;> (try split at h) <;> cases h
  all_goals
    simp only [conc] at h
    first
      | (cases h; done)
      | (split at h <;> cases h)

/-- the guards see the same -/
theorem guard_same {ι : Img} {ops : Array Oper} {m : TM} {a : Act} (ht : TMok ι m a.tmps) (j : Nat) : guardOf ops.toList m j = yielded ops a.tmps j := by
  unfold guardOf yielded
  rw [Array.getElem?_toList]
  cases hj : ops[j]? with
  | none => rfl
  | some o =>
    simp only [Option.bind_some]
    cases hd : o.dst with
    | none => rfl
    | some d =>
      simp only [Option.bind_some]
      have hc := ht.2 d
      have hg : a.tmps.getD d undef = (a.tmps[d]?).getD undef := by simp [Array.getD_eq_getD_getElem?]
      rw [hg] at hc
      cases hx : a.tmps[d]? with
      | none =>
        rw [hx] at hc
        simp only [Option.getD_none] at hc
        split
        · rename_i b hb; rw [hb] at hc; simp [conc, undef] at hc
        · rfl
      | some u =>
        rw [hx] at hc
        simp only [Option.getD_some] at hc
        split
        · rename_i b hb
          rw [hb] at hc
          simp only [conc, Option.some.injEq] at hc
          rw [← hc]
        · rename_i hnb
          split
          · rename_i b hb
            rw [Option.some.injEq] at hb
            subst hb
            exact absurd (conc_bool_inv hc) (hnb b)
          · rfl

theorem wanted_same {ι : Img} {ops : Array Oper} {m : TM} {a : Act} (ht : TMok ι m a.tmps) (o : Oper) : wantedA ops.toList m o = Region.wanted o (yielded ops a.tmps) := by
  unfold wantedA Region.wanted
  cases o.guard with
  | none => rfl
  | some g => obtain ⟨j, want⟩ := g; simp only [guard_same ht]

theorem aop_defer {cfg : Cfg} {A : AH} {m : TM} {o : Oper} {L : List (AR × AH)} (h : aop P cfg A m o = some L) : ∀ c, o.op ≠ .defer c := fun c e => by
  obtain ⟨dst, op, ty, pos, after, guard⟩ := o
  simp only at e; subst e
  simp [aop] at h

/-- ONE OPERATION OF A REGION. -/
theorem doOp_ok {cfg : Cfg} (hcfg : CfgOk P cfg) {r : Rec} (hr : RecOk P r) {ops : Array Oper} {o : Oper} {m : TM} {A : AH} {outs : List (TM × AH)} (h : doOp P cfg r ops.toList o m A = some outs) {ι : Img} {w : World} {a : Act} {rb : Option Nat} (n : Nat)
    (hrel : Rel P ι A w) (hf : Fresh ι A) (ht : TMok ι m a.tmps) {next : Act → World → Prop} {Q : Exit → Act → World → Prop}
    (hnext : ∀ y ∈ outs, ∀ ι' a' w', Step P ι A w ι' y.2 w' → TMok ι' y.1 a'.tmps → a'.defers = a.defers → next a' w') :
    if Region.wanted o (yielded ops a.tmps) then o.wpIn (fence rb) n P a w next Q else (∀ f, o.about P w a.eval = some f → (fence rb).fn f) ∧ next (a.put o.dst undef) w := by
  unfold doOp at h
  rw [← wanted_same ht]
  split at h
  · rename_i hw
    rw [if_pos hw]
    split at h
    · cases h
    · rename_i ars har
      split at h
      · cases h
      · rename_i os hos
        obtain ⟨x, hx, nx, w1, ι1, hrun, hok, hstep⟩ := op_ok hcfg har hrel hf ht
        obtain ⟨zs, hz, hzs⟩ := bindL_mem hos hx
        refine ⟨fun _ _ => trivial, ?_⟩
        rw [Oper.semAt_eq _ _ _ (aop_defer har), hrun]
        refine finish_ok hr hz hok hstep.rel (hstep.fresh hf) n fun y hy ι2 w2 v hv hstep2 => ?_
        obtain ⟨ys, hy1, hy2⟩ := bindL_mem h (hzs y hy)
        split at hy1
        · rename_i m' hm'
          cases hy1
          have hs := hstep.trans hstep2
          exact hnext _ (hy2 _ (List.mem_singleton.2 rfl)) ι2 _ w2 hs (TMok.put (ht.mono hs.ext) hm' hv) (by cases o.dst <;> rfl)
        · cases hy1
  · rename_i hw
    rw [if_neg hw]
    split at h
    · rename_i m' hm'
      cases h
      exact ⟨fun _ _ => trivial, hnext _ (List.mem_singleton.2 rfl) ι _ w (Step.refl hrel) (TMok.put ht hm' (conc_undef ι)) (by cases o.dst <;> rfl)⟩
    · cases h

/-- OPERATIONS, ONE BEHIND THE OTHER. -/
theorem doOps_ok {cfg : Cfg} (hcfg : CfgOk P cfg) {r : Rec} (hr : RecOk P r) {ops : Array Oper} {rb : Option Nat} (n : Nat) {Q : Exit → Act → World → Prop} : ∀ (rest : List Oper) (k : Nat) {m : TM} {A : AH} {outs : List (TM × AH)} {ι : Img} {w : World} {a : Act},
    (∀ j, rest[j]? = ops[k + j]?) → doOps P cfg r ops.toList rest m A = some outs → Rel P ι A w → Fresh ι A → TMok ι m a.tmps →
    (∀ y ∈ outs, ∀ ι' a' w', Step P ι A w ι' y.2 w' → TMok ι' y.1 a'.tmps → a'.defers = a.defers → Q .normal a' w') →
    wpOpsIn (fence rb) n P ops Q (List.range' k rest.length) a w
  | [], k, m, A, outs, ι, w, a, hops, h, hrel, hf, ht, hQ => by
    simp only [doOps] at h
    cases h
    simp only [List.length_nil, List.range'_zero, wpOpsIn]
    exact hQ _ (List.mem_singleton.2 rfl) ι a w (Step.refl hrel) ht rfl
  | o :: rest, k, m, A, outs, ι, w, a, hops, h, hrel, hf, ht, hQ => by
    have h0 : ops[k]? = some o := by have := hops 0; simpa using this.symm
    simp only [List.length_cons, List.range'_succ, wpOpsIn, h0]
    simp only [doOps] at h
    split at h
    · cases h
    · rename_i os hos
      refine doOp_ok hcfg hr hos n hrel hf ht fun y hy ι1 a1 w1 hs1 ht1 hd1 => ?_
      obtain ⟨zs, hz, hzs⟩ := bindL_mem h hy
      exact doOps_ok hcfg hr n rest (k + 1) (fun j => by have := hops (j + 1); simp only [List.getElem?_cons_succ] at this; rw [this]; congr 1; omega) hz hs1.rel (hs1.fresh hf) ht1
        (fun z hz' ι2 a2 w2 hs2 ht2 hd2 => hQ z (hzs z hz') ι2 a2 w2 (hs1.trans hs2) ht2 (hd2.trans hd1))

end
end Go.Eng
