/- THE ENGINE: what an operation comes to, in a walk. -/
import Derived.Test.YthifbjdpkipbaaaGreatDoorEng20
import Derived.RangeFuncIn
import Derived.RangeFuncLeaves
set_option linter.all false
namespace Go.Eng

section
variable {P : Program}

def fence (rd : Option Nat) : Fence := { fn := fun _ => True, depth := none, alive := false, round := rd }

def exOk : AExit → Exit → Prop
  | .normal, .normal => True
  | .exit i, .exit j => i = j
  | .ret, .ret => True
  | _, _ => False

def DefOk (ι : Img) : List ADef → List Deferred → Prop
  | [], [] => True
  | .coll r :: ds, d :: es => (∃ loc, ι r = some loc ∧ d = { target := .collected loc.block, args := #[] }) ∧ DefOk ι ds es
  | _, _ => False

theorem DefOk.mono {ι ι' : Img} (h : Exts ι ι') : ∀ {ds : List ADef} {es : List Deferred}, DefOk ι ds es → DefOk ι' ds es
  | [], [], _ => trivial
  | .coll r :: ds, d :: es, ⟨⟨loc, h1, h2⟩, h3⟩ => ⟨⟨loc, h _ _ h1, h2⟩, DefOk.mono h h3⟩
  | [], _ :: _, e => e.elim
  | .coll _ :: _, [], e => e.elim

def RdOk (ι : Img) : Option Nat → Option Nat → Prop
  | none, none => True
  | some l, some b => ∃ loc, ι l = some loc ∧ loc.block = b
  | _, _ => False

theorem RdOk.mono {ι ι' : Img} (h : Exts ι ι') : ∀ {a b : Option Nat}, RdOk ι a b → RdOk ι' a b
  | none, none, _ => trivial
  | some l, some b, ⟨loc, h1, h2⟩ => ⟨loc, h _ _ h1, h2⟩
  | none, some _, e => e.elim
  | some _, none, e => e.elim

/-- where a piece of code comes to -/
def Came (P : Program) (ι : Img) (A : AH) (w : World) (outs : List St) (e : Exit) (a' : Act) (w' : World) : Prop :=
  ∃ s ∈ outs, ∃ ι', Step P ι A w ι' s.A w' ∧ TMok ι' s.m a'.tmps ∧ DefOk ι' s.d a'.defers ∧ exOk s.ex e

/-- a loop, from its body on -/
def LoopWp (F : Fence) (n : Nat) (P : Program) (c : Code) (Q : Exit → Act → World → Prop) (a : Act) (w : World) : Prop :=
  ∀ (b : Frame) (k : List Item) (cs : List Frame), b.roundOf = F.round → F.fn b.fn → F.room (cs.length + 1 + n) →
    ∃ e a' w', Q e a' w' ∧ ArrivesIn (Machine.fenced P F) P (lone (b.atR a (.code c :: .inLoop c :: k)) cs w) b k cs e a' w'

theorem LoopWp.mono {F : Fence} {n : Nat} {c : Code} {Q Q' : Exit → Act → World → Prop} {a : Act} {w : World} (h : LoopWp F n P c Q a w) (hq : ∀ e a w, Q e a w → Q' e a w) : LoopWp F n P c Q' a w :=
  fun b k cs h1 h2 h3 => let ⟨e, a', w', q, r⟩ := h b k cs h1 h2 h3; ⟨e, a', w', hq _ _ _ q, r⟩

theorem loopWp_of {F : Fence} {n : Nat} {c : Code} {Q : Exit → Act → World → Prop} {a : Act} {w : World} (h : c.wpIn F n P (Exit.then (LoopWp F n P c Q) Q) a w) : LoopWp F n P c Q a w := by
  intro b k cs hro hb hr
  obtain ⟨e, a₁, w₁, hq, harr⟩ := h b (.inLoop c :: k) cs hro hb hr
  cases e with
  | normal =>
    obtain ⟨e₂, a₂, w₂, hq₂, harr₂⟩ := hq b k cs hro hb hr
    exact ⟨e₂, a₂, w₂, hq₂, .of_steps (StepsIn.trans harr (.one (fenced_calm hb hr rfl) stepR_inLoop)) harr₂⟩
  | exit id => exact ⟨_, a₁, w₁, hq, .pass (x := .inLoop c) rfl (fun _ _ => .inl (by simp)) harr⟩
  | goto l => exact ⟨_, a₁, w₁, hq, .pass (x := .inLoop c) rfl (fun _ _ => .inl (by simp)) harr⟩
  | ret => exact ⟨_, a₁, w₁, hq, .pass (x := .inLoop c) rfl (fun _ _ => .inl (by simp)) harr⟩
  | panic ch => exact ⟨_, a₁, w₁, hq, .pass (x := .inLoop c) rfl (fun _ _ => .inl (by simp)) harr⟩
  | outgrown => exact ⟨_, a₁, w₁, hq, .pass (x := .inLoop c) rfl (fun _ _ => .inl (by simp)) harr⟩

theorem wpIn_loop_of {F : Fence} {n : Nat} {c : Code} {Q : Exit → Act → World → Prop} {a : Act} {w : World} (h : LoopWp F n P c Q a w) : (Code.loop c).wpIn F n P Q a w :=
  fun b k cs hro hb hr => let ⟨e, a', w', q, harr⟩ := h b k cs hro hb hr; ⟨e, a', w', q, .of_steps (.one (fenced_calm hb hr rfl) stepR_loop) harr⟩

variable (P)
structure RecOk (r : Rec) : Prop where
  body : ∀ {f : FuncId} {args : List AV} {A : AH} {outs : List (AV × AH)}, r.call f args A = some outs → ∃ (fn : Func) (c : Code), P.funcs[f]? = some fn ∧ fn.body = some c
  loop : ∀ {fn : FuncId} {rd : Option Nat} {c : Code} {m : TM} {d : List ADef} {A : AH} {outs : List St}, r.code fn rd (.loop c) m d A = some outs → ∀ (n : Nat) {ι : Img} {w : World} {a : Act} {rb : Option Nat}, RdOk ι rd rb → Rel P ι A w → Fresh ι A → TMok ι m a.tmps → DefOk ι d a.defers →
    LoopWp (fence rb) n P c (Came P ι A w outs) a w
  call : ∀ {f : FuncId} {args : List AV} {A : AH} {outs : List (AV × AH)}, r.call f args A = some outs → ∀ (n : Nat) {ι : Img} {w : World} {us : List Value}, Rel P ι A w → Fresh ι A → concs ι args = some us →
    CallsIn (fence none) n P f ⟨us⟩ w (fun e w' => ∃ v, e = .returned v ∧ ∃ x ∈ outs, ∃ ι', conc ι' x.1 = some v ∧ Step P ι A w ι' x.2 w')
  code : ∀ {fn : FuncId} {rd : Option Nat} {c : Code} {m : TM} {d : List ADef} {A : AH} {outs : List St}, r.code fn rd c m d A = some outs → ∀ (n : Nat) {ι : Img} {w : World} {a : Act} {rb : Option Nat}, RdOk ι rd rb → Rel P ι A w → Fresh ι A → TMok ι m a.tmps → DefOk ι d a.defers →
    c.wpIn (fence rb) n P (Came P ι A w outs) a w

variable {P}

theorem bindL_mem {α β : Type} {f : α → Option (List β)} : ∀ {xs : List α} {ys : List β} {x : α}, bindL f xs = some ys → x ∈ xs → ∃ zs, f x = some zs ∧ ∀ z ∈ zs, z ∈ ys
  | [], _, _, _, hx => by cases hx
  | [x], ys, y, h, hx => by
    simp only [bindL] at h
    obtain rfl := List.mem_singleton.1 hx
    exact ⟨ys, h, fun _ hz => hz⟩
  | x :: x' :: xs, ys, y, h, hx => by
    simp only [bindL] at h
    split at h
    · cases h
    · rename_i a ha
      split at h
      · cases h
      · rename_i b hb
        cases h
        rcases List.mem_cons.1 hx with rfl | hx
        · exact ⟨a, ha, fun z hz => List.mem_append.2 (.inl hz)⟩
        · obtain ⟨zs, h1, h2⟩ := bindL_mem (f := f) (xs := x' :: xs) hb hx
          exact ⟨zs, h1, fun z hz => List.mem_append.2 (.inr (h2 z hz))⟩

/-- a loop's record -/
theorem loop_at {ι : Img} {A : AH} {w : World} (h : Rel P ι A w) {l : Nat} {L : ALoop} {loc : Loc} (hl : A.look l = some (.loop L)) (hι : ι l = some loc) :
    ∃ rec : Loop, (getObj loc.block).run P w = .ok (.loop rec) w ∧ rec.state = L.state ∧ rec.pending = L.pending ∧ ∀ st pd, ∃ w', (setObj loc.block (.loop { rec with state := st, pending := pd })).run P w = .ok () w' ∧ Step P ι A w ι (A.put l (.loop { L with state := st, pending := pd })) w' := by
  obtain ⟨loc', hl', fn, tmps, df, hb, htm⟩ := h.ent l _ hl
  rw [hι] at hl'; cases hl'
  refine ⟨_, run_getObj_some rfl hb, rfl, rfl, fun st pd => ⟨_, run_setObj_put _ rfl hb, Step.putO h hl trivial trivial hι ⟨fn, tmps, df, ?_, htm⟩⟩⟩
  rw [putObj_get _ hb]

theorem conc_undef (ι : Img) : conc ι (.tuple []) = some undef := by simp [conc, concs]; rfl

set_option maxHeartbeats 1000000 in
/-- WHAT AN OPERATION's ANSWER COMES TO. -/
theorem finish_ok {r : Rec} (hr : RecOk P r) {x : AR × AH} {nx : Next} {outs : List (AV × AH)} (h : finishOp r x = some outs) {ι : Img} {w : World} (hx : ARok ι x.1 nx) (hrel : Rel P ι x.2 w) (hf : Fresh ι x.2) {rb : Option Nat} (n : Nat) {o : Oper} {a : Act}
    {next : Act → World → Prop} {Q : Exit → Act → World → Prop} (hnext : ∀ y ∈ outs, ∀ ι' w' v, conc ι' y.1 = some v → Step P ι x.2 w ι' y.2 w' → next (a.put o.dst v) w') : o.uponIn (fence rb) n P a next Q (.ok nx w) := by
  obtain ⟨x, A⟩ := x
  cases x
  case val v =>
    cases nx <;> try exact hx.elim
    rename_i u
    cases h
    exact hnext _ (List.mem_singleton.2 rfl) ι w u hx (Step.refl hrel)
  case skip =>
    cases nx <;> try exact hx.elim
    cases h
    exact hnext _ (List.mem_singleton.2 rfl) ι w undef (conc_undef ι) (Step.refl hrel)
  case defer f args => cases nx <;> exact hx.elim
  case enter f args =>
    cases nx <;> try exact hx.elim
    rename_i g us
    obtain ⟨rfl, hc⟩ := hx
    rw [Oper.uponIn_enter]
    refine ⟨fun hd => by simp [fence] at hd, ?_⟩
    have := hr.call h (n - 1) hrel hf hc
    have h2 : CallsIn (fence rb) (n - 1) P f us w (fun e w' => ∃ v, e = .returned v ∧ ∃ x ∈ outs, ∃ ι', conc ι' x.1 = some v ∧ Step P ι A w ι' x.2 w') := this
    refine h2.mono fun e w' ⟨v, he, y, hy, ι', hcv, hstep⟩ => ?_
    subst he
    exact hnext y hy ι' w' v hcv hstep
  case round l L m =>
    cases nx <;> try exact hx.elim
    rename_i b fn tmps asg body
    obtain ⟨⟨loc, hloc, rfl⟩, rfl, rfl, htm⟩ := hx
    rw [Oper.uponIn_round]
    refine ⟨fun hd => by simp [fence] at hd, ?_⟩
    simp only [finishOp] at h
    split at h
    · split at h
      · cases h
      · rename_i outs1 h1
        refine roundIn_of_wpIn trivial ?_
        have hrd : RdOk ι (some l) (some loc.block) := ⟨loc, hloc, rfl⟩
        have hasg := hr.code h1 (n - 1) (a := { tmps := tmps, defers := [] }) hrd hrel hf htm trivial
        refine wpIn_mono hasg fun e a1 w1 ⟨s1, hs1, ι1, hstep1, ht1, hd1, he1⟩ => ?_
        obtain ⟨zs, hz, hzs⟩ := bindL_mem h hs1
        split at hz
        · rename_i L1 hex hd hlook1
          rw [hex] at he1
          cases e <;> try exact he1.elim
          split at hz
          · rename_i hready
            split at hz
            · cases hz
            · rename_i outs2 h2
              obtain ⟨rec1, hg1, hst1, hp1, hset1⟩ := loop_at hstep1.rel hlook1 (hstep1.ext _ _ hloc)
              obtain ⟨w2, hs2, hstep2⟩ := hset1 .busy L1.pending
              have hbegin : (Instr.beginRound loc.block).run P w1 = .ok () w2 := by
                have : rec1.state = .ready := by rw [hst1, hready]
                simp only [Instr.beginRound, Instr.getLoop, Sem.run_bind, hg1, Result.andThen_ok, Sem.run_pure, this]
                rw [← hp1] at hs2
                simp only [hs2, Result.andThen_ok, Sem.run_pure]
              refine ⟨w2, hbegin, ?_⟩
              have hstep12 := hstep1.trans hstep2
              have hd1' : a1.defers = [] := by
                rw [hd] at hd1
                cases hdd : a1.defers with
                | nil => rfl
                | cons x xs => rw [hdd] at hd1; exact hd1.elim
              have hbody := hr.code h2 (n - 1) (a := a1) (RdOk.mono hstep12.ext hrd) hstep2.rel (hstep12.fresh hf) ht1 (by rw [hd1']; trivial)
              refine wpIn_mono hbody fun e2 a2 w3 ⟨s2, hs2', ι2, hstep3, ht2, hd2, he2⟩ => ?_
              obtain ⟨zs2, hz2, hzs2⟩ := bindL_mem hz hs2'
              split at hz2
              · rename_i L2 hd' hlook2
                obtain ⟨rec2, hg2, hst2, hp2, hset2⟩ := loop_at hstep3.rel hlook2 (hstep3.ext _ _ (hstep12.ext _ _ hloc))
                split at hz2
                · rename_i hex2
                  rw [hex2] at he2
                  cases e2 <;> try exact he2.elim
                  cases hz2
                  obtain ⟨w4, hs4, hstep4⟩ := hset2 .ready none
                  refine ⟨.bool true, w4, ?_, hnext _ (hzs _ (hzs2 _ (List.mem_singleton.2 rfl))) ι2 w4 _ rfl (hstep12.trans (hstep3.trans hstep4))⟩
                  simp [Instr.endRound, Instr.getLoop, hg2, hs4]
                · rename_i id hex2
                  rw [hex2] at he2
                  cases e2 <;> try exact he2.elim
                  obtain rfl := he2
                  cases hz2
                  obtain ⟨w4, hs4, hstep4⟩ := hset2 .done (some (.exit id))
                  refine ⟨.bool false, w4, ?_, hnext _ (hzs _ (hzs2 _ (List.mem_singleton.2 rfl))) ι2 w4 _ rfl (hstep12.trans (hstep3.trans hstep4))⟩
                  simp [Instr.endRound, Instr.getLoop, hg2, hs4]
                · rename_i hex2
                  rw [hex2] at he2
                  cases e2 <;> try exact he2.elim
                  cases hz2
                  obtain ⟨w4, hs4, hstep4⟩ := hset2 .done (some .ret)
                  refine ⟨.bool false, w4, ?_, hnext _ (hzs _ (hzs2 _ (List.mem_singleton.2 rfl))) ι2 w4 _ rfl (hstep12.trans (hstep3.trans hstep4))⟩
                  simp [Instr.endRound, Instr.getLoop, hg2, hs4]
              · cases hz2
          · cases hz
        · cases hz
    · cases h

end
end Go.Eng
