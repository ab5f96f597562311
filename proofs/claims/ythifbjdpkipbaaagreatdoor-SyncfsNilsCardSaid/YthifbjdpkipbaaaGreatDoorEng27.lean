/- THE ENGINE: drawn regions: an order that the world took, beside the plan's. -/
import Derived.Test.YthifbjdpkipbaaaGreatDoorEng26
set_option linter.all false
namespace Go.Eng

section
variable {P : Program}

/-- what a quiet operation of the plan comes to -/
def QuietAt (P : Program) (cfg : Cfg) (ops : List Oper) (o : Oper) (s s' : TM × AH) (v : AV) (eff : Eff) : Prop :=
  s.1.put o.dst v = some s'.1 ∧ s'.2 = eff.app s.2 ∧
  ((wantedA ops s.1 o = false ∧ v = .tuple [] ∧ eff = .none) ∨
   (wantedA ops s.1 o = true ∧ (∃ L, aop P cfg s.2 s.1 o = some L) ∧ ∀ (ι : Img) (w : World) (a : Act), GlobOk ι → TMok ι (only s.1 (tsOf o)) a.tmps → (eff ≠ .none → ι s.2.next = none) → FreeRun P s.2 ι w (execOp a.eval o) v eff) ∨
   (wantedA ops s.1 o = true ∧ eff = .none ∧ opClass P o.op = .reads ∧ aop P cfg s.2 s.1 o = some [(.val v, s.2)]))

theorem quiet_ex {cfg : Cfg} {r : Rec} {ops : List Oper} {o : Oper} {s s' : TM × AH} (h : doOp P cfg r ops o s.1 s.2 = some [s']) (hq : actsO P o = false) : ∃ ve : AV × Eff, QuietAt P cfg ops o s s' ve.1 ve.2 := by
  unfold doOp at h
  split at h
  · rename_i hw
    split at h
    · cases h
    · rename_i ars har
      split at h
      · cases h
      · rename_i outs hos
        cases hc : opClass P o.op with
        | acts => simp [actsO, hc] at hq
        | free =>
          have har' := har
          rw [aop_congr (m' := only s.1 (tsOf o)) only_ρ] at har'
          obtain ⟨v, eff, rfl, hrun⟩ := free_ok har' hc
          simp only [bindL, finishOp, Option.some.injEq] at hos
          subst hos
          simp only [bindL] at h
          split at h
          · rename_i m' hm'
            simp only [Option.some.injEq, List.cons.injEq, and_true] at h
            subst h
            exact ⟨(v, eff), hm', rfl, .inr (.inl ⟨hw, ⟨_, har⟩, hrun⟩)⟩
          · cases h
        | reads =>
          obtain ⟨v, rfl, hrun⟩ := reads_ok har hc
          simp only [bindL, finishOp, Option.some.injEq] at hos
          subst hos
          simp only [bindL] at h
          split at h
          · rename_i m' hm'
            simp only [Option.some.injEq, List.cons.injEq, and_true] at h
            subst h
            exact ⟨(v, .none), hm', rfl, .inr (.inr ⟨hw, rfl, hc, har⟩)⟩
          · cases h
  · rename_i hw
    split at h
    · rename_i m' hm'
      simp only [Option.some.injEq, List.cons.injEq, and_true] at h
      subst h
      exact ⟨(.tuple [], .none), hm', rfl, .inl ⟨by simpa using hw, rfl, rfl⟩⟩
    · cases h

structure Tr (P : Program) (cfg : Cfg) (r : Rec) (ops : Array Oper) (σ : List Nat) (fl : List (Nat × List Nat)) (st : Nat → TM × AH) (q : Nat → AV × Eff) : Prop where
  plan : PlanOk P ops σ fl
  run : ∀ (k i : Nat) (o : Oper), σ[k]? = some i → ops[i]? = some o → doOp P cfg r ops.toList o (st k).1 (st k).2 = some [st (k + 1)]
  mono1 : ∀ k : Nat, k < σ.length → (st k).2.next ≤ (st (k + 1)).2.next
  quiet : ∀ (k i : Nat) (o : Oper), σ[k]? = some i → ops[i]? = some o → actsO P o = false → QuietAt P cfg ops.toList o (st k) (st (k + 1)) (q k).1 (q k).2
  reads : ∀ (k i : Nat) (o : Oper) (b p : Nat), σ[k]? = some i → ops[i]? = some o → readsO P o = true → wantedA ops.toList (st k).1 o = true → (Region.before ops)[i]? = some b → p < k → HeapAt P ops σ p →
    (∀ (x c : Nat) (oc : Oper), p ≤ x → σ[x]? = some c → ops[c]? = some oc → actsO P oc = true → b.testBit c = false) → ∃ u A', aop P cfg (st p).2 (st k).1 o = some [(.val u, A')] ∧ ∀ d, o.dst = some d → u = (st σ.length).1.get d

theorem tr_of {cfg : Cfg} {r : Rec} {ops : Array Oper} {m m' : TM} {A A' : AH} (h : doDrawn P cfg r ops m A = some (m', A')) :
    ∃ σ fl st q, Tr P cfg r ops σ fl st q ∧ st 0 = (m, A) ∧ st σ.length = (m', A') := by
  unfold doDrawn at h
  split at h
  · cases h
  · rename_i p hp
    split at h
    · cases h
    · rename_i tr e hdo
      split at h
      · rename_i hfl
        cases h
        obtain ⟨st, s0, se, str, srun⟩ := doList_st hdo
        have hplan := planOf_ok hp
        have run : ∀ k i o, p.order[k]? = some i → ops[i]? = some o → doOp P cfg r ops.toList o (st k).1 (st k).2 = some [st (k + 1)] := fun k i o hk ho => by
          obtain ⟨o', ho', h1, _⟩ := srun k i hk
          rw [Array.getElem?_toList, ho] at ho'
          cases ho'
          exact h1
        obtain ⟨q, hq⟩ : ∃ q : Nat → AV × Eff, ∀ k, ∀ i o, p.order[k]? = some i → ops[i]? = some o → actsO P o = false → QuietAt P cfg ops.toList o (st k) (st (k + 1)) (q k).1 (q k).2 := by
          refine Classical.axiomOfChoice (r := fun k (ve : AV × Eff) => ∀ i o, p.order[k]? = some i → ops[i]? = some o → actsO P o = false → QuietAt P cfg ops.toList o (st k) (st (k + 1)) ve.1 ve.2) fun k => ?_
          by_cases hex : ∃ i o, p.order[k]? = some i ∧ ops[i]? = some o ∧ actsO P o = false
          · obtain ⟨i, o, h1, h2, h3⟩ := hex
            obtain ⟨ve, hve⟩ := quiet_ex (run k i o h1 h2) h3
            refine ⟨ve, fun i' o' h1' h2' _ => ?_⟩
            rw [h1] at h1'; cases h1'
            rw [h2] at h2'; cases h2'
            exact hve
          · exact ⟨(.nilptr, .none), fun i o h1 h2 h3 => absurd ⟨i, o, h1, h2, h3⟩ hex⟩
        refine ⟨p.order, p.floats, st, q, ⟨hplan, run, fun k hk => ?_, hq, fun k i o b p' hk ho hro hw hb hpk hheap hnone => ?_⟩, s0, se⟩
        · obtain ⟨i, hi⟩ : ∃ i, p.order[k]? = some i := ⟨_, List.getElem?_eq_getElem hk⟩
          obtain ⟨_, _, _, hle⟩ := srun k i hi
          exact hle
        · obtain ⟨ps, hps, hpps⟩ := hplan.slots k i o b p' hk ho hro hb hpk hheap hnone
          obtain ⟨i', s, o', hi', hs, ho', hsame⟩ := checkFloats_ok hfl k ps hps
          rw [hk] at hi'; cases hi'
          rw [Array.getElem?_toList, ho] at ho'; cases ho'
          have hlt := (List.getElem?_eq_some_iff.1 hk).1
          rw [str k hlt] at hs; cases hs
          obtain ⟨s', u, A'', hs', hu, hx⟩ := sameAt_ok (hsame hw) p' hpps
          rw [str p' (by omega)] at hs'; cases hs'
          refine ⟨u, A'', hu, fun d hd => ?_⟩
          rw [se]
          exact hx _ (by rw [hd]; rfl)
      · cases h

variable {cfg : Cfg} {r : Rec} {ops : Array Oper} {σ : List Nat} {fl : List (Nat × List Nat)} {st : Nat → TM × AH} {q : Nat → AV × Eff} {ι0 : Img} {w0 : World}

theorem at_lt {k i : Nat} (hk : σ[k]? = some i) : k < σ.length := (List.getElem?_eq_some_iff.1 hk).1

theorem Tr.put (T : Tr P cfg r ops σ fl st q) {k i : Nat} {o : Oper} (hk : σ[k]? = some i) (ho : ops[i]? = some o) : ∃ v, (st k).1.put o.dst v = some (st (k + 1)).1 := by
  have h := T.run k i o hk ho
  unfold doOp at h
  split at h
  · split at h
    · cases h
    · split at h
      · cases h
      · obtain ⟨y, _, zs, h1, h2⟩ := bindL_inv h (List.mem_singleton.2 rfl)
        split at h1
        · rename_i m' hm'
          cases h1
          rw [List.mem_singleton.1 h2]
          exact ⟨_, hm'⟩
        · cases h1
  · split at h
    · rename_i m' hm'
      simp only [Option.some.injEq, List.cons.injEq, and_true] at h
      rw [← h]
      exact ⟨_, hm'⟩
    · cases h

theorem Tr.op (T : Tr P cfg r ops σ fl st q) {k i : Nat} (hk : σ[k]? = some i) : ∃ o, ops[i]? = some o := by
  obtain ⟨o, _, ho, _⟩ := T.plan.ahead k i hk
  exact ⟨o, ho⟩

theorem Tr.keep (T : Tr P cfg r ops σ fl st q) {k : Nat} {t : Nat} : ∀ k', k ≤ k' → k' ≤ σ.length → (∀ x i o, k ≤ x → x < k' → σ[x]? = some i → ops[i]? = some o → o.dst ≠ some t) → (st k').1.get t = (st k).1.get t := by
  intro k' hle
  induction hle with
  | refl => intro _ _; rfl
  | @step k' hle ih =>
    intro hl hd
    obtain ⟨i, hi⟩ : ∃ i, σ[k']? = some i := ⟨_, List.getElem?_eq_getElem (by omega)⟩
    obtain ⟨o, ho⟩ := T.op hi
    obtain ⟨v, hv⟩ := T.put hi ho
    have hle' : k ≤ k' := hle
    rw [put_get hv, if_neg (hd k' i o hle' (by omega) hi ho)]
    exact ih (by omega) fun x i o h1 h2 => hd x i o h1 (by omega)

theorem Tr.n_eq (T : Tr P cfg r ops σ fl st q) : ∀ k, k ≤ σ.length → (st k).1.n = (st 0).1.n
  | 0, _ => rfl
  | k + 1, h => by
    obtain ⟨i, hi⟩ : ∃ i, σ[k]? = some i := ⟨_, List.getElem?_eq_getElem (by omega)⟩
    obtain ⟨o, ho⟩ := T.op hi
    obtain ⟨v, hv⟩ := T.put hi ho
    rw [put_n hv, T.n_eq k (by omega)]

theorem Tr.nx (T : Tr P cfg r ops σ fl st q) {k : Nat} : ∀ k', k ≤ k' → k' ≤ σ.length → (st k).2.next ≤ (st k').2.next := by
  intro k' hle
  induction hle with
  | refl => intro _; exact Nat.le_refl _
  | @step k' hle ih =>
    intro hl
    exact Nat.le_trans (ih (by omega)) (T.mono1 k' (by omega))

theorem Tr.inj (T : Tr P cfg r ops σ fl st q) {k k' i : Nat} (h : σ[k]? = some i) (h' : σ[k']? = some i) : k = k' := by
  obtain ⟨_, _, _, _, _, h1, _⟩ := T.plan.ahead k i h
  obtain ⟨_, _, _, _, _, h2, _⟩ := T.plan.ahead k' i h'
  rcases Nat.lt_trichotomy k k' with hlt | he | hlt
  · exact absurd h (h2 k hlt)
  · exact he
  · exact absurd h' (h1 k' hlt)

theorem Tr.same (T : Tr P cfg r ops σ fl st q) {i i' : Nat} {o o' : Oper} {t : Nat} (ho : ops[i]? = some o) (ho' : ops[i']? = some o') (hd : o.dst = some t) (hd' : o'.dst = some t) : i = i' := by
  by_cases e : i = i'
  · exact e
  · exact absurd hd (T.plan.pair i i' o o' t e ho ho' hd').1

theorem Tr.get_before (T : Tr P cfg r ops σ fl st q) {k i : Nat} {o : Oper} {t : Nat} (hk : σ[k]? = some i) (ho : ops[i]? = some o) (hd : o.dst = some t) {k' : Nat} (h : k' ≤ k) : (st k').1.get t = (st 0).1.get t :=
  T.keep k' (Nat.zero_le _) (by have := at_lt hk; omega) fun x i' o' _ hx hi' ho' hd' => by
    have := T.same ho ho' hd hd'
    subst this
    have := T.inj hk hi'
    omega

theorem Tr.get_after (T : Tr P cfg r ops σ fl st q) {k i : Nat} {o : Oper} {t : Nat} (hk : σ[k]? = some i) (ho : ops[i]? = some o) (hd : o.dst = some t) {k' : Nat} (h : k < k') (hl : k' ≤ σ.length) : (st σ.length).1.get t = (st k').1.get t :=
  T.keep σ.length hl (Nat.le_refl _) fun x i' o' hx _ hi' ho' hd' => by
    have := T.same ho ho' hd hd'
    subst this
    have := T.inj hk hi'
    omega

theorem Tr.next_eq (T : Tr P cfg r ops σ fl st q) {k i : Nat} {o : Oper} (hk : σ[k]? = some i) (ho : ops[i]? = some o) (hq : actsO P o = false) (he : (q k).2 ≠ .none) : (st (k + 1)).2.next = (st k).2.next + 1 := by
  obtain ⟨_, h, _⟩ := T.quiet k i o hk ho hq
  rw [h]
  cases hx : (q k).2 with
  | none => exact absurd hx he
  | skip => rfl
  | new e => rfl

/-! ## the steps of a walk from its begin -/

theorem Step.adopt {ι ι' : Img} {A0 A : AH} {w : World} (h : Step P ι0 A0 w0 ι A w) (hx : Exts ι ι') (hnew : ∀ n l, ι' n = some l → ι n = some l ∨ n = A.next) {e : Ent} {l : Loc} (hl : ι' A.next = some l) (he : EntOk P ι' w l e) (hg : ownGroup A e)
    (hd : ¬ Im ι A l.block) (hb : w0.heap.size ≤ l.block) : Step P ι0 A0 w0 ι' (A.new e) w where
  ext := h.ext.trans hx
  new := fun n k hk => by
    rcases hnew n k hk with e' | e'
    · rcases h.new n k e' with e' | ⟨h1, h2⟩
      · exact .inl e'
      · exact .inr ⟨h1, by simp only [AH.new]; omega⟩
    · have := h.nx
      exact .inr ⟨by omega, by simp only [AH.new]; omega⟩
  nx := by have := h.nx; simp only [AH.new]; omega
  rel := (h.rel.mono hx).add hl he hg fun f x lf hf hlf hbk => by
    obtain ⟨l', hl', _⟩ := h.rel.ent f x hf
    have := hx f l' hl'
    rw [hlf] at this; cases this
    exact hd ⟨f, x, lf, hf, hl', hbk⟩
  size := h.size
  frame := h.frame
  img := by
    rintro b ⟨f, x, lf, hf, hlf, rfl⟩ hlt
    by_cases ef : f = A.next
    · subst ef
      rw [hl] at hlf; cases hlf
      omega
    · rw [look_new_ne ef] at hf
      obtain ⟨l', hl', _⟩ := h.rel.ent f x hf
      have := hx f l' hl'
      rw [hlf] at this; cases this
      exact h.img _ ⟨f, x, lf, hf, hl', rfl⟩ hlt
  out := h.out

theorem Step.adoptName {ι ι' : Img} {A0 A : AH} {w : World} (h : Step P ι0 A0 w0 ι A w) (hx : Exts ι ι') (hnew : ∀ n l, ι' n = some l → ι n = some l ∨ n = A.next) : Step P ι0 A0 w0 ι' A.skip w where
  ext := h.ext.trans hx
  new := fun n k hk => by
    rcases hnew n k hk with e' | e'
    · rcases h.new n k e' with e' | ⟨h1, h2⟩
      · exact .inl e'
      · exact .inr ⟨h1, by simp only [AH.skip]; omega⟩
    · have := h.nx
      exact .inr ⟨by omega, by simp only [AH.skip]; omega⟩
  nx := by have := h.nx; simp only [AH.skip]; omega
  rel := h.rel.skip.mono hx
  size := h.size
  frame := h.frame
  img := by
    rintro b ⟨f, x, lf, hf, hlf, rfl⟩ hlt
    have hf' : A.look f = some x := hf
    obtain ⟨l', hl', _⟩ := h.rel.ent f x hf'
    have := hx f l' hl'
    rw [hlf] at this; cases this
    exact h.img _ ⟨f, x, lf, hf', hl', rfl⟩ hlt
  out := h.out

theorem Step.more {ι : Img} {A0 A : AH} {w w' : World} (h : Step P ι0 A0 w0 ι A w) (hs : w.heap.size ≤ w'.heap.size) (hk : ∀ b, b < w.heap.size → w'.heap[b]? = w.heap[b]?) (ho : w'.os = w.os ∧ w'.tape = w.tape ∧ w'.output = w.output) : Step P ι0 A0 w0 ι A w' where
  ext := h.ext
  new := h.new
  nx := h.nx
  rel := h.rel.frame fun b hb => hk b (h.rel.im_lt hb)
  size := Nat.le_trans h.size hs
  frame := fun b hb hn => by rw [hk b (Nat.lt_of_lt_of_le hb h.size), h.frame b hb hn]
  img := h.img
  out := ⟨ho.1.trans h.out.1, ho.2.1.trans h.out.2.1, ho.2.2.trans h.out.2.2⟩

/-! ## between -/

/-- an operation that was done ahead of its place in the plan -/
def EarlyOk (P : Program) (st : Nat → TM × AH) (q : Nat → AV × Eff) (w0 : World) (p : Nat) (U : Img) (w : World) (k : Nat) : Prop :=
  match (q k).2 with
  | .none => True
  | .skip => ∃ l, U (st k).2.next = some l
  | .new e => ∃ l, U (st k).2.next = some l ∧ EntOk P U w l e ∧ ¬ Im (cut U (st p).2.next) (st p).2 l.block ∧ w0.heap.size ≤ l.block ∧ ownGroup (st k).2 e

structure Mid (P : Program) (ops : Array Oper) (σ : List Nat) (st : Nat → TM × AH) (q : Nat → AV × Eff) (ι0 : Img) (w0 : World) (p : Nat) (listed : Array Bool) (U : Img) (mS : TM) (a : Act) (w : World) : Prop where
  len : p ≤ σ.length
  size : listed.size = ops.size
  pre : ∀ k i : Nat, k < p → σ[k]? = some i → listed[i]? = some true
  quiet : ∀ (k i : Nat) (o : Oper), p ≤ k → σ[k]? = some i → ops[i]? = some o → listed[i]? = some true → actsO P o = false
  step : Step P ι0 (st 0).2 w0 (cut U (st p).2.next) (st p).2 w
  tmS : TMok U mS a.tmps
  nS : mS.n = (st 0).1.n
  gS1 : ∀ (i : Nat) (o : Oper) (t : Nat), listed[i]? = some true → ops[i]? = some o → o.dst = some t → mS.get t = (st σ.length).1.get t
  gS0 : ∀ t : Nat, (∀ (i : Nat) (o : Oper), listed[i]? = some true → ops[i]? = some o → o.dst ≠ some t) → mS.get t = (st 0).1.get t
  vals : ∀ t : Nat, ∃ u, conc (cut U (st p).2.next) ((st p).1.get t) = some u
  names : ∀ (n : Nat) (l : Loc), (st p).2.next ≤ n → U n = some l → ∃ k i : Nat, p ≤ k ∧ σ[k]? = some i ∧ listed[i]? = some true ∧ n = (st k).2.next ∧ (q k).2 ≠ .none
  early : ∀ k i : Nat, p ≤ k → σ[k]? = some i → listed[i]? = some true → EarlyOk P st q w0 p U w k
  apart : ∀ (k k' i i' : Nat) (e e' : Ent) (l l' : Loc), p ≤ k → p ≤ k' → k ≠ k' → σ[k]? = some i → σ[k']? = some i' → listed[i]? = some true → listed[i']? = some true → (q k).2 = .new e → (q k').2 = .new e' →
    U (st k).2.next = some l → U (st k').2.next = some l' → l.block ≠ l'.block

theorem set_iff {listed : Array Bool} {i j : Nat} (hi : i < listed.size) : (listed.setIfInBounds i true)[j]? = some true ↔ listed[j]? = some true ∨ j = i := by
  rw [Array.getElem?_setIfInBounds]
  by_cases e : i = j
  · subst e; simp [hi]
  · rw [if_neg e]
    exact ⟨.inl, fun h => h.elim id fun h => absurd h.symm e⟩

/-- what an operation that is not done yet looks at: as in the plan -/
theorem Mid.agree {p : Nat} {listed : Array Bool} {U : Img} {mS : TM} {a : Act} {w : World} (T : Tr P cfg r ops σ fl st q) (M : Mid P ops σ st q ι0 w0 p listed U mS a w) (hc : Closed ops listed) {k i : Nat} {o : Oper} (hk : σ[k]? = some i) (ho : ops[i]? = some o) (hn : listed[i]? ≠ some true)
    (hah : ∀ b, (Region.before ops)[i]? = some b → ∀ j : Nat, b.testBit j = true → listed[j]? = some true) : ∀ t ∈ o.looksAt ops, mS.get t = (st k).1.get t := by
  intro t ht
  by_cases h : ∃ (j : Nat) (oj : Oper), ops[j]? = some oj ∧ oj.dst = some t
  · obtain ⟨j, oj, hoj, hdj⟩ := h
    obtain ⟨k', hk'⟩ := T.plan.cover j (Array.getElem?_eq_some_iff.1 hoj).1
    have zero : listed[j]? ≠ some true → mS.get t = (st 0).1.get t := fun hnj => M.gS0 t fun i' o' hl' ho' hd' => by
      have := T.same hoj ho' hdj hd'
      subst this
      exact hnj hl'
    by_cases e : i = j
    · subst e
      rw [zero hn, T.get_before hk hoj hdj (Nat.le_refl _)]
    · rcases (T.plan.pair i j o oj t e ho hoj hdj).2 ht with ⟨b, hb, hbit⟩ | ⟨b, hb, hbit⟩
      · have hlj := hah b hb j hbit
        obtain ⟨_, b', _, hb', hpos, _⟩ := T.plan.ahead k i hk
        rw [hb] at hb'; cases hb'
        obtain ⟨x, hx, hxj⟩ := hpos j hbit
        rw [M.gS1 j oj t hlj hoj hdj, T.get_after hxj hoj hdj hx (by have := at_lt hk; omega)]
      · have hnj : listed[j]? ≠ some true := fun hlj => hn (hc j hlj b hb i hbit)
        obtain ⟨_, b', _, hb', hpos, _⟩ := T.plan.ahead k' j hk'
        rw [hb] at hb'; cases hb'
        obtain ⟨x, hx, hxi⟩ := hpos i hbit
        have := T.inj hk hxi
        subst this
        exact (zero hnj).trans (T.get_before hk' hoj hdj (Nat.le_of_lt hx)).symm
  · rw [M.gS0 t fun i' o' _ ho' hd' => h ⟨i', o', ho', hd'⟩]
    exact (T.keep k (Nat.zero_le _) (by have := at_lt hk; omega) fun x i' o' _ _ _ ho' hd' => h ⟨i', o', ho', hd'⟩).symm

theorem within_set {U : Img} {n : Nat} {l l1 : Loc} (h : U n = some l) : Within (Img.set (cut U n) n l1) (cut U (n + 1)) := fun k hk => by
  unfold Img.set at hk
  unfold cut
  split at hk
  · rename_i e; subst e; rw [if_pos (by omega), h]; rfl
  · unfold cut at hk
    split at hk
    · rw [if_pos (by omega)]; exact hk
    · cases hk

theorem cut_new {U : Img} {n k : Nat} {l : Loc} (h : cut U (n + 1) k = some l) : cut U n k = some l ∨ k = n := by
  unfold cut at h ⊢
  split at h
  · by_cases e : k = n
    · exact .inr e
    · rw [if_pos (by omega)]; exact .inl h
  · cases h

set_option maxHeartbeats 1000000 in
/-- the world is ahead: the plan follows -/
theorem Mid.adopt {p : Nat} {listed : Array Bool} {U : Img} {mS : TM} {a : Act} {w : World} (T : Tr P cfg r ops σ fl st q) (M : Mid P ops σ st q ι0 w0 p listed U mS a w) {i : Nat} (hk : σ[p]? = some i) (hl : listed[i]? = some true) :
    Mid P ops σ st q ι0 w0 (p + 1) listed U mS a w := by
  obtain ⟨o, ho⟩ := T.op hk
  have hq := M.quiet p i o (Nat.le_refl _) hk ho hl
  obtain ⟨hput, happ, hcase⟩ := T.quiet p i o hk ho hq
  obtain ⟨v, hv⟩ : ∃ v, v = (q p).1 := ⟨_, rfl⟩
  rw [← hv] at hput hcase
  have hrel := M.step.rel
  obtain ⟨tmps, htm, htmv⟩ := only_ok (ι := cut U (st p).2.next) (m := (st p).1) (ts := tsOf o) fun t _ => M.vals t
  have hcn : cut U (st p).2.next (st p).2.next = none := cut_fresh U _ _ (Nat.le_refl _)
  have hE := M.early p i (Nat.le_refl _) hk hl
  -- what the step and the value are
  have key : Step P ι0 (st 0).2 w0 (cut U (st (p + 1)).2.next) (st (p + 1)).2 w ∧
      (∃ ι1 u1, conc ι1 v = some u1 ∧ Within ι1 (cut U (st (p + 1)).2.next)) ∧
      (∀ b, Im (cut U (st (p + 1)).2.next) (st (p + 1)).2 b → Im (cut U (st p).2.next) (st p).2 b ∨ ∃ e l, (q p).2 = .new e ∧ U (st p).2.next = some l ∧ l.block = b) := by
    unfold EarlyOk at hE
    cases heff : (q p).2 with
    | none =>
      rw [heff] at happ hcase
      have happ : (st (p + 1)).2 = (st p).2 := happ
      rw [happ]
      refine ⟨M.step, ?_, fun b hb => .inl hb⟩
      rcases hcase with ⟨_, h1, _⟩ | ⟨_, _, hrun⟩ | ⟨_, _, hcl, har⟩
      · exact ⟨_, _, by rw [h1]; exact conc_undef (cut U (st p).2.next), fun n h => h⟩
      · obtain ⟨u, w', _, _, hc⟩ := hrun _ w { a with tmps := tmps } hrel.glob htm (fun _ => hcn)
        exact ⟨_, u, hc, fun n h => h⟩
      · rw [aop_congr (m' := only (st p).1 (tsOf o)) only_ρ] at har
        obtain ⟨v', hv', hrun⟩ := reads_ok har hcl
        cases hv'
        obtain ⟨u, _, hc⟩ := hrun _ w { a with tmps := tmps } hrel htm
        exact ⟨_, u, hc, fun n h => h⟩
    | skip =>
      rw [heff] at happ hcase hE
      have happ : (st (p + 1)).2 = (st p).2.skip := happ
      have hnx : (st (p + 1)).2.next = (st p).2.next + 1 := by rw [happ]; rfl
      obtain ⟨l, hl⟩ := hE
      rw [hnx, happ]
      refine ⟨M.step.adoptName (cut_le U (by omega)) fun n k h => cut_new h, ?_, fun b hb => .inl ?_⟩
      · rcases hcase with ⟨_, _, h1⟩ | ⟨_, _, hrun⟩ | ⟨_, h1, _⟩
        · cases h1
        · obtain ⟨u, w', l1, _, _, hc⟩ := hrun _ w { a with tmps := tmps } hrel.glob htm (fun _ => hcn)
          exact ⟨_, u, hc, within_set hl⟩
        · cases h1
      · obtain ⟨f, x, lf, hf, hlf, rfl⟩ := hb
        have hf : (st p).2.look f = some x := hf
        refine ⟨f, x, lf, hf, ?_, rfl⟩
        rcases cut_new hlf with h | h
        · exact h
        · have := hrel.lt f x (look_get hf); omega
    | new e =>
      rw [heff] at happ hcase hE
      have happ : (st (p + 1)).2 = (st p).2.new e := happ
      have hnx : (st (p + 1)).2.next = (st p).2.next + 1 := by rw [happ]; rfl
      obtain ⟨l, hl, hent, hnim, hblk, hown⟩ := hE
      rcases hcase with ⟨_, _, h1⟩ | ⟨_, _, hrun⟩ | ⟨_, h1, _⟩
      · cases h1
      · obtain ⟨u, w', l1, ob, _, _, _, hent1, _, hc⟩ := hrun _ w { a with tmps := tmps } hrel.glob htm (fun _ => hcn)
        have hw : Within (Img.set (cut U (st p).2.next) (st p).2.next l1) (cut U ((st p).2.next + 1)) := within_set hl
        have hl' : cut U ((st p).2.next + 1) (st p).2.next = some l := by unfold cut; rw [if_pos (by omega)]; exact hl
        rw [hnx, happ]
        refine ⟨M.step.adopt (cut_le U (by omega)) (fun n k h => cut_new h) hl' (EntOk.within hw (cut_ext U _) hent1 hent) hown hnim hblk, ⟨_, u, hc, hw⟩, fun b hb => ?_⟩
        obtain ⟨f, x, lf, hf, hlf, rfl⟩ := hb
        by_cases ef : f = (st p).2.next
        · subst ef
          rw [hl'] at hlf; cases hlf
          exact .inr ⟨e, l, rfl, hl, rfl⟩
        · rw [look_new_ne ef] at hf
          rcases cut_new hlf with h | h
          · exact .inl ⟨f, x, lf, hf, h, rfl⟩
          · exact absurd h ef
      · cases h1
  obtain ⟨hstep, ⟨ι1, u1, hc1, hw1⟩, him⟩ := key
  have hlen := at_lt hk
  have hle : (st p).2.next ≤ (st (p + 1)).2.next := T.mono1 p hlen
  refine ⟨hlen, M.size, fun k j hkp hkj => ?_, fun k j oj hpk => M.quiet k j oj (by omega), hstep, M.tmS, M.nS, M.gS1, M.gS0, fun t => ?_, fun n l hn hU => ?_, fun k j hpk hkj hlj => ?_, fun k k' j j' e e' l l' h1 h2 => M.apart k k' j j' e e' l l' (by omega) (by omega)⟩
  · by_cases e : k = p
    · subst e; rw [hk] at hkj; cases hkj; exact hl
    · exact M.pre k j (by omega) hkj
  · rw [put_get hput]
    split
    · rename_i hd
      have h3 : conc U v = some (a.tmps.getD t undef) := by
        have := M.tmS.2 t
        rw [M.gS1 i o t hl ho hd, T.get_after hk ho hd (Nat.lt_succ_self p) hlen, put_get hput, if_pos hd] at this
        exact this
      exact ⟨_, conc_within hw1 (cut_ext U _) v _ _ hc1 h3⟩
    · obtain ⟨u, hu⟩ := M.vals t
      exact ⟨u, conc_mono (cut_le U hle) _ _ hu⟩
  · obtain ⟨k, j, hpk, hkj, hlj, hnk, hne⟩ := M.names n l (by omega) hU
    refine ⟨k, j, ?_, hkj, hlj, hnk, hne⟩
    by_cases e : k = p
    · subst e
      have := T.next_eq hk ho hq hne
      omega
    · omega
  · have hEk := M.early k j (by omega) hkj hlj
    unfold EarlyOk at hEk ⊢
    cases heff : (q k).2 with
    | none => trivial
    | skip => rw [heff] at hEk; exact hEk
    | new e =>
      rw [heff] at hEk
      obtain ⟨l, h1, h2, h3, h4, h5⟩ := hEk
      refine ⟨l, h1, h2, fun hi => ?_, h4, h5⟩
      rcases him _ hi with hi | ⟨e', l', h6, h7, h8⟩
      · exact h3 hi
      · exact M.apart p k i j e' e l' l (Nat.le_refl _) (by omega) (by omega) hk hkj hl hlj h6 heff h7 h1 h8

/-- many of them -/
theorem Mid.adopts {p : Nat} {listed : Array Bool} {U : Img} {mS : TM} {a : Act} {w : World} (T : Tr P cfg r ops σ fl st q) (M : Mid P ops σ st q ι0 w0 p listed U mS a w) : ∀ k, p ≤ k → k ≤ σ.length → (∀ x i, p ≤ x → x < k → σ[x]? = some i → listed[i]? = some true) →
    Mid P ops σ st q ι0 w0 k listed U mS a w := by
  intro k hle
  induction hle with
  | refl => intro _ _; exact M
  | @step k hle ih =>
    intro hl hall
    obtain ⟨i, hi⟩ : ∃ i, σ[k]? = some i := ⟨_, List.getElem?_eq_getElem (by omega)⟩
    exact (ih (by omega) fun x i h1 h2 => hall x i h1 (by omega)).adopt T hi (hall k i hle (by omega) hi)

end
end Go.Eng
