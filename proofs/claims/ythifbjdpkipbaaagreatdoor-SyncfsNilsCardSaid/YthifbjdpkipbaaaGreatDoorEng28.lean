/- THE ENGINE: drawn regions are done in any order. -/
import Derived.Test.YthifbjdpkipbaaaGreatDoorEng27
set_option linter.all false
namespace Go.Eng

section
variable {P : Program} {cfg : Cfg} {r : Rec} {ops : Array Oper} {σ : List Nat} {fl : List (Nat × List Nat)} {st : Nat → TM × AH} {q : Nat → AV × Eff} {ι0 : Img} {w0 : World}

theorem TMok.put' {ι : Img} {m m' : TM} {a : Act} {d : Option Tmp} {v : AV} {u : Value} (h : TMok ι m a.tmps) (hp : m.put d v = some m') (hv : ∀ x, d = some x → conc ι v = some u) : TMok ι m' (a.put d u).tmps := by
  cases d with
  | none => simp [TM.put] at hp; subst hp; exact h
  | some d => exact TMok.put h hp (hv d rfl)

set_option maxHeartbeats 1000000 in
/-- one more is done ahead of its place -/
theorem Mid.early_add {p : Nat} {listed : Array Bool} {U : Img} {mS : TM} {a : Act} {w : World} (T : Tr P cfg r ops σ fl st q) (M : Mid P ops σ st q ι0 w0 p listed U mS a w) {k i : Nat} {o : Oper} (hk : σ[k]? = some i) (ho : ops[i]? = some o) (hpk : p ≤ k) (hn : listed[i]? ≠ some true) (hq : actsO P o = false)
    {U' : Img} {w' : World} {u : Value} (hU : Exts U U') (hold : ∀ n l, U' n = some l → U n = some l ∨ n = (st k).2.next ∧ (q k).2 ≠ .none)
    (hv : ∀ d, o.dst = some d → conc U' (q k).1 = some u) (hgrow : w.heap.size ≤ w'.heap.size) (hkeep : ∀ b, b < w.heap.size → w'.heap[b]? = w.heap[b]?) (hout : w'.os = w.os ∧ w'.tape = w.tape ∧ w'.output = w.output)
    (hearly : match (q k).2 with
      | .none => True
      | .skip => ∃ l, U' (st k).2.next = some l
      | .new e => ∃ l, U' (st k).2.next = some l ∧ EntOk P U' w' l e ∧ l.block = w.heap.size ∧ ownGroup (st k).2 e) :
    ∃ mS', Mid P ops σ st q ι0 w0 p (listed.setIfInBounds i true) U' mS' (a.put o.dst u) w' := by
  obtain ⟨hput, happ, hcase⟩ := T.quiet k i o hk ho hq
  have hlen := at_lt hk
  have hnk : (st p).2.next ≤ (st k).2.next := T.nx k hpk (by omega)
  have hcut : cut U' (st p).2.next = cut U (st p).2.next := funext fun n => by
    unfold cut
    split
    · cases hU' : U' n with
      | none =>
        cases hUn : U n with
        | none => rfl
        | some l => rw [hU n l hUn] at hU'; cases hU'
      | some l =>
        rcases hold n l hU' with h | ⟨h, _⟩
        · rw [h]
        · omega
    · rfl
  obtain ⟨mS', hm⟩ := put_ex hput (k := mS) (by rw [M.nS, T.n_eq k (by omega)]) (q k).1
  have hi : i < listed.size := by rw [M.size]; exact (Array.getElem?_eq_some_iff.1 ho).1
  have old : ∀ {k1 i1 : Nat} {e1 : Ent} {l1 : Loc}, p ≤ k1 → σ[k1]? = some i1 → listed[i1]? = some true → (q k1).2 = .new e1 → U' (st k1).2.next = some l1 → U (st k1).2.next = some l1 ∧ l1.block < w.heap.size := fun {k1 i1 e1 l1} h1 h2 h3 h4 h5 => by
    have hE := M.early k1 i1 h1 h2 h3
    unfold EarlyOk at hE
    rw [h4] at hE
    obtain ⟨l, hl, hent, _⟩ := hE
    have := hU _ _ hl
    rw [h5] at this; cases this
    exact ⟨hl, hent.lt⟩
  have new : ∀ {e1 : Ent} {l1 : Loc}, (q k).2 = .new e1 → U' (st k).2.next = some l1 → l1.block = w.heap.size := fun {e1 l1} h1 h2 => by
    rw [h1] at hearly
    obtain ⟨l, hl, _, hb, _⟩ := hearly
    rw [h2] at hl; cases hl
    exact hb
  refine ⟨mS', M.len, by simp [M.size], fun k' j h1 h2 => set_true (M.pre k' j h1 h2), fun k' j oj h1 h2 h3 h4 => ?_, by rw [hcut]; exact M.step.more hgrow hkeep hout, TMok.put' (M.tmS.mono hU) hm hv, (put_n hm).trans M.nS,
    fun j oj t hl hoj hd => ?_, fun t hall => ?_, fun t => by rw [hcut]; exact M.vals t, fun n l hn' hU' => ?_, fun k' j h1 h2 h3 => ?_, fun k1 k2 i1 i2 e1 e2 l1 l2 h1 h2 hne hk1 hk2 hl1 hl2 he1 he2 hu1 hu2 => ?_⟩
  · rcases (set_iff hi).1 h4 with h4 | rfl
    · exact M.quiet k' j oj h1 h2 h3 h4
    · rw [ho] at h3; cases h3; exact hq
  · rw [put_get hm]
    rcases (set_iff hi).1 hl with hl | rfl
    · rw [if_neg fun hd' => hn (by rw [T.same ho hoj hd' hd]; exact hl)]
      exact M.gS1 j oj t hl hoj hd
    · rw [ho] at hoj; cases hoj
      rw [if_pos hd, T.get_after hk ho hd (Nat.lt_succ_self k) hlen, put_get hput, if_pos hd]
  · rw [put_get hm, if_neg (hall i o ((set_iff hi).2 (.inr rfl)) ho)]
    exact M.gS0 t fun j oj hl => hall j oj ((set_iff hi).2 (.inl hl))
  · rcases hold n l hU' with h | ⟨h1, h2⟩
    · obtain ⟨k', j, h3, h4, h5, h6⟩ := M.names n l hn' h
      exact ⟨k', j, h3, h4, (set_iff hi).2 (.inl h5), h6⟩
    · exact ⟨k, i, hpk, hk, (set_iff hi).2 (.inr rfl), h1, h2⟩
  · rcases (set_iff hi).1 h3 with h3 | rfl
    · have hE := M.early k' j h1 h2 h3
      unfold EarlyOk at hE ⊢
      cases heff : (q k').2 with
      | none => trivial
      | skip =>
        rw [heff] at hE
        obtain ⟨l, hl⟩ := hE
        exact ⟨l, hU _ _ hl⟩
      | new e =>
        rw [heff] at hE
        obtain ⟨l, hl, h4, h5, h6, h7⟩ := hE
        exact ⟨l, hU _ _ hl, (h4.mono hU).block (hkeep _ h4.lt), by rw [hcut]; exact h5, h6, h7⟩
    · have := T.inj hk h2
      subst this
      unfold EarlyOk
      cases heff : (q k).2 with
      | none => trivial
      | skip => rw [heff] at hearly; exact hearly
      | new e =>
        rw [heff] at hearly
        obtain ⟨l, hl, h4, h5, h6⟩ := hearly
        refine ⟨l, hl, h4, ?_, by rw [h5]; exact M.step.size, h6⟩
        rw [hcut]
        intro him
        have := M.step.rel.im_lt him
        omega
  · rcases (set_iff hi).1 hl1 with hl1 | rfl
    · obtain ⟨hu1', hb1⟩ := old h1 hk1 hl1 he1 hu1
      rcases (set_iff hi).1 hl2 with hl2 | rfl
      · obtain ⟨hu2', hb2⟩ := old h2 hk2 hl2 he2 hu2
        exact M.apart k1 k2 i1 i2 e1 e2 l1 l2 h1 h2 hne hk1 hk2 hl1 hl2 he1 he2 hu1' hu2'
      · have := T.inj hk hk2
        subst this
        have := new he2 hu2
        omega
    · have := T.inj hk hk1
      subst this
      have hb1 := new he1 hu1
      rcases (set_iff hi).1 hl2 with hl2 | rfl
      · obtain ⟨_, hb2⟩ := old h2 hk2 hl2 he2 hu2
        omega
      · exact absurd (T.inj hk1 hk2) hne

theorem guard_agree {m m' : TM} {o : Oper} (h : ∀ t ∈ o.looksAt ops, m.get t = m'.get t) : wantedA ops.toList m o = wantedA ops.toList m' o := by
  unfold wantedA
  cases hg : o.guard with
  | none => rfl
  | some g =>
    obtain ⟨j, want⟩ := g
    simp only
    have : guardOf ops.toList m j = guardOf ops.toList m' j := by
      unfold guardOf
      rw [Array.getElem?_toList]
      cases hj : ops[j]? with
      | none => rfl
      | some oj =>
        simp only
        cases hd : oj.dst with
        | none => rfl
        | some d =>
          simp only
          rw [h d (by unfold Oper.looksAt; rw [hg]; simp [hj, hd])]
    rw [this]

theorem aop_select {A : AH} {m : TM} {o : Oper} {L : List (AR × AH)} (h : aop P cfg A m o = some L) : ∀ cs b, o.op ≠ .select cs b := fun cs b e => by
  obtain ⟨dst, op, ty, pos, after, guard⟩ := o
  simp only at e; subst e
  simp [aop] at h

/-- the same operands, the same operation -/
theorem exec_same {A : AH} {m : TM} {o : Oper} {L : List (AR × AH)} (h : aop P cfg A m o = some L) {a : Act} {tmps : Array Value} (ht : ∀ t ∈ tsOf o, a.tmps.getD t undef = tmps.getD t undef) : execOp a.eval o = execOp ({ a with tmps := tmps } : Act).eval o :=
  execOp_congr o (aop_select h) fun x hx => by
    cases x with
    | tmp t => exact ht t (mem_tsOf.2 hx)
    | _ => rfl

theorem put_defers (a : Act) (d : Option Tmp) (u : Value) : (a.put d u).defers = a.defers := by cases d <;> rfl

set_option maxHeartbeats 1000000 in
/-- A QUIET OPERATION. -/
theorem quiet_step {p : Nat} {listed : Array Bool} {U : Img} {mS : TM} {a : Act} {w : World} (T : Tr P cfg r ops σ fl st q) (M : Mid P ops σ st q ι0 w0 p listed U mS a w) (hheap : HeapAt P ops σ p) (hc : Closed ops listed) {k i : Nat} {o : Oper} (hk : σ[k]? = some i) (ho : ops[i]? = some o) (hpk : p ≤ k) (hn : listed[i]? ≠ some true)
    (hah : ∀ b, (Region.before ops)[i]? = some b → ∀ j : Nat, b.testBit j = true → listed[j]? = some true) (hq : actsO P o = false) {rb : Option Nat} {n : Nat} {K : Act → World → Prop} {Q : Exit → Act → World → Prop}
    (hK : ∀ U' mS' a' w', Mid P ops σ st q ι0 w0 p (listed.setIfInBounds i true) U' mS' a' w' → a'.defers = a.defers → K a' w') : wpOpIn (fence rb) n P ops Q i K a w := by
  have hag := M.agree T hc hk ho hn hah
  have hlen := at_lt hk
  obtain ⟨hput, happ, hcase⟩ := T.quiet k i o hk ho hq
  have hop : ∀ t ∈ tsOf o, conc U ((st k).1.get t) = some (a.tmps.getD t undef) := fun t ht => by rw [← hag t (tsOf_looks ht)]; exact M.tmS.2 t
  obtain ⟨tmps, htm, htv⟩ := only_ok (ι := U) (m := (st k).1) (ts := tsOf o) fun t ht => ⟨_, hop t ht⟩
  have hsame : ∀ t ∈ tsOf o, a.tmps.getD t undef = tmps.getD t undef := fun t ht => by
    have := htv t ht
    rw [hop t ht] at this
    exact Option.some.inj this
  unfold wpOpIn
  simp only [ho]
  rw [← wanted_same M.tmS o, guard_agree hag]
  rcases hcase with ⟨hw', hv, heff⟩ | ⟨hw', ⟨L, har⟩, hrun⟩ | ⟨hw', heff, hcl, har⟩
  · rw [hw']
    simp only [Bool.false_eq_true, if_false]
    obtain ⟨mS', M'⟩ := M.early_add T hk ho hpk hn hq (U' := U) (w' := w) (u := undef) (Exts.refl U) (fun n l h => .inl h) (fun _ _ => by rw [hv]; exact conc_undef U) (Nat.le_refl _) (fun _ _ => rfl) ⟨rfl, rfl, rfl⟩ (by rw [heff]; trivial)
    exact ⟨fun _ _ => trivial, hK U mS' _ w M' (put_defers _ _ _)⟩
  · rw [hw']
    simp only [if_true]
    refine ⟨fun _ _ => trivial, ?_⟩
    rw [Oper.semAt_eq _ _ _ (aop_defer har), exec_same har hsame]
    have hUn : (q k).2 ≠ .none → U (st k).2.next = none := fun hne => by
      cases hx : U (st k).2.next with
      | none => rfl
      | some l =>
        exfalso
        obtain ⟨k', j, h1, h2, h3, h4, h5⟩ := M.names _ l (T.nx k hpk (by omega)) hx
        have hlen' := at_lt h2
        rcases Nat.lt_trichotomy k k' with hlt | he | hlt
        · have h6 := T.next_eq hk ho hq hne
          have h7 := T.nx (k := k + 1) k' (by omega) (by omega)
          omega
        · subst he
          rw [hk] at h2; cases h2
          exact hn h3
        · obtain ⟨oj, hoj⟩ := T.op h2
          have h6 := T.next_eq h2 hoj (M.quiet k' j oj h1 h2 hoj h3) h5
          have h7 := T.nx (k := k' + 1) k (by omega) (by omega)
          omega
    have hnew := hrun U w { a with tmps := tmps } (M.step.rel.glob.mono (cut_ext U _)) htm hUn
    cases heff : (q k).2 with
    | none =>
      rw [heff] at hnew
      obtain ⟨u, w', h1, h2, h3⟩ := hnew
      rw [h1, Oper.uponIn_value]
      obtain ⟨mS', M'⟩ := M.early_add T hk ho hpk hn hq (U' := U) (w' := w') (u := u) (Exts.refl U) (fun n l h => .inl h) (fun _ _ => h3) (by rw [h2.heap]; exact Nat.le_refl _) (fun _ _ => by rw [h2.heap]) h2.out (by rw [heff]; trivial)
      exact hK U mS' _ w' M' (put_defers _ _ _)
    | skip =>
      have hUn := hUn (by rw [heff]; nofun)
      rw [heff] at hnew
      obtain ⟨u, w', l, h1, h2, h3⟩ := hnew
      rw [h1, Oper.uponIn_value]
      obtain ⟨mS', M'⟩ := M.early_add T hk ho hpk hn hq (U' := Img.set U (st k).2.next l) (w' := w') (u := u) (Img.set_ext l hUn) (fun n l' h => by
        by_cases e : n = (st k).2.next
        · exact .inr ⟨e, by rw [heff]; nofun⟩
        · rw [Img.set_ne _ _ e] at h; exact .inl h) (fun _ _ => h3) (by rw [h2.heap]; exact Nat.le_refl _) (fun _ _ => by rw [h2.heap]) h2.out (by rw [heff]; exact ⟨l, Img.set_same _ _ _⟩)
      exact hK _ mS' _ w' M' (put_defers _ _ _)
    | new e =>
      have hUn := hUn (by rw [heff]; nofun)
      rw [heff] at hnew
      obtain ⟨u, w', l, ob, h1, h2, h3, h4, h5, h6⟩ := hnew
      rw [h1, Oper.uponIn_value]
      obtain ⟨mS', M'⟩ := M.early_add T hk ho hpk hn hq (U' := Img.set U (st k).2.next l) (w' := w') (u := u) (Img.set_ext l hUn) (fun n l' h => by
        by_cases e : n = (st k).2.next
        · exact .inr ⟨e, by rw [heff]; nofun⟩
        · rw [Img.set_ne _ _ e] at h; exact .inl h) (fun _ _ => h6) (by rw [h2.heap]; simp) (fun b hb => by rw [h2.heap, Array.getElem?_push_lt hb, Array.getElem?_eq_getElem hb]) h2.out (by rw [heff]; exact ⟨l, Img.set_same _ _ _, h4, h3, h5⟩)
      exact hK _ mS' _ w' M' (put_defers _ _ _)
  · rw [hw']
    simp only [if_true]
    refine ⟨fun _ _ => trivial, ?_⟩
    rw [Oper.semAt_eq _ _ _ (aop_defer har), exec_same har hsame]
    -- the value: as at the place whose heap it finds
    obtain ⟨b, hb⟩ : ∃ b, (Region.before ops)[i]? = some b := by
      obtain ⟨_, b, _, hb, _⟩ := T.plan.ahead k i hk
      exact ⟨b, hb⟩
    have hrd : readsO P o = true := by simp [readsO, hcl]
    have hat : ∃ u A', aop P cfg (st p).2 (st k).1 o = some [(.val u, A')] ∧ ∀ d, o.dst = some d → u = (st σ.length).1.get d := by
      rcases Nat.lt_or_ge p k with hlt | hge
      · refine T.reads k i o b p hk ho hrd hw' hb hlt hheap fun x c oc hx hxc hoc hact => ?_
        cases hbit : b.testBit c with
        | false => rfl
        | true =>
          have := M.quiet x c oc hx hxc hoc (hah b hb c hbit)
          rw [hact] at this; cases this
      · have : p = k := by omega
        subst this
        refine ⟨_, _, har, fun d hd => ?_⟩
        rw [T.get_after hk ho hd (Nat.lt_succ_self _) hlen, put_get hput, if_pos hd]
    obtain ⟨v', A', hv', hvd⟩ := hat
    have hv'' := hv'
    rw [aop_congr (m' := only (st k).1 (tsOf o)) only_ρ] at hv''
    obtain ⟨v2, he2, hrun⟩ := reads_ok hv'' hcl
    simp only [List.cons.injEq, Prod.mk.injEq, AR.val.injEq, and_true] at he2
    obtain ⟨rfl, _⟩ := he2
    obtain ⟨u, h1, h2⟩ := hrun U w { a with tmps := tmps } (M.step.rel.mono (cut_ext U _)) htm
    rw [h1, Oper.uponIn_value]
    obtain ⟨mS', M'⟩ := M.early_add T hk ho hpk hn hq (U' := U) (w' := w) (u := u) (Exts.refl U) (fun n l h => .inl h) (fun d hd => by
      have hvq : v' = (q k).1 := by rw [hvd d hd, T.get_after hk ho hd (Nat.lt_succ_self _) hlen, put_get hput, if_pos hd]
      rw [← hvq]; exact h2) (Nat.le_refl _) (fun _ _ => rfl) ⟨rfl, rfl, rfl⟩ (by rw [heff]; trivial)
    exact hK U mS' _ w M' (put_defers _ _ _)

set_option maxHeartbeats 1000000 in
/-- behind an act -/
theorem Mid.act_add {k : Nat} {listed : Array Bool} {U : Img} {mS : TM} {a : Act} {w : World} (T : Tr P cfg r ops σ fl st q) (M : Mid P ops σ st q ι0 w0 k listed U mS a w) {i : Nat} {o : Oper} (hk : σ[k]? = some i) (ho : ops[i]? = some o) (hn : listed[i]? ≠ some true)
    {ι2 : Img} {w2 : World} {v : AV} {u : Value} (hs : Step P (cut U (st k).2.next) (st k).2 w ι2 (st (k + 1)).2 w2) (hput : (st k).1.put o.dst v = some (st (k + 1)).1) (hv : conc ι2 v = some u) :
    ∃ U' mS', Mid P ops σ st q ι0 w0 (k + 1) (listed.setIfInBounds i true) U' mS' (a.put o.dst u) w2 := by
  have hlen := at_lt hk
  have hmono := T.mono1 k hlen
  have hfr : Fresh ι2 (st (k + 1)).2 := hs.fresh (cut_fresh U _)
  obtain ⟨U', hU'⟩ : ∃ U' : Img, U' = fun n => if n < (st (k + 1)).2.next then ι2 n else U n := ⟨_, rfl⟩
  have hlo : ∀ n, n < (st (k + 1)).2.next → U' n = ι2 n := fun n h => by rw [hU']; simp only [if_pos h]
  have hhi : ∀ n, (st (k + 1)).2.next ≤ n → U' n = U n := fun n h => by rw [hU']; simp only [if_neg (Nat.not_lt.2 h)]
  have hcut : cut U' (st (k + 1)).2.next = ι2 := funext fun n => by
    unfold cut
    split
    · rename_i h; exact hlo n h
    · rename_i h; exact (hfr n (by omega)).symm
  have later : ∀ {k' j : Nat}, k ≤ k' → σ[k']? = some j → listed[j]? = some true → k + 1 ≤ k' := fun {k' j} h1 h2 h3 => by
    by_cases e : k' = k
    · subst e; rw [hk] at h2; cases h2; exact absurd h3 hn
    · omega
  have hnle : ∀ {k' j : Nat}, k + 1 ≤ k' → σ[k']? = some j → (st (k + 1)).2.next ≤ (st k').2.next := fun {k' j} h1 h2 => T.nx k' h1 (by have := at_lt h2; omega)
  have hU : Exts U U' := fun n l h => by
    by_cases h1 : n < (st (k + 1)).2.next
    · rw [hlo n h1]
      refine hs.ext n l ?_
      by_cases h2 : n < (st k).2.next
      · unfold cut; rw [if_pos h2]; exact h
      · obtain ⟨k', j, h3, h4, h5, h6, _⟩ := M.names n l (by omega) h
        have := hnle (later h3 h4 h5) h4
        omega
    · rw [hhi n (by omega)]; exact h
  have hι2 : Exts ι2 U' := fun n l h => by
    by_cases h1 : n < (st (k + 1)).2.next
    · rw [hlo n h1]; exact h
    · rw [hfr n (by omega)] at h; cases h
  obtain ⟨mS', hm⟩ := put_ex hput (k := mS) (by rw [M.nS, T.n_eq k (by omega)]) v
  have hi : i < listed.size := by rw [M.size]; exact (Array.getElem?_eq_some_iff.1 ho).1
  have old : ∀ {k' j : Nat}, k + 1 ≤ k' → σ[k']? = some j → (listed.setIfInBounds i true)[j]? = some true → listed[j]? = some true := fun {k' j} h1 h2 h3 => by
    rcases (set_iff hi).1 h3 with h3 | rfl
    · exact h3
    · have := T.inj hk h2; omega
  refine ⟨U', mS', hlen, by simp [M.size], fun x j h1 h2 => ?_, fun x j oj h1 h2 h3 h4 => M.quiet x j oj (by omega) h2 h3 (old h1 h2 h4), by rw [hcut]; exact M.step.trans hs, TMok.put (M.tmS.mono hU) hm (conc_mono hι2 _ _ hv), (put_n hm).trans M.nS,
    fun j oj t hl hoj hd => ?_, fun t hall => ?_, fun t => ?_, fun n l h1 h2 => ?_, fun x j h1 h2 h3 => ?_, fun k1 k2 i1 i2 e1 e2 l1 l2 h1 h2 hne hk1 hk2 hl1 hl2 he1 he2 hu1 hu2 => ?_⟩
  · by_cases e : x = k
    · subst e; rw [hk] at h2; cases h2; exact (set_iff hi).2 (.inr rfl)
    · exact set_true (M.pre x j (by omega) h2)
  · rw [put_get hm]
    rcases (set_iff hi).1 hl with hl | rfl
    · rw [if_neg fun hd' => hn (by rw [T.same ho hoj hd' hd]; exact hl)]
      exact M.gS1 j oj t hl hoj hd
    · rw [ho] at hoj; cases hoj
      rw [if_pos hd, T.get_after hk ho hd (Nat.lt_succ_self k) hlen, put_get hput, if_pos hd]
  · rw [put_get hm, if_neg (hall i o ((set_iff hi).2 (.inr rfl)) ho)]
    exact M.gS0 t fun j oj hl => hall j oj ((set_iff hi).2 (.inl hl))
  · rw [hcut, put_get hput]
    split
    · exact ⟨u, hv⟩
    · obtain ⟨u', hu'⟩ := M.vals t
      exact ⟨u', conc_mono hs.ext _ _ hu'⟩
  · rw [hhi n h1] at h2
    obtain ⟨k', j, h3, h4, h5, h6⟩ := M.names n l (by omega) h2
    exact ⟨k', j, later h3 h4 h5, h4, set_true h5, h6⟩
  · have hE := M.early x j (by omega) h2 (old h1 h2 h3)
    have hUx := hhi _ (hnle h1 h2)
    unfold EarlyOk at hE ⊢
    cases heff : (q x).2 with
    | none => trivial
    | skip =>
      rw [heff] at hE
      obtain ⟨l, hl⟩ := hE
      exact ⟨l, by rw [hUx]; exact hl⟩
    | new e =>
      rw [heff] at hE
      obtain ⟨l, hl, h4, h5, h6, h7⟩ := hE
      exact ⟨l, by rw [hUx]; exact hl, (h4.mono hU).block (hs.frame _ h4.lt h5), fun him => h5 (hs.img _ (by rw [hcut] at him; exact him) h4.lt), h6, h7⟩
  · rw [hhi _ (hnle h1 hk1)] at hu1
    rw [hhi _ (hnle h2 hk2)] at hu2
    exact M.apart k1 k2 i1 i2 e1 e2 l1 l2 (by omega) (by omega) hne hk1 hk2 (old h1 hk1 hl1) (old h2 hk2 hl2) he1 he2 hu1 hu2

set_option maxHeartbeats 1000000 in
/-- AN ACT. -/
theorem act_step (hcfg : CfgOk P cfg) (hr : RecOk P r) {k : Nat} {listed : Array Bool} {U : Img} {mS : TM} {a : Act} {w : World} (T : Tr P cfg r ops σ fl st q) (M : Mid P ops σ st q ι0 w0 k listed U mS a w) (hc : Closed ops listed) {i : Nat} {o : Oper} (hk : σ[k]? = some i) (ho : ops[i]? = some o) (hn : listed[i]? ≠ some true)
    (hah : ∀ b, (Region.before ops)[i]? = some b → ∀ j : Nat, b.testBit j = true → listed[j]? = some true) {rb : Option Nat} {n : Nat} {K : Act → World → Prop} {Q : Exit → Act → World → Prop}
    (hK : ∀ U' mS' a' w', Mid P ops σ st q ι0 w0 (k + 1) (listed.setIfInBounds i true) U' mS' a' w' → a'.defers = a.defers → K a' w') : wpOpIn (fence rb) n P ops Q i K a w := by
  have hag := M.agree T hc hk ho hn hah
  have h := T.run k i o hk ho
  unfold doOp at h
  unfold wpOpIn
  simp only [ho]
  rw [← wanted_same M.tmS o, guard_agree hag]
  split at h
  · rename_i hw
    rw [if_pos hw]
    split at h
    · cases h
    · rename_i ars har
      split at h
      · cases h
      · rename_i outs hos
        obtain ⟨tmps, htm, htv⟩ := only_ok (ι := cut U (st k).2.next) (m := (st k).1) (ts := tsOf o) fun t _ => M.vals t
        have hsame : ∀ t ∈ tsOf o, a.tmps.getD t undef = tmps.getD t undef := fun t ht => by
          have h1 := conc_mono (cut_ext U _) _ _ (htv t ht)
          rw [← hag t (tsOf_looks ht), M.tmS.2 t] at h1
          exact Option.some.inj h1
        have har' := har
        rw [aop_congr (m' := only (st k).1 (tsOf o)) only_ρ] at har'
        obtain ⟨x, hx, nx, w1, ι1, hrun, hok, hstep⟩ := op_ok hcfg har' (a := { a with tmps := tmps }) M.step.rel (cut_fresh U _) htm
        obtain ⟨zs, hz, hzs⟩ := bindL_mem hos hx
        refine ⟨fun _ _ => trivial, ?_⟩
        rw [Oper.semAt_eq _ _ _ (aop_defer har), exec_same har hsame, hrun]
        refine finish_ok hr hz hok hstep.rel (hstep.fresh (cut_fresh U _)) n fun y hy ι2 w2 v hv hstep2 => ?_
        obtain ⟨ys, hy1, hy2⟩ := bindL_mem h (hzs y hy)
        split at hy1
        · rename_i m' hm'
          cases hy1
          have he : (m', y.2) = st (k + 1) := List.mem_singleton.1 (hy2 _ (List.mem_singleton.2 rfl))
          have hs := hstep.trans hstep2
          obtain ⟨U', mS', M'⟩ := M.act_add T hk ho hn (ι2 := ι2) (w2 := w2) (v := y.1) (u := v) (by rw [← he]; exact hs) (by rw [← he]; exact hm') hv
          exact hK U' mS' _ w2 M' (put_defers _ _ _)
        · cases hy1
  · rename_i hw
    rw [if_neg hw]
    split at h
    · rename_i m' hm'
      simp only [Option.some.injEq, List.cons.injEq, and_true] at h
      obtain ⟨U', mS', M'⟩ := M.act_add T hk ho hn (ι2 := cut U (st k).2.next) (w2 := w) (v := .tuple []) (u := undef) (by rw [← h]; exact Step.refl M.step.rel) (by rw [← h]; exact hm') (conc_undef _)
      exact ⟨fun _ _ => trivial, hK U' mS' _ w M' (put_defers _ _ _)⟩
    · cases h

/-! ## the walk -/

theorem all_of_ready {listed : Array Bool} (T : Tr P cfg r ops σ fl st q) (hsz : listed.size = ops.size) (h : Region.ready .any ops listed = []) : ∀ x i : Nat, σ[x]? = some i → listed[i]? = some true := by
  intro x
  induction x using Nat.strongRecOn with
  | _ x ih =>
    intro i hx
    obtain ⟨o, b, ho, hb, hpos, _⟩ := T.plan.ahead x i hx
    have hlt := (Array.getElem?_eq_some_iff.1 ho).1
    cases hl : listed[i]? with
    | none => rw [Array.getElem?_eq_none_iff] at hl; omega
    | some v =>
      cases v with
      | true => rfl
      | false =>
        exfalso
        have hmem : i ∈ Region.ready .any ops listed := by
          unfold Region.ready
          rw [List.mem_filter]
          refine ⟨List.mem_range.2 hlt, ?_⟩
          simp only [Array.getD_eq_getD_getElem?, hl, Option.getD_some, Bool.not_false, ho, Option.map_some, Bool.true_and]
          rw [Array.all_eq_true']
          intro e he
          cases hbd : Region.binds .any e with
          | false => rfl
          | true =>
            obtain ⟨y, hy, hye⟩ := hpos e.on (before_direct hb ho he hbd)
            simp [ih y hy e.on hye]
        rw [h] at hmem
        cases hmem

theorem any_ok (hcfg : CfgOk P cfg) (hr : RecOk P r) (T : Tr P cfg r ops σ fl st q) {rb : Option Nat} {n : Nat} {a0 : Act} {Q : Exit → Act → World → Prop}
    (hQ : ∀ ι' a' w', Step P ι0 (st 0).2 w0 ι' (st σ.length).2 w' → TMok ι' (st σ.length).1 a'.tmps → a'.defers = a0.defers → Q .normal a' w') : ∀ (fuel : Nat) (L : List Nat) (listed : Array Bool) (p : Nat) (U : Img) (mS : TM) (a : Act) (w : World),
    Mid P ops σ st q ι0 w0 p listed U mS a w → HeapAt P ops σ p → Closed ops listed → a.defers = a0.defers → (∀ i, i < ops.size → listed[i]? ≠ some true → i ∈ L) → L.length ≤ fuel → wpAnyIn (fence rb) n P .any ops Q fuel listed a w := by
  have fin : ∀ (listed : Array Bool) (p : Nat) (U : Img) (mS : TM) (a : Act) (w : World), Mid P ops σ st q ι0 w0 p listed U mS a w → a.defers = a0.defers → (∀ x i : Nat, σ[x]? = some i → listed[i]? = some true) → Q .normal a w := by
    intro listed p U mS a w M hdef all
    have M' := M.adopts T σ.length M.len (Nat.le_refl _) fun x i _ _ h => all x i h
    refine hQ (cut U (st σ.length).2.next) a w M'.step ⟨by rw [M.tmS.1, M.nS, T.n_eq σ.length (Nat.le_refl _)], fun t => ?_⟩ hdef
    obtain ⟨u, hu⟩ := M'.vals t
    have hsame : mS.get t = (st σ.length).1.get t := by
      by_cases hex : ∃ (i : Nat) (o : Oper), ops[i]? = some o ∧ o.dst = some t
      · obtain ⟨i, o, ho, hd⟩ := hex
        obtain ⟨k, hk⟩ := T.plan.cover i (Array.getElem?_eq_some_iff.1 ho).1
        exact M.gS1 i o t (all k i hk) ho hd
      · rw [M.gS0 t fun i o _ ho hd => hex ⟨i, o, ho, hd⟩]
        exact (T.keep σ.length (Nat.zero_le _) (Nat.le_refl _) fun x i o _ _ _ ho hd => hex ⟨i, o, ho, hd⟩).symm
    have h1 := M.tmS.2 t
    rw [hsame, conc_mono (cut_ext U _) _ _ hu] at h1
    rw [hu, h1]
  intro fuel
  induction fuel with
  | zero =>
    intro L listed p U mS a w M _ _ hdef hL hlen
    have hnil : L = [] := List.eq_nil_of_length_eq_zero (by omega)
    subst hnil
    have all : ∀ i, i < ops.size → listed[i]? = some true := fun i hi => by
      by_cases h : listed[i]? = some true
      · exact h
      · exact absurd (hL i hi h) (by simp)
    refine ⟨?_, fin listed p U mS a w M hdef fun x i hx => ?_⟩
    · unfold Region.ready
      rw [List.filter_eq_nil_iff]
      intro i hi
      simp [all i (List.mem_range.1 hi)]
    · obtain ⟨o, ho⟩ := T.op hx
      exact all i (Array.getElem?_eq_some_iff.1 ho).1
  | succ fuel ih =>
    intro L listed p U mS a w M hheap hc hdef hL hlen
    refine ⟨fun hnil => fin listed p U mS a w M hdef (all_of_ready T M.size hnil), fun i hi => ?_⟩
    obtain ⟨hlt, hlf⟩ := ready_spec hi
    have hn : listed[i]? ≠ some true := fun e => by simp [Array.getD_eq_getD_getElem?, e] at hlf
    obtain ⟨k, hk⟩ := T.plan.cover i hlt
    obtain ⟨o, ho⟩ := T.op hk
    have hah : ∀ b, (Region.before ops)[i]? = some b → ∀ j : Nat, b.testBit j = true → listed[j]? = some true := fun b hb j hj => ready_ahead hc hi hb hj
    have hpk : p ≤ k := by
      rcases Nat.lt_or_ge k p with h | h
      · exact absurd (M.pre k i h hk) hn
      · exact h
    have hiL := hL i hlt hn
    have next : ∀ p', HeapAt P ops σ p' → ∀ U' mS' a' w', Mid P ops σ st q ι0 w0 p' (listed.setIfInBounds i true) U' mS' a' w' → a'.defers = a.defers → wpAnyIn (fence rb) n P .any ops Q fuel (listed.setIfInBounds i true) a' w' := fun p' hp' U' mS' a' w' M' hd' => by
      refine ih (L.erase i) _ p' U' mS' a' w' M' hp' (closed_set hc hi) (hd'.trans hdef) (fun j hj hnj => ?_) (by rw [List.length_erase_of_mem hiL]; omega)
      have hne : j ≠ i := fun e => hnj ((set_iff (by rw [M.size]; exact hlt)).2 (.inr e))
      exact (List.mem_erase_of_ne hne).2 (hL j hj fun e => hnj (set_true e))
    cases hact : actsO P o with
    | false => exact quiet_step T M hheap hc hk ho hpk hn hah hact (next p hheap)
    | true =>
      have M' := M.adopts T k hpk (by have := at_lt hk; omega) fun x j _ hxk hxj => by
        obtain ⟨o', b, ho', hb, _, _, hacts⟩ := T.plan.ahead k i hk
        rw [ho] at ho'; cases ho'
        exact hah b hb j (hacts hact x j hxk hxj)
      exact act_step hcfg hr T M' hc hk ho hn hah (next (k + 1) (.inr ⟨i, o, by simpa using hk, ho, hact⟩))

/-- REGIONS WHOSE ORDER IS DRAWN. -/
theorem drawn_ok (hm : P.follows .mixedOrders = true) (hcfg : CfgOk P cfg) (hr : RecOk P r) : DrawnOk P cfg r := by
  intro id ops m A m' A' h n ι w a rb Q hrel hf ht hQ
  obtain ⟨σ, fl, st, q, T, s0, se⟩ := tr_of h
  refine wpIn_region_any hm ?_
  obtain ⟨w1, hw1⟩ : ∃ w1 : World, w1 = { w with drawn := w.drawn + 1 } := ⟨_, rfl⟩
  rw [← hw1]
  have hst : Step P ι A w ι A w1 := Step.of_heap hrel (by rw [hw1]; rfl)
  have hcut : cut ι A.next = ι := funext fun k => by
    unfold cut
    split
    · rfl
    · rename_i hk; exact (hf k (by omega)).symm
  have hfalse : ∀ {i : Nat}, (Array.replicate ops.size false)[i]? ≠ some true := fun {i} e => by
    rw [Array.getElem?_replicate] at e
    split at e
    · exact absurd (Option.some.inj e) (by decide)
    · exact nomatch e
  have M : Mid P ops σ st q ι w1 0 (Array.replicate ops.size false) ι m a w1 :=
    { len := Nat.zero_le _
      size := by simp
      pre := fun k i hk => by omega
      quiet := fun k i o _ _ _ hl => absurd hl hfalse
      step := by rw [s0, hcut]; exact Step.refl hst.rel
      tmS := ht
      nS := by rw [s0]
      gS1 := fun i o t hl => absurd hl hfalse
      gS0 := fun t _ => by rw [s0]
      vals := fun t => by rw [s0, hcut]; exact ⟨_, ht.2 t⟩
      names := fun k l hk hl => by
        rw [s0] at hk
        rw [hf k hk] at hl
        exact nomatch hl
      early := fun k i _ _ hl => absurd hl hfalse
      apart := fun k k' i i' e e' l l' _ _ _ _ _ hl => absurd hl hfalse }
  refine any_ok hcfg hr T (a0 := a) (fun ι' a' w' hs ht' hd => ?_) ops.size (List.range ops.size) _ 0 ι m a w1 M (.inl rfl) (closed_start ops _) rfl (fun i hi _ => List.mem_range.2 hi) (by simp)
  rw [s0, se] at hs
  rw [se] at ht'
  exact hQ ι' a' w' (hst.trans hs) ht' hd

/-- THE EVALUATOR, WHOLE. -/
theorem eval_ok (hm : P.follows .mixedOrders = true) (hcfg : CfgOk P cfg) (N : Nat) : RecOk P (recN P cfg N) := recN_ok hcfg (fun _ hr => drawn_ok hm hcfg hr) N

end
end Go.Eng
