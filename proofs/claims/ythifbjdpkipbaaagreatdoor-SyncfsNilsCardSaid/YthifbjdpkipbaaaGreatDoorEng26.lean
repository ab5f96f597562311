/- THE ENGINE: drawn regions: the plan; a part of an image. -/
import Derived.Test.YthifbjdpkipbaaaGreatDoorEng25
set_option linter.all false
namespace Go.Eng

/-! ## values that are told alike -/

mutual
theorem avEq_ok : ∀ (a b : AV), avEq a b = true → a = b
  | .bool a, b, h => by cases b <;> first | (exfalso; simp [avEq] at h; done) | (simp [avEq] at h; subst h; rfl)
  | .int k a, b, h => by
    cases b <;> first | (exfalso; simp [avEq] at h; done) | skip
    simp [avEq] at h
    rw [h.1, h.2]
  | .str a, b, h => by cases b <;> first | (exfalso; simp [avEq] at h; done) | (simp [avEq] at h; subst h; rfl)
  | .nilptr, b, h => by cases b <;> first | (exfalso; simp [avEq] at h; done) | rfl
  | .ptr f o, b, h => by
    cases b <;> first | (exfalso; simp [avEq] at h; done) | skip
    simp [avEq] at h
    rw [h.1, h.2]
  | .nilslice, b, h => by cases b <;> first | (exfalso; simp [avEq] at h; done) | rfl
  | .slice f o n c, b, h => by
    cases b <;> first | (exfalso; simp [avEq] at h; done) | skip
    simp [avEq] at h
    obtain ⟨⟨⟨rfl, rfl⟩, rfl⟩, rfl⟩ := h
    rfl
  | .emp k, b, h => by cases b <;> first | (exfalso; simp [avEq] at h; done) | (simp [avEq] at h; subst h; rfl)
  | .nilmap, b, h => by cases b <;> first | (exfalso; simp [avEq] at h; done) | rfl
  | .map k, b, h => by cases b <;> first | (exfalso; simp [avEq] at h; done) | (simp [avEq] at h; subst h; rfl)
  | .func f x y, b, h => by
    cases b <;> first | (exfalso; simp [avEq] at h; done) | skip
    rename_i g z u
    simp only [avEq, Bool.and_eq_true, beq_iff_eq] at h
    rw [h.1.1, avEqs_ok x z h.1.2, avEqs_ok y u h.2]
  | .yield k, b, h => by cases b <;> first | (exfalso; simp [avEq] at h; done) | (simp [avEq] at h; subst h; rfl)
  | .nilFunc, b, h => by cases b <;> first | (exfalso; simp [avEq] at h; done) | rfl
  | .iface t v, b, h => by
    cases b <;> first | (exfalso; simp [avEq] at h; done) | skip
    rename_i u w
    simp only [avEq, Bool.and_eq_true, beq_iff_eq] at h
    rw [h.1, avEq_ok v w h.2]
  | .nilIface, b, h => by cases b <;> first | (exfalso; simp [avEq] at h; done) | rfl
  | .agg x, b, h => by
    cases b <;> first | (exfalso; simp [avEq] at h; done) | skip
    rename_i y
    simp only [avEq] at h
    rw [avEqs_ok x y h]
  | .tuple x, b, h => by
    cases b <;> first | (exfalso; simp [avEq] at h; done) | skip
    rename_i y
    simp only [avEq] at h
    rw [avEqs_ok x y h]
theorem avEqs_ok : ∀ (a b : List AV), avEqs a b = true → a = b
  | [], b, h => by cases b <;> first | (exfalso; simp [avEqs] at h; done) | rfl
  | a :: as, b, h => by
    cases b <;> first | (exfalso; simp [avEqs] at h; done) | skip
    rename_i b bs
    simp only [avEqs, Bool.and_eq_true] at h
    rw [avEq_ok a b h.1, avEqs_ok as bs h.2]
end

/-! ## what stands directly ahead is told -/

theorem foldBits_mono (acc : Array Nat) : ∀ (l : List Edge) (s i : Nat), s.testBit i = true → (l.foldl (fun s e => if Region.binds .any e then s ||| 2 ^ e.on ||| acc.getD e.on 0 else s) s).testBit i = true
  | [], _, _, h => h
  | e :: l, s, i, h => by
    simp only [List.foldl_cons]
    refine foldBits_mono acc l _ i ?_
    split
    · simp [Nat.testBit_or, h]
    · exact h

theorem foldBits_mem (acc : Array Nat) : ∀ (l : List Edge) (s : Nat) (e : Edge), e ∈ l → Region.binds .any e = true → (l.foldl (fun s e => if Region.binds .any e then s ||| 2 ^ e.on ||| acc.getD e.on 0 else s) s).testBit e.on = true
  | e' :: l, s, e, he, hb => by
    simp only [List.foldl_cons]
    rcases List.mem_cons.1 he with rfl | he
    · exact foldBits_mono acc l _ _ (by simp [hb, Nat.testBit_or])
    · exact foldBits_mem acc l _ e he hb

def DirOk (ops : List Oper) (acc : Array Nat) : Prop :=
  ∀ (j b : Nat) (o : Oper), acc[j]? = some b → ops[j]? = some o → ∀ e ∈ o.after, Region.binds .any e = true → b.testBit e.on = true

theorem dir_push {ops : List Oper} {acc : Array Nat} (h : DirOk ops acc) {o : Oper} (ho : ops[acc.size]? = some o) : DirOk ops (bitStep acc o) := by
  intro j b o' hb ho' e he hbd
  by_cases hj : j = acc.size
  · subst hj
    rw [bitStep, Array.getElem?_push_size] at hb
    cases hb
    rw [ho] at ho'; cases ho'
    rw [← Array.foldl_toList]
    exact foldBits_mem acc _ _ e (by simpa using he) hbd
  · refine h j b o' ?_ ho' e he hbd
    rw [bitStep, Array.getElem?_push, if_neg hj] at hb
    exact hb

theorem dir_fold {ops : List Oper} : ∀ (l : List Oper) (acc : Array Nat), DirOk ops acc → (∀ k, l[k]? = ops[acc.size + k]?) → DirOk ops (l.foldl bitStep acc)
  | [], _, h, _ => h
  | o :: l, acc, h, hl => by
    have h0 := hl 0
    simp only [List.getElem?_cons_zero, Nat.add_zero] at h0
    refine dir_fold l _ (dir_push h h0.symm) fun k => ?_
    have := hl (k + 1)
    simp only [List.getElem?_cons_succ] at this
    rw [this]
    simp only [bitStep, Array.size_push]
    congr 1
    omega

theorem before_fold (ops : Array Oper) : Region.before ops = ops.toList.foldl bitStep #[] := by
  unfold Region.before
  rw [← Array.foldl_toList]
  rfl

theorem before_direct {ops : Array Oper} {i b : Nat} {o : Oper} (hb : (Region.before ops)[i]? = some b) (ho : ops[i]? = some o) {e : Edge} (he : e ∈ o.after) (hbd : Region.binds .any e = true) : b.testBit e.on = true := by
  rw [before_fold] at hb
  exact dir_fold (ops := ops.toList) ops.toList #[] (fun j b o h => by simp at h) (fun k => by simp) i b o hb (by simpa using ho) e he hbd

/-! ## the plan -/

theorem mem_take_iff {α : Type} {σ : List α} {k : Nat} {j : α} : j ∈ σ.take k ↔ ∃ q, q < k ∧ σ[q]? = some j := by
  rw [List.mem_iff_getElem?]
  constructor
  · rintro ⟨q, hq⟩
    rw [List.getElem?_take] at hq
    split at hq
    · rename_i h; exact ⟨q, h, hq⟩
    · cases hq
  · rintro ⟨q, h, hq⟩
    exact ⟨q, by rw [List.getElem?_take, if_pos h, hq]⟩

section
variable {P : Program}

theorem ordChk_ok {l : List Oper} {b : List Nat} : ∀ {rest : List Nat} {done : Nat} {pre : List Nat}, ordChk P l b rest done = true → (∀ j, done.testBit j = true ↔ j ∈ pre) → ∀ k i, rest[k]? = some i →
    ∃ o m, l[i]? = some o ∧ b[i]? = some m ∧ (∀ j, m.testBit j = true → j ∈ pre ++ rest.take k) ∧ i ∉ pre ++ rest.take k ∧ (actsO P o = true → ∀ j ∈ pre ++ rest.take k, m.testBit j = true)
  | [], _, _, _, _, k, i, hk => by simp at hk
  | i0 :: rest, done, pre, h, hd, k, i, hk => by
    simp only [ordChk, Bool.and_eq_true] at h
    obtain ⟨h1, h2⟩ := h
    cases k with
    | zero =>
      simp only [List.getElem?_cons_zero, Option.some.injEq] at hk
      subst hk
      split at h1
      · rename_i o m ho hm
        simp only [Bool.and_eq_true, Bool.not_eq_true', beq_iff_eq, Bool.or_eq_true] at h1
        obtain ⟨⟨h3, h4⟩, h5⟩ := h1
        refine ⟨o, m, ho, hm, fun j hj => ?_, fun hi => ?_, fun ha j hj => ?_⟩
        · rw [← h4, Nat.testBit_and, Bool.and_eq_true] at hj
          simpa using (hd j).1 hj.2
        · rw [List.take_zero, List.append_nil] at hi
          rw [(hd i0).2 hi] at h3; cases h3
        · rw [List.take_zero, List.append_nil] at hj
          rcases h5 with h5 | h5
          · rw [ha] at h5; cases h5
          · rw [h5]; exact (hd j).2 hj
      · cases h1
    | succ k =>
      simp only [List.getElem?_cons_succ] at hk
      have := ordChk_ok (pre := pre ++ [i0]) h2 (fun j => by
        simp only [Nat.testBit_or, Nat.testBit_two_pow, Bool.or_eq_true, decide_eq_true_eq, hd j, List.mem_append, List.mem_singleton]
        exact ⟨fun h => h.imp id Eq.symm, fun h => h.imp id Eq.symm⟩) k i hk
      simpa [List.append_assoc] using this

variable (P)

/-- the begin, or a place behind an act -/
def HeapAt (ops : Array Oper) (σ : List Nat) (p : Nat) : Prop := p = 0 ∨ ∃ (c : Nat) (oc : Oper), σ[p - 1]? = some c ∧ ops[c]? = some oc ∧ actsO P oc = true

structure PlanOk (ops : Array Oper) (σ : List Nat) (fl : List (Nat × List Nat)) : Prop where
  cover : ∀ i : Nat, i < ops.size → ∃ k : Nat, σ[k]? = some i
  ahead : ∀ k i : Nat, σ[k]? = some i → ∃ o b, ops[i]? = some o ∧ (Region.before ops)[i]? = some b ∧ (∀ j : Nat, b.testBit j = true → ∃ q : Nat, q < k ∧ σ[q]? = some j) ∧ (∀ q : Nat, q < k → σ[q]? ≠ some i) ∧ (actsO P o = true → ∀ q j : Nat, q < k → σ[q]? = some j → b.testBit j = true)
  pair : ∀ (i j : Nat) (oi oj : Oper) (t : Nat), i ≠ j → ops[i]? = some oi → ops[j]? = some oj → oj.dst = some t → oi.dst ≠ some t ∧ (t ∈ oi.looksAt ops → (∃ b, (Region.before ops)[i]? = some b ∧ b.testBit j = true) ∨ ∃ b, (Region.before ops)[j]? = some b ∧ b.testBit i = true)
  slots : ∀ (k i : Nat) (o : Oper) (b p : Nat), σ[k]? = some i → ops[i]? = some o → readsO P o = true → (Region.before ops)[i]? = some b → p < k → HeapAt P ops σ p → (∀ (q c : Nat) (oc : Oper), p ≤ q → σ[q]? = some c → ops[c]? = some oc → actsO P oc = true → b.testBit c = false) → ∃ ps, (k, ps) ∈ fl ∧ p ∈ ps

variable {P}

theorem actAt_iff {ops : Array Oper} {σ : List Nat} {q : Nat} : actAt P ops.toList σ q = true ↔ ∃ c oc, σ[q]? = some c ∧ ops[c]? = some oc ∧ actsO P oc = true := by
  unfold actAt
  cases hq : σ[q]? with
  | none => simp
  | some i =>
    simp only [Array.getElem?_toList]
    cases ho : ops[i]? with
    | none => simp [ho]
    | some o => simp [ho]

theorem planOf_ok {ops : Array Oper} {p : Plan} (h : planOf P ops = some p) : PlanOk P ops p.order p.floats := by
  unfold planOf at h
  simp only at h
  generalize (List.flatMap _ _ ++ tailOf _ _ : List Nat) = σ at h
  split at h
  · rename_i hchk
    cases h
    simp only [Bool.and_eq_true] at hchk
    obtain ⟨⟨h1, h2⟩, h3⟩ := hchk
    have hord := ordChk_ok (pre := []) h1 (fun j => by simp)
    simp only [List.nil_append, Array.getElem?_toList, mem_take_iff] at hord
    refine ⟨fun i hi => ?_, fun k i hk => ?_, fun i j oi oj t hij hoi hoj hdst => ?_, fun k i o b p hk ho hro hb hpk hheap hnone => ?_⟩
    · simp only [List.all_eq_true, List.mem_range, Array.length_toList] at h2
      have := h2 i hi
      rw [List.contains_iff_mem, List.mem_iff_getElem?] at this
      exact this
    · obtain ⟨o, m, ho, hm, ha, hb, hc⟩ := hord k i hk
      exact ⟨o, m, ho, hm, ha, fun q hq he => hb ⟨q, hq, he⟩, fun hact q j hq hj => hc hact j ⟨q, hq, hj⟩⟩
    · simp only [pairChk, List.all_eq_true, List.mem_range, Array.length_toList] at h3
      have := h3 i (Array.getElem?_eq_some_iff.1 hoi).1 j (Array.getElem?_eq_some_iff.1 hoj).1
      simp only [Array.getElem?_toList, hoi, hoj, hdst, Bool.or_eq_true, beq_iff_eq, hij, false_or, Bool.and_eq_true, bne_iff_ne, ne_eq, Bool.not_eq_true'] at this
      refine ⟨this.1, fun ht => ?_⟩
      have get : ∀ {x y : Nat}, ((Region.before ops)[x]?.getD 0).testBit y = true → ∃ b, (Region.before ops)[x]? = some b ∧ b.testBit y = true := fun {x y} h => by
        cases hx : (Region.before ops)[x]? with
        | none => simp [hx] at h
        | some b => exact ⟨b, rfl, by simpa [hx] using h⟩
      rcases this.2 with (h | h) | h
      · rw [← Bool.not_eq_true, List.contains_iff_mem] at h; exact absurd ht h
      · exact .inl (get h)
      · exact .inr (get h)
    · refine ⟨slotsOf P ops.toList σ (Region.before ops).toList k i, ?_, ?_⟩
      · unfold floatsOf
        rw [List.mem_filterMap]
        refine ⟨k, List.mem_range.2 ?_, by simp [hk, ho, hro]⟩
        exact (List.getElem?_eq_some_iff.1 hk).1
      · unfold slotsOf
        rw [List.mem_filter]
        refine ⟨List.mem_range.2 hpk, ?_⟩
        rw [Bool.and_eq_true]
        constructor
        · rw [Bool.or_eq_true, beq_iff_eq, actAt_iff]
          exact hheap
        · rw [List.all_eq_true]
          intro q hq
          simp only [Bool.or_eq_true, decide_eq_true_eq, Bool.not_eq_true', Array.getElem?_toList]
          by_cases hqp : q < p
          · exact .inl (.inl hqp)
          · cases hact : actAt P ops.toList σ q with
            | false => exact .inl (.inr rfl)
            | true =>
              obtain ⟨c, oc, hc, hoc, hac⟩ := actAt_iff.1 hact
              right
              simpa [hb, hc] using hnone q c oc (by omega) hc hoc hac
  · cases h

/-! ## the trace -/

theorem bindL_inv {α β : Type} {f : α → Option (List β)} : ∀ {xs : List α} {ys : List β} {y : β}, bindL f xs = some ys → y ∈ ys → ∃ x ∈ xs, ∃ zs, f x = some zs ∧ y ∈ zs
  | [], ys, y, h, hy => by simp only [bindL] at h; cases h; cases hy
  | [x], ys, y, h, hy => by simp only [bindL] at h; exact ⟨x, by simp, ys, h, hy⟩
  | x :: x' :: xs, ys, y, h, hy => by
    simp only [bindL] at h
    split at h
    · cases h
    · rename_i a ha
      split at h
      · cases h
      · rename_i b hb
        cases h
        rcases List.mem_append.1 hy with hy | hy
        · exact ⟨x, by simp, a, ha, hy⟩
        · obtain ⟨x2, h1, zs, h2, h3⟩ := bindL_inv (f := f) (xs := x' :: xs) hb hy
          exact ⟨x2, List.mem_cons_of_mem _ h1, zs, h2, h3⟩

theorem doList_st {cfg : Cfg} {r : Rec} {ops : List Oper} : ∀ {σ : List Nat} {m : TM} {A : AH} {tr : List (TM × AH)} {e : TM × AH}, doList P cfg r ops σ m A = some (tr, e) →
    ∃ st : Nat → TM × AH, st 0 = (m, A) ∧ st σ.length = e ∧ (∀ k, k < σ.length → tr[k]? = some (st k)) ∧
      ∀ k i, σ[k]? = some i → ∃ o, ops[i]? = some o ∧ doOp P cfg r ops o (st k).1 (st k).2 = some [st (k + 1)] ∧ (st k).2.next ≤ (st (k + 1)).2.next
  | [], m, A, tr, e, h => by
    simp only [doList, Option.some.injEq, Prod.mk.injEq] at h
    exact ⟨fun _ => (m, A), rfl, h.2, fun k hk => by simp at hk, fun k i hk => by simp at hk⟩
  | i :: σ, m, A, tr, e, h => by
    simp only [doList] at h
    split at h
    · cases h
    · rename_i o ho
      split at h
      · rename_i m' A' hop
        split at h
        · rename_i hle
          split at h
          · rename_i tr' e' hrec
            simp only [Option.some.injEq, Prod.mk.injEq] at h
            obtain ⟨h1, h2⟩ := h
            subst h1; subst h2
            obtain ⟨st, s0, se, str, srun⟩ := doList_st hrec
            refine ⟨fun k => match k with | 0 => (m, A) | k + 1 => st k, rfl, se, fun k hk => ?_, fun k i' hk => ?_⟩
            · cases k with
              | zero => rfl
              | succ k => simp only [List.length_cons] at hk; simpa using str k (by omega)
            · cases k with
              | zero =>
                simp only [List.getElem?_cons_zero, Option.some.injEq] at hk
                subst hk
                refine ⟨o, ho, ?_, ?_⟩
                · show doOp P cfg r ops o m A = some [st 0]
                  rw [s0]; exact hop
                · show A.next ≤ (st 0).2.next
                  rw [s0]; exact Nat.le_of_ble_eq_true hle
              | succ k =>
                simp only [List.getElem?_cons_succ] at hk
                exact srun k i' hk
          · cases h
        · cases h
      · cases h

theorem sameAt_ok {cfg : Cfg} {o : Oper} {m : TM} {v : Option AV} {tr : List (TM × AH)} : ∀ {ps : List Nat}, sameAt P cfg o m v tr ps = true → ∀ p ∈ ps, ∃ s u A', tr[p]? = some s ∧ aop P cfg s.2 m o = some [(.val u, A')] ∧ ∀ x, v = some x → u = x
  | [], _, p, hp => by cases hp
  | p0 :: ps, h, p, hp => by
    simp only [sameAt, Bool.and_eq_true] at h
    rcases List.mem_cons.1 hp with rfl | hp
    · have h1 := h.1
      split at h1
      · rename_i s hs
        split at h1
        · rename_i u A' hu
          refine ⟨s, u, A', hs, hu, fun x hx => ?_⟩
          subst hx
          exact avEq_ok _ _ h1
        · cases h1
      · cases h1
    · exact sameAt_ok h.2 p hp

theorem checkFloats_ok {cfg : Cfg} {ops : List Oper} {σ : List Nat} {tr : List (TM × AH)} {e : TM} : ∀ {fl : List (Nat × List Nat)}, checkFloats P cfg ops σ tr e fl = true → ∀ k ps, (k, ps) ∈ fl → ∃ i s o, σ[k]? = some i ∧ tr[k]? = some s ∧ ops[i]? = some o ∧
      (wantedA ops s.1 o = true → sameAt P cfg o s.1 (o.dst.map e.get) tr ps = true)
  | [], _, _, _, h => by cases h
  | (k0, ps0) :: fl, h, k, ps, hm => by
    simp only [checkFloats, Bool.and_eq_true] at h
    rcases List.mem_cons.1 hm with hm | hm
    · cases hm
      have h1 := h.1
      split at h1
      · rename_i i s hi hs
        split at h1
        · rename_i o ho
          refine ⟨i, s, o, hi, hs, ho, fun hw => ?_⟩
          rw [if_pos hw] at h1
          exact h1
        · cases h1
      · cases h1
    · exact checkFloats_ok h.2 k ps hm

/-! ## a part of an image -/

def cut (U : Img) (b : Nat) : Img := fun n => if n < b then U n else none

theorem cut_ext (U : Img) (b : Nat) : Exts (cut U b) U := fun n l h => by
  unfold cut at h; split at h
  · exact h
  · cases h

theorem cut_le (U : Img) {b b' : Nat} (h : b ≤ b') : Exts (cut U b) (cut U b') := fun n l hn => by
  unfold cut at hn ⊢; split at hn
  · rw [if_pos (by omega)]; exact hn
  · cases hn

theorem cut_fresh (U : Img) (A : AH) : Fresh (cut U A.next) A := fun n hn => by unfold cut; rw [if_neg (by omega)]

def Within (ι ι' : Img) : Prop := ∀ n, (ι n).isSome = true → (ι' n).isSome = true

mutual
theorem conc_within {ι1 ι2 ι3 : Img} (hd : Within ι1 ι2) (he : Exts ι2 ι3) : ∀ (v : AV) (u1 u3 : Value), conc ι1 v = some u1 → conc ι3 v = some u3 → conc ι2 v = some u3
  | .bool _, _, _, _, e | .int _ _, _, _, _, e | .str _, _, _, _, e | .nilptr, _, _, _, e | .nilslice, _, _, _, e | .nilmap, _, _, _, e | .nilFunc, _, _, _, e | .nilIface, _, _, _, e => by simpa [conc] using e
  | .ptr f o, u1, u3, h1, h3 => by
    simp only [conc] at h1 h3 ⊢
    split at h1
    · rename_i l hl
      obtain ⟨l2, h2⟩ := Option.isSome_iff_exists.1 (hd f (by rw [hl]; rfl))
      rw [he f l2 h2] at h3
      rw [h2]; exact h3
    · cases h1
  | .slice f o len (.ex n), u1, u3, h1, h3 => by
    simp only [conc] at h1 h3 ⊢
    split at h1
    · rename_i l hl
      obtain ⟨l2, h2⟩ := Option.isSome_iff_exists.1 (hd f (by rw [hl]; rfl))
      rw [he f l2 h2] at h3
      rw [h2]; exact h3
    · cases h1
  | .slice f o len (.gr s r), u1, u3, h1, h3 => by
    simp only [conc] at h1 h3 ⊢
    split at h1
    · rename_i l hl
      obtain ⟨l2, h2⟩ := Option.isSome_iff_exists.1 (hd f (by rw [hl]; rfl))
      rw [he f l2 h2] at h3
      rw [h2]; exact h3
    · cases h1
  | .emp f, u1, u3, h1, h3 => by
    simp only [conc] at h1 h3 ⊢
    split at h1
    · rename_i l hl
      obtain ⟨l2, h2⟩ := Option.isSome_iff_exists.1 (hd f (by rw [hl]; rfl))
      rw [he f l2 h2] at h3
      rw [h2]; exact h3
    · cases h1
  | .map f, u1, u3, h1, h3 => by
    simp only [conc] at h1 h3 ⊢
    split at h1
    · rename_i l hl
      obtain ⟨l2, h2⟩ := Option.isSome_iff_exists.1 (hd f (by rw [hl]; rfl))
      rw [he f l2 h2] at h3
      rw [h2]; exact h3
    · cases h1
  | .yield f, u1, u3, h1, h3 => by
    simp only [conc] at h1 h3 ⊢
    split at h1
    · rename_i l hl
      obtain ⟨l2, h2⟩ := Option.isSome_iff_exists.1 (hd f (by rw [hl]; rfl))
      rw [he f l2 h2] at h3
      rw [h2]; exact h3
    · cases h1
  | .func f a b, u1, u3, h1, h3 => by
    simp only [conc] at h1 h3 ⊢
    split at h1
    · rename_i x y hx hy
      split at h3
      · rename_i x' y' hx' hy'
        rw [concs_within hd he a x x' hx hx', concs_within hd he b y y' hy hy']; exact h3
      · cases h3
    · cases h1
  | .iface t v, u1, u3, h1, h3 => by
    simp only [conc] at h1 h3 ⊢
    split at h1
    · rename_i x hx
      split at h3
      · rename_i x' hx'
        rw [conc_within hd he v x x' hx hx']; exact h3
      · cases h3
    · cases h1
  | .agg cs, u1, u3, h1, h3 => by
    simp only [conc] at h1 h3 ⊢
    split at h1
    · rename_i x hx
      split at h3
      · rename_i x' hx'
        rw [concs_within hd he cs x x' hx hx']; exact h3
      · cases h3
    · cases h1
  | .tuple cs, u1, u3, h1, h3 => by
    simp only [conc] at h1 h3 ⊢
    split at h1
    · rename_i x hx
      split at h3
      · rename_i x' hx'
        rw [concs_within hd he cs x x' hx hx']; exact h3
      · cases h3
    · cases h1
theorem concs_within {ι1 ι2 ι3 : Img} (hd : Within ι1 ι2) (he : Exts ι2 ι3) : ∀ (v : List AV) (u1 u3 : List Value), concs ι1 v = some u1 → concs ι3 v = some u3 → concs ι2 v = some u3
  | [], _, _, _, e => by simpa [concs] using e
  | v :: vs, u1, u3, h1, h3 => by
    simp only [concs] at h1 h3 ⊢
    split at h1
    · rename_i x y hx hy
      split at h3
      · rename_i x' y' hx' hy'
        rw [conc_within hd he v x x' hx hx', concs_within hd he vs y y' hy hy']; exact h3
      · cases h3
    · cases h1
end

theorem concEs_within {ι1 ι2 ι3 : Img} (hd : Within ι1 ι2) (he : Exts ι2 ι3) : ∀ {es : List AMapEntry} {c1 c3 : List MapEntry}, concEs ι1 es c1 → concEs ι3 es c3 → concEs ι2 es c3
  | [], [], [], _, _ => trivial
  | _ :: _, _ :: _, _ :: _, h1, h3 => ⟨conc_within hd he _ _ _ h1.1 h3.1, conc_within hd he _ _ _ h1.2.1 h3.2.1, h3.2.2.1, concEs_within hd he h1.2.2.2 h3.2.2.2⟩
  | [], _ :: _, _, h, _ => h.elim
  | [], [], _ :: _, _, h => h.elim
  | _ :: _, [], _, h, _ => h.elim
  | _ :: _, _ :: _, [], _, h => h.elim

theorem EntOk.within {ι1 ι2 ι3 : Img} (hd : Within ι1 ι2) (he : Exts ι2 ι3) {w1 w3 : World} {l1 l3 : Loc} : ∀ {e : Ent}, EntOk P ι1 w1 l1 e → EntOk P ι3 w3 l3 e → EntOk P ι2 w3 l3 e
  | .cells c n ty g sf, ⟨_, _, _, hc1⟩, ⟨cs, fr, hb, hc⟩ => ⟨cs, fr, hb, hc.1, hc.2.1, hc.2.2.1, fun o v ho => by
      obtain ⟨_, u1, hu1, _⟩ := hc1.2.2.2.1 o v ho
      obtain ⟨h2, u, hu, hcs⟩ := hc.2.2.2.1 o v ho
      exact ⟨h2, u, conc_within hd he _ _ _ hu1 hu, hcs⟩, hc.2.2.2.2⟩
  | .map .., ⟨_, _, h1⟩, ⟨cs, hb, h3⟩ => ⟨cs, hb, concEs_within hd he h1 h3⟩
  | .strIter .., _, e => e
  | .mapIter none .., _, ⟨h0, mb, hb, hm⟩ => ⟨h0, mb, hb, hm⟩
  | .mapIter (some f) .., ⟨_, _, _, lf1, hf1, _⟩, ⟨h0, mb, hb, lf, hf, hm⟩ => by
    obtain ⟨l2, h2⟩ := Option.isSome_iff_exists.1 (hd f (by rw [hf1]; rfl))
    have := he f l2 h2
    rw [hf] at this; cases this
    exact ⟨h0, mb, hb, lf, h2, hm⟩
  | .loop _, ⟨_, _, _, _, hc1⟩, ⟨fn, tmps, df, hb, hc⟩ => ⟨fn, tmps, df, hb, hc.1, fun t => conc_within hd he _ _ _ (hc1.2 t) (hc.2 t)⟩
  | .deferred _, _, e => e

/-! ## some temporaries alone -/

def tsOf (o : Oper) : List Nat := o.op.operands.toList.filterMap fun | .tmp t => some t | _ => none

theorem mem_tsOf {o : Oper} {t : Nat} : t ∈ tsOf o ↔ .tmp t ∈ o.op.operands := by
  unfold tsOf
  rw [List.mem_filterMap]
  constructor
  · rintro ⟨x, hx, h⟩
    split at h
    · cases h; simpa using hx
    · cases h
  · intro h
    exact ⟨.tmp t, by simpa using h, rfl⟩

theorem tsOf_looks {o : Oper} {ops : Array Oper} {t : Nat} (h : t ∈ tsOf o) : t ∈ o.looksAt ops := List.mem_append_left _ h

def only (m : TM) (ts : List Nat) : TM := ⟨ts.foldr (fun i t => updT t i (m.get i)) (fun _ => .tuple []), ts.foldr (fun i n => max (i + 1) n) 0⟩

theorem only_get (m : TM) : ∀ (ts : List Nat) (t : Nat), (only m ts).get t = if t ∈ ts then m.get t else .tuple []
  | [], t => by simp [only, TM.get]
  | i :: ts, t => by
    have ih := only_get m ts t
    simp only [only, TM.get, List.foldr_cons, updT_get] at ih ⊢
    by_cases e : t = i
    · subst e; simp
    · rw [if_neg e, ih]; simp [e]

theorem only_n (m : TM) : ∀ (ts : List Nat) (t : Nat), t ∈ ts → t < (only m ts).n
  | i :: ts, t, h => by
    simp only [only, List.foldr_cons]
    rcases List.mem_cons.1 h with rfl | h
    · omega
    · have := only_n m ts t h
      simp only [only] at this
      omega

theorem only_ρ {m : TM} {o : Oper} : ∀ x ∈ o.op.operands, ρ m x = ρ (only m (tsOf o)) x := fun x hx => by
  cases x with
  | tmp t => simp only [ρ, only_get]; rw [if_pos (mem_tsOf.2 hx)]
  | _ => rfl

theorem only_ok {ι : Img} {m : TM} {ts : List Nat} (h : ∀ t ∈ ts, ∃ u, conc ι (m.get t) = some u) : ∃ tmps : Array Value, TMok ι (only m ts) tmps ∧ ∀ t ∈ ts, conc ι (m.get t) = some (tmps.getD t undef) := by
  have key : ∀ t, t ∈ ts → ((Array.range (only m ts).n).map fun t => if t ∈ ts then (conc ι (m.get t)).getD undef else undef).getD t undef = (conc ι (m.get t)).getD undef := fun t ht => by
    have := only_n m ts t ht
    rw [Array.getD_eq_getD_getElem?, Array.getElem?_map, Array.getElem?_range, if_pos this]
    simp [ht]
  refine ⟨(Array.range (only m ts).n).map fun t => if t ∈ ts then (conc ι (m.get t)).getD undef else undef, ⟨by simp, fun t => ?_⟩, fun t ht => ?_⟩
  · rw [only_get]
    by_cases ht : t ∈ ts
    · rw [if_pos ht, key t ht]
      obtain ⟨u, hu⟩ := h t ht
      simp [hu]
    · rw [if_neg ht, conc_undef]
      congr 1
      rw [Array.getD_eq_getD_getElem?, Array.getElem?_map, Array.getElem?_range]
      split <;> simp [ht]
  · rw [key t ht]
    obtain ⟨u, hu⟩ := h t ht
    simp [hu]

theorem put_get {m m' : TM} {d : Option Tmp} {v : AV} (h : m.put d v = some m') (t : Nat) : m'.get t = if d = some t then v else m.get t := by
  cases d with
  | none => simp [TM.put] at h; subst h; simp
  | some d =>
    simp only [TM.put] at h
    split at h
    · cases h
      simp only [TM.get, updT_get]
      by_cases e : t = d
      · subst e; simp
      · rw [if_neg e, if_neg (by simpa using fun h => e h.symm)]
    · cases h

theorem put_n {m m' : TM} {d : Option Tmp} {v : AV} (h : m.put d v = some m') : m'.n = m.n := by
  cases d with
  | none => simp [TM.put] at h; subst h; rfl
  | some d =>
    simp only [TM.put] at h
    split at h
    · cases h; rfl
    · cases h

theorem put_ex {m m' : TM} {d : Option Tmp} {v : AV} (h : m.put d v = some m') {k : TM} (hn : k.n = m.n) (u : AV) : ∃ k', k.put d u = some k' := by
  cases d with
  | none => exact ⟨k, rfl⟩
  | some d =>
    simp only [TM.put] at h ⊢
    split at h
    · rename_i hlt
      rw [if_pos (by rw [hn]; exact hlt)]
      exact ⟨_, rfl⟩
    · cases h

end
end Go.Eng
