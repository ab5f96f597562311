/- THE ENGINE: drawn regions: what stands ahead of what. -/
import Derived.Test.YthifbjdpkipbaaaGreatDoorEng24
import Derived.OrdersIn
set_option linter.all false
namespace Go.Eng

theorem foldBits (acc : Array Nat) : ∀ (l : List Edge) (s i : Nat), (l.foldl (fun s e => if Region.binds .any e then s ||| 2 ^ e.on ||| acc.getD e.on 0 else s) s).testBit i = true →
    s.testBit i = true ∨ ∃ e ∈ l, Region.binds .any e = true ∧ (e.on = i ∨ (acc.getD e.on 0).testBit i = true)
  | [], s, i, h => .inl h
  | e :: l, s, i, h => by
    simp only [List.foldl_cons] at h
    rcases foldBits acc l _ i h with h | ⟨e', he, hb⟩
    · split at h
      · rename_i hb
        simp only [Nat.testBit_or, Bool.or_eq_true, Nat.testBit_two_pow, decide_eq_true_eq] at h
        rcases h with (h | h) | h
        · exact .inl h
        · exact .inr ⟨e, by simp, hb, .inl h⟩
        · exact .inr ⟨e, by simp, hb, .inr h⟩
      · exact .inl h
    · exact .inr ⟨e', by simp [he], hb⟩

def bitStep (acc : Array Nat) (o : Oper) : Array Nat := acc.push (o.after.foldl (fun s e => if Region.binds .any e then s ||| 2 ^ e.on ||| acc.getD e.on 0 else s) 0)

def BitsOk (ops : List Oper) (acc : Array Nat) : Prop :=
  ∀ (j b : Nat), acc[j]? = some b → ∀ i : Nat, b.testBit i = true → ∃ (o : Oper) (e : Edge), ops[j]? = some o ∧ e ∈ o.after ∧ Region.binds .any e = true ∧ (e.on = i ∨ ∃ b' : Nat, acc[e.on]? = some b' ∧ b'.testBit i = true)

theorem bits_push {ops : List Oper} {acc : Array Nat} (h : BitsOk ops acc) {o : Oper} (ho : ops[acc.size]? = some o) : BitsOk ops (bitStep acc o) := by
  intro j b hb i hi
  have up : ∀ {k b'}, acc[k]? = some b' → (bitStep acc o)[k]? = some b' := fun {k b'} hk => by
    have hlt := (Array.getElem?_eq_some_iff.1 hk).1
    rw [bitStep, Array.getElem?_push_lt hlt, ← hk, Array.getElem?_eq_getElem hlt]
  by_cases hj : j = acc.size
  · subst hj
    rw [bitStep, Array.getElem?_push_size] at hb
    cases hb
    rw [← Array.foldl_toList] at hi
    rcases foldBits acc _ 0 i hi with h0 | ⟨e, he, hbd, hx⟩
    · simp at h0
    · refine ⟨o, e, ho, by simpa using he, hbd, ?_⟩
      rcases hx with hx | hx
      · exact .inl hx
      · right
        cases hg : acc[e.on]? with
        | none => simp [Array.getD_eq_getD_getElem?, hg] at hx
        | some b' => exact ⟨b', up hg, by simpa [Array.getD_eq_getD_getElem?, hg] using hx⟩
  · have hj' : acc[j]? = some b := by
      rw [bitStep, Array.getElem?_push] at hb
      rw [if_neg hj] at hb
      exact hb
    obtain ⟨o', e, h1, h2, h3, h4⟩ := h j b hj' i hi
    refine ⟨o', e, h1, h2, h3, ?_⟩
    rcases h4 with h4 | ⟨b', h5, h6⟩
    · exact .inl h4
    · exact .inr ⟨b', up h5, h6⟩

theorem bits_fold {ops : List Oper} : ∀ (l : List Oper) (acc : Array Nat), BitsOk ops acc → (∀ k, l[k]? = ops[acc.size + k]?) → BitsOk ops (l.foldl bitStep acc)
  | [], _, h, _ => h
  | o :: l, acc, h, hl => by
    have h0 := hl 0
    simp only [List.getElem?_cons_zero, Nat.add_zero] at h0
    refine bits_fold l _ (bits_push h h0.symm) fun k => ?_
    have := hl (k + 1)
    simp only [List.getElem?_cons_succ] at this
    rw [this]
    simp only [bitStep, Array.size_push]
    congr 1
    omega

/-- what stands ahead, by an edge, or by one that stands ahead by an edge -/
theorem before_ok (ops : Array Oper) : BitsOk ops.toList (Region.before ops) := by
  have : Region.before ops = ops.toList.foldl bitStep #[] := by
    unfold Region.before
    rw [← Array.foldl_toList]
    rfl
  rw [this]
  exact bits_fold _ _ (fun j b h => by simp at h) (fun k => by simp)

/-- a set of operations that holds what stands ahead of each -/
def Closed (ops : Array Oper) (listed : Array Bool) : Prop :=
  ∀ j : Nat, listed[j]? = some true → ∀ b : Nat, (Region.before ops)[j]? = some b → ∀ i : Nat, b.testBit i = true → listed[i]? = some true

theorem ready_ahead {ops : Array Oper} {listed : Array Bool} (hc : Closed ops listed) {j : Nat} (hj : j ∈ Region.ready .any ops listed) {b : Nat} (hb : (Region.before ops)[j]? = some b) {i : Nat} (hi : b.testBit i = true) : listed[i]? = some true := by
  obtain ⟨o, e, ho, he, hbd, hx⟩ := before_ok ops j b hb i hi
  have hon : listed[e.on]? = some true := by
    unfold Region.ready at hj
    simp only [List.mem_filter, Bool.and_eq_true] at hj
    have h2 := hj.2.2
    rw [← Array.getElem?_toList, ho] at h2
    simp only [Option.map_some, Option.getD_some] at h2
    have h3 := (Array.all_eq_true'.1 h2) e he
    simp only [hbd, Bool.not_true, Bool.false_or] at h3
    cases hl : listed[e.on]? with
    | none => simp [Array.getD_eq_getD_getElem?, hl] at h3
    | some v => simp [Array.getD_eq_getD_getElem?, hl] at h3; rw [h3]
  rcases hx with rfl | ⟨b', h1, h2⟩
  · exact hon
  · exact hc e.on hon b' h1 i h2

theorem set_true {listed : Array Bool} {j i : Nat} (h : listed[i]? = some true) : (listed.setIfInBounds j true)[i]? = some true := by
  rw [Array.getElem?_setIfInBounds]
  split
  · rename_i e; subst e
    rw [if_pos (Array.getElem?_eq_some_iff.1 h).1]
  · exact h

theorem closed_set {ops : Array Oper} {listed : Array Bool} (hc : Closed ops listed) {j : Nat} (hj : j ∈ Region.ready .any ops listed) : Closed ops (listed.setIfInBounds j true) := by
  intro k hk b hb i hi
  by_cases e : j = k
  · subst e
    exact set_true (ready_ahead hc hj hb hi)
  · rw [Array.getElem?_setIfInBounds, if_neg e] at hk
    exact set_true (hc k hk b hb i hi)

theorem closed_start (ops : Array Oper) (n : Nat) : Closed ops (Array.replicate n false) := by
  intro j hj
  rw [Array.getElem?_replicate] at hj
  split at hj <;> cases hj

/-- what is ready is not done yet, and is there -/
theorem ready_spec {ops : Array Oper} {listed : Array Bool} {j : Nat} (hj : j ∈ Region.ready .any ops listed) : j < ops.size ∧ listed.getD j true = false := by
  unfold Region.ready at hj
  simp only [List.mem_filter, List.mem_range, Bool.and_eq_true, Bool.not_eq_true'] at hj
  exact ⟨hj.1, hj.2.1⟩

end Go.Eng
