/- THE ENGINE's WORDS: what an abstract heap says of a world. -/
import Derived.Test.YthifbjdpkipbaaaGreatDoorEng0
set_option linter.all false
namespace Go.Eng

/-! ## persistent tables -/

@[simp] theorem PT.get_nil {α : Type} (i : Nat) : (PT.nil : PT α).get i = none := rfl

theorem PT.get_zero {α : Type} (v : Option α) (l r : PT α) : (PT.node v l r).get 0 = v := rfl

theorem PT.get_succ {α : Type} (v : Option α) (l r : PT α) (i : Nat) : (PT.node v l r).get (i + 1) = if i % 2 = 0 then l.get (i / 2) else r.get (i / 2) := by
  have e : (PT.node v l r).get (i + 1) = Nat.rec (motive := fun _ => Option α) (l.get (i / 2)) (fun _ _ => r.get (i / 2)) (i % 2) := rfl
  rw [e]
  rcases Nat.mod_two_eq_zero_or_one i with h | h <;> rw [h] <;> rfl

theorem PT.setF_nil0 {α : Type} (n : Nat) (x : α) : PT.setF (n + 1) .nil 0 x = .node (some x) .nil .nil := rfl
theorem PT.setF_node0 {α : Type} (n : Nat) (v : Option α) (l r : PT α) (x : α) : PT.setF (n + 1) (.node v l r) 0 x = .node (some x) l r := rfl
theorem PT.setF_nil {α : Type} (n i : Nat) (x : α) : PT.setF (n + 1) .nil (i + 1) x = if i % 2 = 0 then .node none (PT.setF n .nil (i / 2) x) .nil else .node none .nil (PT.setF n .nil (i / 2) x) := by
  have e : PT.setF (n + 1) (.nil : PT α) (i + 1) x = Nat.rec (motive := fun _ => PT α) (.node none (PT.setF n .nil (i / 2) x) .nil) (fun _ _ => .node none .nil (PT.setF n .nil (i / 2) x)) (i % 2) := rfl
  rw [e]
  rcases Nat.mod_two_eq_zero_or_one i with h | h <;> rw [h] <;> rfl
theorem PT.setF_node {α : Type} (n : Nat) (v : Option α) (l r : PT α) (i : Nat) (x : α) : PT.setF (n + 1) (.node v l r) (i + 1) x = if i % 2 = 0 then .node v (PT.setF n l (i / 2) x) r else .node v l (PT.setF n r (i / 2) x) := by
  have e : PT.setF (n + 1) (.node v l r) (i + 1) x = Nat.rec (motive := fun _ => PT α) (.node v (PT.setF n l (i / 2) x) r) (fun _ _ => .node v l (PT.setF n r (i / 2) x)) (i % 2) := rfl
  rw [e]
  rcases Nat.mod_two_eq_zero_or_one i with h | h <;> rw [h] <;> rfl

theorem PT.get_setF {α : Type} : ∀ (n i : Nat) (t : PT α) (x : α) (j : Nat), i < n → (PT.setF n t i x).get j = if j = i then some x else t.get j := by
  intro n
  induction n with
  | zero => intro i t x j h; omega
  | succ n ih =>
    intro i t x j h
    cases i with
    | zero =>
      cases t with
      | nil =>
        rw [PT.setF_nil0]
        cases j with
        | zero => simp [PT.get_zero]
        | succ j => rw [PT.get_succ]; simp
      | node v l r =>
        rw [PT.setF_node0]
        cases j with
        | zero => simp [PT.get_zero]
        | succ j => rw [PT.get_succ, PT.get_succ]; simp
    | succ i =>
      have hi : i / 2 < n := by omega
      cases t with
      | nil =>
        rw [PT.setF_nil]
        cases j with
        | zero => split <;> simp [PT.get_zero]
        | succ j =>
          split <;> rw [PT.get_succ] <;> simp only [ih _ _ _ _ hi, PT.get_nil] <;> split <;>
            first
              | (split <;> split <;> first | rfl | (exfalso; omega))
              | (split <;> first | rfl | (exfalso; omega))
      | node v l r =>
        rw [PT.setF_node]
        cases j with
        | zero => split <;> simp [PT.get_zero]
        | succ j =>
          rw [PT.get_succ v l r]
          split <;> rw [PT.get_succ] <;> simp only [ih _ _ _ _ hi] <;> split <;>
            first
              | (split <;> split <;> first | rfl | (exfalso; omega))
              | (split <;> first | rfl | (exfalso; omega))

theorem PT.get_set {α : Type} (t : PT α) (i j : Nat) (x : α) : (t.set i x).get j = if j = i then some x else t.get j :=
  PT.get_setF _ _ _ _ _ (by omega)

theorem PT.get_set_same {α : Type} (t : PT α) (i : Nat) (x : α) : (t.set i x).get i = some x := by simp [PT.get_set]
theorem PT.get_set_ne {α : Type} (t : PT α) {i j : Nat} (x : α) (h : j ≠ i) : (t.set i x).get j = t.get j := by simp [PT.get_set, h]

theorem PT.get_setL {α : Type} (xs : List α) : ∀ (t : PT α) (o j : Nat), (PT.setL t o xs).get j = if o ≤ j ∧ j < o + xs.length then xs[j - o]? else t.get j := by
  induction xs with
  | nil => intro t o j; simp [PT.setL]; omega
  | cons x xs ih =>
    intro t o j
    simp only [PT.setL, ih, PT.get_set, List.length_cons]
    by_cases h1 : j = o
    · subst h1
      rw [if_neg (by omega), if_pos rfl, if_pos (by omega)]
      simp
    · by_cases h2 : o + 1 ≤ j ∧ j < o + 1 + xs.length
      · rw [if_pos h2, if_pos (by omega)]
        obtain ⟨k, rfl⟩ : ∃ k, j = o + 1 + k := ⟨j - (o + 1), by omega⟩
        rw [show o + 1 + k - (o + 1) = k from by omega, show o + 1 + k - o = k + 1 from by omega]
        simp
      · rw [if_neg h2, if_neg h1, if_neg (by omega)]

theorem PT.getL_spec {α : Type} (n : Nat) : ∀ (t : PT α) (o : Nat) (xs : List α), t.getL o n = some xs → xs.length = n ∧ ∀ i, i < n → t.get (o + i) = xs[i]? := by
  induction n with
  | zero => intro t o xs h; simp [PT.getL] at h; subst h; simp
  | succ n ih =>
    intro t o xs h
    simp only [PT.getL] at h
    split at h
    · cases h
    · rename_i x hx
      split at h
      · cases h
      · rename_i ys hys
        cases h
        obtain ⟨h1, h2⟩ := ih _ _ _ hys
        refine ⟨by simp [h1], fun i hi => ?_⟩
        cases i with
        | zero => simpa using hx
        | succ i =>
          have := h2 i (by omega)
          rw [show o + (i + 1) = o + 1 + i from by omega, this]; simp

/-! ## what an abstract value is, where the names lie -/

structure Loc where
  block : Nat
  lo : Nat
  cap : Nat

abbrev Img := Nat → Option Loc

mutual
def conc (ι : Img) : AV → Option Value
  | .bool b => some (.bool b)
  | .int k n => some (.int k n)
  | .str s => some (.string ⟨⟨s⟩⟩)
  | .nilptr => some (.pointer none)
  | .ptr f o => match ι f with
    | some l => some (.pointer (some ⟨l.block, l.lo + o, none⟩))
    | none => none
  | .nilslice => some (.slice none 0 0)
  | .slice f o len (.ex n) => match ι f with
    | some l => some (.slice (some ⟨l.block, l.lo + o, none⟩) len n)
    | none => none
  | .slice f o len (.gr skip room) => match ι f with
    | some l => if skip + room ≤ l.cap then some (.slice (some ⟨l.block, l.lo + o, none⟩) len (l.cap - skip)) else none
    | none => none
  | .emp k => match ι k with
    | some l => some (.slice (some ⟨l.block, l.lo, none⟩) 0 l.cap)
    | none => none
  | .nilmap => some (.map none)
  | .map f => match ι f with
    | some l => some (.map (some l.block))
    | none => none
  | .func f a b => match concs ι a, concs ι b with
    | some a, some b => some (.func (.func f) ⟨a⟩ ⟨b⟩)
    | _, _ => none
  | .yield k => match ι k with
    | some l => some (.func (.yield l.block) #[] #[])
    | none => none
  | .nilFunc => some .nilFunc
  | .iface t v => match conc ι v with
    | some v => some (.iface t v)
    | none => none
  | .nilIface => some .nilIface
  | .agg cs => match concs ι cs with
    | some l => some (.agg ⟨l⟩)
    | none => none
  | .tuple cs => match concs ι cs with
    | some l => some (.tuple ⟨l⟩)
    | none => none
def concs (ι : Img) : List AV → Option (List Value)
  | [] => some []
  | v :: vs => match conc ι v, concs ι vs with
    | some u, some us => some (u :: us)
    | _, _ => none
end

def Exts (ι ι' : Img) : Prop := ∀ n l, ι n = some l → ι' n = some l

theorem Exts.refl (ι : Img) : Exts ι ι := fun _ _ h => h
theorem Exts.trans {a b c : Img} (h : Exts a b) (h' : Exts b c) : Exts a c := fun n l e => h' n l (h n l e)

mutual
theorem conc_mono {ι ι' : Img} (h : Exts ι ι') : ∀ (v : AV) (u : Value), conc ι v = some u → conc ι' v = some u
  | .bool _, _, e | .int _ _, _, e | .str _, _, e | .nilptr, _, e | .nilslice, _, e | .nilmap, _, e | .nilFunc, _, e | .nilIface, _, e => by simpa [conc] using e
  | .ptr f o, u, e => by
    simp only [conc] at e ⊢
    split at e
    · rename_i l hl; rw [h f l hl]; exact e
    · cases e
  | .slice f o len (.ex n), u, e => by
    simp only [conc] at e ⊢
    split at e
    · rename_i l hl; rw [h f l hl]; exact e
    · cases e
  | .slice f o len (.gr s r), u, e => by
    simp only [conc] at e ⊢
    split at e
    · rename_i l hl; rw [h f l hl]; exact e
    · cases e
  | .emp f, u, e => by
    simp only [conc] at e ⊢
    split at e
    · rename_i l hl; rw [h f l hl]; exact e
    · cases e
  | .map f, u, e => by
    simp only [conc] at e ⊢
    split at e
    · rename_i l hl; rw [h f l hl]; exact e
    · cases e
  | .yield f, u, e => by
    simp only [conc] at e ⊢
    split at e
    · rename_i l hl; rw [h f l hl]; exact e
    · cases e
  | .func f a b, u, e => by
    simp only [conc] at e ⊢
    split at e
    · rename_i x y hx hy; rw [concs_mono h a x hx, concs_mono h b y hy]; exact e
    · cases e
  | .iface t v, u, e => by
    simp only [conc] at e ⊢
    split at e
    · rename_i x hx; rw [conc_mono h v x hx]; exact e
    · cases e
  | .agg cs, u, e => by
    simp only [conc] at e ⊢
    split at e
    · rename_i x hx; rw [concs_mono h cs x hx]; exact e
    · cases e
  | .tuple cs, u, e => by
    simp only [conc] at e ⊢
    split at e
    · rename_i x hx; rw [concs_mono h cs x hx]; exact e
    · cases e
theorem concs_mono {ι ι' : Img} (h : Exts ι ι') : ∀ (v : List AV) (u : List Value), concs ι v = some u → concs ι' v = some u
  | [], _, e => by simpa [concs] using e
  | v :: vs, u, e => by
    simp only [concs] at e ⊢
    split at e
    · rename_i x y hx hy; rw [conc_mono h v x hx, concs_mono h vs y hy]; exact e
    · cases e
end

theorem concs_length {ι : Img} : ∀ {v : List AV} {u : List Value}, concs ι v = some u → u.length = v.length := by
  intro v
  induction v with
  | nil => intro u h; simp [concs] at h; subst h; rfl
  | cons a v ih =>
    intro u h
    simp only [concs] at h
    split at h
    · rename_i x y hx hy; cases h; simp [ih hy]
    · cases h

theorem concs_get {ι : Img} : ∀ {v : List AV} {u : List Value}, concs ι v = some u → ∀ (i : Nat) (a : AV), v[i]? = some a → ∃ b, u[i]? = some b ∧ conc ι a = some b := by
  intro v
  induction v with
  | nil => intro u h i a hi; simp at hi
  | cons c v ih =>
    intro u h i a hi
    simp only [concs] at h
    split at h
    · rename_i x y hx hy
      cases h
      cases i with
      | zero => simp at hi; subst hi; exact ⟨x, by simp, hx⟩
      | succ i => simp at hi; obtain ⟨b, hb, hc⟩ := ih hy i a hi; exact ⟨b, by simpa using hb, hc⟩
    · cases h

theorem concs_append {ι : Img} {a b : List AV} {x y : List Value} (ha : concs ι a = some x) (hb : concs ι b = some y) : concs ι (a ++ b) = some (x ++ y) := by
  induction a generalizing x with
  | nil => simp [concs] at ha; subst ha; simpa using hb
  | cons c a ih =>
    simp only [concs] at ha
    split at ha
    · rename_i u v hu hv
      cases ha
      simp [concs, hu, ih hv]
    · cases ha

theorem concs_of_get {ι : Img} : ∀ (v : List AV) (u : List Value), u.length = v.length → (∀ (i : Nat) (a : AV), v[i]? = some a → ∃ b, u[i]? = some b ∧ conc ι a = some b) → concs ι v = some u := by
  intro v
  induction v with
  | nil => intro u h _; cases u <;> simp_all [concs]
  | cons c v ih =>
    intro u h hg
    cases u with
    | nil => simp at h
    | cons d u =>
      obtain ⟨b, hb, hc⟩ := hg 0 c (by simp)
      simp at hb; subst hb
      have := ih u (by simpa using h) (fun i a hi => by simpa using hg (i + 1) a (by simpa using hi))
      simp [concs, hc, this]

theorem concs_take {ι : Img} {v : List AV} {u : List Value} (h : concs ι v = some u) (n : Nat) : concs ι (v.take n) = some (u.take n) := by
  refine concs_of_get _ _ (by simp [concs_length h]) fun i a hi => ?_
  rw [List.getElem?_take] at hi ⊢
  split at hi
  · rename_i hlt; rw [if_pos hlt]; exact concs_get h i a hi
  · cases hi

theorem concs_drop {ι : Img} {v : List AV} {u : List Value} (h : concs ι v = some u) (n : Nat) : concs ι (v.drop n) = some (u.drop n) := by
  refine concs_of_get _ _ (by simp [concs_length h]) fun i a hi => ?_
  rw [List.getElem?_drop] at hi ⊢
  exact concs_get h _ a hi

/-! ## constants -/

theorem ofScalar_conc (ι : Img) {v : Value} {a : AV} (h : ofScalar v = some a) : conc ι a = some v := by
  unfold ofScalar at h
  split at h <;> first | (cases h; simp [conc, concs, bytesL]; done) | cases h
  all_goals (cases h; simp [conc, concs, bytesL])

theorem mapO_spec {α β : Type} {f : α → Option β} : ∀ {l : List α} {m : List β}, mapO f l = some m → m.length = l.length ∧ ∀ (i : Nat) (a : α), l[i]? = some a → ∃ b, m[i]? = some b ∧ f a = some b := by
  intro l
  induction l with
  | nil => intro m h; simp [mapO] at h; subst h; simp
  | cons x l ih =>
    intro m h
    simp only [mapO] at h
    split at h
    · cases h
    · rename_i y hy
      split at h
      · cases h
      · rename_i ys hys
        cases h
        obtain ⟨h1, h2⟩ := ih hys
        refine ⟨by simp [h1], fun i a hi => ?_⟩
        cases i with
        | zero => simp at hi; subst hi; exact ⟨y, by simp, hy⟩
        | succ i => simpa using h2 i a (by simpa using hi)

theorem mapO_cons {α β : Type} {f : α → Option β} {x : α} {l : List α} {m : List β} (h : mapO f (x :: l) = some m) : ∃ y ys, m = y :: ys ∧ f x = some y ∧ mapO f l = some ys := by
  simp only [mapO] at h
  split at h
  · cases h
  · rename_i y hy
    split at h
    · cases h
    · rename_i ys hys; cases h; exact ⟨y, ys, rfl, hy, hys⟩

theorem ofV_conc (ι : Img) {v : Value} {a : AV} (h : ofV v = some a) : conc ι a = some v := by
  unfold ofV at h
  split at h
  · rename_i cs
    split at h
    · rename_i l hl
      cases h
      have : concs ι l = some cs := by
        induction cs generalizing l with
        | nil => simp [mapO] at hl; subst hl; simp [concs]
        | cons c cs ih =>
          obtain ⟨y, ys, rfl, hy, hys⟩ := mapO_cons hl
          simp [concs, ofScalar_conc ι hy, ih _ hys]
      simp [conc, this]
    · cases h
  · cases h; simp [conc, concs]
  · exact ofScalar_conc ι h

/-! ## temporaries -/

theorem updT_get (t : Nat → AV) (d : Nat) (v : AV) (i : Nat) : updT t d v i = if i = d then v else t i := by
  unfold updT
  by_cases h : i = d
  · subst h
    simp
  · rw [if_neg h]
    have : Nat.beq i d = false := by
      cases hb : Nat.beq i d with
      | false => rfl
      | true => exact absurd (Nat.eq_of_beq_eq_true hb) h
    rw [this]

def TMok (ι : Img) (m : TM) (tmps : Array Value) : Prop := tmps.size = m.n ∧ ∀ t, conc ι (m.get t) = some (tmps.getD t undef)

theorem TMok.mono {ι ι' : Img} {m : TM} {tmps : Array Value} (h : TMok ι m tmps) (e : Exts ι ι') : TMok ι' m tmps := ⟨h.1, fun t => conc_mono e _ _ (h.2 t)⟩

theorem TMok.put {ι : Img} {m m' : TM} {a : Act} {d : Option Tmp} {v : AV} {u : Value} (h : TMok ι m a.tmps) (hp : m.put d v = some m') (hv : conc ι v = some u) : TMok ι m' (a.put d u).tmps := by
  cases d with
  | none => simp [TM.put] at hp; subst hp; exact h
  | some d =>
    simp only [TM.put] at hp
    split at hp
    · rename_i hlt
      cases hp
      refine ⟨by simp [Act.put, h.1], fun t => ?_⟩
      simp only [TM.get, updT_get, Act.put]
      by_cases e : t = d
      · subst e
        simp [hv, h.1, hlt]
      · have := h.2 t
        simp only [TM.get] at this
        rw [if_neg e]
        simp only [Array.getD_eq_getD_getElem?, Array.getElem?_setIfInBounds, if_neg (Ne.symm e)]
        simpa using this
    · cases hp

def GlobOk (ι : Img) : Prop := ∀ g, g < 64 → ι g = some ⟨g, 0, 0⟩

theorem GlobOk.mono {ι ι' : Img} (h : GlobOk ι) (e : Exts ι ι') : GlobOk ι' := fun g hg => e _ _ (h g hg)

theorem ρ_ok {ι : Img} {m : TM} {a : Act} {x : Operand} {v : AV} (hg : GlobOk ι) (h : TMok ι m a.tmps) (hx : ρ m x = some v) : conc ι v = some (a.eval x) := by
  cases x with
  | tmp t => simp [ρ] at hx; subst hx; exact h.2 t
  | const c => exact ofV_conc ι hx
  | global g =>
    simp only [ρ] at hx
    split at hx
    · rename_i hlt; cases hx; simp [conc, hg g hlt, Act.eval]
    · cases hx
  | func f => simp [ρ] at hx; subst hx; simp [conc, concs, Act.eval]

theorem ρs_ok {ι : Img} {m : TM} {a : Act} (hg : GlobOk ι) (h : TMok ι m a.tmps) : ∀ {l : List Operand} {vs : List AV}, ρs m l = some vs → concs ι vs = some (l.map a.eval) := by
  intro l
  induction l with
  | nil => intro vs e; simp [ρs, mapO] at e; subst e; simp [concs]
  | cons x l ih =>
    intro vs e
    obtain ⟨y, ys, rfl, hy, hys⟩ := mapO_cons e
    simp [concs, ρ_ok hg h hy, ih hys]

end Go.Eng
