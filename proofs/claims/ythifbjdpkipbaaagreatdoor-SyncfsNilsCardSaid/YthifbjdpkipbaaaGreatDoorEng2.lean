/- THE ENGINE's RELATION: an abstract heap, its names' places, a world. -/
import Derived.Test.YthifbjdpkipbaaaGreatDoorEng1
set_option linter.all false
namespace Go.Eng

section
variable (P : Program)

def sz (t : TypeId) : Nat := (szOf P t).getD 0

def concEs (ι : Img) : List AMapEntry → List MapEntry → Prop
  | [], [] => True
  | e :: es, c :: cs => conc ι e.key = some c.key ∧ conc ι e.val = some c.val ∧ c.born = e.born ∧ concEs ι es cs
  | _, _ => False

def unfrozen (sf : Nat) (size : Nat) (fr : Nat × Nat) : Prop :=
  (sf = 0 → fr.1 = fr.2) ∧ (sf = 1 → fr.1 = fr.2 ∨ size ≤ fr.1)

theorem unfrozen.none0 {sf size : Nat} {fr : Nat × Nat} (h : unfrozen sf size fr) (e : sf = 0) (x : Nat) : ¬ (fr.1 ≤ x ∧ x < fr.2) := by have := h.1 e; omega
theorem unfrozen.none1 {sf size : Nat} {fr : Nat × Nat} (h : unfrozen sf size fr) (e : sf = 1) (x : Nat) (hx : x < size) : ¬ (fr.1 ≤ x ∧ x < fr.2) := by have := h.2 e; omega

/-- cells, as they lie -/
def CellsOk (ι : Img) (l : Loc) (c : PT AV) (n ty sf : Nat) (cs : Array Value) (fr : Nat × Nat) : Prop :=
  l.lo + n ≤ cs.size ∧ l.lo + l.cap * sz P ty ≤ cs.size ∧ (sz P ty ∣ l.lo) ∧
  (∀ o v, c.get o = some v → o < n ∧ ∃ u, conc ι v = some u ∧ cs[l.lo + o]? = some u) ∧ unfrozen sf cs.size fr

/-- an object, as it lies -/
def EntOk (ι : Img) (w : World) (l : Loc) : Ent → Prop
  | .cells c n ty _ sf => ∃ cs fr, w.heap[l.block]? = some (.cells cs ty fr) ∧ CellsOk P ι l c n ty sf cs fr
  | .map es clock => ∃ cs, w.heap[l.block]? = some (.map cs clock) ∧ concEs ι es cs.toList
  | .strIter s pos => l.lo = 0 ∧ w.heap[l.block]? = some (.stringIter ⟨⟨s⟩⟩ pos)
  | .mapIter m since seen last => l.lo = 0 ∧ ∃ mb, w.heap[l.block]? = some (.mapIter mb since seen.toArray last) ∧
      (match m with
       | none => mb = none
       | some f => ∃ lf, ι f = some lf ∧ mb = some lf.block)
  | .loop L => ∃ fn tmps df, w.heap[l.block]? = some (.loop { state := L.state, pending := L.pending, fn, tmps, params := L.params, assign := L.assign, body := L.body, defers := df }) ∧ TMok ι L.tmps tmps
  | .deferred taken => w.heap[l.block]? = some (.deferred (if taken then none else some []))

variable {P}

theorem concEs_mono {ι ι' : Img} (h : Exts ι ι') : ∀ {es : List AMapEntry} {cs : List MapEntry}, concEs ι es cs → concEs ι' es cs
  | [], [], _ => trivial
  | _ :: _, _ :: _, e => ⟨conc_mono h _ _ e.1, conc_mono h _ _ e.2.1, e.2.2.1, concEs_mono h e.2.2.2⟩
  | [], _ :: _, e => e.elim
  | _ :: _, [], e => e.elim

theorem CellsOk.mono {ι ι' : Img} (h : Exts ι ι') {l : Loc} {c : PT AV} {n ty sf : Nat} {cs : Array Value} {fr : Nat × Nat} (e : CellsOk P ι l c n ty sf cs fr) : CellsOk P ι' l c n ty sf cs fr :=
  ⟨e.1, e.2.1, e.2.2.1, fun o v ho => let ⟨ho', u, hu, hc⟩ := e.2.2.2.1 o v ho; ⟨ho', u, conc_mono h _ _ hu, hc⟩, e.2.2.2.2⟩

theorem EntOk.mono {ι ι' : Img} (h : Exts ι ι') {w : World} {l : Loc} : ∀ {e : Ent}, EntOk P ι w l e → EntOk P ι' w l e
  | .cells .., ⟨cs, fr, hb, hc⟩ => ⟨cs, fr, hb, hc.mono h⟩
  | .map .., ⟨cs, hb, hc⟩ => ⟨cs, hb, concEs_mono h hc⟩
  | .strIter .., e => e
  | .mapIter none .., ⟨h0, mb, hb, hm⟩ => ⟨h0, mb, hb, hm⟩
  | .mapIter (some f) .., ⟨h0, mb, hb, lf, hf, hm⟩ => ⟨h0, mb, hb, lf, h f lf hf, hm⟩
  | .loop _, ⟨fn, tmps, df, hb, hc⟩ => ⟨fn, tmps, df, hb, hc.mono h⟩
  | .deferred _, e => e

/-- an object hangs on its own block alone -/
theorem EntOk.block {ι : Img} {w w' : World} {l : Loc} (hb : w'.heap[l.block]? = w.heap[l.block]?) : ∀ {e : Ent}, EntOk P ι w l e → EntOk P ι w' l e
  | .cells .., ⟨cs, fr, h, hc⟩ => ⟨cs, fr, hb.trans h, hc⟩
  | .map .., ⟨cs, h, hc⟩ => ⟨cs, hb.trans h, hc⟩
  | .strIter .., ⟨h0, h⟩ => ⟨h0, hb.trans h⟩
  | .mapIter .., ⟨h0, mb, h, hm⟩ => ⟨h0, mb, hb.trans h, hm⟩
  | .loop _, ⟨fn, tmps, df, h, hc⟩ => ⟨fn, tmps, df, hb.trans h, hc⟩
  | .deferred _, h => Eq.trans hb h

theorem EntOk.lt {ι : Img} {w : World} {l : Loc} : ∀ {e : Ent}, EntOk P ι w l e → l.block < w.heap.size
  | .cells .., ⟨_, _, h, _⟩ => (Array.getElem?_eq_some_iff.1 h).1
  | .map .., ⟨_, h, _⟩ => (Array.getElem?_eq_some_iff.1 h).1
  | .strIter .., ⟨_, h⟩ => (Array.getElem?_eq_some_iff.1 h).1
  | .mapIter .., ⟨_, _, h, _⟩ => (Array.getElem?_eq_some_iff.1 h).1
  | .loop _, ⟨_, _, _, h, _⟩ => (Array.getElem?_eq_some_iff.1 h).1
  | .deferred _, h => (Array.getElem?_eq_some_iff.1 h).1

variable (P)

/-- two names of one block: of one group; and the owner reaches furthest -/
def Together (A : AH) (f f' : Nat) (e e' : Ent) (l l' : Loc) : Prop :=
  f = f' ∨ ∃ c n ty g sf c' n' ty' sf', e = .cells c n ty g sf ∧ e' = .cells c' n' ty' g sf' ∧ ((A.owner g).1 = f → l'.lo + n' ≤ l.lo + n)

structure Rel (ι : Img) (A : AH) (w : World) : Prop where
  glob : GlobOk ι
  base : 64 ≤ A.next
  ent : ∀ f e, A.look f = some e → ∃ l, ι f = some l ∧ EntOk P ι w l e
  apart : ∀ f e f' e' l l', A.look f = some e → A.look f' = some e' → ι f = some l → ι f' = some l' → l.block = l'.block → Together A f f' e e' l l'
  top : ∀ f c n ty g sf, A.look f = some (.cells c n ty g sf) → f ≤ (A.owner g).1
  lt : ∀ f e, A.heap.get f = some e → f < A.next
  own : ∀ g x, A.own.get g = some x → g < A.next

variable {P}

/-- does a name that is alive lie at a block? -/
def Im (ι : Img) (A : AH) (b : Nat) : Prop := ∃ f e l, A.look f = some e ∧ ι f = some l ∧ l.block = b

variable (P)

/-- nothing but the heap, and the number of draws, has turned -/
def HeapIs (w w' : World) (h : Array Obj) : Prop := w' = { w with heap := h, drawn := w'.drawn }

theorem HeapIs.heap {w w' : World} {h : Array Obj} (e : HeapIs w w' h) : w'.heap = h := by have := congrArg World.heap e; exact this
theorem HeapIs.out {w w' : World} {h : Array Obj} (e : HeapIs w w' h) : w'.os = w.os ∧ w'.tape = w.tape ∧ w'.output = w.output :=
  ⟨by have := congrArg World.os e; exact this, by have := congrArg World.tape e; exact this, by have := congrArg World.output e; exact this⟩
theorem HeapIs.mk' {w w' : World} {h : Array Obj} (e : w'.heap = h) (t : w'.tape = w.tape) (o : w'.os = w.os) (u : w'.output = w.output) : HeapIs w w' h := by
  cases w'; cases w
  simp only at e t o u
  subst e; subst t; subst o; subst u
  rfl

theorem HeapIs.all {w w' : World} {h : Array Obj} (e : HeapIs w w' h) : w'.heap = h ∧ w'.tape = w.tape ∧ w'.os = w.os ∧ w'.output = w.output :=
  ⟨e.heap, e.out.2.1, e.out.1, e.out.2.2⟩

structure Step (ι : Img) (A : AH) (w : World) (ι' : Img) (A' : AH) (w' : World) : Prop where
  ext : Exts ι ι'
  new : ∀ n l, ι' n = some l → ι n = some l ∨ A.next ≤ n ∧ n < A'.next
  nx : A.next ≤ A'.next
  rel : Rel P ι' A' w'
  size : w.heap.size ≤ w'.heap.size
  frame : ∀ b, b < w.heap.size → ¬ Im ι A b → w'.heap[b]? = w.heap[b]?
  img : ∀ b, Im ι' A' b → b < w.heap.size → Im ι A b
  out : w'.os = w.os ∧ w'.tape = w.tape ∧ w'.output = w.output

variable {P}

theorem Step.refl {ι : Img} {A : AH} {w : World} (h : Rel P ι A w) : Step P ι A w ι A w :=
  ⟨Exts.refl ι, fun _ _ e => .inl e, Nat.le_refl _, h, Nat.le_refl _, fun _ _ _ => rfl, fun _ e _ => e, rfl, rfl, rfl⟩

theorem Step.trans {ι ι' ι'' : Img} {A A' A'' : AH} {w w' w'' : World} (h : Step P ι A w ι' A' w') (k : Step P ι' A' w' ι'' A'' w'') : Step P ι A w ι'' A'' w'' where
  ext := h.ext.trans k.ext
  new := fun n l e => by
    rcases k.new n l e with e | ⟨h1, h2⟩
    · rcases h.new n l e with e | ⟨h1, h2⟩
      · exact .inl e
      · exact .inr ⟨h1, Nat.lt_of_lt_of_le h2 k.nx⟩
    · exact .inr ⟨Nat.le_trans h.nx h1, h2⟩
  nx := Nat.le_trans h.nx k.nx
  rel := k.rel
  size := Nat.le_trans h.size k.size
  frame := fun b hb hn => by
    rw [k.frame b (Nat.lt_of_lt_of_le hb h.size) (fun hi => hn (h.img b hi hb)), h.frame b hb hn]
  img := fun b hi hb => h.img b (k.img b hi (Nat.lt_of_lt_of_le hb h.size)) hb
  out := ⟨k.out.1.trans h.out.1, k.out.2.1.trans h.out.2.1, k.out.2.2.trans h.out.2.2⟩

/-- names that are not taken yet -/
def Free (ι : Img) (a b : Nat) : Prop := ∀ n, a ≤ n → n < b → ι n = none

theorem Free.mono {ι : Img} {a b a' b' : Nat} (h : Free ι a b) (h1 : a ≤ a') (h2 : b' ≤ b) : Free ι a' b' := fun n x y => h n (by omega) (by omega)

theorem Step.free {ι ι' : Img} {A A' : AH} {w w' : World} (h : Step P ι A w ι' A' w') {b : Nat} (hf : Free ι A.next b) : Free ι' A'.next b := fun n h1 h2 => by
  cases e : ι' n with
  | none => rfl
  | some l =>
    rcases h.new n l e with e' | ⟨_, h4⟩
    · rw [hf n (Nat.le_trans h.nx h1) h2] at e'; cases e'
    · omega

/-- the order of draws alone has turned -/
theorem Rel.congr {ι : Img} {A : AH} {w w' : World} (h : Rel P ι A w) (e : w'.heap = w.heap) : Rel P ι A w' :=
  { h with ent := fun f x hx => let ⟨l, hl, ho⟩ := h.ent f x hx; ⟨l, hl, ho.block (by rw [e])⟩ }

theorem Step.of_heap {ι : Img} {A : AH} {w w' : World} (h : Rel P ι A w) (e : HeapIs w w' w.heap) : Step P ι A w ι A w' :=
  ⟨Exts.refl ι, fun _ _ e => .inl e, Nat.le_refl _, h.congr e.heap, by rw [e.heap]; exact Nat.le_refl _, fun _ _ _ => by rw [e.heap], fun _ e _ => e, e.out⟩

/-! ## what is looked at behind a change -/

theorem look_get {A : AH} {f : Nat} {e : Ent} (h : A.look f = some e) : A.heap.get f = some e := by
  unfold AH.look at h
  split at h
  · split at h <;> (split at h <;> first | (rw [← h]; assumption) | cases h)
  · exact h

theorem look_put_ne {A : AH} {f f' : Nat} {e : Ent} (h : f' ≠ f) : (A.put f e).look f' = A.look f' := by
  simp only [AH.look, AH.put, PT.get_set_ne _ _ h]

theorem look_new_ne {A : AH} {f' : Nat} {e : Ent} (h : f' ≠ A.next) : (A.new e).look f' = A.look f' := by
  simp only [AH.look, AH.new, PT.get_set_ne _ _ h]

/-- is an object one whose group is its own, and new? -/
def ownGroup (A : AH) : Ent → Prop
  | .cells _ _ _ g _ => g = A.next
  | _ => True

theorem look_new {A : AH} {e : Ent} (ho : ∀ g x, A.own.get g = some x → g < A.next) (hg : ownGroup A e) : (A.new e).look A.next = some e := by
  simp only [AH.look, AH.new, PT.get_set_same]
  cases e <;> try rfl
  rename_i c n ty g sf
  have hg : g = A.next := hg
  subst hg
  cases hx : A.own.get A.next with
  | none => simp [hx]
  | some x => have := ho _ _ hx; omega

/-- A NEW OBJECT. -/
theorem Rel.add {ι : Img} {A : AH} {w : World} {e : Ent} {l : Loc} (h : Rel P ι A w) (hl : ι A.next = some l) (he : EntOk P ι w l e) (hg : ownGroup A e)
    (hd : ∀ f x lf, A.look f = some x → ι f = some lf → lf.block ≠ l.block) : Rel P ι (A.new e) w where
  glob := h.glob
  base := by have := h.base; simp [AH.new]; omega
  ent := fun f x hx => by
    by_cases ef : f = A.next
    · subst ef
      rw [look_new h.own hg] at hx; cases hx
      exact ⟨l, hl, he⟩
    · rw [look_new_ne ef] at hx
      exact h.ent f x hx
  apart := fun f x f' x' lf lf' hx hx' hf hf' hb => by
    by_cases ef : f = A.next
    · by_cases ef' : f' = A.next
      · exact .inl (ef.trans ef'.symm)
      · subst ef
        rw [look_new_ne ef'] at hx'
        rw [hl] at hf; cases hf
        exact absurd hb.symm (hd f' x' lf' hx' hf')
    · by_cases ef' : f' = A.next
      · subst ef'
        rw [look_new_ne ef] at hx
        rw [hl] at hf'; cases hf'
        exact absurd hb (hd f x lf hx hf)
      · rw [look_new_ne ef] at hx
        rw [look_new_ne ef'] at hx'
        exact h.apart f x f' x' lf lf' hx hx' hf hf' hb
  top := fun f c n ty g sf hx => by
    by_cases ef : f = A.next
    · subst ef
      rw [look_new h.own hg] at hx; cases hx
      have hg : g = A.next := hg
      subst hg
      show A.next ≤ (A.owner A.next).1
      cases hx : A.own.get A.next with
      | none => simp [AH.owner, hx]
      | some x => have := h.own _ _ hx; omega
    · rw [look_new_ne ef] at hx
      exact h.top f c n ty g sf hx
  lt := fun f x hx => by
    simp only [AH.new] at hx ⊢
    by_cases ef : f = A.next
    · omega
    · rw [PT.get_set_ne _ _ ef] at hx; have := h.lt f x hx; omega
  own := fun g x hx => by have := h.own g x hx; simp only [AH.new]; omega

/-- a name more -/
def Img.set (ι : Img) (n : Nat) (l : Loc) : Img := fun k => if k = n then some l else ι k

theorem Img.set_same (ι : Img) (n : Nat) (l : Loc) : (Img.set ι n l) n = some l := by simp [Img.set]
theorem Img.set_ne (ι : Img) {n k : Nat} (l : Loc) (h : k ≠ n) : (Img.set ι n l) k = ι k := by simp [Img.set, h]

theorem Img.set_ext {ι : Img} {n : Nat} (l : Loc) (h : ι n = none) : Exts ι (Img.set ι n l) := fun k x hk => by
  by_cases e : k = n
  · subst e; rw [h] at hk; cases hk
  · rw [Img.set_ne _ _ e]; exact hk

theorem Rel.mono {ι ι' : Img} {A : AH} {w : World} (h : Rel P ι A w) (e : Exts ι ι') : Rel P ι' A w :=
  { h with
    glob := h.glob.mono e
    ent := fun f x hx => let ⟨l, hl, ho⟩ := h.ent f x hx; ⟨l, e f l hl, ho.mono e⟩
    apart := fun f x f' x' l l' hx hx' hf hf' hb => by
      obtain ⟨k, hk, _⟩ := h.ent f x hx
      obtain ⟨k', hk', _⟩ := h.ent f' x' hx'
      have e1 := e f k hk; rw [hf] at e1; cases e1
      have e2 := e f' k' hk'; rw [hf'] at e2; cases e2
      exact h.apart f x f' x' l l' hx hx' hk hk' hb }

/-- blocks that are not ours may come, and turn -/
theorem Rel.frame {ι : Img} {A : AH} {w w' : World} (h : Rel P ι A w) (e : ∀ b, Im ι A b → w'.heap[b]? = w.heap[b]?) : Rel P ι A w' :=
  { h with ent := fun f x hx => let ⟨l, hl, ho⟩ := h.ent f x hx; ⟨l, hl, ho.block (e _ ⟨f, x, l, hx, hl, rfl⟩)⟩ }

theorem Rel.im_lt {ι : Img} {A : AH} {w : World} (h : Rel P ι A w) {b : Nat} (hb : Im ι A b) : b < w.heap.size := by
  obtain ⟨f, x, l, hx, hl, rfl⟩ := hb
  obtain ⟨k, hk, ho⟩ := h.ent f x hx
  rw [hl] at hk; cases hk
  exact ho.lt

/-- A NEW BLOCK, AND ITS NAME. -/
theorem Step.alloc {ι : Img} {A : AH} {w w' : World} {e : Ent} {o : Obj} {l : Loc} (h : Rel P ι A w) (hW : HeapIs w w' (w.heap.push o)) (hn : ι A.next = none) (hb : l.block = w.heap.size)
    (he : EntOk P (Img.set ι A.next l) w' l e) (hg : ownGroup A e) : Step P ι A w (Img.set ι A.next l) (A.new e) w' := by
  have hw := hW.heap
  have hx := Img.set_ext l hn
  have hkeep : ∀ b, b < w.heap.size → w'.heap[b]? = w.heap[b]? := fun b hb => by rw [hw, Array.getElem?_push_lt hb, Array.getElem?_eq_getElem hb]
  have h1 : Rel P (Img.set ι A.next l) A w' := (h.mono hx).frame (w' := w') fun b hi => by
    refine hkeep b ?_
    exact (h.mono hx).im_lt hi
  refine ⟨hx, fun n k hk => ?_, by simp [AH.new], h1.add (Img.set_same _ _ _) he hg ?_, by rw [hw]; simp, fun b hb _ => hkeep b hb, ?_, hW.out⟩
  · by_cases en : n = A.next
    · exact .inr ⟨by omega, by simp [AH.new]; omega⟩
    · rw [Img.set_ne _ _ en] at hk; exact .inl hk
  · intro f x lf hf hlf eb
    obtain ⟨k, hk, ho⟩ := h.ent f x hf
    have := hx f k hk
    rw [hlf] at this; cases this
    have := ho.lt
    omega
  · rintro b ⟨f, x, lf, hf, hlf, rfl⟩ hlt
    by_cases ef : f = A.next
    · subst ef
      rw [Img.set_same] at hlf; cases hlf
      omega
    · rw [look_new_ne ef] at hf
      rw [Img.set_ne _ _ ef] at hlf
      exact ⟨f, x, lf, hf, hlf, rfl⟩

end
end Go.Eng
