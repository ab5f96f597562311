/- THE ENGINE: reading, writing, and laying memory. -/
import Derived.Test.YthifbjdpkipbaaaGreatDoorEng2
import Derived.Laws.Cells
import Derived.Laws.Sem
import Derived.RangeFuncRecord
set_option linter.all false
namespace Go.Eng

section
variable {P : Program}

theorem addr_add (b o i : Nat) : (⟨b, o, none⟩ : Addr).add i = ⟨b, o + i, none⟩ := by unfold Addr.add; split <;> simp_all

theorem cell_of_heap {w : World} {b o : Nat} {cs : Array Value} {t : TypeId} {fr : Nat × Nat} (h : w.heap[b]? = some (.cells cs t fr)) : w.cell? ⟨b, o, none⟩ = cs[o]? := by
  simp [World.cell?, h]

theorem frozen_of_heap {w : World} {b o : Nat} {cs : Array Value} {t : TypeId} {fr : Nat × Nat} (h : w.heap[b]? = some (.cells cs t fr)) : w.frozen? ⟨b, o, none⟩ = (decide (fr.1 ≤ o) && decide (o < fr.2)) := by
  obtain ⟨lo, hi⟩ := fr
  simp [World.frozen?, h]

theorem run_loadCells_heap {w : World} {b o : Nat} {cs : Array Value} {t : TypeId} {fr : Nat × Nat} (h : w.heap[b]? = some (.cells cs t fr)) (us : List Value)
    (hu : ∀ i u, us[i]? = some u → cs[o + i]? = some u) : (loadCells ⟨b, o, none⟩ us.length).run P w = .ok us.toArray w :=
  run_loadCells_list (P := P) w ⟨b, o, none⟩ us fun j v hv => by rw [addr_add, cell_of_heap h]; exact hu j v hv

theorem setCell_heap {w : World} {b o : Nat} {cs : Array Value} {t : TypeId} {fr : Nat × Nat} (h : w.heap[b]? = some (.cells cs t fr)) (v : Value) :
    w.setCell ⟨b, o, none⟩ v = w.putObj b (.cells (cs.setIfInBounds o v) t fr) := by
  obtain ⟨hlt, hk⟩ := Array.getElem?_eq_some_iff.1 h
  unfold World.setCell World.putObj
  congr 1
  apply Array.ext_getElem?
  intro k
  by_cases e : k = b
  · subst e
    rw [Array.getElem?_eq_getElem (by rw [Array.size_modify]; exact hlt), Array.getElem_modify_self, hk]
    simp [hlt]
  · rw [Array.getElem?_setIfInBounds_ne (Ne.symm e)]
    simp [Array.getElem?_modify, Ne.symm e]

theorem putObj_putObj (w : World) (b : Nat) (o o' : Obj) : (w.putObj b o).putObj b o' = w.putObj b o' := by
  simp [World.putObj, Array.setIfInBounds_setIfInBounds]

/-- cells that are written, one behind the other -/
theorem run_storeCells_heap (b o : Nat) (t : TypeId) (fr : Nat × Nat) : ∀ (vs : List Value) (i : Nat) (cs : Array Value) (w : World), w.heap[b]? = some (.cells cs t fr) → o + i + vs.length ≤ cs.size →
    (∀ v ∈ vs, v.oneCell' = true) → (∀ x, o + i ≤ x → x < o + i + vs.length → ¬ (fr.1 ≤ x ∧ x < fr.2)) →
    ∃ cs', (storeCells ⟨b, o, none⟩ vs i).run P w = .ok () (w.putObj b (.cells cs' t fr)) ∧ cs'.size = cs.size ∧ ∀ k : Nat, cs'[k]? = if o + i ≤ k ∧ k < o + i + vs.length then vs[k - (o + i)]? else cs[k]?
  | [], i, cs, w, h, _, _, _ => by
    refine ⟨cs, ?_, rfl, fun k => ?_⟩
    · obtain ⟨hlt, hk⟩ := Array.getElem?_eq_some_iff.1 h
      simp only [storeCells, Sem.run_pure]
      congr 1
      unfold World.putObj
      rw [show w.heap.setIfInBounds b (.cells cs t fr) = w.heap from by
        apply Array.ext_getElem?
        intro k
        by_cases e : b = k
        · subst e; simp [hlt, hk]
        · rw [Array.getElem?_setIfInBounds_ne e]]
    · rw [if_neg (by simp)]
  | v :: vs, i, cs, w, h, hs, h1, hf => by
    simp only [List.length_cons] at hs hf
    have hlt : b < w.heap.size := (Array.getElem?_eq_some_iff.1 h).1
    have hc : w.cell? ⟨b, o + i, none⟩ = some (cs[o + i]'(by omega)) := by rw [cell_of_heap h]; exact Array.getElem?_eq_getElem _
    have hz : w.frozen? ⟨b, o + i, none⟩ = false := by
      rw [frozen_of_heap h]
      have := hf (o + i) (Nat.le_refl _) (by omega)
      simp only [Bool.and_eq_false_iff, decide_eq_false_iff_not]
      by_cases e : fr.1 ≤ o + i
      · right; omega
      · left; exact e
    have hst : (store ((⟨b, o, none⟩ : Addr).add i) v).run P w = .ok () (w.putObj b (.cells (cs.setIfInBounds (o + i) v) t fr)) := by
      rw [addr_add, run_store P w _ v _ (h1 v (by simp)), hc]
      simp only [hz]
      rw [setCell_heap h]
      rfl
    have h' : (w.putObj b (.cells (cs.setIfInBounds (o + i) v) t fr)).heap[b]? = some (.cells (cs.setIfInBounds (o + i) v) t fr) := World.putObj_heap_same hlt
    obtain ⟨cs', hr, hsz, hk⟩ := run_storeCells_heap b o t fr vs (i + 1) _ _ h' (by rw [Array.size_setIfInBounds]; omega) (fun u hu => h1 u (by simp [hu])) (fun x hx hx' => hf x (by omega) (by omega))
    refine ⟨cs', ?_, by simpa using hsz, fun k => ?_⟩
    · simp only [storeCells, Sem.run_bind, hst, Result.andThen_ok, hr, putObj_putObj]
    · rw [hk k]
      by_cases e : k = o + i
      · subst e
        rw [if_neg (by omega), if_pos (by simp), Array.getElem?_setIfInBounds_self_of_lt (by omega)]
        simp
      · by_cases e' : o + (i + 1) ≤ k ∧ k < o + (i + 1) + vs.length
        · rw [if_pos e', if_pos (by simp; omega)]
          obtain ⟨j, rfl⟩ : ∃ j, k = o + (i + 1) + j := ⟨k - (o + (i + 1)), by omega⟩
          rw [show o + (i + 1) + j - (o + (i + 1)) = j from by omega, show o + (i + 1) + j - (o + i) = j + 1 from by omega]
          simp
        · rw [if_neg e', if_neg (by simp; omega), Array.getElem?_setIfInBounds_ne (Ne.symm e)]

/-! ## reading -/

theorem concs_exists {ι : Img} : ∀ (vs : List AV) (Q : Nat → Value → Prop), (∀ (i : Nat) (a : AV), vs[i]? = some a → ∃ u, conc ι a = some u ∧ Q i u) →
    ∃ us, concs ι vs = some us ∧ ∀ (i : Nat) (u : Value), us[i]? = some u → Q i u
  | [], _, _ => ⟨[], by simp [concs], by simp⟩
  | v :: vs, Q, h => by
    obtain ⟨u, hu, hq⟩ := h 0 v (by simp)
    obtain ⟨us, hus, hqs⟩ := concs_exists vs (fun i u => Q (i + 1) u) (fun i a hi => h (i + 1) a (by simpa using hi))
    refine ⟨u :: us, by simp [concs, hu, hus], fun i x hi => ?_⟩
    cases i with
    | zero => simp at hi; subst hi; exact hq
    | succ i => exact hqs i x (by simpa using hi)

theorem read_cells {ι : Img} {l : Loc} {c : PT AV} {m ty sf o n : Nat} {cs : Array Value} {fr : Nat × Nat} {vs : List AV} (hc : CellsOk P ι l c m ty sf cs fr) (hr : c.getL o n = some vs) :
    ∃ us, concs ι vs = some us ∧ us.length = n ∧ ∀ (i : Nat) (u : Value), us[i]? = some u → cs[l.lo + o + i]? = some u := by
  obtain ⟨h1, h2⟩ := PT.getL_spec _ _ _ _ hr
  obtain ⟨us, hus, hq⟩ := concs_exists (ι := ι) vs (fun i u => cs[l.lo + o + i]? = some u) fun i a hi => by
    have hlt : i < n := by rw [← h1]; exact (List.getElem?_eq_some_iff.1 hi).1
    obtain ⟨_, u, hu, hcs⟩ := hc.2.2.2.1 (o + i) a ((h2 i hlt).trans hi)
    exact ⟨u, hu, by rw [← hcs]; congr 1; omega⟩
  exact ⟨us, hus, (concs_length hus).trans h1, hq⟩

theorem read_ok {ι : Img} {A : AH} {w : World} {f o n : Nat} {vs : List AV} (h : Rel P ι A w) (hr : A.read f o n = some vs) :
    ∃ l us, ι f = some l ∧ concs ι vs = some us ∧ us.length = n ∧ (loadCells ⟨l.block, l.lo + o, none⟩ n).run P w = .ok us.toArray w ∧ ∀ (i : Nat) (u : Value), us[i]? = some u → w.cell? ⟨l.block, l.lo + o + i, none⟩ = some u := by
  unfold AH.read at hr
  split at hr
  · rename_i c m ty g sf hf
    obtain ⟨l, hl, cs, fr, hb, hc⟩ := h.ent f _ hf
    obtain ⟨us, hus, hn, hq⟩ := read_cells hc hr
    refine ⟨l, us, hl, hus, hn, ?_, fun i u hi => by rw [cell_of_heap hb]; exact hq i u hi⟩
    have := run_loadCells_heap (P := P) hb (o := l.lo + o) us hq
    rwa [hn] at this
  · cases hr

theorem isAggT_run {t : TypeId} {b : Bool} (h : isAggT P t = some b) (w : World) : (isAgg t).run P w = .ok b w := by
  unfold isAggT at h
  split at h <;> cases h <;> (rename_i hu; simp [isAgg, run_underlying' hu])
  where
  run_underlying' {t : TypeId} {d : TypeDesc} (h : P.underlying t = some d) {w : World} : (underlying t).run P w = .ok d w := by
    simp [underlying, h]

theorem szOf_run {t : TypeId} {n : Nat} (h : szOf P t = some n) (w : World) : (sizeOf t).run P w = .ok n w := by
  unfold szOf at h
  split at h
  · rename_i i hi; cases h; simp [sizeOf, typeInfo, hi]
  · cases h

theorem szOf_sz {t : TypeId} {n : Nat} (h : szOf P t = some n) : sz P t = n := by simp [sz, h]

theorem aload_ok {ι : Img} {A : AH} {w : World} {t : TypeId} {f o : Nat} {v : AV} (h : Rel P ι A w) (hr : aload P A t f o = some v) :
    ∃ l u, ι f = some l ∧ conc ι v = some u ∧ (loadVar t ⟨l.block, l.lo + o, none⟩).run P w = .ok u w := by
  unfold aload at hr
  split at hr
  · rename_i ha
    split at hr
    · rename_i n hn
      split at hr
      · rename_i vs hvs
        cases hr
        obtain ⟨l, us, hl, hus, _, hrun, _⟩ := read_ok h hvs
        exact ⟨l, .agg ⟨us⟩, hl, by simp [conc, hus], by simp [loadVar, isAggT_run ha, szOf_run hn, hrun]⟩
      · cases hr
    · cases hr
  · rename_i ha
    split at hr
    · rename_i v' hvs
      cases hr
      obtain ⟨l, us, hl, hus, hn, _, hcell⟩ := read_ok h hvs
      simp only [concs] at hus
      split at hus
      · rename_i x y hx hy
        cases hus; cases hy
        have := hcell 0 x (by simp)
        exact ⟨l, x, hl, hx, by simp [loadVar, isAggT_run ha]; simp at this; rw [this]⟩
      · cases hus
    · cases hr
  · cases hr

/-! ## writing -/

theorem isCell_conc {ι : Img} {v : AV} {u : Value} (hc : isCell v = true) (h : conc ι v = some u) : u.oneCell' = true := by
  cases v
  case agg => cases hc
  case tuple => cases hc
  case slice f o n c => cases c <;> simp only [conc] at h <;> split at h <;> (try split at h) <;> cases h <;> rfl
  all_goals simp only [conc] at h
  all_goals first
    | (cases h; rfl)
    | (split at h <;> cases h; rfl)

theorem owner_own {A : AH} {g : Nat} {x : Nat × Nat} (h : A.own.get g = some x) : A.owner g = x := by simp [AH.owner, h]
theorem owner_none {A : AH} {g : Nat} (h : A.own.get g = none) : A.owner g = (g, g) := by simp [AH.owner, h]

/-- an object's place is turned: its block alone has turned, and whoever lies at that block has died, or is untouched there -/
theorem Step.put {ι : Img} {A A' : AH} {w : World} {f : Nat} {e e' : Ent} {l : Loc} {o' : Obj} (h : Rel P ι A w) (hf : A.look f = some e) (hl : ι f = some l)
    (hheap : ∀ k, A'.heap.get k = if k = f then some e' else A.heap.get k) (hnext : A'.next = A.next)
    (hlook : A'.look f = some e') (hsub : ∀ k x, k ≠ f → A'.look k = some x → A.look k = some x)
    (hobj : EntOk P ι (w.putObj l.block o') l e')
    (halone : ∀ k x lk, k ≠ f → A'.look k = some x → ι k = some lk → lk.block ≠ l.block)
    (htop : ∀ c n ty g sf, e' = .cells c n ty g sf → f ≤ (A'.owner g).1)
    (howner : ∀ g k c n ty sf, k ≠ f → A'.look k = some (.cells c n ty g sf) → (A'.owner g).1 = (A.owner g).1)
    (hown : ∀ g x, A'.own.get g = some x → g < A.next) :
    Step P ι A w ι A' (w.putObj l.block o') := by
  have hheap' : ∀ b, b ≠ l.block → (w.putObj l.block o').heap[b]? = w.heap[b]? := fun b hb => World.putObj_heap_other hb
  refine ⟨Exts.refl ι, fun _ _ e => .inl e, by omega, ?_, by simp, fun b _ hn => hheap' b (fun e => hn ⟨f, _, l, hf, hl, e.symm⟩), ?_, rfl, rfl, rfl⟩
  · refine ⟨h.glob, by rw [hnext]; exact h.base, ?_, ?_, ?_, ?_, ?_⟩
    · intro k x hk
      by_cases ek : k = f
      · subst ek
        rw [hlook] at hk; cases hk
        exact ⟨l, hl, hobj⟩
      · obtain ⟨lk, hlk, hok⟩ := h.ent k x (hsub k x ek hk)
        exact ⟨lk, hlk, hok.block (hheap' _ (halone k x lk ek hk hlk))⟩
    · intro k x k' x' lk lk' hk hk' hlk hlk' hb
      by_cases ek : k = f
      · by_cases ek' : k' = f
        · exact .inl (ek.trans ek'.symm)
        · subst ek
          rw [hl] at hlk; cases hlk
          exact absurd hb.symm (halone k' x' lk' ek' hk' hlk')
      · by_cases ek' : k' = f
        · subst ek'
          rw [hl] at hlk'; cases hlk'
          exact absurd hb (halone k x lk ek hk hlk)
        · rcases h.apart k x k' x' lk lk' (hsub k x ek hk) (hsub k' x' ek' hk') hlk hlk' hb with e | ⟨c, n, ty, g, sf, c', n', ty', sf', h1, h2, h3⟩
          · exact .inl e
          · refine .inr ⟨c, n, ty, g, sf, c', n', ty', sf', h1, h2, fun he => h3 ?_⟩
            subst h1
            rw [howner g k c n ty sf ek hk] at he
            exact he
    · intro k c n ty g sf hk
      by_cases ek : k = f
      · subst ek
        rw [hlook] at hk; cases hk
        exact htop c n ty g sf rfl
      · rw [howner g k c n ty sf ek hk]
        exact h.top k c n ty g sf (hsub k _ ek hk)
    · intro k x hk
      rw [hheap] at hk
      rw [hnext]
      split at hk
      · rename_i ek; subst ek; exact h.lt _ _ (look_get hf)
      · exact h.lt k x hk
    · intro g x hg
      rw [hnext]; exact hown g x hg
  · rintro b ⟨k, x, lk, hk, hlk, rfl⟩ _
    by_cases ek : k = f
    · subst ek
      rw [hl] at hlk; cases hlk
      exact ⟨k, e, l, hf, hl, rfl⟩
    · exact ⟨k, x, lk, hsub k x ek hk, hlk, rfl⟩

end
end Go.Eng
