/- THE ENGINE: a write by the owner; what grows. -/
import Derived.Test.YthifbjdpkipbaaaGreatDoorEng3
set_option linter.all false
namespace Go.Eng

section
variable {P : Program}

theorem look_cells {A : AH} {f : Nat} {c : PT AV} {n ty g sf : Nat} : A.look f = some (.cells c n ty g sf) ↔ A.heap.get f = some (.cells c n ty g sf) ∧ (A.owner g).2 ≤ f := by
  constructor
  · intro h
    have hg := look_get h
    refine ⟨hg, ?_⟩
    simp only [AH.look, hg] at h
    simp only [AH.owner]
    split at h
    · rename_i x m hx; rw [hx]; split at h
      · assumption
      · cases h
    · rename_i hx; rw [hx]; split at h
      · assumption
      · cases h
  · rintro ⟨hg, hm⟩
    simp only [AH.look, hg]
    simp only [AH.owner] at hm
    split
    · rename_i x m hx; rw [hx] at hm; rw [if_pos hm]
    · rename_i hx; rw [hx] at hm; rw [if_pos hm]

theorem look_other {A : AH} {f : Nat} {e : Ent} (he : ∀ c n ty g sf, e ≠ .cells c n ty g sf) : A.look f = some e ↔ A.heap.get f = some e := by
  constructor
  · exact look_get
  · intro h
    simp only [AH.look, h]
    cases e <;> first | rfl | exact absurd rfl (he _ _ _ _ _)

/-- what is alive behind a turn of one name, and of groups' least names -/
theorem look_sub {A A' : AH} {f : Nat} (hheap : ∀ k, k ≠ f → A'.heap.get k = A.heap.get k) (hm : ∀ g, (A.owner g).2 ≤ (A'.owner g).2) {k : Nat} {x : Ent} (hk : k ≠ f) (h : A'.look k = some x) : A.look k = some x := by
  by_cases hc : ∃ c n ty g sf, x = .cells c n ty g sf
  · obtain ⟨c, n, ty, g, sf, rfl⟩ := hc
    rw [look_cells] at h ⊢
    exact ⟨by rw [← hheap k hk]; exact h.1, Nat.le_trans (hm g) h.2⟩
  · have hx : ∀ c n ty g sf, x ≠ .cells c n ty g sf := fun c n ty g sf e => hc ⟨c, n, ty, g, sf, e⟩
    rw [look_other hx] at h ⊢
    rw [← hheap k hk]; exact h

theorem owner_set (A : AH) (g g' : Nat) (x : Nat × Nat) (h : PT Ent) (n : Nat) : (⟨h, n, A.own.set g x⟩ : AH).owner g' = if g' = g then x else A.owner g' := by
  by_cases e : g' = g <;> simp [AH.owner, PT.get_set, e]

/-- A WRITE, BY THE OWNER. -/
theorem write_ok {ι : Img} {A A' : AH} {w : World} {f o : Nat} {vs : List AV} {us : List Value} (h : Rel P ι A w) (hw : A.write f o vs = some A') (hus : concs ι vs = some us) :
    ∃ l o', ι f = some l ∧ (storeCells ⟨l.block, l.lo + o, none⟩ us).run P w = .ok () (w.putObj l.block o') ∧ Step P ι A w ι A' (w.putObj l.block o') ∧ A'.next = A.next := by
  unfold AH.write at hw
  split at hw
  · rename_i c n ty g sf hf
    split at hw
    · cases hw
    rename_i hsf
    split at hw
    · cases hw
    rename_i hlen
    split at hw
    · cases hw
    rename_i hcell
    have hcell : ∀ v ∈ vs, isCell v = true := by simpa using hcell
    -- the group, before and behind
    have key : A'.next = A.next ∧ A'.heap = A.heap.set f (.cells (c.setL o vs) n ty g sf) ∧ (A.owner g).1 = f ∧ (∀ g', (A'.owner g').1 = (A.owner g').1) ∧ (∀ g', (A.owner g').2 ≤ (A'.owner g').2) ∧ (A'.owner g) = (f, f) ∧
        (∀ g' x, A'.own.get g' = some x → g' < A.next) := by
      have hal := (look_cells.1 hf).2
      split at hw
      · rename_i ho
        split at hw
        · rename_i e
          cases hw
          subst e
          exact ⟨rfl, rfl, by rw [owner_none ho], fun _ => rfl, fun _ => Nat.le_refl _, owner_none ho, h.own⟩
        · cases hw
      · rename_i ow m ho
        split at hw
        · rename_i e
          cases hw
          subst e
          have hog := owner_own ho
          rw [hog] at hal
          by_cases em : m = ow
          · subst em
            simp only [if_pos]
            exact ⟨trivial, trivial, by rw [hog], fun _ => rfl, fun _ => Nat.le_refl _, hog, h.own⟩
          · simp only [if_neg em]
            refine ⟨trivial, trivial, by rw [hog], fun g' => ?_, fun g' => ?_, ?_, fun g' x hx => ?_⟩
            · rw [owner_set]; split
              · rename_i eg; subst eg; rw [hog]
              · rfl
            · rw [owner_set]; split
              · rename_i eg; subst eg; rw [hog]; exact hal
              · exact Nat.le_refl _
            · rw [owner_set, if_pos rfl]
            · rw [PT.get_set] at hx
              split at hx
              · rename_i eg; subst eg; exact h.own _ _ ho
              · exact h.own _ _ hx
        · cases hw
    obtain ⟨knext, kheap, kown, kfst, ksnd, knew, klt⟩ := key
    obtain ⟨l, hl, cs, fr, hb, hc⟩ := h.ent f _ hf
    have hul := concs_length hus
    obtain ⟨h1, h2, h3, h4, h5⟩ := hc
    obtain ⟨cs', hrun, hsz, hget⟩ := run_storeCells_heap (P := P) l.block (l.lo + o) ty fr us 0 cs w hb (by omega)
      (fun v hv => by
        obtain ⟨i, hi⟩ := List.mem_iff_getElem?.1 hv
        have hlt : i < vs.length := by rw [← hul]; exact (List.getElem?_eq_some_iff.1 hi).1
        obtain ⟨b, hb', hcb⟩ := concs_get hus i _ (List.getElem?_eq_getElem hlt)
        rw [hi] at hb'; cases hb'
        exact isCell_conc (hcell _ (List.getElem_mem hlt)) hcb)
      (fun x hx hx' => by
        rcases Nat.lt_or_ge sf 1 with e | e
        · exact h5.none0 (by omega) x
        · by_cases e1 : sf = 1
          · exact h5.none1 e1 x (by omega)
          · omega)
    refine ⟨l, .cells cs' ty fr, hl, hrun, Step.put h hf hl (e' := .cells (c.setL o vs) n ty g sf) (fun k => by rw [kheap, PT.get_set]) knext ?_ (fun k x hk hx => look_sub (A := A) (A' := A') (f := f) (fun k hk => by rw [kheap, PT.get_set_ne _ _ hk]) ksnd hk hx) ?_ ?_ ?_ (fun g' _ _ _ _ _ _ _ => kfst g') klt, knext⟩
    · rw [look_cells, kheap, PT.get_set_same, knew]; exact ⟨rfl, Nat.le_refl _⟩
    · refine ⟨cs', fr, World.putObj_heap_same (Array.getElem?_eq_some_iff.1 hb).1, by omega, by omega, h3, fun p v hp => ?_, ?_⟩
      · rw [PT.get_setL] at hp
        rw [hget]
        split at hp
        · rename_i hr
          obtain ⟨b, hb', hcb⟩ := concs_get hus _ _ hp
          refine ⟨by omega, b, hcb, ?_⟩
          rw [if_pos (by omega), show l.lo + p - (l.lo + o + 0) = p - o from by omega]
          exact hb'
        · rename_i hr
          obtain ⟨hpn, u, hu, hcu⟩ := h4 p v hp
          exact ⟨hpn, u, hu, by rw [if_neg (by omega)]; exact hcu⟩
      · exact ⟨h5.1, fun e => by have := h5.2 e; omega⟩
    · intro k x lk hk hx hlk eb
      have hx' := look_sub (A := A) (A' := A') (f := f) (fun k hk => by rw [kheap, PT.get_set_ne _ _ hk]) ksnd hk hx
      rcases h.apart f _ k x l lk hf hx' hl hlk eb.symm with e | ⟨c1, n1, ty1, g1, sf1, c2, n2, ty2, sf2, e1, e2, _⟩
      · exact hk e.symm
      · cases e1
        subst e2
        have ha := (look_cells.1 hx).2
        rw [knew] at ha
        have ht := h.top k _ _ _ _ _ hx'
        rw [kown] at ht
        omega
    · intro c1 n1 ty1 g1 sf1 e
      cases e
      rw [knew]; exact Nat.le_refl _
  · cases hw

end
end Go.Eng
