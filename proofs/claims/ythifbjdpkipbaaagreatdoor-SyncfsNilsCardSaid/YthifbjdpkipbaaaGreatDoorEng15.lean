/- THE ENGINE: append, copy, clear. -/
import Derived.Test.YthifbjdpkipbaaaGreatDoorEng14
set_option linter.all false
namespace Go.Eng

section
variable {P : Program}

/-- A ROW GROWS: its newest name is the group's owner; in place, or anew. -/
theorem Step.regroup {ι : Img} {A : AH} {w w' : World} {f : Nat} {c c' : PT AV} {m n' ty ty' g sf sf' mn : Nat} {l lm : Loc} (h : Rel P ι A w) (hf : A.look f = some (.cells c m ty g sf)) (hl : ι f = some l) (hown : (A.owner g).1 = f)
    (hn : ι A.next = none) (hmn : mn = (A.owner g).2 ∨ mn = A.next) (hent : EntOk P (Img.set ι A.next lm) w' lm (.cells c' n' ty' g sf')) (hsize : w.heap.size ≤ w'.heap.size) (hout : w'.os = w.os ∧ w'.tape = w.tape ∧ w'.output = w.output)
    (hblk : (lm.block = w.heap.size ∧ ∀ b, b < w.heap.size → w'.heap[b]? = w.heap[b]?) ∨
      (lm.block = l.block ∧ l.lo + m ≤ lm.lo + n' ∧ (∀ b, b ≠ l.block → w'.heap[b]? = w.heap[b]?) ∧ (mn ≠ A.next → ∀ k x lk, A.look k = some x → ι k = some lk → lk.block = l.block → EntOk P ι w lk x → EntOk P ι w' lk x))) :
    Step P ι A w (Img.set ι A.next lm) ⟨A.heap.set A.next (.cells c' n' ty' g sf'), A.next + 1, A.own.set g (A.next, mn)⟩ w' := by
  have hext := Img.set_ext lm hn
  have hflt : f < A.next := h.lt f _ (look_get hf)
  have hal := (look_cells.1 hf).2
  have hg : g < A.next := by
    cases ho : A.own.get g with
    | none => rw [owner_none ho] at hown; simp only at hown; omega
    | some x => exact h.own g x ho
  obtain ⟨A', hA'⟩ : ∃ A' : AH, A' = ⟨A.heap.set A.next (.cells c' n' ty' g sf'), A.next + 1, A.own.set g (A.next, mn)⟩ := ⟨_, rfl⟩
  rw [← hA']
  have hheap : ∀ k, k ≠ A.next → A'.heap.get k = A.heap.get k := fun k hk => by rw [hA', PT.get_set_ne _ _ hk]
  have hown' : ∀ g', A'.owner g' = if g' = g then (A.next, mn) else A.owner g' := fun g' => by rw [hA', owner_set]
  have hm : ∀ g', (A.owner g').2 ≤ (A'.owner g').2 := fun g' => by
    rw [hown']
    split
    · rename_i e; subst e
      rcases hmn with e | e
      · simp only [e]; exact Nat.le_refl _
      · simp only [e]; omega
    · exact Nat.le_refl _
  have hsub : ∀ {k x}, k ≠ A.next → A'.look k = some x → A.look k = some x := fun hk hx => look_sub hheap hm hk hx
  have hlooknew : A'.look A.next = some (.cells c' n' ty' g sf') := by
    rw [look_cells, hown', if_pos rfl]
    refine ⟨by rw [hA', PT.get_set_same], ?_⟩
    rcases hmn with e | e
    · simp only [e]; omega
    · simp only [e]; exact Nat.le_refl _
  have hnew : (Img.set ι A.next lm) A.next = some lm := Img.set_same _ _ _
  have hlk : ∀ {k x lk}, k ≠ A.next → A'.look k = some x → (Img.set ι A.next lm) k = some lk → A.look k = some x ∧ ι k = some lk ∧ EntOk P ι w lk x ∧ lk.block < w.heap.size := fun {k x lk} hk hx hlk => by
    have hx' := hsub hk hx
    rw [Img.set_ne _ _ hk] at hlk
    obtain ⟨l', hl', ho⟩ := h.ent k x hx'
    rw [hlk] at hl'; cases hl'
    exact ⟨hx', hlk, ho, ho.lt⟩
  -- what lies at the row's block, and is alive behind
  have hrow : ∀ {k x lk}, k ≠ A.next → A'.look k = some x → ι k = some lk → lk.block = l.block → mn ≠ A.next ∧ ∃ c2 n2 ty2 sf2, x = .cells c2 n2 ty2 g sf2 ∧ lk.lo + n2 ≤ l.lo + m := fun {k x lk} hk hx hlk eb => by
    have hx' := hsub hk hx
    have hkl : k < A.next := h.lt k _ (look_get hx')
    have hcase : ∃ c2 n2 ty2 sf2, x = .cells c2 n2 ty2 g sf2 ∧ lk.lo + n2 ≤ l.lo + m := by
      rcases h.apart f _ k x l lk hf hx' hl hlk eb.symm with e | ⟨c1, n1, ty1, g1, sf1, c2, n2, ty2, sf2, e1, e2, e3⟩
      · subst e
        rw [hf] at hx'; cases hx'
        rw [hl] at hlk; cases hlk
        exact ⟨c, m, ty, sf, rfl, Nat.le_refl _⟩
      · cases e1
        exact ⟨c2, n2, ty2, sf2, e2, e3 hown⟩
    obtain ⟨c2, n2, ty2, sf2, rfl, hle⟩ := hcase
    refine ⟨fun e => ?_, c2, n2, ty2, sf2, rfl, hle⟩
    have := (look_cells.1 hx).2
    rw [hown', if_pos rfl] at this
    simp only [e] at this
    omega
  have hrel : Rel P (Img.set ι A.next lm) A' w' := by
    refine ⟨h.glob.mono hext, by have := h.base; rw [hA']; simp; omega, ?_, ?_, ?_, ?_, ?_⟩
    · intro k x hx
      by_cases ek : k = A.next
      · subst ek
        rw [hlooknew] at hx; cases hx
        exact ⟨lm, hnew, hent⟩
      · have hx' := hsub ek hx
        obtain ⟨lk, hlk', ho⟩ := h.ent k x hx'
        refine ⟨lk, hext _ _ hlk', EntOk.mono hext ?_⟩
        rcases hblk with ⟨hb, hkeep⟩ | ⟨hb, hle, hkeep, hold⟩
        · exact ho.block (hkeep _ ho.lt)
        · by_cases eb : lk.block = l.block
          · exact hold (hrow ek hx hlk' eb).1 k x lk hx' hlk' eb ho
          · exact ho.block (hkeep _ eb)
    · intro k x k' x' lk lk' hx hx' hk hk' hb
      by_cases ek : k = A.next
      · by_cases ek' : k' = A.next
        · exact .inl (ek.trans ek'.symm)
        · obtain ⟨y', hy', ho', hlt'⟩ := hlk ek' hx' hk'
          subst ek
          rw [hnew] at hk; cases hk
          rw [hlooknew] at hx; cases hx
          rcases hblk with ⟨hb1, _⟩ | ⟨hb1, hle, _, _⟩
          · omega
          · obtain ⟨_, c2, n2, ty2, sf2, rfl, hle2⟩ := hrow ek' hx' hy' (hb.symm.trans hb1)
            exact .inr ⟨_, _, _, _, _, _, _, _, _, rfl, rfl, fun _ => by omega⟩
      · obtain ⟨y, hy, ho, hlt⟩ := hlk ek hx hk
        have hkl : k < A.next := h.lt k _ (look_get y)
        by_cases ek' : k' = A.next
        · subst ek'
          rw [hnew] at hk'; cases hk'
          rw [hlooknew] at hx'; cases hx'
          rcases hblk with ⟨hb1, _⟩ | ⟨hb1, hle, _, _⟩
          · omega
          · obtain ⟨_, c2, n2, ty2, sf2, rfl, hle2⟩ := hrow ek hx hy (hb.trans hb1)
            refine .inr ⟨_, _, _, _, _, _, _, _, _, rfl, rfl, fun e => ?_⟩
            rw [hown', if_pos rfl] at e
            simp only at e; omega
        · obtain ⟨y', hy', ho', hlt'⟩ := hlk ek' hx' hk'
          rcases h.apart k x k' x' lk lk' y y' hy hy' hb with e | ⟨c1, n1, ty1, g1, sf1, c2, n2, ty2, sf2, e1, e2, e3⟩
          · exact .inl e
          · refine .inr ⟨c1, n1, ty1, g1, sf1, c2, n2, ty2, sf2, e1, e2, fun e => e3 ?_⟩
            rw [hown'] at e
            split at e
            · simp only at e; omega
            · exact e
    · intro k c1 n1 ty1 g1 sf1 hx
      by_cases ek : k = A.next
      · subst ek
        rw [hlooknew] at hx; cases hx
        rw [hown', if_pos rfl]; exact Nat.le_refl _
      · have hx' := hsub ek hx
        have hkl : k < A.next := h.lt k _ (look_get hx')
        rw [hown']
        split
        · simp only; omega
        · exact h.top k _ _ _ _ _ hx'
    · intro k x hx
      by_cases ek : k = A.next
      · rw [hA']; simp only; omega
      · rw [hheap k ek] at hx
        have := h.lt k x hx
        rw [hA']; simp only; omega
    · intro g1 x hx
      rw [hA'] at hx ⊢
      simp only at hx ⊢
      rw [PT.get_set] at hx
      split at hx
      · rename_i e; subst e; omega
      · have := h.own g1 x hx; omega
  refine ⟨hext, fun n k hk => ?_, by rw [hA']; simp, hrel, hsize, fun b hb hi => ?_, ?_, hout⟩
  · by_cases en : n = A.next
    · exact .inr ⟨by omega, by rw [hA']; simp; omega⟩
    · rw [Img.set_ne _ _ en] at hk; exact .inl hk
  · rcases hblk with ⟨_, hkeep⟩ | ⟨_, _, hkeep, _⟩
    · exact hkeep b hb
    · exact hkeep b fun e => hi ⟨f, _, l, hf, hl, e.symm⟩
  · rintro b ⟨k, x, lk, hx, hk, rfl⟩ hlt
    by_cases ek : k = A.next
    · subst ek
      rw [hnew] at hk; cases hk
      rcases hblk with ⟨hb, _⟩ | ⟨hb, _⟩
      · omega
      · exact ⟨f, _, l, hf, hl, hb.symm⟩
    · obtain ⟨y, hy, _⟩ := hlk ek hx hk
      exact ⟨k, x, lk, y, hy, rfl⟩

theorem concs_nil {ι : Img} {us : List Value} (h : concs ι [] = some us) : us = [] := by simp [concs] at h; exact h

theorem grow_facts {e : TypeId} {sz : Nat} (h : growOk P e sz = true) (ι : Img) : ∃ z b, bytesOf P e = some b ∧ b < 100000 ∧ szOf P e = some sz ∧ z.cells.size = sz ∧ ∀ w : World, (zeroValue e).run P w = .ok z w := by
  unfold growOk at h
  split at h
  · rename_i z b n hz hb hs
    simp only [Bool.and_eq_true, decide_eq_true_eq] at h
    obtain ⟨⟨h1, h2⟩, rfl⟩ := h
    obtain ⟨u, hu, _⟩ := zeroOf_conc (P := P) ι hz default
    refine ⟨u, b, hb, h2, hs, ?_, fun w => ?_⟩
    · rw [← Array.length_toList, concs_length (cells_conc hu)]; exact h1
    · obtain ⟨u', hu', hr⟩ := zeroOf_conc (P := P) ι hz w
      rw [hu] at hu'; cases hu'; exact hr
  · cases h

set_option maxHeartbeats 2000000 in
theorem append_ok {ι : Img} {A A' : AH} {w : World} (h : Rel P ι A w) {ts : Array TypeId} {ty t e : TypeId} {args : Array Value} {s v : AV} {u : Value} {size n : Nat} {new : List AV} {us : List Value}
    (ha : aappend P A e size s n new = some (v, A')) (hx : conc ι s = some u) (h0 : ts[0]? = some t) (ha0 : args[0]? = some u) (hu : P.underlying t = some (.slice e)) (hsz : szOf P e = some size)
    (hnew : concs ι new = some us) (harg : AppArg P e size ts args w n us) (hn : A.next < A'.next → ι A.next = none) :
    ∃ r w' ι', (Builtin.append_ ts ty args).run P w = .ok r w' ∧ conc ι' v = some r ∧ Step P ι A w ι' A' w' := by
  have hul := concs_length hnew
  unfold aappend at ha
  split at ha
  · cases ha
  rename_i hlen
  simp only [ne_eq, Decidable.not_not] at hlen
  split at ha
  · rename_i hn0
    subst hn0
    have hus : us = [] := List.length_eq_zero_iff.1 (by rw [hul, hlen]; simp)
    subst hus
    have fin : ∀ base sLen sCap, u = .slice base sLen sCap → sLen ≤ sCap → (Builtin.append_ ts ty args).run P w = .ok u w := fun base sLen sCap e hle => by
      have := run_append_room (ty := ty) (w' := w) h0 (e ▸ ha0) hu hsz harg (by omega) (by cases base <;> simp [storeCells])
      rw [this, e]; rfl
    split at ha
    · cases ha
      have hx' := hx
      simp only [conc] at hx'
      exact ⟨u, w, ι, fin none 0 0 (by cases hx'; rfl) (Nat.le_refl _), hx, Step.refl h⟩
    · cases ha
      have hx' := hx
      simp only [conc] at hx'
      split at hx'
      · exact ⟨u, w, ι, fin _ 0 _ (by cases hx'; rfl) (Nat.zero_le _), hx, Step.refl h⟩
      · cases hx'
    · split at ha
      · rename_i hle
        cases ha
        obtain ⟨l, k, _, hu', hk⟩ := slice_conc hx
        have hk : k = _ := hk
        exact ⟨u, w, ι, fin _ _ _ hu' (by omega), hx, Step.refl h⟩
      · cases ha
    · split at ha
      · rename_i hle
        cases ha
        obtain ⟨l, k, _, hu', hk, hk'⟩ := slice_conc hx
        exact ⟨u, w, ι, fin _ _ _ hu' (by omega), hx, Step.refl h⟩
      · cases ha
    · cases ha
  rename_i hn0
  split at ha
  · cases ha
  rename_i hs0
  split at ha
  · cases ha
  rename_i hn8
  -- a new row
  have grow : ∀ (base : Option Addr) (sLen sCap : Nat) (old : List AV), u = .slice base sLen sCap → ¬ sLen + n ≤ sCap → growOk P e size = true → sLen < 100000000 → old.length = sLen * size → ι A.next = none →
      (∃ uo, concs ι old = some uo ∧ ∀ w' : World, w'.heap = w.heap → (Builtin.firstCells size sLen u).run P w' = .ok uo.toArray w') →
      ∃ r w' l', (Builtin.append_ ts ty args).run P w = .ok r w' ∧ l'.block = w.heap.size ∧ conc (Img.set ι A.next l') (.slice A.next 0 (sLen + n) (.gr 0 (sLen + n))) = some r ∧
        (∃ o, HeapIs w w' (w.heap.push o)) ∧ ∀ g sf, sf < 2 → EntOk P (Img.set ι A.next l') w' l' (.cells (PT.setL .nil 0 (old ++ new)) ((sLen + n) * size) e g sf) := by
    intro base sLen sCap old hu' hroom hg hsl hol hnx ⟨uo, huo, hfo⟩
    obtain ⟨z, b, hb, hb', _, hzs, hz⟩ := grow_facts hg ι
    subst hu'
    obtain ⟨k, w', hrun, hW'⟩ := run_append_grow (ty := ty) (z := z) (old := uo) h0 ha0 hu hsz harg hroom hb hb' hz hsl (by omega) hs0 hn0 hfo
    have hw' := hW'.heap
    have hext := Img.set_ext ⟨w.heap.size, 0, sLen + n + k⟩ hnx
    have hzk : (Builtin.zeroCells z.cells k).size = k * size := by simp [Builtin.zeroCells, hzs]
    have hcat := concs_mono hext _ _ (concs_append huo hnew)
    have huol := concs_length huo
    refine ⟨_, w', ⟨w.heap.size, 0, sLen + n + k⟩, hrun, rfl, ?_, ⟨_, hW'⟩, fun g sf hsf => ⟨_, (0, 0), by rw [hw']; exact Array.getElem?_push_size, ?_⟩⟩
    · have : 0 + (sLen + n) ≤ sLen + n + k := by omega
      simp only [conc, Img.set_same, if_pos this]
      rfl
    · have e1 : (sLen + n) * size = sLen * size + n * size := Nat.add_mul _ _ _
      have e2 : (sLen + n + k) * size = sLen * size + n * size + k * size := by rw [Nat.add_mul, Nat.add_mul]
      refine ⟨by simp [hzk]; omega, by simp [hzk, szOf_sz hsz]; omega, by simp, fun p x hp => ?_, unfrozen_zero _ _⟩
      rw [PT.get_setL] at hp
      split at hp
      · rename_i hr
        obtain ⟨y, hy, hc⟩ := concs_get hcat _ _ hp
        have hlt : p < (uo ++ us).length := by rw [concs_length hcat]; omega
        refine ⟨?_, y, hc, ?_⟩
        · have := hr.2; simp only [List.length_append] at this; omega
        · rw [← Array.getElem?_toList]
          simp only [Array.toList_append, Nat.zero_add]
          rw [List.getElem?_append_left (by simpa using hlt)]
          simpa using hy
      · simp at hp
  split at ha
  · split at ha
    · rename_i hg
      cases ha
      have hx' := hx
      simp only [conc] at hx'
      cases hx'
      have hnx : ι A.next = none := hn (by simp [AH.newCells, AH.new])
      obtain ⟨r, w', l', hrun, hlb, hc, ⟨o, hp⟩, hent⟩ := grow none 0 0 [] rfl (by omega) hg (by omega) (by simp) hnx ⟨[], by simp [concs], fun w' _ => rfl⟩
      refine ⟨r, w', Img.set ι A.next l', hrun, by simpa using hc, Step.alloc h hp hnx hlb ?_ rfl⟩
      simpa using hent A.next 0 (by omega)
    · cases ha
  · rename_i f o len cap
    obtain ⟨l, k, hl, hu', hk⟩ := slice_conc hx
    have hk : k = cap := hk
    subst hk hu'
    split at ha
    · rename_i hroom
      split at ha
      · rename_i A1 hw
        cases ha
        obtain ⟨l', o', hl', hrun, hstep, _⟩ := write_ok h hw hnew
        rw [hl] at hl'; cases hl'
        refine ⟨_, _, ι, run_append_room (ty := ty) h0 ha0 hu hsz harg hroom (by simpa [addr_add, Nat.add_assoc] using hrun), by simp [conc, hl], hstep⟩
      · cases ha
    · rename_i hroom
      split at ha
      · rename_i old hr
        split at ha
        · cases ha
        rename_i hl8
        split at ha
        · rename_i hg
          cases ha
          have hnx : ι A.next = none := hn (by simp [AH.newCells, AH.new])
          obtain ⟨l', uo, hl', huo, hol, _⟩ := read_ok h hr
          obtain ⟨r, w', l2, hrun, hlb, hc, ⟨o2, hp⟩, hent⟩ := grow _ len k old rfl hroom hg (by omega) (by rw [← concs_length huo]; exact hol) hnx ⟨uo, huo, fun w' hw' => by
            obtain ⟨l3, uo', hl3, huo', _, hrun', _⟩ := read_ok (h.congr hw') hr
            rw [hl] at hl3; cases hl3
            rw [huo] at huo'; cases huo'
            simpa [Builtin.firstCells] using hrun'⟩
          exact ⟨r, w', Img.set ι A.next l2, hrun, hc, Step.alloc h hp hnx hlb (hent A.next 0 (by omega)) rfl⟩
        · cases ha
      · cases ha
  · rename_i f o len skip room
    obtain ⟨l, k, hl, rfl, hcap, rfl⟩ := slice_conc hx
    split at ha
    · rename_i hroom
      split at ha
      · rename_i A1 hw
        cases ha
        obtain ⟨l', o', hl', hrun, hstep, _⟩ := write_ok h hw hnew
        rw [hl] at hl'; cases hl'
        refine ⟨_, _, ι, run_append_room (ty := ty) h0 ha0 hu hsz harg (by omega) (by simpa [addr_add, Nat.add_assoc] using hrun), by simp [conc, hl, hcap], hstep⟩
      · cases ha
    · rename_i hroom
      split at ha
      · rename_i c m ty' g sf hf
        split at ha
        · rename_i hcond
          obtain ⟨hsf, rfl, rfl, hlr, hm, hown, hl8, hcell, hg⟩ := hcond
          split at ha
          · rename_i old hr
            cases ha
            have hnx : ι A.next = none := hn (by simp)
            obtain ⟨l', uo, hl', huo, hol, _, hcello⟩ := read_ok h hr
            rw [hl] at hl'; cases hl'
            have hold : old.length = len * size := by rw [← concs_length huo]; exact hol
            by_cases hin : len + n ≤ l.cap - skip
            · -- in place
              obtain ⟨l2, hl2, cs, fr, hb, hc⟩ := h.ent f _ hf
              rw [hl] at hl2; cases hl2
              obtain ⟨k1, k2, k3, k4, k5⟩ := hc
              rw [szOf_sz hsz] at k2 k3
              have hbl : l.block < w.heap.size := (Array.getElem?_eq_some_iff.1 hb).1
              have e0 : (skip + (len + n)) * size ≤ l.cap * size := Nat.mul_le_mul_right _ (by omega)
              have e1 : (skip + (len + n)) * size = skip * size + len * size + n * size := by rw [Nat.add_mul, Nat.add_mul]; omega
              obtain ⟨cs', hrun, hcs, hget⟩ := run_storeCells_heap (P := P) l.block (l.lo + skip * size + len * size) ty' fr us 0 cs w hb (by omega)
                (fun v hv => by
                  obtain ⟨i, hi⟩ := List.mem_iff_getElem?.1 hv
                  have hlt : i < new.length := by rw [← hul]; exact (List.getElem?_eq_some_iff.1 hi).1
                  obtain ⟨b, hb', hcb⟩ := concs_get hnew i _ (List.getElem?_eq_getElem hlt)
                  rw [hi] at hb'; cases hb'
                  exact isCell_conc (List.all_eq_true.1 hcell _ (List.getElem_mem hlt)) hcb)
                (fun x hx hx' => by
                  rcases Nat.lt_or_ge sf 1 with e | e
                  · exact k5.none0 (by omega) x
                  · exact k5.none1 (by omega) x (by omega))
              have hext := Img.set_ext ⟨l.block, l.lo + skip * size, l.cap - skip⟩ hnx
              have hcat := concs_mono hext _ _ (concs_append huo hnew)
              have hob : (w.putObj l.block (.cells cs' ty' fr)).heap[l.block]? = some (.cells cs' ty' fr) := World.putObj_heap_same hbl
              have e3 : (len + n) * size = len * size + n * size := Nat.add_mul _ _ _
              have e4 : (skip + room) * size = skip * size + room * size := Nat.add_mul _ _ _
              have e5 : len * size ≤ room * size := Nat.mul_le_mul_right _ hlr
              have e6 : room * size ≤ (len + n) * size := Nat.mul_le_mul_right _ (by omega)
              have e7 : (l.cap - skip) * size = l.cap * size - skip * size := Nat.sub_mul _ _ _
              have e8 : skip * size ≤ l.cap * size := Nat.mul_le_mul_right _ (by omega)
              refine ⟨_, _, Img.set ι A.next ⟨l.block, l.lo + skip * size, l.cap - skip⟩, run_append_room (ty := ty) h0 ha0 hu hsz harg hin (by simpa [addr_add, Nat.add_assoc] using hrun), ?_,
                Step.regroup h hf hl hown hnx (by split <;> simp) ⟨cs', fr, hob, ?_⟩ (by simp) ⟨rfl, rfl, rfl⟩ (.inr ⟨rfl, by simp only; omega, fun b hb => World.putObj_heap_other hb, fun hne k x lk hk hlk eb ho => ?_⟩)⟩
              · have : 0 + (len + n) ≤ l.cap - skip := by omega
                simp only [conc, Img.set_same, if_pos this]
                rfl
              · refine ⟨by simp only; omega, by simp only [szOf_sz hsz]; omega, by simp only [szOf_sz hsz]; exact Nat.dvd_add k3 (Nat.dvd_mul_left _ _), fun p x hp => ?_, ⟨k5.1, fun e => by have := k5.2 e; omega⟩⟩
                rw [PT.get_setL] at hp
                split at hp
                · rename_i hr2
                  obtain ⟨y, hy, hcy⟩ := concs_get hcat _ _ hp
                  have hr3 := hr2.2
                  simp only [List.length_append] at hr3
                  refine ⟨by omega, y, hcy, ?_⟩
                  rw [hget]
                  simp only [Nat.sub_zero] at hy ⊢
                  by_cases hpo : p < len * size
                  · rw [if_neg (by omega)]
                    rw [List.getElem?_append_left (by omega)] at hy
                    have := hcello p y hy
                    rw [cell_of_heap hb] at this
                    simpa using this
                  · rw [if_pos (by omega)]
                    rw [List.getElem?_append_right (by omega)] at hy
                    rw [← hy]
                    congr 1
                    omega
                · simp at hp
              · have hlen' : len = room := by
                  by_cases e : len = room
                  · exact e
                  · rw [if_neg e] at hne; exact absurd rfl hne
                subst hlen'
                have hcase : ∃ c2 n2 ty2 sf2, x = .cells c2 n2 ty2 g sf2 ∧ lk.lo + n2 ≤ l.lo + m := by
                  rcases h.apart f _ k x l lk hf hk hl hlk eb.symm with e | ⟨c1, n1, ty1, g1, sf1, c2, n2, ty2, sf2, e1, e2, e3⟩
                  · subst e
                    rw [hf] at hk; cases hk
                    rw [hl] at hlk; cases hlk
                    exact ⟨_, _, _, _, rfl, Nat.le_refl _⟩
                  · cases e1
                    exact ⟨c2, n2, ty2, sf2, e2, e3 hown⟩
                obtain ⟨c2, n2, ty2, sf2, rfl, hle⟩ := hcase
                obtain ⟨cs2, fr2, hb2, q1, q2, q3, q4, q5⟩ := ho
                rw [eb, hb] at hb2; cases hb2
                refine ⟨cs', fr, by rw [eb]; exact hob, by omega, by omega, q3, fun p x hp => ?_, ⟨q5.1, fun e => by have := q5.2 e; omega⟩⟩
                obtain ⟨hpn, y, hy, hcy⟩ := q4 p x hp
                refine ⟨hpn, y, hy, ?_⟩
                rw [hget, if_neg (by omega)]
                exact hcy
            · -- anew
              obtain ⟨r, w', l2, hrun, hlb, hcr, ⟨o2, hp⟩, hent⟩ := grow _ len _ old rfl hin hg hl8 hold hnx ⟨uo, huo, fun w' hw' => by
                obtain ⟨l3, uo', hl3, huo', _, hrun', _⟩ := read_ok (h.congr hw') hr
                rw [hl] at hl3; cases hl3
                rw [huo] at huo'; cases huo'
                simpa [Builtin.firstCells] using hrun'⟩
              refine ⟨r, w', Img.set ι A.next l2, hrun, hcr, Step.regroup h hf hl hown hnx (by split <;> simp) (hent g sf hsf) (by rw [hp.heap]; simp) hp.out (.inl ⟨hlb, fun b hb => ?_⟩)⟩
              rw [hp.heap, Array.getElem?_push_lt hb, Array.getElem?_eq_getElem hb]
          · cases ha
        · cases ha
      · cases ha
  · cases ha

end
end Go.Eng
