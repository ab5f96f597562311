/- THE ENGINE: operations that act: delete, range, next. -/
import Derived.Test.YthifbjdpkipbaaaGreatDoorEng12
set_option linter.all false
namespace Go.Eng

section
variable {P : Program}

theorem putObj_same {w : World} {b : Nat} {o : Obj} (h : w.heap[b]? = some o) : HeapIs w (w.putObj b o) w.heap := by
  refine HeapIs.mk' ?_ rfl rfl rfl
  apply Array.ext_getElem?
  intro i
  by_cases e : i = b
  · subst e; rw [putObj_get _ h, h]
  · rw [World.putObj_heap_other e]

theorem delete_ok {ι : Img} {A A' : AH} {w : World} (h : Rel P ι A w) {ts : Array TypeId} {ty : TypeId} {args : Array Value} {kt e : TypeId} {f : Nat} {k : AV} {ux uk : Value} {t : TypeId} {es : List AMapEntry} {clock : Nat} {r : Option (Nat × AMapEntry)}
    (hu : P.underlying t = some (.map kt e)) (hp : plainKey P kt = true) (hf : keyFits P kt k = true) (hlook : A.look f = some (.map es clock)) (hfk : findKey P A kt k es 0 = some r)
    (hA : A' = match r with | some (i, _) => A.put f (.map (eraseNth es i) clock) | none => A)
    (hx : conc ι (.map f) = some ux) (hk : conc ι k = some uk) (h0 : ts[0]? = some t) (h1 : args[0]? = some ux) (h2 : args[1]? = some uk) :
    ∃ w', (Builtin.delete_ ts ty args).run P w = .ok (.tuple #[]) w' ∧ Step P ι A w ι A' w' := by
  obtain ⟨d, hd⟩ := plain_desc hp
  have hck := fun e => checkKey_ok (w := w) hp hf hk e 9998
  obtain ⟨l, cs, hlc, rfl, hb, hes⟩ := map_at h hlook hx
  have hgo := run_getObj_some (P := P) rfl hb
  obtain ⟨u, hfound, hrun⟩ := findKey_ok h hd hk hes hfk
  cases r with
  | some x =>
    obtain ⟨i, en⟩ := x
    obtain ⟨c, _, g1, g2, rfl⟩ := hfound
    simp only at hA
    obtain ⟨hset, hstep⟩ := map_put (clock' := clock) (es' := eraseNth es i) (cs' := cs.eraseIdxIfInBounds i) h hlook hlc hb (by
      rw [Array.toList_eraseIdxIfInBounds]
      exact concEs_erase i hes)
    refine ⟨_, ?_, hA ▸ hstep⟩
    simp only [Builtin.delete_, h0, h1, h2, Sem.run_bind, run_underlying hu, Result.andThen_ok, hgo, hck, hrun, hset, Sem.run_pure]
  | none =>
    obtain rfl : u = none := hfound
    simp only at hA
    subst hA
    refine ⟨w.putObj l.block (.map cs clock), ?_, Step.of_heap h (putObj_same hb)⟩
    simp only [Builtin.delete_, h0, h1, h2, Sem.run_bind, run_underlying hu, Result.andThen_ok, hgo, hck, hrun, run_setObj_put _ rfl hb, Sem.run_pure]

theorem range_ok {ι : Img} {A A' : AH} {w : World} (h : Rel P ι A w) {t : TypeId} {x v : AV} {u : Value} (hr : arange P A t x = some (v, A')) (hx : conc ι x = some u) (hn : ι A.next = none) :
    ∃ ux w' ι', (Instr.range t u).run P w = .ok ux w' ∧ conc ι' v = some ux ∧ Step P ι A w ι' A' w' ∧ A'.next = A.next + 1 := by
  have hext := Img.set_ext ⟨w.heap.size, 0, 0⟩ hn
  unfold arange at hr
  split at hr
  · rename_i s hu
    cases hr
    have e := conc_str hx; subst e
    refine ⟨.pointer (some ⟨w.heap.size, 0, none⟩), w.alloc (.stringIter ⟨⟨s⟩⟩ 0), Img.set ι A.next ⟨w.heap.size, 0, 0⟩, ?_, by simp [conc, Img.set_same], Step.alloc h rfl hn rfl ⟨rfl, Array.getElem?_push_size⟩ trivial, rfl⟩
    simp [Instr.range, run_underlying hu]
  · rename_i hu
    cases hr
    simp only [conc] at hx; cases hx
    refine ⟨.pointer (some ⟨w.heap.size, 0, none⟩), w.alloc (.mapIter none 0 #[] 0), Img.set ι A.next ⟨w.heap.size, 0, 0⟩, ?_, by simp [conc, Img.set_same], Step.alloc h rfl hn rfl ⟨rfl, none, Array.getElem?_push_size, rfl⟩ trivial, rfl⟩
    simp [Instr.range, run_underlying hu]
  · rename_i f hu
    split at hr
    · rename_i es clock hlook
      cases hr
      obtain ⟨l, cs, hlc, rfl, hb, hes⟩ := map_at h hlook hx
      have hgo := run_getObj_some (P := P) rfl hb
      refine ⟨.pointer (some ⟨w.heap.size, 0, none⟩), w.alloc (.mapIter (some l.block) clock #[] clock), Img.set ι A.next ⟨w.heap.size, 0, 0⟩, ?_, by simp [conc, Img.set_same], Step.alloc h rfl hn rfl ⟨rfl, some l.block, Array.getElem?_push_size, l, hext _ _ hlc, rfl⟩ trivial, rfl⟩
      simp [Instr.range, run_underlying hu, hgo]
    · cases hr
  · cases hr

/-! ## the next one -/

theorem concEs_filter {ι : Img} (p : Nat → Bool) : ∀ {es : List AMapEntry} {cs : List MapEntry}, concEs ι es cs → concEs ι (es.filter fun e => p e.born) (cs.filter fun c => p c.born)
  | [], [], _ => trivial
  | e :: es, c :: cs, ⟨h1, h2, h3, h4⟩ => by
    have ih := concEs_filter p h4
    simp only [List.filter_cons, h3]
    by_cases hp : p e.born = true
    · simp only [hp, if_true]; exact ⟨h1, h2, h3, ih⟩
    · simp only [hp]; exact ih
  | [], _ :: _, h => h.elim
  | _ :: _, [], h => h.elim

theorem concEs_append {ι : Img} : ∀ {es es' : List AMapEntry} {cs cs' : List MapEntry}, concEs ι es cs → concEs ι es' cs' → concEs ι (es ++ es') (cs ++ cs')
  | [], _, [], _, _, h => h
  | _ :: _, _, _ :: _, _, ⟨h1, h2, h3, h4⟩, h => ⟨h1, h2, h3, concEs_append h4 h⟩
  | [], _, _ :: _, _, h, _ => h.elim
  | _ :: _, _, [], _, h, _ => h.elim

theorem concEs_all {ι : Img} (p : Nat → Bool) : ∀ {es : List AMapEntry} {cs : List MapEntry}, concEs ι es cs → (es.all fun e => p e.born) = cs.all fun c => p c.born
  | [], [], _ => rfl
  | e :: es, c :: cs, ⟨_, _, h3, h4⟩ => by simp only [List.all_cons, h3, concEs_all p h4]
  | [], _ :: _, h => h.elim
  | _ :: _, [], h => h.elim

theorem concEs_empty {ι : Img} : ∀ {es : List AMapEntry} {cs : List MapEntry}, concEs ι es cs → es.isEmpty = cs.isEmpty
  | [], [], _ => rfl
  | _ :: _, _ :: _, _ => rfl
  | [], _ :: _, h => h.elim
  | _ :: _, [], h => h.elim

def candsL {α : Type} (old new : List α) : List (Option α) := (if old.isEmpty then [none] else []) ++ (old ++ new).map some

theorem cands_ne {α : Type} (old new : List α) : 0 < (candsL old new).length := by
  cases old <;> simp [candsL]

theorem cands_get {ι : Img} {old new : List AMapEntry} {old' new' : List MapEntry} (h1 : concEs ι old old') (h2 : concEs ι new new') (k : Nat) (hk : k < (candsL old' new').length) :
    ((candsL old new)[k]? = some none ∧ (candsL old' new')[k]? = some none) ∨ ∃ e c, (candsL old new)[k]? = some (some e) ∧ (candsL old' new')[k]? = some (some c) ∧ conc ι e.key = some c.key ∧ conc ι e.val = some c.val ∧ c.born = e.born := by
  have h3 := concEs_append h1 h2
  obtain ⟨hlen, hget⟩ := concEs_get h3
  have he := concEs_empty h1
  unfold candsL at hk ⊢
  rw [he]
  have key : ∀ j, j < (old' ++ new').length → ∃ e c, ((old ++ new).map some)[j]? = some (some e) ∧ ((old' ++ new').map some)[j]? = some (some c) ∧ conc ι e.key = some c.key ∧ conc ι e.val = some c.val ∧ c.born = e.born := fun j hj => by
    have hj' : j < (old ++ new).length := by omega
    obtain ⟨c, hc, r⟩ := hget j _ (List.getElem?_eq_getElem hj')
    exact ⟨_, c, by rw [List.getElem?_map, List.getElem?_eq_getElem hj']; rfl, by rw [List.getElem?_map, hc]; rfl, r⟩
  by_cases ho : old'.isEmpty = true
  · simp only [ho, if_true] at hk ⊢
    cases k with
    | zero => left; simp
    | succ k =>
      right
      obtain ⟨e, c, r⟩ := key k (by simp at hk ⊢; omega)
      exact ⟨e, c, by simpa using r⟩
  · simp only [ho] at hk ⊢
    right
    exact key k (by simpa using hk)

theorem run_choose_map (n : Nat) (hn : 0 < n) (w : World) : ∃ k w', (choose (.mapNext n)).run P w = .ok k w' ∧ k < n ∧ HeapIs w w' w.heap := by
  by_cases h : n ≤ 1
  · exact ⟨0, w, by simp [choose, Sem.run, Question.forced, h], hn, rfl⟩
  · exact ⟨w.tape w.drawn (.mapNext n) % n, { w with drawn := w.drawn + 1 }, by simp [choose, Sem.run, Question.forced, h, Question.cut], Nat.mod_lt _ hn, rfl⟩

theorem Step.after {ι ι' : Img} {A A' : AH} {w w0 w' : World} (h : Rel P ι A w) (e : HeapIs w w0 w.heap) (k : Rel P ι A w0 → Step P ι A w0 ι' A' w') : Step P ι A w ι' A' w' :=
  (Step.of_heap h e).trans (k (h.congr e.heap))

theorem decode_ascii {s : List UInt8} {pos : Nat} {b : UInt8} (h : s[pos]? = some b) (hb : b < 128) : Utf8.decode ⟨⟨s⟩⟩ pos = (b.toNat, 1) := by
  have hg : (⟨⟨s⟩⟩ : ByteArray).get! pos = b := by
    show (⟨s⟩ : Array UInt8)[pos]! = b
    simp [getElem!_def, h]
  have hb' : b.toNat < 0x80 := by simpa [UInt8.lt_iff_toNat_lt] using hb
  simp only [Utf8.decode, Nat.add_zero, hg, hb', if_true]

set_option maxHeartbeats 1000000 in
theorem next_ok {ι : Img} {A : AH} {w : World} (h : Rel P ι A w) {it : AV} {isStr : Bool} {L : List (AR × AH)} {u : Value} (ty : TypeId) (hl : anext A it isStr = some L) (hx : conc ι it = some u) :
    ∃ x ∈ L, ∃ v u' w', x.1 = .val v ∧ (Instr.next u isStr ty).run P w = .ok u' w' ∧ conc ι v = some u' ∧ Step P ι A w ι x.2 w' ∧ x.2.next = A.next := by
  unfold anext at hl
  split at hl
  · rename_i r
    simp only [conc] at hx
    split at hx
    · rename_i l hlc
      cases hx
      split at hl
      · rename_i s pos hlook
        obtain ⟨l', hl', h0, hb⟩ := h.ent r _ hlook
        rw [hlc] at hl'; cases hl'
        have hgo := run_getObj_some (P := P) rfl hb
        have hsz : (⟨⟨s⟩⟩ : ByteArray).size = s.length := rfl
        split at hl
        · rename_i hd
          cases hl
          refine ⟨_, List.mem_singleton.2 rfl, _, .tuple #[.bool false], w, rfl, ?_, by simp [conc, concs], Step.refl h, rfl⟩
          have : ¬ pos < s.length := by simpa using hd
          simp [Instr.next, h0, hgo, hsz, this]
        · rename_i b rest hd
          have hget : s[pos]? = some b := by
            have := congrArg (·[0]?) hd
            simpa using this
          have hlt : pos < s.length := (List.getElem?_eq_some_iff.1 hget).1
          have put : ∀ p, (setObj l.block (.stringIter ⟨⟨s⟩⟩ p)).run P w = .ok () (w.putObj l.block (.stringIter ⟨⟨s⟩⟩ p)) ∧ Step P ι A w ι (A.put r (.strIter s p)) (w.putObj l.block (.stringIter ⟨⟨s⟩⟩ p)) := fun p =>
            ⟨run_setObj_put _ rfl hb, Step.putO h hlook trivial trivial hlc ⟨h0, putObj_get _ hb⟩⟩
          split at hl
          · rename_i hb8
            cases hl
            refine ⟨_, List.mem_singleton.2 rfl, _, .tuple #[.bool true, .int .i64 pos, .int .i32 b.toNat], _, rfl, ?_, by simp [conc, concs], (put (pos + 1)).2, rfl⟩
            simp [Instr.next, h0, hgo, hsz, hlt, decode_ascii hget hb8, (put (pos + 1)).1, goInt]
          · cases hl
            refine ⟨_, List.mem_singleton.2 rfl, _, .tuple #[.bool true, .int .i64 pos, .int .i32 (Utf8.decode ⟨⟨s⟩⟩ pos).1], _, rfl, ?_, by simp [conc, concs], (put (pos + (Utf8.decode ⟨⟨s⟩⟩ pos).2)).2, rfl⟩
            simp [Instr.next, h0, hgo, hsz, hlt, (put (pos + (Utf8.decode ⟨⟨s⟩⟩ pos).2)).1, goInt]
      · rename_i since seen last hlook
        cases hl
        obtain ⟨l', hl', h0, mb, hb, hm⟩ := h.ent r _ hlook
        rw [hlc] at hl'; cases hl'
        obtain rfl : mb = none := hm
        have hgo := run_getObj_some (P := P) rfl hb
        refine ⟨_, List.mem_singleton.2 rfl, _, .tuple #[.bool false], w, rfl, ?_, by simp [conc, concs], Step.refl h, rfl⟩
        simp [Instr.next, h0, hgo]
      · rename_i m since seen last hlook
        obtain ⟨l', hl', h0, mb, hb, lm, hlm, hmb⟩ := h.ent r _ hlook
        rw [hlc] at hl'; cases hl'
        subst hmb
        have hgo := run_getObj_some (P := P) rfl hb
        split at hl
        · rename_i es clock hmlook
          obtain ⟨lm', hlm', cs, hbm, hes⟩ := h.ent m _ hmlook
          rw [hlm] at hlm'; cases hlm'
          have hgm := run_getObj_some (P := P) rfl hbm
          split at hl
          · cases hl
          rename_i hgone
          have hL : L = (candsL ((es.filter fun e => !seen.contains e.born).filter fun e => decide (e.born < since)) ((es.filter fun e => !seen.contains e.born).filter fun e => decide (since ≤ e.born))).map (fun (c : Option AMapEntry) => match c with
              | some e => (AR.val (.tuple [.bool true, e.key, e.val]), A.put r (.mapIter (some m) since (seen ++ [e.born]) clock))
              | none => (AR.val (.tuple [.bool false]), A)) := by
            cases hl; rfl
          clear hl
          have hleft := concEs_filter (fun b => !seen.contains b) hes
          have hold := concEs_filter (fun b => decide (b < since)) hleft
          have hnew := concEs_filter (fun b => decide (since ≤ b)) hleft
          have hall := concEs_all (fun b => decide (last ≤ b)) hes
          have hemp := concEs_empty hes
          obtain ⟨C, hC⟩ : ∃ C : Array (Option MapEntry), C = (if ((cs.filter fun e => !(seen.toArray).contains e.born).filter (·.born < since)).isEmpty then #[none] else #[]) ++ ((cs.filter fun e => !(seen.toArray).contains e.born).filter (·.born < since) ++ (cs.filter fun e => !(seen.toArray).contains e.born).filter (·.born ≥ since)).map some := ⟨_, rfl⟩
          have hCl : C.toList = candsL ((cs.toList.filter fun e => !seen.contains e.born).filter fun e => decide (e.born < since)) ((cs.toList.filter fun e => !seen.contains e.born).filter fun e => decide (since ≤ e.born)) := by
            rw [hC]
            unfold candsL
            simp only [Array.toList_append, Array.toList_map, Array.toList_filter, List.contains_toArray, ge_iff_le, ← Array.isEmpty_toList]
            split <;> rfl
          have hCs : C.size = (candsL ((cs.toList.filter fun e => !seen.contains e.born).filter fun e => decide (e.born < since)) ((cs.toList.filter fun e => !seen.contains e.born).filter fun e => decide (since ≤ e.born))).length := by
            rw [← hCl]; simp
          obtain ⟨k, w0, hch, hk, hw0⟩ := run_choose_map (P := P) C.size (by rw [hCs]; exact cands_ne _ _) w
          have hng : (!(seen.toArray).isEmpty && !cs.isEmpty && cs.all (·.born ≥ last)) = false := by
            have : (!seen.isEmpty && !es.isEmpty && es.all (fun e => decide (last ≤ e.born))) = false := by simpa using hgone
            rw [hall, hemp] at this
            rw [← Array.all_toList, ← Array.isEmpty_toList, ← Array.isEmpty_toList]
            simpa using this
          have hrun : ∀ rest : Option (Option MapEntry), C[k]? = rest → (Instr.next (.pointer (some ⟨l.block, l.lo + 0, none⟩)) false ty).run P w =
              ((match rest with
                | some (some e) => do
                  setObj l.block (.mapIter (some lm.block) since (seen.toArray.push e.born) clock)
                  pure (.tuple #[.bool true, e.key, e.val])
                | some none => pure (.tuple #[.bool false])
                | none => stuck "Next: no such candidate") : Sem Value).run P w0 := by
            intro rest hr
            subst hr
            simp only [Instr.next, h0, Nat.add_zero, Sem.run_bind, hgo, Result.andThen_ok, hgm, hng, Bool.false_eq_true, if_false, ← hC, hch]
            generalize C[k]? = q
            cases q with
            | none => rfl
            | some q => cases q <;> rfl
          rcases cands_get hold hnew k (by rw [← hCs]; exact hk) with ⟨g1, g2⟩ | ⟨e, c, g1, g2, g3, g4, g5⟩
          · refine ⟨(AR.val (.tuple [.bool false]), A), ?_, _, .tuple #[.bool false], w0, rfl, ?_, by simp [conc, concs], Step.of_heap h hw0, rfl⟩
            · rw [hL]
              exact List.mem_map.2 ⟨none, List.mem_of_getElem? g1, rfl⟩
            · rw [hrun (some none) (by rw [← Array.getElem?_toList, hCl]; exact g2)]
              rfl
          · refine ⟨(AR.val (.tuple [.bool true, e.key, e.val]), A.put r (.mapIter (some m) since (seen ++ [e.born]) clock)), ?_, _, .tuple #[.bool true, c.key, c.val], w0.putObj l.block (.mapIter (some lm.block) since (seen.toArray.push c.born) clock), rfl, ?_, by simp [conc, concs, g3, g4], ?_, rfl⟩
            · rw [hL]
              exact List.mem_map.2 ⟨some e, List.mem_of_getElem? g1, rfl⟩
            · rw [hrun (some (some c)) (by rw [← Array.getElem?_toList, hCl]; exact g2)]
              simp only [Sem.run_bind, run_setObj_put (P := P) (w := w0) (.mapIter (some lm.block) since (seen.toArray.push c.born) clock) rfl (by rw [hw0.heap]; exact hb), Result.andThen_ok, Sem.run_pure]
            · refine Step.after h hw0 fun h' => Step.putO h' hlook trivial trivial hlc ⟨h0, some lm.block, ?_, lm, hlm, rfl⟩
              rw [putObj_get _ (by rw [hw0.heap]; exact hb), g5]
              simp
        · cases hl
      · cases hl
    · cases hx
  · cases hl

end
end Go.Eng
