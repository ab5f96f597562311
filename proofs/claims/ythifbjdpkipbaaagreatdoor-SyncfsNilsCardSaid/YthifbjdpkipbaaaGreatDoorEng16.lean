/- THE ENGINE: the other builtins that act, and the calls. -/
import Derived.Test.YthifbjdpkipbaaaGreatDoorEng15
import Derived.Lib.UnsafeStr
import Derived.Lib.Bytealg
set_option linter.all false
namespace Go.Eng

section
variable {P : Program}

/-- A ROW TURNS, AND STANDS ALONE BEHIND IT. -/
theorem Step.putC {ι : Img} {A : AH} {w : World} {f : Nat} {c c' : PT AV} {n n' ty ty' g sf sf' : Nat} {l : Loc} {o' : Obj} (h : Rel P ι A w) (hf : A.look f = some (.cells c n ty g sf)) (hown : (A.owner g).1 = f) (hl : ι f = some l)
    (hobj : EntOk P ι (w.putObj l.block o') l (.cells c' n' ty' g sf')) : Step P ι A w ι ⟨A.heap.set f (.cells c' n' ty' g sf'), A.next, A.own.set g (f, f)⟩ (w.putObj l.block o') := by
  have hal := (look_cells.1 hf).2
  have hg : g < A.next := by
    cases ho : A.own.get g with
    | none => rw [owner_none ho] at hown; simp only at hown; have := h.lt f _ (look_get hf); omega
    | some x => exact h.own g x ho
  obtain ⟨A', hA'⟩ : ∃ A' : AH, A' = ⟨A.heap.set f (.cells c' n' ty' g sf'), A.next, A.own.set g (f, f)⟩ := ⟨_, rfl⟩
  rw [← hA']
  have hheap : ∀ k, A'.heap.get k = if k = f then some (.cells c' n' ty' g sf') else A.heap.get k := fun k => by rw [hA', PT.get_set]
  have howner : ∀ g', A'.owner g' = if g' = g then (f, f) else A.owner g' := fun g' => by rw [hA', owner_set]
  have hfst : ∀ g', (A'.owner g').1 = (A.owner g').1 := fun g' => by
    rw [howner]
    split
    · rename_i e; subst e; exact hown.symm
    · rfl
  have hsnd : ∀ g', (A.owner g').2 ≤ (A'.owner g').2 := fun g' => by
    rw [howner]
    split
    · rename_i e; subst e; exact hal
    · exact Nat.le_refl _
  have hsub : ∀ k x, k ≠ f → A'.look k = some x → A.look k = some x := fun k x hk hx => look_sub (f := f) (fun k hk => by rw [hheap, if_neg hk]) hsnd hk hx
  refine Step.put h hf hl (e' := .cells c' n' ty' g sf') hheap (by rw [hA']) ?_ hsub hobj ?_ ?_ (fun g' _ _ _ _ _ _ _ => hfst g') (fun g1 x hx => ?_)
  · rw [look_cells, hheap, if_pos rfl, howner, if_pos rfl]; exact ⟨rfl, Nat.le_refl _⟩
  · intro k x lk hk hx hlk eb
    have hx' := hsub k x hk hx
    rcases h.apart f _ k x l lk hf hx' hl hlk eb.symm with e | ⟨c1, n1, ty1, g1, sf1, c2, n2, ty2, sf2, e1, e2, _⟩
    · exact hk e.symm
    · cases e1
      subst e2
      have ha := (look_cells.1 hx).2
      rw [howner, if_pos rfl] at ha
      have ht := h.top k _ _ _ _ _ hx'
      rw [hown] at ht
      simp only at ha
      omega
  · intro c1 n1 ty1 g1 sf1 e
    cases e
    rw [hfst, hown]; exact Nat.le_refl _
  · rw [hA'] at hx
    simp only at hx
    rw [PT.get_set] at hx
    split at hx
    · rename_i e; subst e; exact hg
    · exact h.own g1 x hx

theorem freeze_put {w : World} {b o n : Nat} {cs : Array Value} {ty : TypeId} {fr : Nat × Nat} (h : w.heap[b]? = some (.cells cs ty fr)) (hn : n ≠ 0) :
    w.freeze ⟨b, o, none⟩ n = w.putObj b (.cells cs ty (if fr.1 == fr.2 then (o, o + n) else (min fr.1 o, max fr.2 (o + n)))) := by
  obtain ⟨lo, hi⟩ := fr
  simp only [World.freeze, if_neg hn, World.putObj]
  congr 1
  apply Array.ext_getElem?
  intro i
  have hlt := (Array.getElem?_eq_some_iff.1 h).1
  rw [Array.getElem?_modify, Array.getElem?_setIfInBounds]
  by_cases e : b = i
  · subst e
    rw [if_pos rfl, if_pos rfl, if_pos hlt, h]
    simp
  · simp [e]

theorem run_freeze_put {w : World} {b o n : Nat} {cs : Array Value} {ty : TypeId} {fr : Nat × Nat} (h : w.heap[b]? = some (.cells cs ty fr)) (hn : n ≠ 0) :
    (freeze ⟨b, o, none⟩ n).run P w = .ok () (w.putObj b (.cells cs ty (if fr.1 == fr.2 then (o, o + n) else (min fr.1 o, max fr.2 (o + n))))) := by
  rw [← freeze_put h hn]; rfl

theorem zeroCells_conc {ι : Img} {z : AV} {u : Value} {n : Nat} (h : conc ι z = some u) : concs ι (repl z.cells n) = some (Builtin.zeroCells u.cells n).toList := by
  have hc := concs_length (cells_conc h)
  have hs : u.cells.size = z.cells.length := by rw [← Array.length_toList]; exact hc
  by_cases hz : 0 < z.cells.length
  · have := replArr (n := n) h hz
    rw [this, Builtin.zeroCells, hs]
  · have h0 : z.cells = [] := List.length_eq_zero_iff.1 (by omega)
    have h1 : Builtin.zeroCells u.cells n = #[] := Array.eq_empty_of_size_eq_zero (by simp [Builtin.zeroCells, hs, h0])
    have h2 : ∀ n, repl ([] : List AV) n = [] := fun n => by induction n with
      | zero => rfl
      | succ n ih => simp [repl, ih]
    rw [h0, h1, h2]; simp [concs]

/-- []byte(b) of a []byte: marked behind its end. -/
theorem mark_ok {ι : Img} {A A' : AH} {w : World} (h : Rel P ι A w) {src dst e1 e2 : TypeId} {x v : AV} {u : Value} (hs : P.underlying src = some (.slice e1)) (hd : P.underlying dst = some (.slice e2)) (hc : aconvert P A src dst x = some (v, A')) (hx : conc ι x = some u) :
    ∃ r w', (convert src dst u).run P w = .ok r w' ∧ conc ι v = some r ∧ Step P ι A w ι A' w' := by
  unfold aconvert at hc
  split at hc
  · rename_i d k j n hs' hd'; rw [hd] at hd'; cases hd'
  · rename_i d s hs' hd'; rw [hd] at hd'; cases hd'
  · rename_i t f o hs' hd'; rw [hs] at hs'; cases hs'
  · rename_i t f o hs' hd'; rw [hs] at hs'; cases hs'
  · rename_i e1' e2' f o n c hs' hd'
    split at hc
    · rename_i cs0 m ty g sf hsd he hf
      split at hc
      · rename_i hown
        cases hc
        obtain ⟨l, k, hl, rfl, _⟩ := slice_conc hx
        obtain ⟨l', hl', cs, fr, hb, hco⟩ := h.ent f _ hf
        rw [hl] at hl'; cases hl'
        have hsh : w.shape? l.block = some (ty, cs.size) := by simp [World.shape?, hb]
        obtain ⟨fr', hfr'⟩ : ∃ fr', fr' = if fr.1 == fr.2 then (cs.size, cs.size + 1) else (min fr.1 cs.size, max fr.2 (cs.size + 1)) := ⟨_, rfl⟩
        have hfr := run_freeze_put (P := P) (o := cs.size) (n := 1) hb (by omega)
        rw [← hfr'] at hfr
        refine ⟨_, _, ?_, hx, Step.putC h hf hown hl (o' := .cells cs ty fr') ⟨cs, fr', World.putObj_heap_same (Array.getElem?_eq_some_iff.1 hb).1, hco.1, hco.2.1, hco.2.2.1, hco.2.2.2.1, ?_⟩⟩
        · simp only [convert, Sem.run_bind, run_underlying hs', run_underlying hd', Result.andThen_ok, hsd, run_underlying he, markStringish, run_shape, hsh, hfr, Sem.run_pure]
        · obtain ⟨u1, u2⟩ := hco.2.2.2.2
          refine ⟨fun e => by omega, fun e => ?_⟩
          rw [hfr']
          by_cases hlh : fr.1 = fr.2
          · simp [hlh]
          · right
            rw [if_neg (by simpa using hlh)]
            have : sf ≠ 0 := fun e => hlh (u1 e)
            have := u2 (by omega)
            simp only; omega
      · cases hc
    · cases hc
  · rename_i e hs' hd' _; rw [hd] at hd'; cases hd'
  · rename_i d e s hs' hd'
    split at hc
    · rename_i _ hsr _; rw [hs] at hsr; cases hsr
    · cases hc
  · cases hc

theorem run_loadB (w : World) : ∀ (ns : List Int) (a : Addr) (acc : ByteArray), (∀ j n, ns[j]? = some n → w.cell? (a.add j) = some (.int .u8 n)) →
    (loadBytes a acc ns.length).run P w = .ok ⟨acc.data ++ (ns.map fun n => UInt8.ofNat n.toNat).toArray⟩ w
  | [], a, acc, _ => by simp [loadBytes]
  | x :: l, a, acc, h => by
    have h0 : w.cell? a = some (.int .u8 x) := by simpa [Addr.add] using h 0 x rfl
    have ih := run_loadB w l (a.add 1) (acc.push (UInt8.ofNat x.toNat)) (fun j y hy => by
      have := h (j + 1) y (by simpa using hy)
      have e : (a.add 1).add j = a.add (j + 1) := by
        unfold Addr.add
        by_cases hj : j = 0
        · subst hj; simp
        · simp [hj]; omega
      rw [e]; exact this)
    simp only [List.length_cons, loadBytes, Sem.run_bind, run_load, h0, Result.andThen]
    have hx : (x.toNat).toUInt8 = UInt8.ofNat x.toNat := rfl
    rw [hx, ih]
    congr 1
    apply ByteArray.ext
    simp [ByteArray.push]

set_option maxHeartbeats 1000000 in
theorem unsafeString_ok {ι : Img} {A : AH} {w : World} (h : Rel P ι A w) {f o : Nat} {n : Int} {j : IntKind} {t e : TypeId} {c : PT AV} {m ty g sf : Nat} {vs : List AV} {bs : List UInt8} {ts : Array TypeId} {rt : TypeId} {up : Value}
    (hn0 : ¬ n ≤ 0) (hn8 : ¬ n ≥ 100000000) (hu : P.underlying t = some (.pointer e)) (hf : A.look f = some (.cells c m ty g sf)) (hty : ty = e) (hsz : szOf P e = some 1) (hle : o + n.toNat ≤ m) (hvs : c.getL o n.toNat = some vs)
    (hbs : mapO (fun (v : AV) => match v with | .int .u8 b => some (UInt8.ofNat b.toNat) | _ => none) vs = some bs) (hown : (A.owner g).1 = f) (h0 : ts[0]? = some t) (hp : conc ι (.ptr f o) = some up) :
    ∃ w', (Builtin.unsafeString_ ts rt #[up, .int j n]).run P w = .ok (.string ⟨⟨bs⟩⟩) w' ∧ Step P ι A w ι ⟨A.heap.set f (.cells c m ty g 2), A.next, A.own.set g (f, f)⟩ w' := by
  subst hty
  simp only [conc] at hp
  split at hp
  · rename_i l hl
    cases hp
    obtain ⟨l', hl', cs, fr, hb, hco⟩ := h.ent f _ hf
    rw [hl] at hl'; cases hl'
    obtain ⟨us, hus, hlen, hget⟩ := read_cells hco hvs
    obtain ⟨ns, rfl, rfl⟩ := bytesOfCells hus hbs
    have hnl : ns.length = n.toNat := by simpa using hlen
    have hsh : w.shape? l.block = some (ty, cs.size) := by simp [World.shape?, hb]
    have hs1 : sz P ty = 1 := szOf_sz hsz
    have hlies : liesAt P P.depth ty (cs.size / P.cellsOf ty) (l.lo + o) ty n.toNat = true :=
      liesAt_same rfl (by omega) (by rw [hs1]; omega) (by rw [sz_cellsOf, hs1]; have := hco.1; simp; omega)
    have hlb := run_loadB (P := P) w ns ⟨l.block, l.lo + o, none⟩ .empty (fun i x hi => by
      rw [addr_add, cell_of_heap hb]
      exact hget i _ (by simp [hi]))
    rw [hnl] at hlb
    have hmax : IntKind.i64.max = 9223372036854775807 := rfl
    have h1 : ¬ n < 0 := by omega
    have h2 : ¬ n > 9223372036854775807 := by omega
    have h3 : ¬ n = 0 := by omega
    obtain ⟨fr', hfr'⟩ : ∃ fr', fr' = if fr.1 == fr.2 then (l.lo + o, l.lo + o + n.toNat) else (min fr.1 (l.lo + o), max fr.2 (l.lo + o + n.toNat)) := ⟨_, rfl⟩
    have hfr := run_freeze_put (P := P) (o := l.lo + o) (n := n.toNat) hb (by omega)
    rw [← hfr'] at hfr
    refine ⟨_, ?_, Step.putC h hf hown hl (o' := .cells cs ty fr') ⟨cs, fr', World.putObj_heap_same (Array.getElem?_eq_some_iff.1 hb).1, hco.1, hco.2.1, hco.2.2.1, hco.2.2.2.1, fun e => by omega, fun e => by omega⟩⟩
    have hdef : Builtin.unsafeString_ ts rt #[.pointer (some ⟨l.block, l.lo + o, none⟩), .int j n] = (do
        let n ← asInt (.int j n)
        let some pt := ts[0]? | stuck "unsafe.String: no argument types"
        if n < 0 then runtimePanic (.error "unsafe.String: len out of range")
        if n > IntKind.i64.max then unsupported (.unsafePointer "String: a length above the largest int")
        if n = 0 then pure (.string .empty)
        else if ← variablesAt ⟨l.block, l.lo + o, none⟩ (← elemOf pt) n.toNat then do
          let s ← loadBytes ⟨l.block, l.lo + o, none⟩ .empty n.toNat
          freeze ⟨l.block, l.lo + o, none⟩ n.toNat
          pure (.string s)
        else unsupported (.unsafePointer "String: not so many bytes at ptr")) := rfl
    have hva : (variablesAt ⟨l.block, l.lo + o, none⟩ ty n.toNat).run P w = .ok true w := by
      simp [variablesAt, hsh, hlies]
    have hel : (elemOf t).run P w = .ok ty w := by simp [elemOf, run_underlying hu]
    rw [hdef]
    simp only [asInt, asIntOf, Sem.run_bind, Sem.run_pure, Result.andThen_ok, h0, hmax, if_neg h1, if_neg h2, if_neg h3, hel, hva, if_true, hlb, hfr]
    simp
  · cases hp

end
end Go.Eng
