/- THE ENGINE: operations that act: maps, iterators. -/
import Derived.Test.YthifbjdpkipbaaaGreatDoorEng11
set_option linter.all false
namespace Go.Eng

section
variable {P : Program}

def noCells : Ent → Prop
  | .cells .. => False
  | _ => True

theorem noCells_ne {e : Ent} (h : noCells e) : ∀ c n ty g sf, e ≠ .cells c n ty g sf := by rintro c n ty g sf rfl; exact h

/-- AN OBJECT THAT IS NO ROW OF CELLS IS WRITTEN. -/
theorem Step.putO {ι : Img} {A : AH} {w : World} {f : Nat} {e e' : Ent} {l : Loc} {o' : Obj} (h : Rel P ι A w) (hf : A.look f = some e) (hn : noCells e) (hn' : noCells e') (hl : ι f = some l)
    (hobj : EntOk P ι (w.putObj l.block o') l e') : Step P ι A w ι (A.put f e') (w.putObj l.block o') := by
  have hlook : (A.put f e').look f = some e' := by
    rw [look_other (noCells_ne hn')]; simp [AH.put, PT.get_set_same]
  refine Step.put h hf hl (e' := e') (fun k => by simp [AH.put, PT.get_set]) rfl hlook (fun k x hk hx => by rw [look_put_ne hk] at hx; exact hx) hobj ?_ ?_ (fun _ _ _ _ _ _ _ _ => rfl) h.own
  · intro k x lk hk hx hlk eb
    rw [look_put_ne hk] at hx
    rcases h.apart f _ k x l lk hf hx hl hlk eb.symm with e | ⟨c1, n1, ty1, g1, sf1, c2, n2, ty2, sf2, e1, e2, _⟩
    · exact hk e.symm
    · exact noCells_ne hn _ _ _ _ _ e1
  · intro c n ty g sf e; exact absurd e (noCells_ne hn' _ _ _ _ _)

def isRow : Obj → Bool
  | .cells .. => true
  | _ => false

theorem run_setObj_put {w : World} {r : Nat} {o : Obj} (o' : Obj) (hn : isRow o = false) (h : w.heap[r]? = some o) : (setObj r o').run P w = .ok () (w.putObj r o') := by
  cases o <;> first | (simp [isRow] at hn; done) | simp [setObj, Sem.run, h, World.putObj]

theorem run_getObj_some {w : World} {r : Nat} {o : Obj} (hn : isRow o = false) (h : w.heap[r]? = some o) : (getObj r).run P w = .ok o w := by
  cases o <;> first | (simp [isRow] at hn; done) | simp [getObj, Sem.run, h]

theorem putObj_get {w : World} {r : Nat} {o : Obj} (o' : Obj) (h : w.heap[r]? = some o) : (w.putObj r o').heap[r]? = some o' :=
  World.putObj_heap_same (Array.getElem?_eq_some_iff.1 h).1

/-! ## keys -/

theorem simpleEq_eq {a b : AV} (h : simpleEq a b = true) : a = b ∧ ((∃ x, a = .bool x) ∨ (∃ k n, a = .int k n) ∨ ∃ s, a = .str s) := by
  unfold simpleEq at h
  split at h
  · simp at h; subst h; exact ⟨rfl, .inl ⟨_, rfl⟩⟩
  · simp at h; obtain ⟨rfl, rfl⟩ := h; exact ⟨rfl, .inr (.inl ⟨_, _, rfl⟩)⟩
  · simp at h; subst h; exact ⟨rfl, .inr (.inr ⟨_, rfl⟩)⟩
  · cases h

theorem simpleEqL_eq : ∀ {a b : List AV}, simpleEqL a b = true → a = b ∧ ∀ x ∈ a, (∃ y, x = .bool y) ∨ (∃ k n, x = .int k n) ∨ ∃ s, x = .str s
  | [], [], _ => ⟨rfl, by simp⟩
  | x :: a, y :: b, h => by
    simp only [simpleEqL, Bool.and_eq_true] at h
    obtain ⟨h1, h2⟩ := simpleEq_eq h.1
    obtain ⟨h3, h4⟩ := simpleEqL_eq h.2
    refine ⟨by rw [h1, h3], fun z hz => ?_⟩
    rcases List.mem_cons.1 hz with rfl | hz
    · exact h2
    · exact h4 z hz
  | [], _ :: _, h => by simp [simpleEqL] at h
  | _ :: _, [], h => by simp [simpleEqL] at h

theorem sameBits_simple {ι : Img} {x : AV} {u : Value} (n : Nat) (hs : (∃ y, x = .bool y) ∨ (∃ k n, x = .int k n) ∨ ∃ s, x = .str s) (h : conc ι x = some u) : Instr.sameBits n u u = true := by
  rcases hs with ⟨y, rfl⟩ | ⟨k, m, rfl⟩ | ⟨s, rfl⟩
  · simp [conc] at h; subst h; simp [Instr.sameBits]
  · simp [conc] at h; subst h; simp [Instr.sameBits]
  · simp [conc] at h; subst h; simp [Instr.sameBits, bytes_beq_list]

theorem sameBits_all {ι : Img} (n : Nat) : ∀ {cs : List AV} {us : List Value}, (∀ x ∈ cs, (∃ y, x = AV.bool y) ∨ (∃ k n, x = .int k n) ∨ ∃ s, x = .str s) → concs ι cs = some us → (us.zip us).all (fun (x, y) => Instr.sameBits n x y) = true
  | [], us, _, h => by simp [concs] at h; subst h; simp
  | c :: cs, us, hs, h => by
    simp only [concs] at h
    split at h
    · rename_i u us' hu hus
      cases h
      have := sameBits_all n (fun x hx => hs x (by simp [hx])) hus
      simp only [List.zip_cons_cons, List.all_cons, sameBits_simple n (hs c (by simp)) hu, Bool.true_and]
      exact this
    · cases h

theorem keyEq_same {ι : Img} {k k' : AV} {u u' : Value} (h : keyEq k k' = true) (hu : conc ι k = some u) (hu' : conc ι k' = some u') : Instr.sameBits 10000 u' u = true := by
  unfold keyEq at h
  split at h
  · rename_i as bs
    obtain ⟨rfl, hs⟩ := simpleEqL_eq h
    rw [hu] at hu'; cases hu'
    simp only [conc] at hu
    split at hu
    · rename_i us hus
      cases hu
      have := sameBits_all 9999 hs hus
      simp [Instr.sameBits, this]
    · cases hu
  · obtain ⟨rfl, hs⟩ := simpleEq_eq h
    rw [hu] at hu'; cases hu'
    exact sameBits_simple _ hs hu

theorem findKey_key {A : AH} {kt : TypeId} {k : AV} : ∀ {es : List AMapEntry} {i j : Nat} {e : AMapEntry}, findKey P A kt k es i = some (some (j, e)) → keyEq k e.key = true
  | [], _, _, _, h => by simp [findKey] at h
  | x :: es, i, j, e, h => by
    simp only [findKey] at h
    split at h
    · split at h
      · rename_i hk; cases h; exact hk
      · cases h
    · exact findKey_key h
    · cases h

theorem run_keyThatStays {u u' : Value} {w : World} (h : Instr.sameBits 10000 u' u = true) : (Instr.keyThatStays u' u).run P w = .ok u w := by
  simp [Instr.keyThatStays, h]

/-! ## entries -/

theorem concEs_mod {ι : Img} (fa : AMapEntry → AMapEntry) (fc : MapEntry → MapEntry) : ∀ {es : List AMapEntry} {cs : List MapEntry} (i : Nat), concEs ι es cs →
    (∀ e c, es[i]? = some e → cs[i]? = some c → conc ι e.key = some c.key → conc ι e.val = some c.val → c.born = e.born → conc ι (fa e).key = some (fc c).key ∧ conc ι (fa e).val = some (fc c).val ∧ (fc c).born = (fa e).born) → concEs ι (setNth fa es i) (cs.modify i fc)
  | [], [], i, _, _ => by simp [setNth, concEs]
  | e :: es, c :: cs, 0, ⟨h1, h2, h3, h4⟩, h => by
    obtain ⟨k1, k2, k3⟩ := h e c (by simp) (by simp) h1 h2 h3
    simp only [setNth, List.modify_zero_cons]
    exact ⟨k1, k2, k3, h4⟩
  | e :: es, c :: cs, i + 1, ⟨h1, h2, h3, h4⟩, h => by
    simp only [setNth, List.modify_succ_cons]
    exact ⟨h1, h2, h3, concEs_mod fa fc i h4 (fun e' c' he hc => h e' c' (by simpa using he) (by simpa using hc))⟩
  | [], _ :: _, _, h, _ => h.elim
  | _ :: _, [], _, h, _ => h.elim

theorem concEs_snoc {ι : Img} {e : AMapEntry} {c : MapEntry} (h1 : conc ι e.key = some c.key) (h2 : conc ι e.val = some c.val) (h3 : c.born = e.born) : ∀ {es : List AMapEntry} {cs : List MapEntry}, concEs ι es cs → concEs ι (es ++ [e]) (cs ++ [c])
  | [], [], _ => ⟨h1, h2, h3, trivial⟩
  | _ :: _, _ :: _, ⟨k1, k2, k3, k4⟩ => ⟨k1, k2, k3, concEs_snoc h1 h2 h3 k4⟩
  | [], _ :: _, h => h.elim
  | _ :: _, [], h => h.elim

theorem concEs_erase {ι : Img} : ∀ {es : List AMapEntry} {cs : List MapEntry} (i : Nat), concEs ι es cs → concEs ι (eraseNth es i) (cs.eraseIdx i)
  | [], [], _, _ => by simp [eraseNth, concEs]
  | _ :: _, _ :: _, 0, ⟨_, _, _, k4⟩ => by simpa [eraseNth] using k4
  | _ :: _, _ :: _, i + 1, ⟨k1, k2, k3, k4⟩ => by
    simp only [eraseNth, List.eraseIdx_cons_succ]
    exact ⟨k1, k2, k3, concEs_erase i k4⟩
  | [], _ :: _, _, h => h.elim
  | _ :: _, [], _, h => h.elim

/-- a map, looked at -/
theorem map_at {ι : Img} {A : AH} {w : World} (h : Rel P ι A w) {f : Nat} {es : List AMapEntry} {clock : Nat} {u : Value} (hf : A.look f = some (.map es clock)) (hx : conc ι (.map f) = some u) :
    ∃ l cs, ι f = some l ∧ u = .map (some l.block) ∧ w.heap[l.block]? = some (.map cs clock) ∧ concEs ι es cs.toList := by
  simp only [conc] at hx
  split at hx
  · rename_i l hl
    cases hx
    obtain ⟨l', hl', cs, hb, hes⟩ := h.ent f _ hf
    rw [hl] at hl'; cases hl'
    exact ⟨l, cs, hl, rfl, hb, hes⟩
  · cases hx

theorem map_put {ι : Img} {A : AH} {w : World} (h : Rel P ι A w) {f : Nat} {es es' : List AMapEntry} {clock clock' : Nat} {l : Loc} {cs cs' : Array MapEntry} (hf : A.look f = some (.map es clock)) (hl : ι f = some l) (hb : w.heap[l.block]? = some (.map cs clock)) (he : concEs ι es' cs'.toList) :
    (setObj l.block (.map cs' clock')).run P w = .ok () (w.putObj l.block (.map cs' clock')) ∧ Step P ι A w ι (A.put f (.map es' clock')) (w.putObj l.block (.map cs' clock')) :=
  ⟨run_setObj_put _ rfl hb, Step.putO h hf trivial trivial hl ⟨cs', putObj_get _ hb, he⟩⟩

theorem mapUpdate_ok {ι : Img} {A A' : AH} {w : World} (h : Rel P ι A w) {t : TypeId} {x k v : AV} {ux uk uv : Value} (hl : amapUpdate P A t x k v = some A') (hx : conc ι x = some ux) (hk : conc ι k = some uk) (hv : conc ι v = some uv) :
    ∃ w', (Instr.mapUpdate t ux uk uv).run P w = .ok () w' ∧ Step P ι A w ι A' w' ∧ A'.next = A.next := by
  unfold amapUpdate at hl
  split at hl
  · rename_i kt e f hu
    split at hl
    · cases hl
    rename_i hpk
    have hp : plainKey P kt = true := by simp at hpk; exact hpk.1
    have hf : keyFits P kt k = true := by simp at hpk; exact hpk.2
    obtain ⟨d, hd⟩ := plain_desc hp
    have hck := fun e => checkKey_ok (w := w) hp hf hk e 9998
    split at hl
    · rename_i es clock hlook
      obtain ⟨l, cs, hlc, rfl, hb, hes⟩ := map_at h hlook hx
      have hgo := run_getObj_some (P := P) rfl hb
      split at hl
      · rename_i i en hfk
        cases hl
        obtain ⟨u, hfound, hrun⟩ := findKey_ok h hd hk hes hfk
        obtain ⟨c, _, h1, h2, rfl⟩ := hfound
        simp only [Nat.sub_zero] at h1 h2
        obtain ⟨c', hc', hkc, hvc, hbc⟩ := (concEs_get hes).2 _ _ h1
        rw [h2] at hc'; cases hc'
        have hst := run_keyThatStays (P := P) (w := w) (keyEq_same (findKey_key hfk) hk hkc)
        have hci : cs[i]? = some c := by simpa using h2
        obtain ⟨hset, hstep⟩ := map_put (clock' := clock) (es' := setNth (fun e => ⟨k, v, e.born⟩) es i) (cs' := cs.modify i fun e => { e with key := uk, val := uv }) h hlook hlc hb (by
          rw [Array.toList_modify]
          exact concEs_mod _ _ i hes (fun e c _ _ _ _ hb => ⟨hk, hv, hb⟩))
        refine ⟨_, ?_, hstep, rfl⟩
        simp only [Instr.mapUpdate, Sem.run_bind, run_underlying hu, Result.andThen_ok, hgo, hck, hrun, hci, Option.map_some, Option.getD_some, hst]
        exact hset
      · rename_i hfk
        cases hl
        obtain ⟨u, hfound, hrun⟩ := findKey_ok h hd hk hes hfk
        obtain rfl : u = none := hfound
        obtain ⟨hset, hstep⟩ := map_put (clock' := clock + 1) (es' := es ++ [⟨k, v, clock⟩]) (cs' := cs.push { key := uk, val := uv, born := clock }) h hlook hlc hb (by
          rw [Array.toList_push]
          exact concEs_snoc hk hv rfl hes)
        refine ⟨_, ?_, hstep, rfl⟩
        simp only [Instr.mapUpdate, Sem.run_bind, run_underlying hu, Result.andThen_ok, hgo, hck, hrun]
        exact hset
      · cases hl
    · cases hl
  · cases hl

theorem mapEntry_ok {ι : Img} {A A' : AH} {w : World} (h : Rel P ι A w) {t : TypeId} {x k v : AV} {ux uk : Value} (hl : amapEntry P A t x k = some (v, A')) (hx : conc ι x = some ux) (hk : conc ι k = some uk) :
    ∃ u w', (Instr.mapEntry t ux uk).run P w = .ok u w' ∧ conc ι v = some u ∧ Step P ι A w ι A' w' ∧ A'.next = A.next := by
  unfold amapEntry at hl
  split at hl
  · rename_i kt e f hu
    split at hl
    · cases hl
    rename_i hpk
    have hp : plainKey P kt = true := by simp at hpk; exact hpk.1
    have hf : keyFits P kt k = true := by simp at hpk; exact hpk.2
    obtain ⟨d, hd⟩ := plain_desc hp
    have hck := fun e => checkKey_ok (w := w) hp hf hk e 9998
    split at hl
    · rename_i es clock hlook
      obtain ⟨l, cs, hlc, rfl, hb, hes⟩ := map_at h hlook hx
      have hgo := run_getObj_some (P := P) rfl hb
      split at hl
      · rename_i i en hfk
        cases hl
        obtain ⟨u, hfound, hrun⟩ := findKey_ok h hd hk hes hfk
        obtain ⟨c, _, h1, h2, rfl⟩ := hfound
        simp only [Nat.sub_zero] at h1 h2
        obtain ⟨c', hc', hkc, hvc, hbc⟩ := (concEs_get hes).2 _ _ h1
        rw [h2] at hc'; cases hc'
        have hst := run_keyThatStays (P := P) (w := w) (keyEq_same (findKey_key hfk) hk hkc)
        have hci : cs[i]? = some c := by simpa using h2
        obtain ⟨hset, hstep⟩ := map_put (clock' := clock) (es' := setNth (fun e => ⟨k, e.val, e.born⟩) es i) (cs' := cs.modify i fun e => { e with key := uk }) h hlook hlc hb (by
          rw [Array.toList_modify]
          exact concEs_mod _ _ i hes (fun e c _ _ _ hv hb => ⟨hk, hv, hb⟩))
        refine ⟨.tuple #[c.val, goInt c.born], _, ?_, by simp [conc, concs, hvc, hbc, goInt], hstep, rfl⟩
        simp only [Instr.mapEntry, Sem.run_bind, run_underlying hu, Result.andThen_ok, hgo, hck, hrun, hci, Option.map_some, Option.getD_some, hst, hset, Sem.run_pure]
      · rename_i hfk
        split at hl
        · rename_i z hz
          cases hl
          obtain ⟨uz, hzc, hzr⟩ := zeroOf_conc (P := P) ι hz w
          obtain ⟨u, hfound, hrun⟩ := findKey_ok h hd hk hes hfk
          obtain rfl : u = none := hfound
          obtain ⟨hset, hstep⟩ := map_put (clock' := clock + 1) (es' := es ++ [⟨k, z, clock⟩]) (cs' := cs.push { key := uk, val := uz, born := clock }) h hlook hlc hb (by
            rw [Array.toList_push]
            exact concEs_snoc hk hzc rfl hes)
          refine ⟨.tuple #[uz, goInt clock], _, ?_, by simp [conc, concs, hzc, goInt], hstep, rfl⟩
          simp only [Instr.mapEntry, Sem.run_bind, run_underlying hu, Result.andThen_ok, hgo, hck, hrun, hzr, hset, Sem.run_pure]
        · cases hl
      · cases hl
    · cases hl
  · cases hl

theorem bornAt_ok {ι : Img} {b : Int} : ∀ {es : List AMapEntry} {cs : List MapEntry} {i j : Nat}, concEs ι es cs → bornAt b es i = some j → i ≤ j ∧ cs.findIdx? (fun e => (e.born : Int) == b) = some (j - i)
  | [], _, _, _, _, h => by simp [bornAt] at h
  | e :: es, [], _, _, h, _ => h.elim
  | e :: es, c :: cs, i, j, ⟨_, _, h3, h4⟩, h => by
    simp only [bornAt] at h
    split at h
    · rename_i hb
      cases h
      refine ⟨Nat.le_refl _, ?_⟩
      simp [List.findIdx?_cons, h3, hb]
    · rename_i hb
      obtain ⟨k1, k2⟩ := bornAt_ok h4 h
      refine ⟨by omega, ?_⟩
      have : ((c.born : Int) == b) = false := by rw [h3]; simpa using hb
      rw [List.findIdx?_cons, this, k2]
      simp
      omega

theorem entryStore_ok {ι : Img} {A A' : AH} {w : World} (h : Rel P ι A w) {t : TypeId} {x s v : AV} {ux us uv : Value} (hl : aentryStore A x s v = some A') (hx : conc ι x = some ux) (hs : conc ι s = some us) (hv : conc ι v = some uv) :
    ∃ w', (Instr.entryStore t ux us uv).run P w = .ok () w' ∧ Step P ι A w ι A' w' ∧ A'.next = A.next := by
  unfold aentryStore at hl
  split at hl
  · rename_i f k b
    split at hl
    · rename_i es clock hlook
      split at hl
      · rename_i i hi
        cases hl
        obtain ⟨l, cs, hlc, rfl, hb, hes⟩ := map_at h hlook hx
        have hgo := run_getObj_some (P := P) rfl hb
        have e := conc_int hs; subst e
        obtain ⟨_, hfi⟩ := bornAt_ok hes hi
        have hfi' : cs.findIdx? (fun e => (e.born : Int) == b) = some i := by
          rw [← Array.toArray_toList (xs := cs), List.findIdx?_toArray]
          simpa using hfi
        obtain ⟨hset, hstep⟩ := map_put (clock' := clock) (es' := setNth (fun e => ⟨e.key, v, e.born⟩) es i) (cs' := cs.modify i fun e => { e with val := uv }) h hlook hlc hb (by
          rw [Array.toList_modify]
          exact concEs_mod _ _ i hes (fun e c _ _ hk _ hb => ⟨hk, hv, hb⟩))
        refine ⟨_, ?_, hstep, rfl⟩
        simp only [Instr.entryStore, Sem.run_bind, hgo, Result.andThen_ok, asInt, asIntOf, Sem.run_pure, hfi']
        exact hset
      · cases hl
    · cases hl
  · cases hl

end
end Go.Eng
