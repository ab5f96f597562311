/- THE ENGINE: every operation of the reading class, in one. -/
import Derived.Test.YthifbjdpkipbaaaGreatDoorEng10
import Derived.Laws.BytesString
import Derived.Laws.BytesArg
set_option linter.all false
namespace Go.Eng

section
variable {P : Program}

theorem sz_cellsOf (t : TypeId) : P.cellsOf t = sz P t := by
  unfold Program.cellsOf sz szOf
  cases P.info? t <;> rfl

theorem liesAt_same {e u : TypeId} {count off n : Nat} (he : e = u) (hs : sz P e ≠ 0) (hr : off % sz P e = 0) (hc : off / sz P e + n ≤ count) : liesAt P P.depth e count off u n = true := by
  subst he
  obtain ⟨d, hd⟩ : ∃ d, P.depth = d + 1 := ⟨2 * (P.types.size + Made.depth) + 1, rfl⟩
  have hsl : sameLayout P P.depth e e = true := by rw [hd]; simp [sameLayout]
  rw [hd]
  simp only [liesAt, Bool.or_eq_true]
  left
  generalize hf : (fun x => sameLayout P P.depth x e) = fits
  have hfe : fits e = true := by rw [← hf]; exact hsl
  rw [hd]
  simp only [rowAt, sz_cellsOf, if_neg hs, hr, beq_self_eq_true, Bool.true_and, hfe, Bool.and_true, Bool.or_eq_true, decide_eq_true_eq]
  left
  exact hc

theorem bytesOfCells {ι : Img} : ∀ {vs : List AV} {us : List Value} {bs : List UInt8}, concs ι vs = some us → mapO (fun (v : AV) => match v with | .int .u8 b => some (UInt8.ofNat b.toNat) | _ => none) vs = some bs →
    ∃ ns : List Int, us = ns.map (Value.int .u8) ∧ bs = ns.map fun n => UInt8.ofNat n.toNat
  | [], us, bs, h, hm => by simp [concs] at h; simp [mapO] at hm; subst h; subst hm; exact ⟨[], rfl, rfl⟩
  | v :: vs, us, bs, h, hm => by
    obtain ⟨y, ys, rfl, hy, hys⟩ := mapO_cons hm
    simp only [concs] at h
    split at h
    · rename_i u us' hu hus
      cases h
      obtain ⟨ns, rfl, rfl⟩ := bytesOfCells hus hys
      split at hy
      · rename_i n
        cases hy
        simp only [conc] at hu; cases hu
        exact ⟨n :: ns, rfl, rfl⟩
      · cases hy
    · cases h

theorem getElem_toList {α : Type} (a : Array α) (i : Nat) : a[i]? = a.toList[i]? := by simp

theorem entry_ok {ι : Img} {A : AH} {w : World} (h : Rel P ι A w) {it v : AV} {u : Value} (he : aentry A it = some v) (hit : conc ι it = some u) : ∃ x, conc ι v = some x ∧ (Instr.entry u).run P w = .ok x w := by
  unfold aentry at he
  split at he
  · rename_i r
    split at he
    · rename_i m since seen stepped hr
      split at he
      · rename_i stamp es clock hst hm
        split at he
        · cases he
        · rename_i hck
          simp only [ne_eq, Decidable.not_not] at hck
          split at he
          · rename_i e hfind
            cases he
            simp only [conc] at hit
            split at hit
            · rename_i l hl
              cases hit
              obtain ⟨l', hl', h0, mb, hb, lf, hlf, hmb⟩ := h.ent r _ hr
              rw [hl] at hl'; cases hl'
              subst hmb
              obtain ⟨l2, hl2, cs, hb2, hes⟩ := h.ent m _ hm
              rw [hlf] at hl2; cases hl2
              have hback : (seen.toArray).back? = some stamp := by simpa [Array.back?, List.getLast?_eq_getElem?] using hst
              have key : ∀ (es : List AMapEntry) (cs : List MapEntry), concEs ι es cs → es.find? (fun e => e.born == stamp) = some e → ∃ c, cs.find? (fun c => c.born == stamp) = some c ∧ conc ι e.key = some c.key ∧ conc ι e.val = some c.val := by
                intro es
                induction es with
                | nil => intro cs _ hf; simp at hf
                | cons a es ih =>
                  intro cs hc hf
                  cases cs with
                  | nil => exact hc.elim
                  | cons c cs =>
                    obtain ⟨k1, k2, k3, k4⟩ := hc
                    simp only [List.find?_cons] at hf ⊢
                    rw [k3]
                    split at hf
                    · rename_i hb
                      cases hf
                      exact ⟨c, by simp, k1, k2⟩
                    · rename_i hb
                      obtain ⟨c', hc', r1, r2⟩ := ih cs k4 hf
                      exact ⟨c', by simp [hc'], r1, r2⟩
              obtain ⟨c, hc, hk, hv⟩ := key es cs.toList hes hfind
              have hfind' : cs.find? (fun c => c.born == stamp) = some c := by rw [← Array.find?_toList]; exact hc
              refine ⟨.tuple #[c.key, c.val], by simp [conc, concs, hk, hv], ?_⟩
              have hg1 : (getObj l.block).run P w = .ok (.mapIter (some lf.block) since seen.toArray stepped) w := by simp [getObj, Sem.run, hb]
              have hg2 : (getObj lf.block).run P w = .ok (.map cs clock) w := by simp [getObj, Sem.run, hb2]
              simp only [Nat.add_zero, h0] at *
              simp [Instr.entry, hg1, hback, hg2, hck, hfind']
            · cases hit
          · cases he
      · cases he
    · cases he
  · cases he

theorem len_ok {ι : Img} {A : AH} {w : World} (h : Rel P ι A w) {t : TypeId} {x : AV} {n : Nat} {u : Value} {ts : Array TypeId} {ty : TypeId} {args : Array Value} (hl : alen P A t x = some n) (hx : conc ι x = some u) (h1 : ts[0]? = some t) (h2 : args[0]? = some u) :
    (Builtin.len_ ts ty args).run P w = .ok (.int .i64 n) w := by
  unfold alen at hl
  split at hl
  · rename_i s hu
    cases hl
    have e := conc_str hx; subst e
    simp [Builtin.len_, h1, h2, run_underlying hu, goInt]
    rfl
  · rename_i k e hu
    cases hl
    simp [Builtin.len_, h1, h2, run_underlying hu, goInt]
  · rename_i e hu
    cases hl
    simp only [conc] at hx; cases hx
    simp [Builtin.len_, h1, h2, run_underlying hu, goInt]
  · rename_i e k hu
    cases hl
    simp only [conc] at hx
    split at hx
    · cases hx; simp [Builtin.len_, h1, h2, run_underlying hu, goInt]
    · cases hx
  · rename_i e f o c hu
    cases hl
    cases c <;> simp only [conc] at hx <;> split at hx <;> (try split at hx) <;> cases hx <;> simp [Builtin.len_, h1, h2, run_underlying hu, goInt]
  · rename_i k e hu
    cases hl
    simp only [conc] at hx; cases hx
    simp [Builtin.len_, h1, h2, run_underlying hu, goInt]
  · rename_i k e f hu
    split at hl
    · rename_i es clock hf
      cases hl
      simp only [conc] at hx
      split at hx
      · rename_i l hlc
        cases hx
        obtain ⟨l', hl', cs, hb, hes⟩ := h.ent f _ hf
        rw [hlc] at hl'; cases hl'
        have hg : (getObj l.block).run P w = .ok (.map cs clock) w := by simp [getObj, Sem.run, hb]
        have := (concEs_get hes).1
        simp only [Array.length_toList] at this
        simp [Builtin.len_, h1, h2, run_underlying hu, goInt, hg, this]
      · cases hx
    · cases hl
  · cases hl

theorem bytesString_ok {ι : Img} {A : AH} {w : World} (h : Rel P ι A w) {src dst e : TypeId} {xa : AV} {n : Nat} {vs : List AV} {bs : List UInt8} {u : Value} (hs : P.underlying src = some (.slice e)) (hd : P.underlying dst = some .string) (he : P.underlying e = some (.int .u8))
    (hn : xa.sliceLen = some n) (hvs : acells A 1 n xa = some vs) (hbs : mapO (fun (v : AV) => match v with | .int .u8 b => some (UInt8.ofNat b.toNat) | _ => none) vs = some bs) (hns : ∀ s, xa = .str s → False) (hx : conc ι xa = some u) :
    (convert src dst u).run P w = .ok (.string ⟨⟨bs⟩⟩) w := by
  cases xa <;> simp only [AV.sliceLen] at hn <;> try (cases hn; done)
  case str s => exact (hns s rfl).elim
  case nilslice =>
    simp only [conc] at hx; cases hx; cases hn
    simp [acells] at hvs; subst hvs
    simp [mapO] at hbs; subst hbs
    simp [convert, run_underlying hs, run_underlying hd, run_underlying he, Conv.bytesToString]
    rfl
  case emp k =>
    cases hn
    simp only [conc] at hx
    split at hx
    · cases hx
      simp [acells] at hvs; subst hvs
      simp [mapO] at hbs; subst hbs
      simp [convert, run_underlying hs, run_underlying hd, run_underlying he, Conv.bytesToString, loadCells, loadCellsFrom]
      rfl
    · cases hx
  case slice f o' len c =>
    cases hn
    have key : ∃ l cap, ι f = some l ∧ u = .slice (some ⟨l.block, l.lo + o', none⟩) n cap := by
      cases c <;> simp only [conc] at hx <;> split at hx <;> (try split at hx) <;> cases hx <;> exact ⟨_, _, by assumption, rfl⟩
    obtain ⟨l, cap, hl, rfl⟩ := key
    simp only [acells] at hvs
    have hload : ∃ ns : List Int, (loadCells ⟨l.block, l.lo + o', none⟩ n).run P w = .ok (ns.map (Value.int .u8)).toArray w ∧ bs = ns.map fun n => UInt8.ofNat n.toNat := by
      split at hvs
      · rename_i h0
        cases hvs
        simp [mapO] at hbs; subst hbs
        obtain rfl : n = 0 := by omega
        exact ⟨[], by simp [loadCells, loadCellsFrom], rfl⟩
      · rw [Nat.mul_one] at hvs
        obtain ⟨l', us, hl', hus, hlen, hrun, _⟩ := read_ok h hvs
        rw [hl] at hl'; cases hl'
        obtain ⟨ns, rfl, hb⟩ := bytesOfCells hus hbs
        exact ⟨ns, hrun, hb⟩
    obtain ⟨ns, hrun, hb⟩ := hload
    rw [run_convert_bytes_string w src dst e _ _ _ hs he hd, run_bytesToString w _ _ _ ns hrun, foldl_push_bytes, hb]
    simp

theorem convert_ok {ι : Img} {A A' : AH} {w : World} (h : Rel P ι A w) {src dst : TypeId} {xa v : AV} {o : Operand} {u : Value} (hc : aconvert P A src dst xa = some (v, A')) (hcl : opClass P (.convert src dst o) = .reads) (hx : conc ι xa = some u) :
    A' = A ∧ ∃ y, conc ι v = some y ∧ (convert src dst u).run P w = .ok y w := by
  unfold aconvert at hc
  simp only [opClass] at hcl
  split at hc
  · rename_i d k j n hs hd
    cases hc
    have e := conc_int hx; subst e
    exact ⟨rfl, .int k (k.wrap n), rfl, by simp [convert, run_underlying hs, run_underlying hd, Conv.intToInt]⟩
  · rename_i d s hs hd
    cases hc
    have e := conc_str hx; subst e
    refine ⟨rfl, .string ⟨⟨s⟩⟩, rfl, by simp [convert, run_underlying hs, run_underlying hd]⟩
  · rename_i t f o' hs hd
    split at hc
    · rename_i k c m ty g sf hsz hf
      split at hc
      · rename_i hom
        cases hc
        simp only [conc] at hx
        split at hx
        · rename_i l hl
          cases hx
          obtain ⟨l', hl', cs, fr, hb, hco⟩ := h.ent f _ hf
          rw [hl] at hl'; cases hl'
          have hsh : w.shape? l.block = some (ty, cs.size) := by simp [World.shape?, hb]
          have hlt : ¬ (l.lo + o' ≥ cs.size) := by have := hco.1; omega
          have hszr : (sizeOf t).run P w = .ok (k + 1) w := szOf_run hsz w
          refine ⟨rfl, .pointer (some ⟨l.block, l.lo + o', none⟩), by simp [conc, hl], ?_⟩
          have hlt' : ¬ (cs.size ≤ l.lo + o') := hlt
          simp [convert, run_underlying hs, run_underlying hd, Conv.unsafePointer, Conv.seenAt, viewAt, hsh, cellsIn, hszr, hlt']
        · cases hx
      · cases hc
    · cases hc
  · rename_i t f o' hs hd
    split at hc
    · rename_i k c m ty g sf hsz hf
      split at hc
      · rename_i hom
        obtain ⟨hty, hmod, hle⟩ := hom
        cases hc
        simp only [conc] at hx
        split at hx
        · rename_i l hl
          cases hx
          obtain ⟨l', hl', cs, fr, hb, hco⟩ := h.ent f _ hf
          rw [hl] at hl'; cases hl'
          have hsh : w.shape? l.block = some (ty, cs.size) := by simp [World.shape?, hb]
          have hszt : sz P t = k + 1 := szOf_sz hsz
          have hdiv : sz P ty ∣ l.lo := hco.2.2.1
          rw [hty, hszt] at hdiv
          have hm : (l.lo + o') % sz P ty = 0 := by rw [hty, hszt, Nat.add_mod, Nat.mod_eq_zero_of_dvd hdiv, hmod]; simp
          have hc1 : (l.lo + o') / sz P ty + 1 ≤ cs.size / P.cellsOf ty := by
            rw [sz_cellsOf, hty, hszt]
            have h1 := hco.1
            have : (l.lo + o' + (k + 1)) / (k + 1) ≤ cs.size / (k + 1) := Nat.div_le_div_right (by omega)
            rw [Nat.add_div_right _ (by omega)] at this
            exact this
          have hva : (variablesAt ⟨l.block, l.lo + o', none⟩ t 1).run P w = .ok true w := by
            simp [variablesAt, hsh, liesAt_same hty (by rw [hty, hszt]; omega) hm hc1]
          have hszr : (sizeOf t).run P w = .ok (k + 1) w := szOf_run hsz w
          refine ⟨rfl, .pointer (some ⟨l.block, l.lo + o', none⟩), by simp [conc, hl], ?_⟩
          simp [convert, run_underlying hs, run_underlying hd, Conv.unsafePointer, Conv.seenAt, viewAt, hsh, hszr, hva]
        · cases hx
      · cases hc
    · cases hc
  · rename_i hs hd; simp [hs, hd] at hcl
  · rename_i e hs hd hstr
    split at hc
    · rename_i n he hn
      split at hc
      · rename_i vs hvs
        split at hc
        · rename_i bs hbs
          split at hc
          · cases hc
          · rename_i hns
            cases hc
            exact ⟨rfl, .string ⟨⟨bs⟩⟩, rfl, bytesString_ok h hs hd he hn hvs hbs hns hx⟩
        · cases hc
      · cases hc
    · cases hc
  · rename_i d e s hs hd
    split at hc
    · rename_i he hsr hsz; rw [hs] at hsr; cases hsr; simp [hs, hd] at hcl
    · cases hc
  · cases hc


theorem call_builtin_eq {dst : Option Tmp} {b : Builtin} {cargs : Array Operand} {cts : Array TypeId} {ty : TypeId} {pos : String} {after : Array Edge} {guard : Option (Nat × Bool)} (a : Act) :
    execOp a.eval ⟨dst, .call ⟨.builtin b, cargs, cts⟩, ty, pos, after, guard⟩ = builtin b cts ty (cargs.map fun | .const _ => true | _ => false) (cargs.map a.eval) := by
  simp only [execOp, resolve, pure_bind, invoke]
  rfl

/-- the two sides of a comparison whose guard is idle -/
theorem guard_ok {ι : Img} {w : World} {op : BinOp} {t : TypeId} {x y : Operand} {a b : AV} {ua ub : Value} (hg : guardOk P t x y a b = true) (ha : conc ι a = some ua) (hb : conc ι b = some ub) : (eqGuard op t x y ua ub).run P w = .ok () w := by
  have hid : ∀ (ua ub : Value), (∀ cs ds, ¬ (ua = .agg cs ∧ ub = .agg ds)) → ¬ (ua = .nilIface ∧ ub = .nilIface) → (eqGuard op t x y ua ub).run P w = .ok () w := by
    intro ua ub h1 h2
    cases op <;> (try rfl) <;> simp only [eqGuard, Bool.not_true, Bool.false_eq_true, if_false] <;>
    (split
     · exact absurd ⟨rfl, rfl⟩ h2
     · exact absurd ⟨rfl, rfl⟩ (h1 _ _)
     · rfl)
  by_cases hagg : ∃ cs ds, ua = .agg cs ∧ ub = .agg ds
  · obtain ⟨cs, ds, rfl, rfl⟩ := hagg
    obtain ⟨l, rfl⟩ := conc_agg ha
    obtain ⟨l', rfl⟩ := conc_agg hb
    simp only [guardOk, Bool.not_eq_true'] at hg
    exact run_eqGuard_agg w op t x y cs ds hg
  · by_cases hnil : ua = .nilIface ∧ ub = .nilIface
    · obtain ⟨rfl, rfl⟩ := hnil
      have hnilv : ∀ v : AV, conc ι v = some .nilIface → v = .nilIface := by
        intro v hv
        cases v
        case nilIface => rfl
        case slice f o n c => cases c <;> simp only [conc] at hv <;> split at hv <;> (try split at hv) <;> cases hv
        all_goals
          simp only [conc] at hv
          first
            | (cases hv; done)
            | (split at hv <;> cases hv)
      have e1 := hnilv a ha; have e2 := hnilv b hb; subst e1; subst e2
      simp only [guardOk, Bool.or_eq_true] at hg
      cases op <;> (try rfl) <;>
      (rcases hg with hg | hg
       · cases x <;> first | (simp [isConstO] at hg; done) | simp [eqGuard]
       · cases y <;> first | (simp [isConstO] at hg; done) | simp [eqGuard])
    · exact hid ua ub (fun cs ds e => hagg ⟨cs, ds, e⟩) hnil

theorem conc_int_inv {ι : Img} {v : AV} {k : IntKind} {n : Int} (h : conc ι v = some (.int k n)) : v = .int k n := by
  cases v
  case int j m => simp [conc] at h; rw [h.1, h.2]
  case slice f o n c => cases c <;> simp only [conc] at h <;> split at h <;> (try split at h) <;> cases h
  all_goals
    simp only [conc] at h
    first
      | (cases h; done)
      | (split at h <;> cases h)

theorem conc_str_inv {ι : Img} {v : AV} {s : ByteArray} (h : conc ι v = some (.string s)) : ∃ l, v = .str l := by
  cases v
  case str l => exact ⟨l, rfl⟩
  case slice f o n c => cases c <;> simp only [conc] at h <;> split at h <;> (try split at h) <;> cases h
  all_goals
    simp only [conc] at h
    first
      | (cases h; done)
      | (split at h <;> cases h)

theorem conc_float {ι : Img} {v : AV} {k : FloatKind} {n : Nat} (h : conc ι v = some (.float k n)) : False := by
  cases v
  case slice f o n c => cases c <;> simp only [conc] at h <;> split at h <;> (try split at h) <;> cases h
  all_goals
    simp only [conc] at h
    first
      | (cases h; done)
      | (split at h <;> cases h)

theorem conc_complex {ι : Img} {v : AV} {k : FloatKind} {n m : Nat} (h : conc ι v = some (.complex k n m)) : False := by
  cases v
  case slice f o n c => cases c <;> simp only [conc] at h <;> split at h <;> (try split at h) <;> cases h
  all_goals
    simp only [conc] at h
    first
      | (cases h; done)
      | (split at h <;> cases h)

theorem eql_ok {ι : Img} {A : AH} {w : World} (h : Rel P ι A w) {op : BinOp} {t : TypeId} {x y : Operand} {a b v : AV} {ua ub : Value} (hop : op = .eql ∨ op = .neq) (hv : abin P A op t x y a b = some v) (ha : conc ι a = some ua) (hb : conc ι b = some ub) :
    ∃ u, conc ι v = some u ∧ (do eqGuard op t x y ua ub; binOp op t ua ub : Sem Value).run P w = .ok u w := by
  unfold abin at hv
  split at hv
  · rcases hop with h | h <;> cases h
  · rcases hop with h | h <;> cases h
  · split at hv
    · rename_i e
      subst e
      have e1 := conc_int ha; have e2 := conc_int hb; subst e1; subst e2
      obtain ⟨u, hu, hr⟩ := run_binInt (P := P) (t := t) ι w hv
      exact ⟨u, hu, by rcases hop with rfl | rfl <;> simp [eqGuard, hr]⟩
    · cases hv
  · have e1 := conc_str ha; have e2 := conc_str hb; subst e1; subst e2
    obtain ⟨u, hu, hr⟩ := run_strOp (P := P) ι w hv
    refine ⟨u, hu, ?_⟩
    rcases hop with rfl | rfl <;> simp [eqGuard, run_strBin, hr]
  · rename_i a' b' hni hns
    split at hv
    · rename_i hg
      cases hq : aeq P A 100 t a b with
      | none => rw [hq] at hv; cases hv
      | some r =>
        rw [hq] at hv; simp only [Option.map_some, Option.some.injEq] at hv
        subst hv
        have he := aeq_ok h 100 10000 t a b ua ub r (by omega) hq ha hb
        have hgr := guard_ok (w := w) (op := .eql) hg ha hb
        refine ⟨.bool r, rfl, ?_⟩
        have hbin : (binOp .eql t ua ub).run P w = .ok (.bool r) w := by
          cases ua <;> cases ub <;> first
            | (simp only [binOp]; simp [Op.equal, Op.maxDepth, he]; done)
            | (exfalso; exact int_int ha hb hni)
            | (exfalso; exact str_str ha hb hns)
            | (exfalso; exact conc_float ha)
            | (exfalso; exact conc_complex ha)
        simp [hgr, hbin]
    · cases hv
  · rename_i a' b' hni hns
    split at hv
    · rename_i hg
      cases hq : aeq P A 100 t a b with
      | none => rw [hq] at hv; cases hv
      | some r =>
        rw [hq] at hv; simp only [Option.map_some, Option.some.injEq] at hv
        subst hv
        have he := aeq_ok h 100 10000 t a b ua ub r (by omega) hq ha hb
        have hgr := guard_ok (w := w) (op := .neq) hg ha hb
        refine ⟨.bool !r, rfl, ?_⟩
        have hbin : (binOp .neq t ua ub).run P w = .ok (.bool !r) w := by
          cases ua <;> cases ub <;> first
            | (simp only [binOp]; simp [Op.equal, Op.maxDepth, he]; done)
            | (exfalso; exact int_int ha hb hni)
            | (exfalso; exact str_str ha hb hns)
            | (exfalso; exact conc_float ha)
            | (exfalso; exact conc_complex ha)
        simp [hgr, hbin]
    · cases hv
  · cases hv
  where
  int_int {ι : Img} {a b : AV} {j k : IntKind} {m n : Int} (ha : conc ι a = some (.int j m)) (hb : conc ι b = some (.int k n)) (h : ∀ (j : IntKind) (m : Int) (k : IntKind) (n : Int), a = .int j m → b = .int k n → False) : False := by
    rw [conc_int_inv ha, conc_int_inv hb] at h
    exact h _ _ _ _ rfl rfl
  str_str {ι : Img} {a b : AV} {s t : ByteArray} (ha : conc ι a = some (.string s)) (hb : conc ι b = some (.string t)) (h : ∀ (s t : List UInt8), a = .str s → b = .str t → False) : False := by
    obtain ⟨l, rfl⟩ := conc_str_inv ha
    obtain ⟨l', rfl⟩ := conc_str_inv hb
    exact h _ _ rfl rfl


set_option maxHeartbeats 1000000 in
/-- EVERY OPERATION OF THE READING CLASS. -/
theorem reads_ok {cfg : Cfg} {A : AH} {m : TM} {o : Oper} {L : List (AR × AH)} (h : aop P cfg A m o = some L) (hc : opClass P o.op = .reads) :
    ∃ v, L = [(.val v, A)] ∧ ∀ (ι : Img) (w : World) (a : Act), Rel P ι A w → TMok ι m a.tmps → ∃ u, (execOp a.eval o).run P w = .ok (.value u) w ∧ conc ι v = some u := by
  have fin : ∀ {s : Sem Value} {w : World} {u : Value}, s.run P w = .ok u w → (do pure (.value (← s)) : Sem Next).run P w = .ok (.value u) w := fun h => by simp [h]
  obtain ⟨dst, op, ty, pos, after, guard⟩ := o
  cases op
  case load t x =>
    simp only [aop] at h
    split at h
    · rename_i f o' hx
      obtain ⟨v, hv, rfl⟩ := oneO_some h
      refine ⟨v, rfl, fun ι w a hr ht => ?_⟩
      obtain ⟨l, u, hl, hu, hrun⟩ := aload_ok hr hv
      have hcx := ρ_ok hr.glob ht hx
      simp only [conc, hl, Option.some.injEq] at hcx
      refine ⟨u, fin ?_, hu⟩
      simp only [Instr.loadAt, ← hcx, Instr.sureAddr, Sem.run_bind, Sem.run_pure, Result.andThen_ok, hrun]
    · cases h
  case lookup t x i ok =>
    simp only [aop] at h
    split at h
    · rename_i vx vi hx hi
      obtain ⟨v, hv, rfl⟩ := oneO_some h
      refine ⟨v, rfl, fun ι w a hr ht => ?_⟩
      obtain ⟨u, hu, hrun⟩ := lookup_ok hr hv (ρ_ok hr.glob ht hx) (ρ_ok hr.glob ht hi)
      exact ⟨u, fin hrun, hu⟩
    · cases h
  case entry x =>
    simp only [aop] at h
    split at h
    · rename_i vx hx
      obtain ⟨v, hv, rfl⟩ := oneO_some h
      refine ⟨v, rfl, fun ι w a hr ht => ?_⟩
      obtain ⟨u, hu, hrun⟩ := entry_ok hr hv (ρ_ok hr.glob ht hx)
      exact ⟨u, fin hrun, hu⟩
    · cases h
  case binOp op t x y yt =>
    simp only [aop] at h
    split at h
    · rename_i va vb hva hvb
      obtain ⟨v, hv, rfl⟩ := oneO_some h
      have hop : op = .eql ∨ op = .neq := by cases op <;> simp [opClass] at hc <;> simp
      refine ⟨v, rfl, fun ι w a hr ht => ?_⟩
      obtain ⟨u, hu, hrun⟩ := eql_ok hr hop hv (ρ_ok hr.glob ht hva) (ρ_ok hr.glob ht hvb)
      exact ⟨u, fin hrun, hu⟩
    · cases h
  case convert s d x =>
    simp only [aop] at h
    split at h
    · rename_i va hva
      obtain ⟨v, A', hv, rfl⟩ := oneA_some h
      have hA : A' = A := by
        unfold aconvert at hv
        simp only [opClass] at hc
        split at hv
        · cases hv; rfl
        · cases hv; rfl
        · split at hv
          · split at hv
            · cases hv; rfl
            · cases hv
          · cases hv
        · split at hv
          · split at hv
            · cases hv; rfl
            · cases hv
          · cases hv
        · rename_i hs hd; simp [hs, hd] at hc
        · split at hv
          · split at hv
            · split at hv
              · split at hv
                · cases hv
                · cases hv; rfl
              · cases hv
            · cases hv
          · cases hv
        · rename_i d e s hs hd
          split at hv
          · rename_i he hsr hsz; rw [hs] at hsr; cases hsr; simp [hs, hd] at hc
          · cases hv
        · cases hv
      subst hA
      refine ⟨v, rfl, fun ι w a hr ht => ?_⟩
      obtain ⟨_, u, hu, hrun⟩ := convert_ok (o := x) hr hv hc (ρ_ok hr.glob ht hva)
      exact ⟨u, fin hrun, hu⟩
    · cases h
  case call c =>
    obtain ⟨callee, cargs, cts⟩ := c
    cases callee
    case value f => simp [opClass] at hc
    case invoke r mt => simp [opClass] at hc
    case builtin b =>
    obtain rfl : b = .len := by
      cases b <;> simp [opClass, idle] at hc <;> rfl
    simp only [aop, acall] at h
    split at h
    · rename_i args hargs
      cases hct : cts.toList with
      | nil => rw [hct] at h; simp [abuiltin] at h
      | cons t ts =>
        rw [hct] at h
        cases args with
        | nil => simp [abuiltin] at h
        | cons x rest =>
          cases rest with
          | cons y ys => simp [abuiltin] at h
          | nil =>
            simp only [abuiltin] at h
            have hcts : cts[0]? = some t := by rw [← Array.getElem?_toList, hct]; rfl
            obtain ⟨o1, ho1⟩ : ∃ o1, cargs.toList = [o1] := by
              have := (mapO_spec hargs).1
              match hl : cargs.toList, this with
              | [o1], _ => exact ⟨o1, rfl⟩
            have hx : ρ m o1 = some x := by rw [ho1] at hargs; obtain ⟨y, ys, e, hy, _⟩ := mapO_cons hargs; cases e; exact hy
            split at h
            · rename_i n hn
              cases h
              refine ⟨_, rfl, fun ι w a hr ht => ⟨.int .i64 n, ?_, rfl⟩⟩
              have hca : (cargs.map a.eval)[0]? = some (a.eval o1) := by
                rw [← Array.getElem?_toList, Array.toList_map, ho1]; rfl
              rw [call_builtin_eq]
              exact fin (len_ok hr hn (ρ_ok hr.glob ht hx) hcts hca)
            · cases h
    · cases h
  all_goals (first | (simp [opClass] at hc; done) | (simp [aop] at h; done) | skip)

end
end Go.Eng
