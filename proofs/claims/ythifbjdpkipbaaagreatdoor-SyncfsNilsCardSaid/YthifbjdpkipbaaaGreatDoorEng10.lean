/- THE ENGINE: maps, and operations that read. -/
import Derived.Test.YthifbjdpkipbaaaGreatDoorEng9
set_option linter.all false
namespace Go.Eng

section
variable {P : Program}

theorem checkKey_plain {t : TypeId} {d : TypeDesc} {n : Nat} {e : Bool} {v : Value} {w : World} (hu : P.underlying t = some d) (hd : (match d with | .int _ => True | .string => True | .bool => True | _ => False)) : (Instr.checkKey e (n + 1) t v).run P w = .ok () w := by
  cases d <;> simp only at hd <;> simp [Instr.checkKey, run_underlying hu]

theorem checkKey_ok {ι : Img} {t : TypeId} {k : AV} {uk : Value} {w : World} (hp : plainKey P t = true) (hf : keyFits P t k = true) (hk : conc ι k = some uk) (e : Bool) (n : Nat) : (Instr.checkKey e (n + 2) t uk).run P w = .ok () w := by
  unfold plainKey at hp
  split at hp
  · rename_i hu; exact checkKey_plain hu trivial
  · rename_i hu; exact checkKey_plain hu trivial
  · rename_i hu; exact checkKey_plain hu trivial
  · rename_i fs hu
    unfold keyFits at hf
    split at hf
    · rename_i hu'; rw [hu] at hu'; cases hu'
    · rename_i hu'; rw [hu] at hu'; cases hu'
    · rename_i hu'; rw [hu] at hu'; cases hu'
    · rename_i fs' cs hu'
      rw [hu] at hu'; cases hu'
      simp only [conc] at hk
      split at hk
      · rename_i us hus
        cases hk
        obtain ⟨N, hN⟩ : ∃ N, N = n + 1 := ⟨_, rfl⟩
        rw [show n + 2 = N + 1 from by omega]
        simp only [Instr.checkKey, Sem.run_bind, run_underlying hu, Result.andThen_ok]
        rw [← Array.forIn_toList]
        rw [List.all_eq_true] at hp hf
        clear hu
        generalize hgen : fs.toList = l at hp hf ⊢
        clear hgen
        induction l with
        | nil => simp
        | cons f l ih =>
          have h1 := hp f (by simp)
          have h2 := hf f (by simp)
          simp only [decide_eq_true_eq] at h2
          obtain ⟨u, hu, _⟩ := concs_get hus f.offset _ (List.getElem?_eq_getElem h2)
          have hpart : (part f.type ⟨us⟩ f.offset).run P w = .ok u w := by
            have hag : (isAgg f.type).run P w = .ok false w := by
              split at h1
              · rename_i hf'; simp [isAgg, run_underlying hf']
              · rename_i hf'; simp [isAgg, run_underlying hf']
              · rename_i hf'; simp [isAgg, run_underlying hf']
              · cases h1
            simp [part, hag, hu]
          have hck : (Instr.checkKey e N f.type u).run P w = .ok () w := by
            rw [hN]
            split at h1
            · rename_i hf'; exact checkKey_plain hf' trivial
            · rename_i hf'; exact checkKey_plain hf' trivial
            · rename_i hf'; exact checkKey_plain hf' trivial
            · cases h1
          have ih' := ih (fun x hx => hp x (by simp [hx])) (fun x hx => hf x (by simp [hx]))
          simp only [List.forIn_cons, Sem.run_bind]
          by_cases hn : f.name ≠ "_"
          · simp only [if_pos hn, Sem.run_bind, hpart, Result.andThen_ok, hck, Sem.run_pure]; exact ih'
          · simp only [if_neg hn, Sem.run_pure, Result.andThen_ok]; exact ih'
      · cases hk
    · cases hf
  · cases hp

theorem concEs_get {ι : Img} : ∀ {es : List AMapEntry} {cs : List MapEntry}, concEs ι es cs → cs.length = es.length ∧ ∀ (i : Nat) (e : AMapEntry), es[i]? = some e → ∃ c, cs[i]? = some c ∧ conc ι e.key = some c.key ∧ conc ι e.val = some c.val ∧ c.born = e.born
  | [], [], _ => ⟨rfl, by simp⟩
  | e :: es, c :: cs, ⟨h1, h2, h3, h4⟩ => by
    obtain ⟨hl, hg⟩ := concEs_get h4
    refine ⟨by simp [hl], fun i x hi => ?_⟩
    cases i with
    | zero => simp at hi; subst hi; exact ⟨c, by simp, h1, h2, h3⟩
    | succ i => simpa using hg i x (by simpa using hi)
  | [], _ :: _, h => h.elim
  | _ :: _, [], h => h.elim

theorem sameNow_equal {t : TypeId} {d : TypeDesc} {x y : Value} {b : Bool} {w : World} (hu : P.underlying t = some d) (h : Instr.sameNow d x y = some b) (n : Nat) : (Op.equalIn (n + 1) t x y).run P w = .ok b w := by
  unfold Instr.sameNow at h
  split at h
  · split at h
    · rename_i e; subst e; cases h; simp [Op.equalIn, run_underlying hu]
    · cases h
  · cases h; simp [Op.equalIn, run_underlying hu]
  · cases h; simp [Op.equalIn, run_underlying hu]
  · cases h

/-- what the search finds -/
def Found (ι : Img) (es : List AMapEntry) (cs : List MapEntry) (off : Nat) : Option (Nat × AMapEntry) → Option (Nat × Value) → Prop
  | none, r => r = none
  | some (i, e), r => ∃ c, off ≤ i ∧ es[i - off]? = some e ∧ cs[i - off]? = some c ∧ r = some (i, c.val)

theorem Found.cons {ι : Img} {e : AMapEntry} {es : List AMapEntry} {c : MapEntry} {cs : List MapEntry} {off : Nat} {r : Option (Nat × AMapEntry)} {u : Option (Nat × Value)} (h : Found ι es cs (off + 1) r u) : Found ι (e :: es) (c :: cs) off r u := by
  cases r with
  | none => exact h
  | some x =>
    obtain ⟨i, a⟩ := x
    obtain ⟨d, h1, h2, h3, h4⟩ := h
    refine ⟨d, by omega, ?_, ?_, h4⟩
    · rw [show i - off = (i - (off + 1)) + 1 from by omega]; simpa using h2
    · rw [show i - off = (i - (off + 1)) + 1 from by omega]; simpa using h3

theorem findAsking_ok {ι : Img} {A : AH} {w : World} (h : Rel P ι A w) {kt : TypeId} {k : AV} {uk : Value} (hk : conc ι k = some uk) : ∀ (es : List AMapEntry) (cs : List MapEntry) (i : Nat) (r : Option (Nat × AMapEntry)),
    concEs ι es cs → findKey P A kt k es i = some r → ∃ u, Found ι es cs i r u ∧ (Instr.findAsking kt uk cs i).run P w = .ok u w
  | [], [], i, r, _, hf => by simp [findKey] at hf; subst hf; exact ⟨none, rfl, by simp [Instr.findAsking]⟩
  | e :: es, c :: cs, i, r, he, hf => by
    obtain ⟨h1, h2, h3, h4⟩ := he
    simp only [findKey] at hf
    split at hf
    · rename_i hq
      split at hf
      · cases hf
        have := aeq_ok h 100 10000 kt k e.key uk c.key true (by omega) hq hk h1
        exact ⟨some (i, c.val), ⟨c, by omega, by simp, by simp, rfl⟩, by simp [Instr.findAsking, Op.equal, Op.maxDepth, this]⟩
      · cases hf
    · rename_i hq
      have := aeq_ok h 100 10000 kt k e.key uk c.key false (by omega) hq hk h1
      obtain ⟨u, hu, hr⟩ := findAsking_ok h hk es cs (i + 1) r h4 hf
      exact ⟨u, hu.cons, by simp [Instr.findAsking, Op.equal, Op.maxDepth, this, hr]⟩
    · cases hf
  | [], _ :: _, _, _, he, _ => he.elim
  | _ :: _, [], _, _, he, _ => he.elim

theorem findNow_asking {t : TypeId} {d : TypeDesc} {k : Value} {w : World} (hu : P.underlying t = some d) : ∀ (cs : List MapEntry) (i : Nat) (r : Option (Nat × Value)), Instr.findNow d k cs i = some r → (Instr.findAsking t k cs i).run P w = .ok r w
  | [], i, r, h => by simp [Instr.findNow] at h; subst h; simp [Instr.findAsking]
  | c :: cs, i, r, h => by
    simp only [Instr.findNow] at h
    split at h
    · rename_i hs
      cases h
      simp [Instr.findAsking, Op.equal, Op.maxDepth, sameNow_equal hu hs 9999]
    · rename_i hs
      have := findNow_asking (w := w) hu cs (i + 1) r h
      simp [Instr.findAsking, Op.equal, Op.maxDepth, sameNow_equal hu hs 9999, this]
    · cases h

theorem findKey_ok {ι : Img} {A : AH} {w : World} (h : Rel P ι A w) {kt : TypeId} {d : TypeDesc} (hd : P.underlying kt = some d) {k : AV} {uk : Value} (hk : conc ι k = some uk) {es : List AMapEntry} {cs : List MapEntry} {r : Option (Nat × AMapEntry)}
    (he : concEs ι es cs) (hf : findKey P A kt k es 0 = some r) : ∃ u, Found ι es cs 0 r u ∧ (Instr.findKey kt uk cs).run P w = .ok u w := by
  obtain ⟨u, hu, hr⟩ := findAsking_ok h hk es cs 0 r he hf
  refine ⟨u, hu, ?_⟩
  simp only [Instr.findKey, Sem.run_bind, run_underlying hd, Result.andThen_ok]
  cases hn : Instr.findNow d uk cs 0 with
  | none => exact hr
  | some r' =>
    have := findNow_asking (w := w) hd cs 0 r' hn
    rw [hr] at this
    cases this
    simp

theorem plain_desc {t : TypeId} (h : plainKey P t = true) : ∃ d, P.underlying t = some d := by
  unfold plainKey at h
  split at h <;> first | exact ⟨_, by assumption⟩ | cases h

theorem lookup_ok {ι : Img} {A : AH} {w : World} (h : Rel P ι A w) {t : TypeId} {x k v : AV} {ok : Bool} {ux uk : Value} (hl : alookup P A t x k ok = some v) (hx : conc ι x = some ux) (hk : conc ι k = some uk) :
    ∃ u, conc ι v = some u ∧ (Instr.lookup t ux uk ok).run P w = .ok u w := by
  unfold alookup at hl
  split at hl
  · rename_i kt e hu
    split at hl
    · cases hl
    rename_i hpk
    have hp : plainKey P kt = true := by simp at hpk; exact hpk.1
    have hf : keyFits P kt k = true := by simp at hpk; exact hpk.2
    obtain ⟨d, hd⟩ := plain_desc hp
    have hck := fun e => checkKey_ok (w := w) hp hf hk e 9998
    simp only at hl
    split at hl
    · cases hl
    · rename_i a ha
      cases hl
      split at ha
      · cases ha
      · rename_i f
        split at ha
        · rename_i es clock hlook
          split at ha
          · rename_i i en hfk
            cases ha
            simp only [conc] at hx
            split at hx
            · rename_i l hlc
              cases hx
              obtain ⟨l', hl', cs, hb, hes⟩ := h.ent f _ hlook
              rw [hlc] at hl'; cases hl'
              obtain ⟨u, hfound, hrun⟩ := findKey_ok h hd hk hes hfk
              obtain ⟨c, _, h1, h2, rfl⟩ := hfound
              obtain ⟨c', hc', _, hv, _⟩ := (concEs_get hes).2 _ _ h1
              rw [h2] at hc'; cases hc'
              have hgo : (getObj l.block).run P w = .ok (.map cs clock) w := by simp [getObj, Sem.run, hb]
              refine ⟨if ok then .tuple #[c.val, .bool true] else c.val, ?_, ?_⟩
              · cases ok <;> simp [conc, concs, hv]
              · cases ok <;> simp [Instr.lookup, run_underlying hu, hgo, hck, hrun]
            · cases hx
          · cases ha
          · cases ha
        · cases ha
      · cases ha
    · rename_i ha
      split at hl
      · rename_i z hz
        cases hl
        obtain ⟨uz, hzc, hzr⟩ := zeroOf_conc (P := P) ι hz w
        refine ⟨if ok then .tuple #[uz, .bool false] else uz, by cases ok <;> simp [conc, concs, hzc], ?_⟩
        split at ha
        · simp only [conc] at hx; cases hx
          have : (Instr.findKey kt uk []).run P w = .ok none w := by simp [Instr.findKey, run_underlying hd, Instr.findNow]
          cases ok <;> simp [Instr.lookup, run_underlying hu, hck, this, hzr]
        · rename_i f
          split at ha
          · rename_i es clock hlook
            split at ha
            · cases ha
            · rename_i hfk
              cases ha
              simp only [conc] at hx
              split at hx
              · rename_i l hlc
                cases hx
                obtain ⟨l', hl', cs, hb, hes⟩ := h.ent f _ hlook
                rw [hlc] at hl'; cases hl'
                obtain ⟨u, hfound, hrun⟩ := findKey_ok h hd hk hes hfk
                obtain rfl : u = none := hfound
                have hgo : (getObj l.block).run P w = .ok (.map cs clock) w := by simp [getObj, Sem.run, hb]
                cases ok <;> simp [Instr.lookup, run_underlying hu, hgo, hck, hrun, hzr]
              · cases hx
            · cases ha
          · cases ha
        · cases ha
      · cases hl
  · cases hl

end
end Go.Eng
