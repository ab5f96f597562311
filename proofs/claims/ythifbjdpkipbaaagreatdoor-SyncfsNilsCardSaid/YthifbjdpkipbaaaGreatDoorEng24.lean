/- THE ENGINE: calls. -/
import Derived.Test.YthifbjdpkipbaaaGreatDoorEng23
set_option linter.all false
namespace Go.Eng

section
variable {P : Program}

/-- one result -/
def resultRun (tmps : Array Value) : ResultVar → Sem Value
  | .tmp t => pure (tmps.getD t undef)
  | .cell a t => do loadVar t (← asAddr (tmps.getD a undef))

theorem results_eq (fn : Func) (tmps : Array Value) : results fn tmps = (do
    let vs ← fn.results.mapM (resultRun tmps)
    pure (if h : vs.size = 1 then vs[0] else .tuple vs)) := by
  unfold results
  congr 2

theorem result_ok {ι : Img} {A : AH} {w : World} (h : Rel P ι A w) {m : TM} {tmps : Array Value} (ht : TMok ι m tmps) {x : ResultVar} {v : AV} (hx : resultA P m A x = some v) :
    ∃ u, conc ι v = some u ∧ (resultRun tmps x).run P w = .ok u w := by
  cases x with
  | tmp t =>
    simp only [resultA, Option.some.injEq] at hx
    subst hx
    exact ⟨_, ht.2 t, rfl⟩
  | cell a t =>
    simp only [resultA] at hx
    split at hx
    · rename_i f o hp
      obtain ⟨l, u, hl, hu, hrun⟩ := aload_ok h hx
      have hc := ht.2 a
      rw [hp] at hc
      simp only [conc, hl, Option.some.injEq] at hc
      refine ⟨u, hu, ?_⟩
      simp only [resultRun, ← hc, asAddr, Sem.run_bind, Sem.run_pure, Result.andThen_ok, hrun]
    · cases hx

theorem results_list {ι : Img} {A : AH} {w : World} (h : Rel P ι A w) {m : TM} {tmps : Array Value} (ht : TMok ι m tmps) : ∀ {xs : List ResultVar} {vs : List AV}, mapO (resultA P m A) xs = some vs →
    ∃ us, concs ι vs = some us ∧ (xs.mapM (resultRun tmps)).run P w = .ok us w
  | [], vs, hv => by simp [mapO] at hv; subst hv; exact ⟨[], by simp [concs], by simp⟩
  | x :: xs, vs, hv => by
    obtain ⟨y, ys, rfl, h1, h2⟩ := mapO_cons hv
    obtain ⟨u, hu, hr⟩ := result_ok h ht h1
    obtain ⟨us, hus, hrs⟩ := results_list h ht h2
    refine ⟨u :: us, by simp [concs, hu, hus], ?_⟩
    simp only [List.mapM_cons, Sem.run_bind, hr, Result.andThen_ok, hrs, Sem.run_pure]

theorem results_ok {ι : Img} {A : AH} {w : World} (h : Rel P ι A w) {m : TM} {tmps : Array Value} (ht : TMok ι m tmps) {fn : Func} {v : AV} (hv : resultsA P fn m A = some v) :
    ∃ u, conc ι v = some u ∧ (results fn tmps).run P w = .ok u w := by
  unfold resultsA at hv
  have run : ∀ vs us, mapO (resultA P m A) fn.results.toList = some vs → concs ι vs = some us → (fn.results.mapM (resultRun tmps)).run P w = .ok us.toArray w := fun vs us h1 h2 => by
    obtain ⟨us', h3, h4⟩ := results_list h ht h1
    rw [h2] at h3; cases h3
    rw [Array.mapM_eq_mapM_toList]
    simp only [Sem.run_map, h4, Result.andThen_ok]
  split at hv
  · rename_i v' hm
    cases hv
    obtain ⟨us, hus, _⟩ := results_list h ht hm
    obtain ⟨u, rfl, hu⟩ := concs_one hus
    refine ⟨u, hu, ?_⟩
    have := run _ _ hm hus
    simp only [results_eq, Sem.run_bind, this, Result.andThen_ok]
    simp
  · rename_i vs hns hm
    cases hv
    obtain ⟨us, hus, _⟩ := results_list h ht hm
    refine ⟨.tuple us.toArray, by simp [conc, hus], ?_⟩
    have := run _ _ hm hus
    have hl : ¬ us.toArray.size = 1 := by
      have := concs_length hus
      intro e
      simp only [List.size_toArray] at e
      match vs, hns with
      | [v1], hns => exact hns v1 rfl
      | [], _ => simp only [List.length_nil] at this; omega
      | _ :: _ :: _, _ => simp only [List.length_cons] at this; omega
    simp only [results_eq, Sem.run_bind, this, Result.andThen_ok]
    simp only [Result.andThen_ok, dif_neg hl, Sem.run_pure]
  · cases hv

theorem leaves_ok {ι : Img} {fn : Func} {m : TM} {tmps : Array Value} {v : AV} {A' : AH} {R : Ending → World → Prop} (n : Nat) (ht : TMok ι m tmps) : ∀ {ds : List ADef} {es : List Deferred} {A : AH} {w : World}, Rel P ι A w → DefOk ι ds es → unwindA ds A = some A' → resultsA P fn m A' = some v →
    (∀ u w', conc ι v = some u → Step P ι A w ι A' w' → R (.returned u) w') → LeavesInM (fence none) n P fn tmps R es .returning w
  | [], [], A, w, hrel, _, hu, hv, hR => by
    simp only [unwindA, Option.some.injEq] at hu
    subst hu
    obtain ⟨u, hc, hrun⟩ := results_ok hrel ht hv
    exact ⟨u, hrun, hR u w hc (Step.refl hrel)⟩
  | .coll r :: ds, d :: es, A, w, hrel, ⟨⟨loc, hl, hd⟩, hds⟩, hu, hv, hR => by
    simp only [unwindA] at hu
    split at hu
    · rename_i hlook
      have hb := hrel.ent r _ hlook
      obtain ⟨loc', hl', hb⟩ := hb
      rw [hl] at hl'; cases hl'
      simp only [EntOk, Bool.false_eq_true, if_false] at hb
      have hstep : Step P ι A w ι (A.put r (.deferred true)) (w.putObj loc.block (.deferred none)) := Step.putO hrel hlook trivial trivial hl (by simp only [EntOk, if_true]; exact putObj_get _ hb)
      refine ⟨by simp, .inl ⟨loc.block, _, by rw [hd], ?_, leaves_ok n ht hstep.rel hds hu hv fun u w' hc hs => hR u w' hc (hstep.trans hs)⟩⟩
      simp [Instr.takeDeferred, run_getObj_some (P := P) rfl hb, run_setObj_put (P := P) (.deferred none) rfl hb]
    · cases hu
  | [], _ :: _, _, _, _, h, _, _, _ => h.elim
  | .coll _ :: _, [], _, _, _, h, _, _, _ => h.elim

theorem TMok.start {ι : Img} {args : List AV} {us : List Value} (h : concs ι args = some us) (k : Nat) : TMok ι ⟨argT args, max args.length k⟩ ((⟨us⟩ : Array Value) ++ Array.replicate (k - us.length) undef) := by
  have hl := concs_length h
  refine ⟨by simp; omega, fun t => ?_⟩
  simp only [TM.get, argT]
  have hg : ((⟨us⟩ : Array Value) ++ Array.replicate (k - us.length) undef).getD t undef = (us[t]?).getD undef := by
    simp only [Array.getD_eq_getD_getElem?, Array.getElem?_append]
    split
    · simp
    · rename_i ht
      have : us[t]? = none := List.getElem?_eq_none (by simpa using ht)
      simp only [this, Option.getD_none, Array.getElem?_replicate]
      split <;> simp
  rw [hg]
  by_cases ht : t < args.length
  · rw [List.getElem?_eq_getElem ht]
    obtain ⟨b, hb, hc⟩ := concs_get h t _ (List.getElem?_eq_getElem ht)
    simp [hb, hc]
  · have : us[t]? = none := List.getElem?_eq_none (by omega)
    rw [List.getElem?_eq_none (by omega)]
    simp [this, conc, concs, undef]

/-- A CALL. -/
theorem call_ok {cfg : Cfg} {r : Rec} (hr : RecOk P r) {f : FuncId} {args : List AV} {A : AH} {outs : List (AV × AH)} (h : callStep P cfg r f args A = some outs) (n : Nat) {ι : Img} {w : World} {us : List Value} (hrel : Rel P ι A w) (hf : Fresh ι A) (hc : concs ι args = some us) :
    CallsIn (fence none) n P f ⟨us⟩ w (fun e w' => ∃ v, e = .returned v ∧ ∃ x ∈ outs, ∃ ι', conc ι' x.1 = some v ∧ Step P ι A w ι' x.2 w') := by
  unfold callStep at h
  split at h
  · cases h
  · rename_i fn hfn
    split at h
    · cases h
    · rename_i c hbody
      split at h
      · cases h
      · rename_i os hos
        refine callsIn_of_wp_marks hfn hbody trivial (wpIn_mono (hr.code hos n (rd := none) (rb := none) trivial hrel hf (a := { tmps := (⟨us⟩ : Array Value) ++ Array.replicate (fn.ntmps - us.length) undef, defers := [] }) (TMok.start hc _) trivial) fun e a' w1 ⟨s, hs, ι1, hst, ht1, hd1, he⟩ => ?_)
        obtain ⟨zs, hz, hzs⟩ := bindL_mem h hs
        have done : (s.ex = .normal ∨ s.ex = .ret) → LeavesInM (fence none) n P fn a'.tmps (fun e w' => ∃ v, e = .returned v ∧ ∃ x ∈ outs, ∃ ι', conc ι' x.1 = some v ∧ Step P ι A w ι' x.2 w') a'.defers .returning w1 := fun hx => by
          have hz' : (match unwindA s.d s.A with | none => none | some A' => match resultsA P fn s.m A' with | some v => some [(v, A')] | none => none) = some zs := by
            rcases hx with hx | hx <;> (rw [hx] at hz; exact hz)
          split at hz'
          · cases hz'
          · rename_i A' hun
            split at hz'
            · rename_i v hv
              cases hz'
              exact leaves_ok n ht1 hst.rel hd1 hun hv fun u w' hcv hs2 => ⟨u, rfl, _, hzs _ (List.mem_singleton.2 rfl), ι1, hcv, hst.trans hs2⟩
            · cases hz'
        cases hx : s.ex with
        | normal => rw [hx] at he; cases e <;> first | exact he.elim | exact done (.inl hx)
        | ret => rw [hx] at he; cases e <;> first | exact he.elim | exact done (.inr hx)
        | exit id => rw [hx] at hz; cases hz

/-- THE EVALUATOR. -/
theorem recN_ok {cfg : Cfg} (hcfg : CfgOk P cfg) (hdr : ∀ r, RecOk P r → DrawnOk P cfg r) : ∀ N, RecOk P (recN P cfg N)
  | 0 => ⟨fun {_ _ _ _} h => (by cases h), fun {_ _ _ _ _ _ _} h => (by cases h), fun {_ _ _ _} h => (by cases h), fun {_ _ _ _ _ _ _} h => (by cases h)⟩
  | N + 1 => by
    have ih := recN_ok hcfg hdr N
    have hcode : ∀ {fn : FuncId} {rd : Option Nat} {c : Code} {m : TM} {d : List ADef} {A : AH} {outs : List St}, (recN P cfg (N + 1)).code fn rd c m d A = some outs → codeStep P cfg (recN P cfg N) fn rd c m d A = some outs := fun h => h
    have hcall : ∀ {f : FuncId} {args : List AV} {A : AH} {outs : List (AV × AH)}, (recN P cfg (N + 1)).call f args A = some outs → callStep P cfg (recN P cfg N) f args A = some outs := fun h => h
    refine ⟨fun {f args A outs} h => ?_, fun {fn rd c m d A outs} h n {ι w a rb} h1 h2 h3 h4 h5 => (code_ok hcfg ih (hdr _ ih) (hcode h) n h1 h2 h3 h4 h5).2 _ rfl, fun {f args A outs} h n {ι w us} h1 h2 h3 => call_ok ih (hcall h) n h1 h2 h3, fun {fn rd c m d A outs} h n {ι w a rb} h1 h2 h3 h4 h5 => (code_ok hcfg ih (hdr _ ih) (hcode h) n h1 h2 h3 h4 h5).1⟩
    have h : callStep P cfg (recN P cfg N) f args A = some outs := h
    unfold callStep at h
    split at h
    · cases h
    · rename_i fn hfn
      split at h
      · cases h
      · rename_i c hb; exact ⟨fn, c, hfn, hb⟩

end
end Go.Eng
