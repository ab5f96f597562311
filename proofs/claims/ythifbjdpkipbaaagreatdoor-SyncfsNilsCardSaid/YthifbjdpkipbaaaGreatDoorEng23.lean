/- THE ENGINE: code. -/
import Derived.Test.YthifbjdpkipbaaaGreatDoorEng22
set_option linter.all false
namespace Go.Eng

section
variable {P : Program}

/-- what is wanted of a region whose order is drawn -/
def DrawnOk (P : Program) (cfg : Cfg) (r : Rec) : Prop :=
  ∀ (id : Nat) (ops : Array Oper) (m : TM) (A : AH) (m' : TM) (A' : AH), doDrawn P cfg r ops m A = some (m', A') → ∀ (n : Nat) (ι : Img) (w : World) (a : Act) (rb : Option Nat) (Q : Exit → Act → World → Prop), Rel P ι A w → Fresh ι A → TMok ι m a.tmps →
    (∀ ι' a' w', Step P ι A w ι' A' w' → TMok ι' m' a'.tmps → a'.defers = a.defers → Q .normal a' w') → (Code.region id ops true).wpIn (fence rb) n P Q a w

theorem Came.pre {ι ι1 : Img} {A A1 : AH} {w w1 : World} {outs zs : List St} (hs : Step P ι A w ι1 A1 w1) (hz : ∀ z ∈ zs, z ∈ outs) {e : Exit} {a' : Act} {w' : World} (h : Came P ι1 A1 w1 zs e a' w') : Came P ι A w outs e a' w' :=
  let ⟨s, h1, ι2, h2, h3⟩ := h; ⟨s, hz s h1, ι2, hs.trans h2, h3⟩

theorem exOk_normal {x : AExit} {e : Exit} (h : exOk x e) (hx : x = .normal) : e = .normal := by
  subst hx; cases e <;> first | rfl | exact h.elim

set_option maxHeartbeats 1000000 in
theorem range_enter {ι : Img} {A : AH} {w : World} (hrel : Rel P ι A w) (hf : Fresh ι A) {fn fn' : FuncId} {ps : Array Tmp} {asg body : Code} {m : TM} {a : Act} (ht : TMok ι m a.tmps) :
    ∃ (w1 : World) (ι2 : Img) (b1 b2 : Nat), (Instr.enterLoop fn' a.tmps ps asg body none).run P w = .ok (b2, [{ target := .collected b1, args := #[] }]) w1 ∧
      Step P ι A w ι2 ((A.new (.deferred false)).new (.loop ⟨.ready, none, fn, m, ps, asg, body, A.next⟩)) w1 ∧ (∃ loc, ι2 A.next = some loc ∧ loc.block = b1) ∧ ∃ loc, ι2 (A.next + 1) = some loc ∧ loc.block = b2 := by
  have hn := hf A.next (Nat.le_refl _)
  obtain ⟨w1, hw1⟩ : ∃ w1 : World, w1 = { w with heap := w.heap.push (.deferred (some [])) } := ⟨_, rfl⟩
  have s1 : Step P ι A w (Img.set ι A.next ⟨w.heap.size, 0, 0⟩) (A.new (.deferred false)) w1 :=
    Step.alloc hrel (by rw [hw1]; rfl) hn rfl (show EntOk P _ _ _ _ from by simp only [EntOk, hw1]; exact Array.getElem?_push_size) trivial
  obtain ⟨ι1, hι1⟩ : ∃ ι1, ι1 = Img.set ι A.next ⟨w.heap.size, 0, 0⟩ := ⟨_, rfl⟩
  rw [← hι1] at s1
  have hn1 := s1.fresh hf (A.next + 1) (by simp [AH.new])
  obtain ⟨w2, hw2⟩ : ∃ w2 : World, w2 = { w1 with heap := w1.heap.push (.loop { state := .ready, pending := none, fn := fn', tmps := a.tmps, params := ps, assign := asg, body, defers := w.heap.size }) } := ⟨_, rfl⟩
  have hx1 := Img.set_ext ⟨w1.heap.size, 0, 0⟩ hn1
  have s2 : Step P ι1 (A.new (.deferred false)) w1 (Img.set ι1 (A.next + 1) ⟨w1.heap.size, 0, 0⟩) ((A.new (.deferred false)).new (.loop ⟨.ready, none, fn, m, ps, asg, body, A.next⟩)) w2 :=
    Step.alloc s1.rel (by rw [hw2]; rfl) hn1 rfl ⟨fn', a.tmps, w.heap.size, by rw [hw2]; exact Array.getElem?_push_size, (ht.mono s1.ext).mono hx1⟩ trivial
  refine ⟨w2, Img.set ι1 (A.next + 1) ⟨w1.heap.size, 0, 0⟩, w.heap.size, w1.heap.size, ?_, s1.trans s2, ⟨⟨w.heap.size, 0, 0⟩, hx1 _ _ (by rw [hι1, Img.set_same]), rfl⟩, ⟨_, Img.set_same _ _ _, rfl⟩⟩
  simp [Instr.enterLoop, newObj, Sem.run, hw2, hw1]
  rfl

set_option maxHeartbeats 2000000 in
theorem code_ok {cfg : Cfg} (hcfg : CfgOk P cfg) {r : Rec} (hr : RecOk P r) (hdr : DrawnOk P cfg r) {fn : FuncId} {rd : Option Nat} {c : Code} {m : TM} {d : List ADef} {A : AH} {outs : List St} (h : codeStep P cfg r fn rd c m d A = some outs) (n : Nat) {ι : Img} {w : World} {a : Act} {rb : Option Nat}
    (hrd : RdOk ι rd rb) (hrel : Rel P ι A w) (hf : Fresh ι A) (ht : TMok ι m a.tmps) (hd : DefOk ι d a.defers) :
    c.wpIn (fence rb) n P (Came P ι A w outs) a w ∧ ∀ b, c = .loop b → LoopWp (fence rb) n P b (Came P ι A w outs) a w := by
  have here : ∀ {x : AExit} {e : Exit}, outs = [⟨x, m, d, A⟩] → exOk x e → Came P ι A w outs e a w := fun e1 e2 => by
    subst e1; exact ⟨_, List.mem_singleton.2 rfl, ι, Step.refl hrel, ht, hd, e2⟩
  cases c
  case skip => cases h; exact ⟨wpIn_skip (here rfl trivial), fun b e => by cases e⟩
  case label l => cases h; exact ⟨wpIn_label (here rfl trivial), fun b e => by cases e⟩
  case exit id => cases h; exact ⟨wpIn_exit (here rfl rfl), fun b e => by cases e⟩
  case ret => cases h; exact ⟨wpIn_ret (here rfl trivial), fun b e => by cases e⟩
  case region id ops draw =>
    refine ⟨?_, fun b e => by cases e⟩
    cases draw with
    | false =>
      simp only [codeStep] at h
      split at h
      · cases h
      · rename_i os hos
        cases h
        refine wpIn_region ?_
        have := doOps_ok hcfg hr (rb := rb) n (Q := Came P ι A w (os.map fun x => ⟨.normal, x.1, d, x.2⟩)) ops.toList 0 (fun j => by simp) hos hrel hf ht (fun y hy ι' a' w' hs ht' hdd =>
          ⟨_, List.mem_map.2 ⟨y, hy, rfl⟩, ι', hs, ht', by rw [hdd]; exact hd.mono hs.ext, trivial⟩)
        rw [List.range_eq_range']
        simpa using this
    | true =>
      simp only [codeStep] at h
      split at h
      · cases h
      · rename_i m' A' hdo
        cases h
        exact hdr id ops m A m' A' hdo n ι w a rb _ hrel hf ht (fun ι' a' w' hs ht' hdd => ⟨_, List.mem_singleton.2 rfl, ι', hs, ht', by rw [hdd]; exact hd.mono hs.ext, trivial⟩)
  case seq x y =>
    refine ⟨?_, fun b e => by cases e⟩
    simp only [codeStep] at h
    split at h
    · cases h
    · rename_i os hos
      refine wpIn_seq (wpIn_mono (hr.code hos n hrd hrel hf ht hd) fun e a1 w1 ⟨s, hs, ι1, hst, ht1, hd1, he⟩ => ?_)
      obtain ⟨zs, hz, hzs⟩ := bindL_mem h hs
      unfold andThen at hz
      split at hz
      · rename_i hex
        obtain rfl := exOk_normal he hex
        exact wpIn_mono (hr.code hz n (hrd.mono hst.ext) hst.rel (hst.fresh hf) ht1 hd1) fun e a' w' hc => hc.pre hst hzs
      · rename_i hex
        cases hz
        have : Came P ι A w outs e a1 w1 := ⟨s, hzs _ (List.mem_singleton.2 rfl), ι1, hst, ht1, hd1, he⟩
        cases e <;> first | exact this | (exfalso; cases hx : s.ex <;> simp_all [exOk])
  case cond x p q =>
    refine ⟨?_, fun b e => by cases e⟩
    simp only [codeStep] at h
    split at h
    · rename_i hx
      have hc := ρ_ok hrel.glob ht hx
      simp only [conc, Option.some.injEq] at hc
      exact wpIn_cond_true hc.symm (hr.code h n hrd hrel hf ht hd)
    · rename_i hx
      have hc := ρ_ok hrel.glob ht hx
      simp only [conc, Option.some.injEq] at hc
      exact wpIn_cond_false hc.symm (hr.code h n hrd hrel hf ht hd)
    · cases h
  case block id b =>
    refine ⟨?_, fun b e => by cases e⟩
    simp only [codeStep] at h
    split at h
    · cases h
    · rename_i os hos
      cases h
      refine wpIn_block (wpIn_mono (hr.code hos n hrd hrel hf ht hd) fun e a1 w1 ⟨s, hs, ι1, hst, ht1, hd1, he⟩ => ?_)
      have mem : ∀ t, t = (match s.ex with | .exit i => if i = id then ⟨.normal, s.m, s.d, s.A⟩ else s | _ => s : St) → t ∈ os.map fun s => (match s.ex with | .exit i => if i = id then ⟨.normal, s.m, s.d, s.A⟩ else s | _ => s : St) := fun t e => by
        subst e; exact List.mem_map.2 ⟨s, hs, rfl⟩
      cases e
      case exit j he =>
        cases hx : s.ex <;> rw [hx] at he
        case exit i =>
          obtain rfl : i = j := he
          by_cases hid : i = id
          · simp only [Exit.inBlock, if_pos hid]
            exact ⟨_, mem ⟨.normal, s.m, s.d, s.A⟩ (by simp only [hx, if_pos hid]), ι1, hst, ht1, hd1, trivial⟩
          · simp only [Exit.inBlock, if_neg hid]
            exact ⟨_, mem s (by simp only [hx, if_neg hid]), ι1, hst, ht1, hd1, by rw [hx]; rfl⟩
        all_goals exact he.elim
      all_goals
        cases hx : s.ex <;> rw [hx] at he <;> first | exact he.elim | exact ⟨_, mem s (by simp only [hx]), ι1, hst, ht1, hd1, by rw [hx]; trivial⟩
  case loop b =>
    have key : LoopWp (fence rb) n P b (Came P ι A w outs) a w := by
      simp only [codeStep] at h
      split at h
      · cases h
      · rename_i os hos
        refine loopWp_of (wpIn_mono (hr.code hos n hrd hrel hf ht hd) fun e a1 w1 ⟨s, hs, ι1, hst, ht1, hd1, he⟩ => ?_)
        obtain ⟨zs, hz, hzs⟩ := bindL_mem h hs
        unfold andThen at hz
        split at hz
        · rename_i hex
          obtain rfl := exOk_normal he hex
          exact LoopWp.mono (hr.loop hz n (hrd.mono hst.ext) hst.rel (hst.fresh hf) ht1 hd1) fun e a' w' hc => hc.pre hst hzs
        · rename_i hex
          cases hz
          have : Came P ι A w outs e a1 w1 := ⟨s, hzs _ (List.mem_singleton.2 rfl), ι1, hst, ht1, hd1, he⟩
          cases e <;> first | exact this | (exfalso; cases hx : s.ex <;> simp_all [exOk])
    exact ⟨wpIn_loop_of key, fun b' e => by cases e; exact key⟩
  case rangeFunc f ps asg body =>
    refine ⟨?_, fun b e => by cases e⟩
    simp only [codeStep] at h
    split at h
    · rename_i g first captured hg
      cases rb with
      | some b => exact hrd.elim
      | none =>
        split at h
        · cases h
        · rename_i os hos
          refine wpIn_rangeFunc fun fn' _ => ?_
          obtain ⟨w1, ι2, b1, b2, hrun, hst, ⟨loc1, hl1, rfl⟩, loc2, hl2, rfl⟩ := range_enter (P := P) (fn := fn) (fn' := fn') (ps := ps) (asg := asg) (body := body) hrel hf ht
          have hcg := ρ_ok hrel.glob ht hg
          simp only [conc] at hcg
          split at hcg
          · rename_i fi ca hfi hca
            simp only [Option.some.injEq] at hcg
            have hargs : concs ι2 (first ++ [.yield (A.new (.deferred false)).next] ++ captured) = some (fi ++ [.func (.yield loc2.block) #[] #[]] ++ ca) :=
              concs_append (concs_append (concs_mono hst.ext _ _ hfi) (by simp [concs, conc, AH.new, hl2])) (concs_mono hst.ext _ _ hca)
            obtain ⟨fnd, c, hfn, hbody⟩ := hr.body hos
            have hname := hcfg.name g fnd hfn
            have h1 : fnd.name ≠ "runtime.NumGoroutine" := by simpa using hname
            refine ⟨loc2.block, _, w1, { target := .fn (.func g) ⟨ca⟩, args := ⟨fi⟩ ++ #[.func (.yield loc2.block) #[] #[]] }, w1, g, ⟨fi⟩ ++ #[.func (.yield loc2.block) #[] #[]] ++ ⟨ca⟩, w1, hrun, ?_, fun _ _ => trivial, ?_, fun hd => by simp [fence] at hd, ?_⟩
            · have hres : resolve a.eval (rangeCall f loc2.block) 0 = Deferred.ofValue (a.eval f) #[.func (.yield loc2.block) #[] #[]] := by
                simp [resolve, rangeCall]
                rfl
              rw [hres, ← hcg]
              rfl
            · simp [invoke, callFunc, hfn, h1, hbody]
            · have hcall := hr.call hos (n - 1) hst.rel (hst.fresh hf) hargs
              have harr : (⟨fi ++ [.func (.yield loc2.block) #[] #[]] ++ ca⟩ : Array Value) = ⟨fi⟩ ++ #[.func (.yield loc2.block) #[] #[]] ++ ⟨ca⟩ := by apply Array.toList_inj.1; simp
              rw [harr] at hcall
              refine hcall.mono fun e w2 ⟨v, he, x, hx, ι3, hcv, hst3⟩ => ?_
              subst he
              obtain ⟨zs, hz, hzs⟩ := bindL_mem h hx
              split at hz
              · rename_i L hlook
                have hl2' : ι3 (A.next + 1) = some loc2 := hst3.ext _ _ hl2
                obtain ⟨rec, hg2, hrs, hrp, hset⟩ := loop_at hst3.rel hlook hl2'
                have hdef : DefOk ι3 (.coll A.next :: d) ({ target := .collected loc1.block, args := #[] } :: a.defers) := ⟨⟨loc1, hst3.ext _ _ hl1, rfl⟩, hd.mono (hst.ext.trans hst3.ext)⟩
                split at hz
                · cases hz
                · rename_i hnb
                  obtain ⟨w3, hs3, hst4⟩ := hset .exhausted L.pending
                  have hnb' : ¬ (rec.state == .busy) = true := by
                    rw [hrs]
                    intro e
                    cases hLs : L.state <;> rw [hLs] at e <;> first | exact hnb hLs | (exact absurd e (by decide))
                  have hend : (Instr.endLoop loc2.block).run P w2 = .ok L.pending w3 := by
                    simp only [Instr.endLoop, Instr.getLoop, Sem.run_bind, hg2, Result.andThen_ok, Sem.run_pure, if_neg hnb', hs3, hrp]
                  refine ⟨L.pending, w3, hend, ?_⟩
                  have hst' := hst.trans (hst3.trans hst4)
                  have came : ∀ (x0 : AExit) (e0 : Exit) (St0 : St), zs = [St0] → St0.ex = x0 → St0.m = m → St0.d = .coll A.next :: d → St0.A = x.2.put (A.next + 1) (.loop { L with state := .exhausted }) → exOk x0 e0 → Came P ι A w outs e0 { a with defers := [{ target := .collected loc1.block, args := #[] }] ++ a.defers } w3 := fun x0 e0 St0 e1 e2 e3 e4 e5 e6 => by
                    subst e1
                    exact ⟨St0, hzs _ (List.mem_singleton.2 rfl), ι3, by rw [e5]; exact hst', by rw [e3]; exact ht.mono hst'.ext, by rw [e4]; exact hdef, by rw [e2]; exact e6⟩
                  cases hpd : L.pending with
                  | none => rw [hpd] at hz; cases hz; exact came .normal .normal _ rfl rfl rfl rfl (by rw [hpd]; rfl) trivial
                  | some c' =>
                    rw [hpd] at hz
                    cases c' <;> simp only [reduceCtorEq, Option.some.injEq] at hz
                    case exit id => exact wpIn_exit (came (.exit id) (.exit id) _ hz.symm rfl rfl rfl (by rw [hpd]; rfl) rfl)
                    case ret => exact wpIn_ret (came .ret .ret _ hz.symm rfl rfl rfl (by rw [hpd]; rfl) trivial)
              · cases hz
          · cases hcg
    · cases h
  all_goals cases h

end
end Go.Eng
