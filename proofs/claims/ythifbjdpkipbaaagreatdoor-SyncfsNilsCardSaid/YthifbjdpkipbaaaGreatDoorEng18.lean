/- THE ENGINE: every operation of the acting class. -/
import Derived.Test.YthifbjdpkipbaaaGreatDoorEng17
set_option linter.all false
namespace Go.Eng

section
variable {P : Program}

theorem args_arr (a : Act) (l : Array Operand) : l.map a.eval = ⟨l.toList.map a.eval⟩ := by
  apply Array.toList_inj.1; simp

set_option maxHeartbeats 2000000 in
/-- EVERY OPERATION OF THE ACTING CLASS. -/
theorem acts_ok {cfg : Cfg} (hcfg : CfgOk P cfg) {A : AH} {m : TM} {o : Oper} {L : List (AR × AH)} (h : aop P cfg A m o = some L) (hc : opClass P o.op = .acts) {ι : Img} {w : World} {a : Act} (hr : Rel P ι A w) (ht : TMok ι m a.tmps)
    (hn : ∀ x ∈ L, A.next < x.2.next → ι A.next = none) :
    ∃ x ∈ L, ∃ (n : Next) (w' : World) (ι' : Img), (execOp a.eval o).run P w = .ok n w' ∧ ARok ι' x.1 n ∧ Step P ι A w ι' x.2 w' := by
  have fin : ∀ {s : Sem Value} {w w' : World} {u : Value}, s.run P w = .ok u w' → (do pure (.value (← s)) : Sem Next).run P w = .ok (.value u) w' := fun h => by simp [h]
  have finu : ∀ {s : Sem Unit} {w w' : World}, s.run P w = .ok () w' → (do s; pure .skip : Sem Next).run P w = .ok .skip w' := fun h => by simp [h]
  obtain ⟨dst, op, ty, pos, after, guard⟩ := o
  cases op
  case store t x y =>
    simp only [aop] at h
    split at h
    · rename_i f o' v hx hy
      obtain ⟨A', hs, rfl⟩ := skipO_some h
      obtain ⟨w', hrun, hstep, _⟩ := store_ok hr hs (ρ_ok hr.glob ht hx) (ρ_ok hr.glob ht hy)
      exact ⟨_, List.mem_singleton.2 rfl, .skip, w', ι, finu hrun, trivial, hstep⟩
    · cases h
  case mapUpdate t x k v =>
    simp only [aop] at h
    split at h
    · rename_i vx vk vv hx hk hv
      obtain ⟨A', hs, rfl⟩ := skipO_some h
      obtain ⟨w', hrun, hstep, _⟩ := mapUpdate_ok hr hs (ρ_ok hr.glob ht hx) (ρ_ok hr.glob ht hk) (ρ_ok hr.glob ht hv)
      exact ⟨_, List.mem_singleton.2 rfl, .skip, w', ι, finu hrun, trivial, hstep⟩
    · cases h
  case insert t x k v =>
    simp only [aop] at h
    split at h
    · rename_i vx vk vv hx hk hv
      obtain ⟨A', hs, rfl⟩ := skipO_some h
      obtain ⟨w', hrun, hstep, _⟩ := mapUpdate_ok hr hs (ρ_ok hr.glob ht hx) (ρ_ok hr.glob ht hk) (ρ_ok hr.glob ht hv)
      exact ⟨_, List.mem_singleton.2 rfl, .skip, w', ι, finu hrun, trivial, hstep⟩
    · cases h
  case mapEntry t x k =>
    simp only [aop] at h
    split at h
    · rename_i vx vk hx hk
      obtain ⟨v, A', hs, rfl⟩ := oneA_some h
      obtain ⟨u, w', hrun, hcv, hstep, _⟩ := mapEntry_ok hr hs (ρ_ok hr.glob ht hx) (ρ_ok hr.glob ht hk)
      exact ⟨_, List.mem_singleton.2 rfl, .value u, w', ι, fin hrun, hcv, hstep⟩
    · cases h
  case entryStore t x s v =>
    simp only [aop] at h
    split at h
    · rename_i vx vk vv hx hk hv
      obtain ⟨A', hs, rfl⟩ := skipO_some h
      obtain ⟨w', hrun, hstep, _⟩ := entryStore_ok (t := t) hr hs (ρ_ok hr.glob ht hx) (ρ_ok hr.glob ht hk) (ρ_ok hr.glob ht hv)
      exact ⟨_, List.mem_singleton.2 rfl, .skip, w', ι, finu hrun, trivial, hstep⟩
    · cases h
  case range t x =>
    simp only [aop] at h
    split at h
    · rename_i vx hx
      obtain ⟨v, A', hs, rfl⟩ := oneA_some h
      have hnx : A'.next = A.next + 1 := by
        unfold arange at hs
        split at hs
        · cases hs; rfl
        · cases hs; rfl
        · split at hs
          · cases hs; rfl
          · cases hs
        · cases hs
      obtain ⟨u, w', ι', hrun, hcv, hstep, _⟩ := range_ok hr hs (ρ_ok hr.glob ht hx) (hn _ (List.mem_singleton.2 rfl) (by simp [hnx]))
      exact ⟨_, List.mem_singleton.2 rfl, .value u, w', ι', fin hrun, hcv, hstep⟩
    · cases h
  case next it isStr =>
    simp only [aop] at h
    split at h
    · rename_i vx hx
      obtain ⟨x, hxL, v, u, w', hxv, hrun, hcv, hstep, _⟩ := next_ok hr ty h (ρ_ok hr.glob ht hx)
      exact ⟨x, hxL, .value u, w', ι, fin hrun, by rw [hxv]; exact hcv, hstep⟩
    · cases h
  case convert s d x =>
    simp only [aop] at h
    split at h
    · rename_i vx hx
      obtain ⟨v, A', hs, rfl⟩ := oneA_some h
      simp only [opClass] at hc
      split at hc
      · rename_i e1 e2 h1 h2
        obtain ⟨r, w', hrun, hcv, hstep⟩ := mark_ok hr h1 h2 hs (ρ_ok hr.glob ht hx)
        exact ⟨_, List.mem_singleton.2 rfl, .value r, w', ι, fin hrun, hcv, hstep⟩
      all_goals cases hc
    · cases h
  case call c =>
    obtain ⟨callee, cargs, cts⟩ := c
    cases callee
    case invoke r mt => simp [aop, acall] at h
    case builtin b =>
      simp only [aop, acall] at h
      split at h
      · rename_i args hargs
        have hb : b ≠ .len := fun e => by subst e; simp [opClass] at hc
        have hb2 : idle b = false := by
          cases b <;> first | rfl | (simp [opClass, idle] at hc)
        obtain ⟨x, hxL, n, w', ι', hrun, hok, hstep⟩ := builtin_ok (ty := ty) hr h hb hb2 (ρs_ok hr.glob ht hargs) hn
        refine ⟨x, hxL, n, w', ι', ?_, hok, hstep⟩
        rw [call_builtin_eq, args_arr]
        exact hrun _
      · cases h
    case value f =>
      simp only [aop, acall] at h
      split at h
      · rename_i g first captured args hf hargs
        have hcf := ρ_ok hr.glob ht hf
        have hca := ρs_ok hr.glob ht hargs
        simp only [conc] at hcf
        split at hcf
        · rename_i fi ca hfi hcap
          simp only [Option.some.injEq] at hcf
          have hall := concs_append (concs_append hfi hca) hcap
          have hex : execOp a.eval ⟨dst, .call ⟨.value f, cargs, cts⟩, ty, pos, after, guard⟩ = callFunc g ⟨fi ++ cargs.toList.map a.eval ++ ca⟩ := by
            simp only [execOp, resolve, ← hcf, Deferred.ofValue, pure_bind, invoke]
            rw [args_arr]
            congr 1
            apply Array.toList_inj.1
            simp
          rw [hex]
          unfold acallF at h
          split at h
          · cases h
          · rename_i fn hfn
            split at h
            · rename_i c hbody
              cases h
              have hname := hcfg.name g fn hfn
              refine ⟨_, List.mem_singleton.2 rfl, .enter g _, w, ι, ?_, ⟨rfl, hall⟩, Step.refl hr⟩
              have h1 : fn.name ≠ "runtime.NumGoroutine" := by simpa using hname
              simp [callFunc, hfn, h1, hbody]
            · rename_i hbody
              split at h
              · rename_i e he
                obtain ⟨x, hx1, hx2, hx3⟩ := hcfg.ext g e fn he hfn
                obtain ⟨y, hyL, u, w', ι', hrun, hok, hstep⟩ := ext_ok hr hx3 h hall hn
                refine ⟨y, hyL, .value u, w', ι', ?_, hok, hstep⟩
                rw [run_callFunc_extern hfn (hcfg.name g fn hfn) (by simp [hbody]) hx1 hx2, hrun]
                rfl
              · cases h
        · cases hcf
      · rename_i l args hf hargs
        have hcf := ρ_ok hr.glob ht hf
        have hca := ρs_ok hr.glob ht hargs
        split at h
        · rename_i lp hlook
          split at h
          · cases h
          rename_i hlen
          split at h
          · rename_i m1 hm1
            cases h
            simp only [conc] at hcf
            split at hcf
            · rename_i loc hloc
              simp only [Option.some.injEq] at hcf
              obtain ⟨loc', hloc', fn, tmps, df, hb, htm⟩ := hr.ent l _ hlook
              rw [hloc] at hloc'; cases hloc'
              have hgo := run_getObj_some (P := P) rfl hb
              have hsz : ¬ (cargs.map a.eval).size ≠ lp.params.size := by
                have := concs_length hca
                simp only [List.length_map, Array.length_toList] at this
                simp; omega
              have hlay := layParams_ok hm1 hca htm
              refine ⟨_, List.mem_singleton.2 rfl, .round loc.block fn ((lp.params.zip (cargs.map a.eval)).foldl (fun tmps (t, a) => tmps.setIfInBounds t a) tmps) lp.assign lp.body, w, ι, ?_, ⟨⟨loc, hloc, rfl⟩, rfl, rfl, ?_⟩, Step.refl hr⟩
              · simp only [execOp, resolve, ← hcf, Deferred.ofValue, pure_bind, invoke, Instr.yield, Instr.getLoop, Array.empty_append, Sem.run_bind, hgo, Result.andThen_ok, Sem.run_pure, if_neg hsz]
              · rw [← Array.foldl_toList, Array.toList_zip, Array.toList_map]
                exact hlay
            · cases hcf
          · cases h
        · cases h
      · cases h
  case binOp op _ _ _ _ => cases op <;> simp [opClass] at hc
  all_goals (first | (simp [opClass] at hc; done) | (simp [aop] at h; done) | skip)

end
end Go.Eng
