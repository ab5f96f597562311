/- THE ENGINE: every operation of the free class, in one. -/
import Derived.Test.YthifbjdpkipbaaaGreatDoorEng7
set_option linter.all false
namespace Go.Eng

section
variable {P : Program}

theorem optInt_ok {ι : Img} {m : TM} {a : Act} (hg : GlobOk ι) (h : TMok ι m a.tmps) {x : Option Operand} {r : Option Int}
    (hx : (match x with | none => some none | some o => aop.optInt' m o : Option (Option Int)) = some r) : optOk r (x.map a.eval) := by
  cases x with
  | none => simp at hx; subst hx; trivial
  | some o =>
    simp only [aop.optInt'] at hx
    split at hx
    · rename_i k n hk
      cases hx
      have := ρ_ok hg h hk
      exact ⟨k, by simpa [conc] using this.symm⟩
    · cases hx

theorem optInt_some {m : TM} {x : Option Operand} {r : Option Int} (hx : (match x with | none => some none | some o => aop.optInt' m o : Option (Option Int)) = some r) : r.isSome = x.isSome := by
  cases x with
  | none => simp at hx; subst hx; rfl
  | some o =>
    simp only [aop.optInt'] at hx
    split at hx
    · cases hx; rfl
    · cases hx

theorem oneO_some {v : Option AV} {A : AH} {L : List (AR × AH)} (h : oneO v A = some L) : ∃ x, v = some x ∧ L = [(.val x, A)] := by
  cases v with
  | none => simp [oneO] at h
  | some x => simp [oneO] at h; exact ⟨x, rfl, h.symm⟩

theorem oneA_some {v : Option (AV × AH)} {L : List (AR × AH)} (h : oneA v = some L) : ∃ x A, v = some (x, A) ∧ L = [(.val x, A)] := by
  cases v with
  | none => simp [oneA] at h
  | some x => simp [oneA] at h; exact ⟨x.1, x.2, rfl, h.symm⟩

set_option maxHeartbeats 1000000 in
/-- EVERY OPERATION OF THE FREE CLASS. -/
theorem free_ok {cfg : Cfg} {A : AH} {m : TM} {o : Oper} {L : List (AR × AH)} (h : aop P cfg A m o = some L) (hc : opClass P o.op = .free) :
    ∃ v eff, L = [(.val v, Eff.app A eff)] ∧ ∀ (ι : Img) (w : World) (a : Act), GlobOk ι → TMok ι m a.tmps → (eff ≠ .none → ι A.next = none) → FreeRun P A ι w (execOp a.eval o) v eff := by
  obtain ⟨dst, op, ty, pos, after, guard⟩ := o
  cases op
  case move x =>
    obtain ⟨v, hv, rfl⟩ := oneO_some h
    exact ⟨v, .none, rfl, fun ι w a hg ht _ => ⟨a.eval x, w, rfl, rfl, ρ_ok hg ht hv⟩⟩
  case assign x =>
    obtain ⟨v, hv, rfl⟩ := oneO_some h
    exact ⟨v, .none, rfl, fun ι w a hg ht _ => ⟨a.eval x, w, rfl, rfl, ρ_ok hg ht hv⟩⟩
  case pick c x y =>
    simp only [aop] at h
    split at h
    · rename_i t ht'
      obtain ⟨v, hv, rfl⟩ := oneO_some h
      refine ⟨v, .none, rfl, fun ι w a hg ht _ => ⟨a.eval (if t then x else y), w, ?_, rfl, ρ_ok hg ht hv⟩⟩
      have := ρ_ok hg ht ht'
      simp only [conc] at this
      simp only [Option.some.injEq] at this
      simp only [execOp, ← this, asBool]
      cases t <;> simp
    · cases h
  case alloc t =>
    simp only [aop] at h
    split at h
    · rename_i z hz
      cases h
      refine ⟨_, .new _, rfl, fun ι w a hg ht hn => ?_⟩
      obtain ⟨u, hzc, hzr⟩ := zeroOf_conc (P := P) ι hz w
      have := free_box (P := P) (w := w) (t := t) hzc (hn nofun)
      simp only [FreeRun] at this ⊢
      obtain ⟨u', w', l, o', h1, rest⟩ := this
      refine ⟨u', w', l, o', ?_, rest⟩
      rw [← h1]
      simp [execOp, Instr.alloc, hzr, Instr.box]
    · cases h
  case box t x =>
    simp only [aop] at h
    split at h
    · rename_i v hv
      cases h
      exact ⟨_, .new _, rfl, fun ι w a hg ht hn => free_box (ρ_ok hg ht hv) (hn nofun)⟩
    · cases h
  case build t ps =>
    simp only [aop] at h
    split at h
    · rename_i ps' hps
      obtain ⟨v, hv, rfl⟩ := oneO_some h
      exact ⟨v, .none, rfl, fun ι w a hg ht _ => free_build (partsA_ok hg ht hps) hv⟩
    · cases h
  case buildSlice t n ps =>
    simp only [aop] at h
    split at h
    · rename_i ps' hps
      obtain ⟨v, A', hv, rfl⟩ := oneA_some h
      obtain ⟨eff, rfl, hrun⟩ := free_buildSlice hv
      exact ⟨v, eff, rfl, fun ι w a hg ht hn => hrun ι w _ (partsA_ok hg ht hps) hn⟩
    · cases h
  case nilCheck x =>
    simp only [aop] at h
    split at h
    · cases h
    · cases h
    · cases h
    · rename_i v hn1 hn2 hn3 hv
      cases h
      refine ⟨v, .none, rfl, fun ι w a hg ht _ => ⟨a.eval x, w, ?_, rfl, ρ_ok hg ht hv⟩⟩
      have hcv := ρ_ok hg ht hv
      simp only [execOp]
      generalize a.eval x = u at hcv
      cases v
      case nilptr => exact (hn1 rfl).elim
      case nilIface => exact (hn2 rfl).elim
      case nilFunc => exact (hn3 rfl).elim
      case slice f o' n' c => cases c <;> simp only [conc] at hcv <;> split at hcv <;> (try split at hcv) <;> cases hcv <;> rfl
      all_goals
        simp only [conc] at hcv
        first
          | (cases hcv; rfl)
          | (split at hcv <;> cases hcv; rfl)
    · cases h
  case binOp op t x y yt =>
    simp only [aop] at h
    split at h
    · rename_i va vb hva hvb
      obtain ⟨v, hv, rfl⟩ := oneO_some h
      refine ⟨v, .none, rfl, fun ι w a hg ht _ => ?_⟩
      have h1 : op ≠ .eql := by rintro rfl; simp [opClass] at hc
      have h2 : op ≠ .neq := by rintro rfl; simp [opClass] at hc
      obtain ⟨u, hu, hr⟩ := free_bin (P := P) h1 h2 hv ι w (ρ_ok hg ht hva) (ρ_ok hg ht hvb)
      exact free_val hr hu
    · cases h
  case unOp op t x =>
    simp only [aop] at h
    split at h
    · rename_i va hva
      obtain ⟨v, hv, rfl⟩ := oneO_some h
      exact ⟨v, .none, rfl, fun ι w a hg ht _ => free_un hv ι w (ρ_ok hg ht hva)⟩
    · cases h
  case convert s d x =>
    simp only [aop] at h
    split at h
    · rename_i va hva
      obtain ⟨v, A', hv, rfl⟩ := oneA_some h
      obtain ⟨eff, rfl, hrun⟩ := free_convert hv hc
      exact ⟨v, eff, rfl, fun ι w a hg ht hn => hrun ι w _ (ρ_ok hg ht hva) hn⟩
    · cases h
  case makeInterface t x =>
    simp only [aop] at h
    split at h
    · cases h
    · rename_i va d hni hva hd
      cases h
      exact ⟨_, .none, rfl, fun ι w a hg ht _ => free_makeInterface hd (fun ms e => hni ms e) ι w (ρ_ok hg ht hva)⟩
    · cases h
  case makeFunc fn first captured =>
    cases fn <;> simp only [aop] at h <;> try (cases h; done)
    split at h
    · rename_i va vb hva hvb
      cases h
      refine ⟨_, .none, rfl, fun ι w a hg ht _ => ⟨_, w, rfl, rfl, ?_⟩⟩
      have h1 := ρs_ok hg ht hva
      have h2 := ρs_ok hg ht hvb
      simp [conc, h1, h2]
      exact ⟨by rw [← Array.toList_map], by rw [← Array.toList_map]⟩
    · cases h
  case makeMap t r =>
    have key : ∀ (ι : Img) (w : World), ι A.next = none → FreeRun P A ι w (do pure (.value (.map (some (← newObj (.map #[] 0)))))) (.map A.next) (.new (.map [] 0)) := fun ι w hn =>
      ⟨.map (some w.heap.size), { w with heap := w.heap.push (.map #[] 0) }, ⟨w.heap.size, 0, 0⟩, .map #[] 0, by simp, rfl, rfl, ⟨#[], by simp, trivial⟩, trivial, by simp [conc, Img.set_same]⟩
    simp only [aop] at h
    split at h
    · cases h
      refine ⟨_, .new _, rfl, fun ι w a hg ht hn => ?_⟩
      have := key ι w (hn nofun)
      simp only [FreeRun] at this ⊢
      obtain ⟨u', w', l, o', h1, rest⟩ := this
      exact ⟨u', w', l, o', by rw [← h1]; simp [execOp, Instr.makeMap], rest⟩
    · rename_i hnt
      split at h
      · rename_i k n kt et hk hu
        cases h
        refine ⟨_, .new _, rfl, fun ι w a hg ht hn => ?_⟩
        have := key ι w (hn nofun)
        simp only [FreeRun] at this ⊢
        obtain ⟨u', w', l, o', h1, rest⟩ := this
        refine ⟨u', w', l, o', ?_, rest⟩
        rw [← h1]
        have hi := conc_int (ρ_ok hg ht hk)
        simp [execOp, Instr.makeMap, run_underlying hu, hi, asInt, asIntOf]
      · cases h
  case makeSlice t l c =>
    simp only [aop] at h
    split at h
    · rename_i va vb hva hvb
      obtain ⟨v, A', hv, rfl⟩ := oneA_some h
      obtain ⟨eff, rfl, hrun⟩ := free_makeSlice hv
      exact ⟨v, eff, rfl, fun ι w a hg ht hn => hrun ι w _ _ (ρ_ok hg ht hva) (ρ_ok hg ht hvb) hn⟩
    · cases h
  case slice t x lo hi mx =>
    simp only [aop] at h
    split at h
    · rename_i vx vlo vhi vmx hvx hlo hhi hmx
      split at h
      · cases h
      rename_i hmm
      obtain ⟨v, A', hv, rfl⟩ := oneA_some h
      have hmm' : vmx.isSome = true → vhi.isSome = true := by cases vmx <;> cases vhi <;> simp_all
      obtain ⟨eff, rfl, hrun⟩ := free_slice hv hmm'
      exact ⟨v, eff, rfl, fun ι w a hg ht hn => hrun ι w _ _ _ _ (ρ_ok hg ht hvx) (optInt_ok hg ht hlo) (optInt_ok hg ht hhi) (optInt_ok hg ht hmx) hn⟩
    · cases h
  case fieldAddr t x i =>
    simp only [aop] at h
    split at h
    · rename_i va hva
      obtain ⟨v, hv, rfl⟩ := oneO_some h
      exact ⟨v, .none, rfl, fun ι w a hg ht _ => free_fieldAddr hv ι w (ρ_ok hg ht hva)⟩
    · cases h
  case field t x i =>
    simp only [aop] at h
    split at h
    · rename_i va hva
      obtain ⟨v, hv, rfl⟩ := oneO_some h
      exact ⟨v, .none, rfl, fun ι w a hg ht _ => free_field hv ι w (ρ_ok hg ht hva)⟩
    · cases h
  case indexAddr t x i =>
    simp only [aop] at h
    split at h
    · rename_i va vb hva hvb
      obtain ⟨v, hv, rfl⟩ := oneO_some h
      exact ⟨v, .none, rfl, fun ι w a hg ht _ => free_indexAddr hv ι w (ρ_ok hg ht hva) (ρ_ok hg ht hvb)⟩
    · cases h
  case index t x i =>
    simp only [aop] at h
    split at h
    · rename_i va vb hva hvb
      obtain ⟨v, hv, rfl⟩ := oneO_some h
      exact ⟨v, .none, rfl, fun ι w a hg ht _ => free_index hv ι w (ρ_ok hg ht hva) (ρ_ok hg ht hvb)⟩
    · cases h
  case typeAssert x xt t ok =>
    simp only [aop] at h
    split at h
    · rename_i va hva
      obtain ⟨v, hv, rfl⟩ := oneO_some h
      exact ⟨v, .none, rfl, fun ι w a hg ht _ => free_typeAssert hv ι w (ρ_ok hg ht hva)⟩
    · cases h
  case extract x i =>
    simp only [aop] at h
    split at h
    · rename_i va hva
      obtain ⟨v, hv, rfl⟩ := oneO_some h
      exact ⟨v, .none, rfl, fun ι w a hg ht _ => free_extract hv ι w (ρ_ok hg ht hva)⟩
    · cases h
  case call c =>
    obtain ⟨callee, cargs, cts⟩ := c
    cases callee
    case value f => simp [opClass] at hc
    case invoke r mt => simp [opClass] at hc
    case builtin b =>
    simp only [aop, acall] at h
    split at h
    · rename_i args hargs
      have hb : b = .min ∨ b = .max ∨ b = .cap := by cases b <;> simp [opClass, idle] at hc <;> simp
      have hex : ∀ (a : Act), execOp a.eval ⟨dst, .call ⟨.builtin b, cargs, cts⟩, ty, pos, after, guard⟩ = builtin b cts ty (cargs.map fun | .const _ => true | _ => false) (cargs.map a.eval) := fun a => by
        simp only [execOp, resolve, pure_bind, invoke]
        rfl
      rcases hb with rfl | rfl | rfl
      · cases args with
        | nil => cases cts.toList <;> simp [abuiltin] at h
        | cons x rest =>
          simp only [abuiltin] at h
          obtain ⟨v, hv, rfl⟩ := oneO_some h
          refine ⟨v, .none, rfl, fun ι w a hg ht _ => ?_⟩
          have hc' := ρs_ok hg ht hargs
          cases hl : cargs.toList with
          | nil => rw [hl] at hargs; simp [ρs, mapO] at hargs
          | cons y ys =>
            rw [hl] at hc'
            simp only [List.map_cons, concs] at hc'
            split at hc'
            · rename_i u us hu hus
              cases hc'
              obtain ⟨r, hr, hrun⟩ := foldMin_ok (P := P) (w := w) false rest x v _ _ hv hu hus
              refine ⟨r, w, ?_, rfl, hr⟩
              rw [hex]
              simp only [Bool.false_eq_true, if_false] at hrun
              simp only [builtin, Builtin.min_, Array.toList_map, hl, List.map_cons, Sem.run_bind, hrun, Result.andThen_ok, Sem.run_pure]
            · cases hc'
      · cases args with
        | nil => cases cts.toList <;> simp [abuiltin] at h
        | cons x rest =>
          simp only [abuiltin] at h
          obtain ⟨v, hv, rfl⟩ := oneO_some h
          refine ⟨v, .none, rfl, fun ι w a hg ht _ => ?_⟩
          have hc' := ρs_ok hg ht hargs
          cases hl : cargs.toList with
          | nil => rw [hl] at hargs; simp [ρs, mapO] at hargs
          | cons y ys =>
            rw [hl] at hc'
            simp only [List.map_cons, concs] at hc'
            split at hc'
            · rename_i u us hu hus
              cases hc'
              obtain ⟨r, hr, hrun⟩ := foldMin_ok (P := P) (w := w) true rest x v _ _ hv hu hus
              refine ⟨r, w, ?_, rfl, hr⟩
              rw [hex]
              simp only [if_true] at hrun
              simp only [builtin, Builtin.max_, Array.toList_map, hl, List.map_cons, Sem.run_bind, hrun, Result.andThen_ok, Sem.run_pure]
            · cases hc'
      · cases hct : cts.toList with
        | nil => rw [hct] at h; simp [abuiltin] at h
        | cons t ts =>
          rw [hct] at h
          cases args with
          | nil => simp [abuiltin] at h
          | cons x rest =>
            cases rest with
            | cons y ys => simp [abuiltin] at h
            | nil =>
              simp only [abuiltin] at h
              have hcts : cts[0]? = some t := by rw [← Array.getElem?_toList, hct]; rfl
              obtain ⟨o1, ho1⟩ : ∃ o1, cargs.toList = [o1] := by
                have := (mapO_spec hargs).1
                match hl : cargs.toList, this with
                | [o1], _ => exact ⟨o1, rfl⟩
              have hca : ∀ a : Act, (cargs.map a.eval)[0]? = some (a.eval o1) := fun a => by
                rw [← Array.getElem?_toList, Array.toList_map, ho1]; rfl
              have hx : ρ m o1 = some x := by rw [ho1] at hargs; obtain ⟨y, ys, e, hy, _⟩ := mapO_cons hargs; cases e; exact hy
              split at h
              · rename_i e hu
                cases h
                refine ⟨_, .none, rfl, fun ι w a hg ht _ => ?_⟩
                have hcx := ρ_ok hg ht hx
                simp only [conc] at hcx
                simp only [Option.some.injEq] at hcx
                refine ⟨.int .i64 0, w, ?_, rfl, rfl⟩
                rw [hex]
                simp [builtin, Builtin.cap_, hcts, hca, run_underlying hu, ← hcx, goInt]
              · rename_i e f o n k hu
                cases h
                refine ⟨_, .none, rfl, fun ι w a hg ht _ => ?_⟩
                have hcx := ρ_ok hg ht hx
                simp only [conc] at hcx
                split at hcx
                · rename_i l hl
                  simp only [Option.some.injEq] at hcx
                  refine ⟨.int .i64 k, w, ?_, rfl, rfl⟩
                  rw [hex]
                  simp [builtin, Builtin.cap_, hcts, hca, run_underlying hu, ← hcx, goInt]
                · cases hcx
              · cases h
    · cases h
  all_goals (first | (simp [opClass] at hc; done) | (simp [aop] at h; done) | skip)

end
end Go.Eng
