/- THE ENGINE: an operation looks at its operands alone. -/
import Derived.Test.YthifbjdpkipbaaaGreatDoorEng18
set_option linter.all false
namespace Go.Eng

section
variable {P : Program}

theorem mapO_congr {α β : Type} {f g : α → Option β} : ∀ {l : List α}, (∀ x ∈ l, f x = g x) → mapO f l = mapO g l
  | [], _ => rfl
  | x :: l, h => by
    simp only [mapO, h x (by simp), mapO_congr (l := l) (fun y hy => h y (by simp [hy]))]

theorem ρs_congr {m m' : TM} {l : List Operand} (h : ∀ x ∈ l, ρ m x = ρ m' x) : ρs m l = ρs m' l := mapO_congr h

theorem partsA_congr {m m' : TM} {ps : Array (Nat × Operand)} (h : ∀ x ∈ ps.toList.map (·.2), ρ m x = ρ m' x) : partsA m ps = partsA m' ps := by
  refine mapO_congr fun x hx => ?_
  rw [h x.2 (List.mem_map.2 ⟨x, hx, rfl⟩)]

/-- AN OPERATION LOOKS AT ITS OPERANDS ALONE. -/
theorem aop_congr {cfg : Cfg} {A : AH} {m m' : TM} {o : Oper} (h : ∀ x ∈ o.op.operands, ρ m x = ρ m' x) : aop P cfg A m o = aop P cfg A m' o := by
  obtain ⟨dst, op, ty, pos, after, guard⟩ := o
  cases op
  case makeFunc fn first captured =>
    cases fn <;> try rfl
    simp only [aop]
    rw [ρs_congr (m := m) (m' := m') (l := first.toList) (fun x hx => h x (by simp only [Op.operands, Array.mem_append]; exact .inl (by simpa using hx))),
      ρs_congr (m := m) (m' := m') (l := captured.toList) (fun x hx => h x (by simp only [Op.operands, Array.mem_append]; exact .inr (by simpa using hx)))]
  case build t ps =>
    simp only [aop]
    rw [partsA_congr (m := m) (m' := m') (fun x hx => h x (by simpa [Op.operands] using hx))]
  case buildSlice t n ps =>
    simp only [aop]
    rw [partsA_congr (m := m) (m' := m') (fun x hx => h x (by simpa [Op.operands] using hx))]
  case makeMap t r =>
    cases r with
    | none => rfl
    | some r => simp only [aop]; rw [h r (by simp [Op.operands])]
  case slice t x lo hi mx =>
    have hx := h x (by simp [Op.operands])
    have hl : ∀ y, lo = some y → ρ m y = ρ m' y := fun y hy => h y (by simp [Op.operands, hy])
    have hh : ∀ y, hi = some y → ρ m y = ρ m' y := fun y hy => h y (by simp [Op.operands, hy])
    have hm : ∀ y, mx = some y → ρ m y = ρ m' y := fun y hy => h y (by simp [Op.operands, hy])
    clear h
    cases lo <;> cases hi <;> cases mx <;> simp only [Option.some.injEq, forall_eq', reduceCtorEq, false_implies, implies_true] at hl hh hm <;> simp only [aop, aop.optInt', *]
  case call c =>
    obtain ⟨callee, cargs, cts⟩ := c
    have ha : ρs m cargs.toList = ρs m' cargs.toList := ρs_congr fun x hx => h x (by cases callee <;> simp [Op.operands, Call.operands] <;> simp_all)
    cases callee with
    | builtin b => simp only [aop, acall, ha]
    | invoke r mt => rfl
    | value f =>
      have hf := h f (by simp [Op.operands, Call.operands])
      simp only [aop, acall, ha, hf]
  case pick c a b =>
    simp only [aop, h c (by simp [Op.operands])]
    split
    · rename_i t _
      cases t
      · simp only [Bool.false_eq_true, if_false, h b (by simp [Op.operands])]
      · simp only [if_true, h a (by simp [Op.operands])]
    · rfl
  all_goals
    first
      | rfl
      | (rename_i x; simp only [aop, h x (by simp [Op.operands])]; done)
      | (rename_i x _; simp only [aop, h x (by simp [Op.operands])]; done)
      | (rename_i x _ _; simp only [aop, h x (by simp [Op.operands])]; done)
      | (rename_i x _ _ _; simp only [aop, h x (by simp [Op.operands])]; done)
      | (rename_i x y; simp only [aop, h x (by simp [Op.operands]), h y (by simp [Op.operands])]; done)
      | (rename_i x y _; simp only [aop, h x (by simp [Op.operands]), h y (by simp [Op.operands])]; done)
      | (rename_i x y z; simp only [aop, h x (by simp [Op.operands]), h y (by simp [Op.operands]), h z (by simp [Op.operands])]; done)

end
end Go.Eng
