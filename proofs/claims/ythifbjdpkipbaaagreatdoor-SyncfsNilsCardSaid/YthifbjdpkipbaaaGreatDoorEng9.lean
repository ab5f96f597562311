/- THE ENGINE: operations that read. -/
import Derived.Test.YthifbjdpkipbaaaGreatDoorEng8
import Derived.Laws.StructEq
set_option linter.all false
namespace Go.Eng

section
variable {P : Program}

theorem bytes_beq_list (a b : List UInt8) : ((⟨⟨a⟩⟩ : ByteArray) == ⟨⟨b⟩⟩) = (a == b) := by
  rw [beq_toListBytes, ByteArray.toList_eq, ByteArray.toList_eq]

theorem cells_unfrozen {ι : Img} {A : AH} {w : World} {f : Nat} {c : PT AV} {n ty g o : Nat} {l : Loc} (h : Rel P ι A w) (hf : A.look f = some (.cells c n ty g 0)) (hl : ι f = some l) :
    w.frozen? ⟨l.block, o, none⟩ = false ∧ ∃ e k, w.shape? l.block = some (e, k) := by
  obtain ⟨k, hk, cs, fr, hb, hc⟩ := h.ent f _ hf
  rw [hl] at hk; cases hk
  refine ⟨?_, ty, cs.size, by simp [World.shape?, hb]⟩
  rw [frozen_of_heap hb]
  have := hc.2.2.2.2.none0 rfl o
  simp only [Bool.and_eq_false_iff, decide_eq_false_iff_not]
  by_cases e : fr.1 ≤ o
  · right; omega
  · left; exact e

theorem run_stringish {ι : Img} {A : AH} {w : World} {f : Nat} {c : PT AV} {n ty g o : Nat} {l : Loc} (h : Rel P ι A w) (hf : A.look f = some (.cells c n ty g 0)) (hl : ι f = some l) :
    (stringish ⟨l.block, o, none⟩).run P w = .ok false w := by
  obtain ⟨h1, e, k, h2⟩ := cells_unfrozen h hf hl (o := o)
  obtain ⟨h3, _⟩ := cells_unfrozen h hf hl (o := k)
  simp [stringish, h1, h2, h3]

theorem run_sameAddr {ι : Img} {A : AH} {w : World} {f f' : Nat} {c c' : PT AV} {n ty g n' ty' g' o o' : Nat} {l l' : Loc} (h : Rel P ι A w)
    (hf : A.look f = some (.cells c n ty g 0)) (hf' : A.look f' = some (.cells c' n' ty' g' 0)) (hl : ι f = some l) (hl' : ι f' = some l') (hg : g ≠ g') :
    (sameAddr ⟨l.block, o, none⟩ ⟨l'.block, o', none⟩).run P w = .ok false w := by
  have hne : l.block ≠ l'.block := fun e => by
    rcases h.apart f _ f' _ l l' hf hf' hl hl' e with e | ⟨_, _, _, _, _, _, _, _, _, e1, e2, _⟩
    · subst e; rw [hf] at hf'; cases hf'; exact hg rfl
    · cases e1; cases e2; exact hg rfl
  obtain ⟨h1, e1, k1, s1⟩ := cells_unfrozen h hf hl (o := o)
  obtain ⟨h2, e2, k2, s2⟩ := cells_unfrozen h hf' hl' (o := o')
  have hs1 := run_stringish h hf hl (o := o)
  have hs2 := run_stringish h hf' hl' (o := o')
  have hb : (l.block == l'.block) = false := by simpa using hne
  simp only [sameAddr, hb, Bool.false_eq_true, if_false, Sem.run_bind, run_frozen, Result.andThen_ok, h1, Sem.run_pure, noView, viewAt, run_shape, s1, Option.isSome_some, if_true, mayBeOne, Bool.false_and]
  simp [s2, hs1, hs2]

theorem aeqFields_ok {ι : Img} {w : World} {D : Nat} (eq : TypeId → AV → AV → Option Bool) (_ : Unit) (ih : ∀ t x y ux uy b, eq t x y = some b → conc ι x = some ux → conc ι y = some uy → (Op.equalIn D t ux uy).run P w = .ok b w)
    {xs ys : List AV} {us vs : List Value} (hus : concs ι xs = some us) (hvs : concs ι ys = some vs) : ∀ (fs : List Field) (b : Bool), aeqFields P eq xs ys fs = some b → (Op.eqFields D ⟨us⟩ ⟨vs⟩ fs).run P w = .ok b w
  | [], b, h => by simp [aeqFields] at h; subst h; simp [Op.eqFields]
  | f :: fs, b, h => by
    simp only [aeqFields] at h
    split at h
    · rename_i hn
      split at h
      · rename_i x y hx hy
        obtain ⟨u, hu, hru⟩ := apart_ok (P := P) hus hx w
        obtain ⟨v, hv, hrv⟩ := apart_ok (P := P) hvs hy w
        split at h
        · rename_i he
          have h1 := ih _ _ _ _ _ _ he hu hv
          have h2 := aeqFields_ok eq () ih hus hvs fs b h
          simp only [Op.eqFields, if_pos hn, Sem.run_bind, hru, Result.andThen_ok, hrv, h1, Bool.not_true, Bool.false_eq_true, if_false, h2]
        · rename_i r hne
          cases hr : eq f.type x y with
          | none => rw [hr] at h; cases h
          | some r =>
            rw [hr] at h; cases h
            cases b with
            | true => exact absurd hr hne
            | false =>
              have h1 := ih _ _ _ _ _ _ hr hu hv
              simp only [Op.eqFields, if_pos hn, Sem.run_bind, hru, Result.andThen_ok, hrv, h1, Bool.not_false, if_true, Sem.run_pure]
      · cases h
    · rename_i hn
      have h2 := aeqFields_ok eq () ih hus hvs fs b h
      simp only [Op.eqFields, if_neg hn, h2]

set_option maxHeartbeats 4000000 in
/-- x == y -/
theorem aeq_ok {ι : Img} {A : AH} {w : World} (h : Rel P ι A w) : ∀ (d D : Nat) (t : TypeId) (x y : AV) (ux uy : Value) (b : Bool), d ≤ D → aeq P A d t x y = some b → conc ι x = some ux → conc ι y = some uy → (Op.equalIn D t ux uy).run P w = .ok b w
  | 0, _, _, _, _, _, _, _, _, he, _, _ => by simp [aeq] at he
  | d + 1, 0, _, _, _, _, _, _, hd, _, _, _ => by omega
  | d + 1, D + 1, t, x, y, ux, uy, b, hd, he, hx, hy => by
    simp only [aeq] at he
    split at he
    · rename_i hu
      have e1 := conc_bool hx; have e2 := conc_bool hy; subst e1; subst e2
      cases he
      simp [Op.equalIn, run_underlying hu]
    · rename_i hu
      have e1 := conc_int hx; have e2 := conc_int hy; subst e1; subst e2
      split at he
      · rename_i e; subst e; cases he
        simp [Op.equalIn, run_underlying hu]
      · cases he
    · rename_i hu
      have e1 := conc_str hx; have e2 := conc_str hy; subst e1; subst e2
      cases he
      simp [Op.equalIn, run_underlying hu, bytes_beq_list]
    · rename_i hu
      simp only [conc] at hx hy; cases hx; cases hy; cases he
      simp [Op.equalIn, run_underlying hu]
    · rename_i hu
      simp only [conc] at hx hy; cases hx
      split at hy
      · cases hy; cases he; simp [Op.equalIn, run_underlying hu]
      · cases hy
    · rename_i hu
      simp only [conc] at hx hy; cases hy
      split at hx
      · cases hx; cases he; simp [Op.equalIn, run_underlying hu]
      · cases hx
    · rename_i e f o g p hu
      simp only [conc] at hx hy
      split at hx
      · rename_i l hl
        split at hy
        · rename_i l' hl'
          cases hx; cases hy
          split at he
          · rename_i k hk
            have hs := szOf_run hk w
            split at he
            · rename_i efg
              subst efg
              cases he
              rw [hl] at hl'; cases hl'
              have : (({ block := l.block, off := l.lo + o } : Addr) == { block := l.block, off := l.lo + p }) = decide (o = p) := by
                rw [Bool.eq_iff_iff]; simp
              simp [Op.equalIn, run_underlying hu, hs, sameAddr, this]
            · split at he
              · rename_i c n ty i c' n' ty' j hf hg
                split at he
                · cases he
                · rename_i hij
                  cases he
                  have := run_sameAddr h hf hg hl hl' hij (o := l.lo + o) (o' := l'.lo + p)
                  simp [Op.equalIn, run_underlying hu, hs, this]
              · cases he
          · cases he
        · cases hy
      · cases hx
    · rename_i hu
      simp only [conc] at hx hy; cases hx; cases hy; cases he
      simp [Op.equalIn, run_underlying hu]
    · rename_i hu
      simp only [conc] at hx hy; cases hx
      split at hy
      · cases hy; cases he; simp [Op.equalIn, run_underlying hu]
      · cases hy
    · rename_i hu
      simp only [conc] at hx hy; cases hy
      split at hx
      · cases hx; cases he; simp [Op.equalIn, run_underlying hu]
      · cases hx
    · rename_i tx vx ty vy hu
      simp only [conc] at hx hy
      split at hx
      · rename_i wx hwx
        split at hy
        · rename_i wy hwy
          cases hx; cases hy
          split at he
          · rename_i hne
            cases he
            simp [Op.equalIn, run_underlying hu, hne]
          · rename_i hne
            simp only [ne_eq, Decidable.not_not] at hne
            subst hne
            split at he
            · rename_i i hi
              split at he
              · rename_i hcmp
                have ih := aeq_ok h d D tx vx vy wx wy b (by omega) he hwx hwy
                have hti : (typeInfo tx).run P w = .ok i w := by simp [typeInfo, hi]
                simp [Op.equalIn, run_underlying hu, hti, hcmp, ih]
              · cases he
            · cases he
        · cases hy
      · cases hx
    · rename_i fields xs ys hu
      split at he
      · cases he
      · rename_i hst
        simp only [conc] at hx hy
        split at hx
        · rename_i us hus
          split at hy
          · rename_i vs hvs
            cases hx; cases hy
            have ih := fun t x y ux uy b => aeq_ok h d D t x y ux uy b (by omega)
            have hfo : P.fieldsOf t = fields := by simp [Program.fieldsOf, hu]
            have hst' : P.stoodInHeld t = false := by simpa using hst
            rw [run_equalIn_struct w D t ⟨us⟩ ⟨vs⟩ (by rw [hfo, hu]) hst', hfo]
            exact aeqFields_ok _ () ih hus hvs _ _ he
          · cases hy
        · cases hx
    · rename_i hu
      simp only [conc] at hx hy; cases hx; cases hy; cases he
      simp [Op.equalIn, run_underlying hu]
    · rename_i f o n c hu
      simp only [conc] at hx; cases hx
      cases c <;> simp only [conc] at hy <;> split at hy <;> (try split at hy) <;> cases hy <;> cases he <;> simp [Op.equalIn, run_underlying hu]
    · rename_i f o n c hu
      simp only [conc] at hy; cases hy
      cases c <;> simp only [conc] at hx <;> split at hx <;> (try split at hx) <;> cases hx <;> cases he <;> simp [Op.equalIn, run_underlying hu]
    · rename_i hu
      simp only [conc] at hx hy; cases hx
      split at hy
      · cases hy; cases he; simp [Op.equalIn, run_underlying hu]
      · cases hy
    · rename_i hu
      simp only [conc] at hx hy; cases hy
      split at hx
      · cases hx; cases he; simp [Op.equalIn, run_underlying hu]
      · cases hx
    · rename_i hu
      simp only [conc] at hx hy; cases hx; cases hy; cases he
      simp [Op.equalIn, run_underlying hu]
    · rename_i hu
      simp only [conc] at hx hy; cases hx
      split at hy
      · cases hy; cases he; simp [Op.equalIn, run_underlying hu]
      · cases hy
    · rename_i hu
      simp only [conc] at hx hy; cases hy
      split at hx
      · cases hx; cases he; simp [Op.equalIn, run_underlying hu]
      · cases hx
    · rename_i hu
      simp only [conc] at hx hy; cases hx; cases hy; cases he
      simp [Op.equalIn, run_underlying hu]
    · rename_i hu
      simp only [conc] at hx hy; cases hx
      split at hy
      · cases hy; cases he; simp [Op.equalIn, run_underlying hu]
      · cases hy
    · rename_i hu
      simp only [conc] at hx hy; cases hy
      split at hx
      · cases hx; cases he; simp [Op.equalIn, run_underlying hu]
      · cases hx
    · cases he

end
end Go.Eng
