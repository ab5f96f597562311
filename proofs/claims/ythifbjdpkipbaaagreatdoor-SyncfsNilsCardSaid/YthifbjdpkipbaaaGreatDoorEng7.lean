/- THE ENGINE: slices, conversions, and all operations that hang on their operands alone. -/
import Derived.Test.YthifbjdpkipbaaaGreatDoorEng6
set_option linter.all false
namespace Go.Eng

section
variable {P : Program}

def optOk : Option Int → Option Value → Prop
  | none, none => True
  | some n, some v => ∃ k, v = .int k n
  | _, _ => False

theorem run_sliceBound {k : IntKind} {i : Int} {y : Nat} {c : BoundsCode} {w : World} (h : 0 ≤ i ∧ i ≤ y) : (Instr.sliceBound (.int k i) y c).run P w = .ok i.toNat w := by
  simp [Instr.sliceBound, asIntOf, h]

theorem run_sliceBounds {isS : Bool} {len top cap : Nat} {lo hi mx : Option Int} {cl ch cm : Option Value} {l h : Nat} {m : Option Nat} (hb : bounds len top lo hi mx = some (l, h, m)) (ht : top ≤ cap)
    (h1 : optOk lo cl) (h2 : optOk hi ch) (h3 : optOk mx cm) (hmm : cm.isSome = true → ch.isSome = true) (w : World) : (Instr.sliceBounds isS len cap cl ch cm).run P w = .ok (l, h, m.getD cap) w := by
  unfold bounds at hb
  simp only at hb
  cases mx with
  | none =>
    cases cm with
    | some _ => exact h3.elim
    | none =>
      simp only at hb
      cases hi with
      | none =>
        cases ch with
        | some _ => exact h2.elim
        | none =>
          simp only at hb
          cases lo with
          | none =>
            cases cl with
            | some _ => exact h1.elim
            | none => simp only at hb; cases hb; simp [Instr.sliceBounds]
          | some n =>
            cases cl with
            | none => exact h1.elim
            | some c =>
              obtain ⟨k, rfl⟩ := h1
              by_cases hn : 0 ≤ n ∧ n ≤ (len : Int)
              · simp only [if_pos hn] at hb; cases hb
                simp [Instr.sliceBounds, run_sliceBound hn]
              · simp only [if_neg hn] at hb; cases hb
      | some v =>
        cases ch with
        | none => exact h2.elim
        | some c =>
          obtain ⟨k, rfl⟩ := h2
          by_cases hv : 0 ≤ v ∧ v ≤ (top : Int)
          · simp only [if_pos hv] at hb
            have hv' : 0 ≤ v ∧ v ≤ (cap : Int) := ⟨hv.1, by omega⟩
            cases lo with
            | none =>
              cases cl with
              | some _ => exact h1.elim
              | none => simp only at hb; cases hb; simp [Instr.sliceBounds, run_sliceBound hv']
            | some n =>
              cases cl with
              | none => exact h1.elim
              | some c =>
                obtain ⟨k, rfl⟩ := h1
                by_cases hn : 0 ≤ n ∧ n ≤ (v.toNat : Int)
                · simp only [if_pos hn] at hb; cases hb
                  simp [Instr.sliceBounds, run_sliceBound hv', run_sliceBound hn]
                · simp only [if_neg hn] at hb; cases hb
          · simp only [if_neg hv] at hb; cases hb
  | some x =>
    cases cm with
    | none => exact h3.elim
    | some c =>
      obtain ⟨k, rfl⟩ := h3
      by_cases hx : 0 ≤ x ∧ x ≤ (top : Int)
      · simp only [if_pos hx] at hb
        have hx' : 0 ≤ x ∧ x ≤ (cap : Int) := ⟨hx.1, by omega⟩
        cases hi with
        | none =>
          cases ch with
          | some _ => exact h2.elim
          | none => exact absurd (hmm rfl) (by simp)
        | some v =>
          cases ch with
          | none => exact h2.elim
          | some c =>
            obtain ⟨k, rfl⟩ := h2
            by_cases hv : 0 ≤ v ∧ v ≤ (x.toNat : Int)
            · simp only [if_pos hv] at hb
              cases lo with
              | none =>
                cases cl with
                | some _ => exact h1.elim
                | none => simp only at hb; cases hb; simp [Instr.sliceBounds, run_sliceBound hx', run_sliceBound hv]
              | some n =>
                cases cl with
                | none => exact h1.elim
                | some c =>
                  obtain ⟨k, rfl⟩ := h1
                  by_cases hn : 0 ≤ n ∧ n ≤ (v.toNat : Int)
                  · simp only [if_pos hn] at hb; cases hb
                    simp [Instr.sliceBounds, run_sliceBound hx', run_sliceBound hv, run_sliceBound hn]
                  · simp only [if_neg hn] at hb; cases hb
            · simp only [if_neg hv] at hb; cases hb
      · simp only [if_neg hx] at hb; cases hb

theorem bounds_le {len top : Nat} {lo hi mx : Option Int} {l h : Nat} {m : Option Nat} (hb : bounds len top lo hi mx = some (l, h, m)) : l ≤ h ∧ (hi.isSome = true → h ≤ top) ∧ (hi = none → h = len) ∧ (∀ x, m = some x → x ≤ top ∧ (hi.isSome = true → h ≤ x)) := by
  unfold bounds at hb
  cases mx with
  | none =>
    cases hi with
    | none =>
      cases lo with
      | none => simp only at hb; cases hb; simp
      | some n =>
        simp only at hb
        by_cases hn : 0 ≤ n ∧ n ≤ (len : Int)
        · simp only [if_pos hn] at hb; cases hb; simp; omega
        · simp only [if_neg hn] at hb; cases hb
    | some v =>
      simp only at hb
      by_cases hv : 0 ≤ v ∧ v ≤ (top : Int)
      · simp only [if_pos hv] at hb
        cases lo with
        | none => simp only at hb; cases hb; simp; omega
        | some n =>
          simp only at hb
          by_cases hn : 0 ≤ n ∧ n ≤ (v.toNat : Int)
          · simp only [if_pos hn] at hb; cases hb; simp; omega
          · simp only [if_neg hn] at hb; cases hb
      · simp only [if_neg hv] at hb; cases hb
  | some x =>
    simp only at hb
    by_cases hx : 0 ≤ x ∧ x ≤ (top : Int)
    · simp only [if_pos hx] at hb
      cases hi with
      | none =>
        cases lo with
        | none => simp only at hb; cases hb; simp; omega
        | some n =>
          simp only at hb
          by_cases hn : 0 ≤ n ∧ n ≤ (len : Int)
          · simp only [if_pos hn] at hb; cases hb; simp; omega
          · simp only [if_neg hn] at hb; cases hb
      | some v =>
        simp only at hb
        by_cases hv : 0 ≤ v ∧ v ≤ (x.toNat : Int)
        · simp only [if_pos hv] at hb
          cases lo with
          | none => simp only at hb; cases hb; simp; omega
          | some n =>
            simp only at hb
            by_cases hn : 0 ≤ n ∧ n ≤ (v.toNat : Int)
            · simp only [if_pos hn] at hb; cases hb; simp; omega
            · simp only [if_neg hn] at hb; cases hb
        · simp only [if_neg hv] at hb; cases hb
    · simp only [if_neg hx] at hb; cases hb

theorem add_mul {b o l s : Nat} : (⟨b, o, none⟩ : Addr).add (l * s) = ⟨b, o + l * s, none⟩ := addr_add _ _ _

theorem free_slice {A A' : AH} {t : TypeId} {x v : AV} {lo hi mx : Option Int} (h : asliceOp P A t x lo hi mx = some (v, A')) (hmm : mx.isSome = true → hi.isSome = true) :
    ∃ eff, A' = Eff.app A eff ∧ ∀ (ι : Img) (w : World) (ux : Value) (cl ch cm : Option Value), conc ι x = some ux → optOk lo cl → optOk hi ch → optOk mx cm → (eff ≠ .none → ι A.next = none) →
      FreeRun P A ι w (do pure (.value (← Instr.sliceAt t ux cl ch cm))) v eff := by
  have hm' : ∀ {cl : Option Value} {ch cm : Option Value}, optOk hi ch → optOk mx cm → cm.isSome = true → ch.isSome = true := by
    intro cl ch cm h2 h3 hc
    cases mx with
    | none => cases cm with
      | none => simp at hc
      | some _ => exact h3.elim
    | some _ => cases hi with
      | none => simp at hmm
      | some _ => cases ch with
        | none => exact h2.elim
        | some _ => rfl
  unfold asliceOp at h
  split at h
  · -- a string
    rename_i s hu
    split at h
    · cases h
    · split at h
      · rename_i l hh m hb
        cases h
        refine ⟨.none, rfl, fun ι w ux cl ch cm hx h1 h2 h3 _ => ?_⟩
        have e := conc_str hx; subst e
        cases cm with
        | some _ => exact h3.elim
        | none =>
          have hr := run_sliceBounds (P := P) (isS := false) hb (Nat.le_refl _) h1 h2 (cm := none) trivial (by simp) w
          refine free_val (u := .string ⟨⟨(s.take hh).drop l⟩⟩) ?_ rfl
          have hs : (⟨⟨s⟩⟩ : ByteArray).size = s.length := rfl
          have he : (⟨⟨s⟩⟩ : ByteArray).extract l hh = ⟨⟨(s.take hh).drop l⟩⟩ := by
            have := ByteArray.extract_mk s l hh
            rw [List.drop_take]
            exact this
          simp [Instr.sliceAt, Instr.slice, run_underlying hu, hs, hr, he]
      · cases h
  · -- nil
    rename_i e hu
    split at h
    · rename_i r sz0 hb hsz
      cases h
      refine ⟨.none, rfl, fun ι w ux cl ch cm hx h1 h2 h3 _ => ?_⟩
      simp only [conc] at hx; cases hx
      obtain ⟨l, hh, m⟩ := r
      have hr := run_sliceBounds (P := P) (isS := true) hb (Nat.le_refl _) h1 h2 h3 (hm' (cl := cl) h2 h3) w
      have hle := bounds_le hb
      refine free_val (u := .slice none 0 0) ?_ rfl
      have hh0 : hh = 0 := by
        cases hi with
        | none => exact hle.2.2.1 rfl
        | some _ => have := hle.2.1 rfl; omega
      have hl0 : l = 0 := by omega
      subst hh0; subst hl0
      have hs := szOf_run hsz w
      cases m with
      | none => simp [Instr.sliceAt, Instr.slice, run_underlying hu, hr, hs]
      | some x =>
        have := (hle.2.2.2 x rfl).1
        obtain rfl : x = 0 := by omega
        simp [Instr.sliceAt, Instr.slice, run_underlying hu, hr, hs]
    · cases h
  · -- an empty one
    rename_i e k hu
    split at h
    · rename_i l hh sz0 hb hsz
      cases h
      refine ⟨.none, rfl, fun ι w ux cl ch cm hx h1 h2 h3 _ => ?_⟩
      simp only [conc] at hx
      split at hx
      · rename_i lc hlc
        cases hx
        have hr := run_sliceBounds (P := P) (isS := true) hb (Nat.zero_le lc.cap) h1 h2 h3 (hm' (cl := cl) h2 h3) w
        have hle := bounds_le hb
        have hh0 : hh = 0 := by
          cases hi with
          | none => exact hle.2.2.1 rfl
          | some _ => have := hle.2.1 rfl; omega
        have hl0 : l = 0 := by omega
        subst hh0; subst hl0
        have hs := szOf_run hsz w
        refine free_val (u := .slice (some ⟨lc.block, lc.lo, none⟩) 0 lc.cap) ?_ (by simp [conc, hlc])
        simp [Instr.sliceAt, Instr.slice, run_underlying hu, hr, hs, addr_add]
      · cases hx
    · rename_i l hh x sz0 hb hsz
      cases h
      refine ⟨.skip, rfl, fun ι w ux cl ch cm hx h1 h2 h3 _ => ?_⟩
      simp only [conc] at hx
      split at hx
      · rename_i lc hlc
        cases hx
        have hr := run_sliceBounds (P := P) (isS := true) hb (Nat.zero_le lc.cap) h1 h2 h3 (hm' (cl := cl) h2 h3) w
        have hle := bounds_le hb
        have hx0 := (hle.2.2.2 x rfl).1
        have hh0 : hh = 0 := by
          cases hi with
          | none => exact hle.2.2.1 rfl
          | some _ => have := hle.2.1 rfl; omega
        have hl0 : l = 0 := by omega
        obtain rfl : x = 0 := by omega
        subst hh0; subst hl0
        have hs := szOf_run hsz w
        refine ⟨.slice (some ⟨lc.block, lc.lo, none⟩) 0 0, w, ⟨lc.block, lc.lo, 0⟩, ?_, rfl, by simp [conc, Img.set_same]⟩
        simp [Instr.sliceAt, Instr.slice, run_underlying hu, hr, hs]
      · cases hx
    · cases h
  · -- an exact one
    rename_i e f o len n hu
    split at h
    · rename_i l hh m sz0 hb hsz
      cases h
      refine ⟨.none, rfl, fun ι w ux cl ch cm hx h1 h2 h3 _ => ?_⟩
      simp only [conc] at hx
      split at hx
      · rename_i lc hlc
        cases hx
        have hr := run_sliceBounds (P := P) (isS := true) hb (Nat.le_refl n) h1 h2 h3 (hm' (cl := cl) h2 h3) w
        have hs := szOf_run hsz w
        generalize m.getD n = M at hr ⊢
        by_cases hml : M = l
        · refine free_val (u := .slice (some ⟨lc.block, lc.lo + o, none⟩) (hh - l) (M - l)) ?_ (by simp [conc, hlc, hml])
          simp [Instr.sliceAt, Instr.slice, run_underlying hu, hr, hs, hml]
        · refine free_val (u := .slice (some ⟨lc.block, lc.lo + (o + l * sz0), none⟩) (hh - l) (M - l)) ?_ (by simp [conc, hlc, hml])
          simp [Instr.sliceAt, Instr.slice, run_underlying hu, hr, hs, hml, addr_add, Nat.add_assoc]
      · cases hx
    · cases h
  · -- one whose capacity is not known
    rename_i e f o len s r hu
    split at h
    · rename_i l hh M sz0 hb hsz
      cases h
      refine ⟨.none, rfl, fun ι w ux cl ch cm hx h1 h2 h3 _ => ?_⟩
      simp only [conc] at hx
      split at hx
      · rename_i lc hlc
        split at hx
        · rename_i hcap
          cases hx
          have hr := run_sliceBounds (P := P) (isS := true) hb (show r ≤ lc.cap - s by omega) h1 h2 h3 (hm' (cl := cl) h2 h3) w
          have hs := szOf_run hsz w
          simp only [Option.getD_some] at hr
          by_cases hml : M = l
          · refine free_val (u := .slice (some ⟨lc.block, lc.lo + o, none⟩) (hh - l) (M - l)) ?_ (by simp [conc, hlc, hml])
            simp [Instr.sliceAt, Instr.slice, run_underlying hu, hr, hs, hml]
          · refine free_val (u := .slice (some ⟨lc.block, lc.lo + (o + l * sz0), none⟩) (hh - l) (M - l)) ?_ (by simp [conc, hlc, hml])
            simp [Instr.sliceAt, Instr.slice, run_underlying hu, hr, hs, hml, addr_add, Nat.add_assoc]
        · cases hx
      · cases hx
    · rename_i l hh sz0 hb hsz
      split at h
      · rename_i hlr
        cases h
        refine ⟨.none, rfl, fun ι w ux cl ch cm hx h1 h2 h3 _ => ?_⟩
        simp only [conc] at hx
        split at hx
        · rename_i lc hlc
          split at hx
          · rename_i hcap
            cases hx
            have hr := run_sliceBounds (P := P) (isS := true) hb (show r ≤ lc.cap - s by omega) h1 h2 h3 (hm' (cl := cl) h2 h3) w
            have hs := szOf_run hsz w
            simp only [Option.getD_none] at hr
            have hml : ¬ (lc.cap - s = l) := by omega
            refine free_val (u := .slice (some ⟨lc.block, lc.lo + (o + l * sz0), none⟩) (hh - l) (lc.cap - s - l)) ?_ ?_
            · simp [Instr.sliceAt, Instr.slice, run_underlying hu, hr, hs, hml, addr_add, Nat.add_assoc]
            · simp only [conc, hlc]
              rw [if_pos (by omega), Nat.sub_sub]
          · cases hx
        · cases hx
      · rename_i hlr
        split at h
        · rename_i hl0
          cases h
          refine ⟨.none, rfl, fun ι w ux cl ch cm hx h1 h2 h3 _ => ?_⟩
          simp only [conc] at hx
          split at hx
          · rename_i lc hlc
            split at hx
            · rename_i hcap
              cases hx
              have hr := run_sliceBounds (P := P) (isS := true) hb (show r ≤ lc.cap - s by omega) h1 h2 h3 (hm' (cl := cl) h2 h3) w
              have hs := szOf_run hsz w
              simp only [Option.getD_none] at hr
              subst hl0
              refine free_val (u := .slice (some ⟨lc.block, lc.lo + o, none⟩) (hh - 0) (lc.cap - s)) ?_ (by simp [conc, hlc, hcap])
              simp [Instr.sliceAt, Instr.slice, run_underlying hu, hr, hs, addr_add]
            · cases hx
          · cases hx
        · rename_i hl0
          split at h
          · rename_i hhl
            cases h
            refine ⟨.skip, rfl, fun ι w ux cl ch cm hx h1 h2 h3 _ => ?_⟩
            simp only [conc] at hx
            split at hx
            · rename_i lc hlc
              split at hx
              · rename_i hcap
                cases hx
                have hr := run_sliceBounds (P := P) (isS := true) hb (show r ≤ lc.cap - s by omega) h1 h2 h3 (hm' (cl := cl) h2 h3) w
                have hs := szOf_run hsz w
                simp only [Option.getD_none] at hr
                subst hhl
                by_cases hc : lc.cap - s = hh
                · rw [hc] at hr
                  refine ⟨.slice (some ⟨lc.block, lc.lo + o, none⟩) 0 0, w, ⟨lc.block, lc.lo + o, 0⟩, ?_, rfl, by simp [conc, Img.set_same]⟩
                  simp [Instr.sliceAt, Instr.slice, run_underlying hu, hr, hs, hc]
                · refine ⟨.slice (some ⟨lc.block, lc.lo + (o + hh * sz0), none⟩) 0 (lc.cap - s - hh), w, ⟨lc.block, lc.lo + (o + hh * sz0), lc.cap - s - hh⟩, ?_, rfl, by simp [conc, Img.set_same]⟩
                  simp [Instr.sliceAt, Instr.slice, run_underlying hu, hr, hs, hc, addr_add, Nat.add_assoc]
              · cases hx
            · cases hx
          · cases h
    · cases h
  · -- an array
    rename_i n e f o hu
    split at h
    · rename_i l hh m sz0 hb hsz
      cases h
      refine ⟨.none, rfl, fun ι w ux cl ch cm hx h1 h2 h3 _ => ?_⟩
      simp only [conc] at hx
      split at hx
      · rename_i lc hlc
        cases hx
        have hr := run_sliceBounds (P := P) (isS := false) hb (Nat.le_refl n) h1 h2 h3 (hm' (cl := cl) h2 h3) w
        have hs := szOf_run hsz w
        generalize m.getD n = M at hr ⊢
        by_cases hml : M = l
        · refine free_val (u := .slice (some ⟨lc.block, lc.lo + o, none⟩) (hh - l) (M - l)) ?_ (by simp [conc, hlc, hml])
          simp [Instr.sliceAt, run_underlying hu, Instr.sureAddr, hr, hs, hml]
        · refine free_val (u := .slice (some ⟨lc.block, lc.lo + (o + l * sz0), none⟩) (hh - l) (M - l)) ?_ (by simp [conc, hlc, hml])
          simp [Instr.sliceAt, run_underlying hu, Instr.sureAddr, hr, hs, hml, addr_add, Nat.add_assoc]
      · cases hx
    · cases h
  · cases h


theorem wrap64_small {n : Int} (h0 : 0 ≤ n) (h : n < 1000000000) : IntKind.i64.wrap n = n := by
  have e : n % (2 ^ 64 : Int) = n := by omega
  simp only [IntKind.wrap, IntKind.bits, IntKind.signed, Bool.true_and, e]
  rw [if_neg (by simp; omega)]

theorem free_makeSlice {A A' : AH} {t : TypeId} {l c v : AV} (h : amakeSlice P A t l c = some (v, A')) :
    ∃ eff, A' = Eff.app A eff ∧ ∀ (ι : Img) (w : World) (ul uc : Value), conc ι l = some ul → conc ι c = some uc → (eff ≠ .none → ι A.next = none) →
      FreeRun P A ι w (do pure (.value (← Instr.makeSlice t ul uc))) v eff := by
  unfold amakeSlice at h
  split at h
  · rename_i e j1 l1 j2 c1 hu
    split at h
    · rename_i size bytes z hsz hby hz
      split at h
      · rename_i hc
        obtain ⟨h0, hlc, hc8, hb9, hzl, hs0⟩ := hc
        cases h
        refine ⟨.new _, rfl, fun ι w ul uc hl hc' hn => ?_⟩
        have e1 := conc_int hl; subst e1
        have e2 := conc_int hc'; subst e2
        obtain ⟨u, hzc, hzr⟩ := zeroOf_conc (P := P) ι hz w
        have hrep := replArr (n := c1.toNat) hzc (by omega)
        have hext := Img.set_ext ⟨w.heap.size, 0, 0⟩ (hn nofun)
        obtain ⟨cells, hcells⟩ : ∃ cells, cells = (Array.range (c1.toNat * size)).map (u.cells[· % u.cells.size]!) := ⟨_, rfl⟩
        rw [hzl, ← hcells] at hrep
        have hcl : cells.size = c1.toNat * size := by rw [hcells]; simp
        refine ⟨.slice (some ⟨w.heap.size, 0, none⟩) l1.toNat c1.toNat, { w with heap := w.heap.push (.cells cells e) }, ⟨w.heap.size, 0, 0⟩, .cells cells e, ?_, rfl, rfl, ⟨cells, (0, 0), by simp, ?_⟩, rfl, by simp [conc, Img.set_same]⟩
        · have hw1 : IntKind.i64.wrap l1 = l1 := wrap64_small h0 (by omega)
          have hw2 : IntKind.i64.wrap c1 = c1 := wrap64_small (by omega) (by omega)
          have hbi : ∃ i, P.info? e = some i ∧ i.bytes = bytes := by
            unfold bytesOf at hby
            split at hby
            · rename_i i hi; cases hby; exact ⟨i, hi, rfl⟩
            · cases hby
          obtain ⟨i, hi, hib⟩ := hbi
          have hti : (typeInfo e).run P w = .ok i w := by simp [typeInfo, hi]
          have hbc : (bytes : Int) * c1 = ((bytes * c1.toNat : Nat) : Int) := by rw [Int.natCast_mul, Int.toNat_of_nonneg (by omega)]
          have hsr := szOf_run hsz w
          have hn0 : ¬ (c1 < 0) := by omega
          have hbig : ¬ ((bytes : Int) * c1 > 2 ^ 48) := by rw [hbc]; omega
          have hl0 : ¬ (l1 < 0) := by omega
          have hgt : ¬ (l1 > c1) := by omega
          simp only [Instr.makeSlice, Sem.run_bind, run_underlying hu, Result.andThen_ok, asInt, asIntOf, Sem.run_pure, hti, hib, hw1, hw2, hn0, hbig, hl0, hgt, decide_false, Bool.or_false, Bool.false_eq_true, if_false, run_askRoom, hsr]
          by_cases hz0 : c1.toNat * size = 0
          · have : c1.toNat = 0 := by rcases Nat.mul_eq_zero.1 hz0 with h | h <;> omega
            have hce : cells = #[] := Array.eq_empty_of_size_eq_zero (by omega)
            have h00 : Array.map (fun _ => (default : Value)) (Array.range 0) = #[] := Array.eq_empty_of_size_eq_zero (by simp)
            simp [hz0, newRow, hce, h00]
          · simp only [if_neg hz0, Sem.run_bind, hzr, Result.andThen_ok, Sem.run_pure, newRow, run_newObj]
            rw [hcells]
        · have := cellsOk_new (P := P) (b := w.heap.size) (ty := e) (cap := 0) (n := c1.toNat * size) (sf := 0) (concs_mono hext _ _ hrep) (by rw [Array.length_toList, hcl]) (by simp) (unfrozen_zero _ _)
          simpa using this
      · cases h
    · cases h
  · cases h

theorem bytes_conc (ι : Img) (s : List UInt8) : concs ι (s.map fun b => .int .u8 (b.toNat : Int)) = some (s.map fun b => Value.int .u8 (b.toNat : Int)) := by
  induction s with
  | nil => simp [concs]
  | cons b s ih => simp [concs, conc, ih]

theorem push_modify (a : Array Obj) (x : Obj) (f : Obj → Obj) : (a.push x).modify a.size f = a.push (f x) := by
  apply Array.ext_getElem?
  intro i
  rw [Array.getElem?_modify, Array.getElem?_push, Array.getElem?_push]
  by_cases e : i = a.size
  · subst e; simp
  · simp [e, Ne.symm e]

theorem free_convert {A A' : AH} {src dst : TypeId} {x v : AV} {o : Operand} (h : aconvert P A src dst x = some (v, A')) (hc : opClass P (.convert src dst o) = .free) :
    ∃ eff, A' = Eff.app A eff ∧ ∀ (ι : Img) (w : World) (u : Value), conc ι x = some u → (eff ≠ .none → ι A.next = none) →
      FreeRun P A ι w (do pure (.value (← convert src dst u))) v eff := by
  unfold aconvert at h
  simp only [opClass] at hc
  split at h
  · rename_i d k j n hs hd
    cases h
    refine ⟨.none, rfl, fun ι w u hx _ => ?_⟩
    have e := conc_int hx; subst e
    exact free_val (u := .int k (k.wrap n)) (by simp [convert, run_underlying hs, run_underlying hd, Conv.intToInt]) rfl
  · rename_i d s hs hd
    cases h
    refine ⟨.none, rfl, fun ι w u hx _ => ?_⟩
    have e := conc_str hx; subst e
    refine free_val (u := .string ⟨⟨s⟩⟩) ?_ rfl
    simp [convert, run_underlying hs, run_underlying hd]
  · rename_i hs hd; simp [hs, hd] at hc
  · rename_i hs hd; simp [hs, hd] at hc
  · rename_i hs hd; simp [hs, hd] at hc
  · rename_i hs hd _; simp [hs, hd] at hc
  · rename_i d e s hs hd
    split at h
    · rename_i he hsr hsz
      split at h
      · cases h
      rename_i hlen
      have hrun : ∀ w : World, ∃ k, (convert src dst (.string ⟨⟨s⟩⟩)).run P w = .ok (.slice (some ⟨w.heap.size, 0, none⟩) s.length (s.length + k))
          { w with heap := w.heap.push (.cells ((s.map fun (b : UInt8) => Value.int .u8 (b.toNat : Int)) ++ List.replicate k (Value.int .u8 0)).toArray e (s.length + k, s.length + k + 1)), drawn := w.drawn + 1 } := by
        intro w
        refine ⟨w.tape w.drawn (.appendCap s.length 0 e) % (2 ^ 63 - s.length), ?_⟩
        have hsize : (⟨⟨s⟩⟩ : ByteArray).size = s.length := rfl
        generalize hk : w.tape w.drawn (.appendCap s.length 0 e) % (2 ^ 63 - s.length) = k
        have hcut : (Question.appendCap s.length 0 e).cut (w.tape w.drawn (.appendCap s.length 0 e)) = s.length + k := by simp [Question.cut, hk]
        simp only [convert, run_underlying hsr, run_underlying hd, Sem.run_bind, Result.andThen_ok, run_underlying he, Conv.stringToBytes, hsize, choose, Sem.run, Question.forced, Bool.false_eq_true, if_false, hcut, newRow, newObj, Sem.run_pure, markStringish, shape, World.shape?, freeze]
        rw [show (w.heap.push (Obj.cells (Array.map (fun (b : UInt8) => Value.int IntKind.u8 (b.toNat : Int)) { toList := s } ++ Array.replicate (s.length + k - s.length) (Value.int IntKind.u8 0)) e))[w.heap.size]? = some (Obj.cells (Array.map (fun (b : UInt8) => Value.int IntKind.u8 (b.toNat : Int)) { toList := s } ++ Array.replicate (s.length + k - s.length) (Value.int IntKind.u8 0)) e) from by simp]
        simp only [Sem.run, World.freeze, Result.andThen_ok, Nat.succ_ne_zero, if_false, push_modify, Nat.add_sub_cancel_left]
        simp
        congr 2
        apply Array.toList_inj.1
        simp
      · cases h
        refine ⟨.new _, rfl, fun ι w u hx hn => ?_⟩
        have e1 := conc_str hx; subst e1
        obtain ⟨k, hk⟩ := hrun w
        obtain ⟨W, hW⟩ : ∃ W : World, W = { w with heap := w.heap.push (.cells ((s.map fun (b : UInt8) => Value.int .u8 (b.toNat : Int)) ++ List.replicate k (Value.int .u8 0)).toArray e (s.length + k, s.length + k + 1)), drawn := w.drawn + 1 } := ⟨_, rfl⟩
        rw [← hW] at hk
        have hWh0 : HeapIs w W (w.heap.push (.cells ((s.map fun (b : UInt8) => Value.int .u8 (b.toNat : Int)) ++ List.replicate k (Value.int .u8 0)).toArray e (s.length + k, s.length + k + 1))) := by rw [hW]; rfl
        have hWh := hWh0.heap
        have hbc := bytes_conc (Img.set ι A.next ⟨w.heap.size, 0, s.length + k⟩) s
        refine ⟨.slice (some ⟨w.heap.size, 0, none⟩) s.length (s.length + k), W, ⟨w.heap.size, 0, s.length + k⟩, _, by simp only [Sem.run_bind, hk, Result.andThen_ok, Sem.run_pure], hWh0, rfl, ⟨_, _, by rw [hWh]; exact Array.getElem?_push_size, ?_⟩, rfl, by simp [conc, Img.set_same]⟩
        refine ⟨by simp, by simp [szOf_sz hsz], by simp, fun p v hp => ?_, fun h1 => by omega, fun _ => .inr (by simp)⟩
        rw [PT.get_setL] at hp
        split at hp
        · rename_i hr
          obtain ⟨b, hb, hc⟩ := concs_get hbc _ _ hp
          refine ⟨by simpa using hr.2, b, hc, ?_⟩
          simp only [Nat.zero_add, List.getElem?_toArray]
          rw [List.getElem?_append_left (by simpa using hr.2)]
          simpa using hb
        · simp at hp
    · cases h
  · cases h

end
end Go.Eng
