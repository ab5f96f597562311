/- THE ENGINE: operations that hang on their operands alone. -/
import Derived.Test.YthifbjdpkipbaaaGreatDoorEng4
import Derived.Laws.Entries
set_option linter.all false
namespace Go.Eng

inductive Eff where
  | none
  | skip
  | new (e : Ent)

noncomputable def Eff.app (A : AH) : Eff → AH
  | .none => A
  | .skip => A.skip
  | .new e => A.new e

section
variable (P : Program)

/-- what an operation comes to that hangs on its operands alone: its value; what it lays -/
def FreeRun (A : AH) (ι : Img) (w : World) (s : Sem Next) (v : AV) : Eff → Prop
  | .none => ∃ u w', s.run P w = .ok (.value u) w' ∧ HeapIs w w' w.heap ∧ conc ι v = some u
  | .skip => ∃ u w' l, s.run P w = .ok (.value u) w' ∧ HeapIs w w' w.heap ∧ conc (Img.set ι A.next l) v = some u
  | .new e => ∃ u w' l o, s.run P w = .ok (.value u) w' ∧ HeapIs w w' (w.heap.push o) ∧ l.block = w.heap.size ∧ EntOk P (Img.set ι A.next l) w' l e ∧ ownGroup A e ∧ conc (Img.set ι A.next l) v = some u

variable {P}

theorem conc_agg {ι : Img} {v : AV} {cs : Array Value} (h : conc ι v = some (.agg cs)) : ∃ l, v = .agg l := by
  cases v
  case agg l => exact ⟨l, rfl⟩
  case slice f o n c => cases c <;> simp only [conc] at h <;> split at h <;> (try split at h) <;> cases h
  all_goals
    simp only [conc] at h
    first
      | (cases h; done)
      | (split at h <;> cases h)

theorem conc_tuple {ι : Img} {v : AV} {cs : Array Value} (h : conc ι v = some (.tuple cs)) : ∃ l, v = .tuple l := by
  cases v
  case tuple l => exact ⟨l, rfl⟩
  case slice f o n c => cases c <;> simp only [conc] at h <;> split at h <;> (try split at h) <;> cases h
  all_goals
    simp only [conc] at h
    first
      | (cases h; done)
      | (split at h <;> cases h)

theorem cells_conc {ι : Img} {v : AV} {u : Value} (h : conc ι v = some u) : concs ι v.cells = some u.cells.toList := by
  by_cases ha : ∃ l, v = .agg l
  · obtain ⟨l, rfl⟩ := ha
    simp only [conc] at h
    split at h
    · rename_i l hl; cases h; simpa [AV.cells, Value.cells] using hl
    · cases h
  · have h1 : v.cells = [v] := by cases v <;> first | rfl | exact absurd ⟨_, rfl⟩ ha
    have h2 : u.cells = #[u] := by
      cases u <;> first | rfl | exact absurd (conc_agg h) ha
    rw [h1, h2]
    simp [concs, h]

theorem zeroOf_conc (ι : Img) {t : TypeId} {z : AV} (h : zeroOf P t = some z) (w : World) : ∃ u, conc ι z = some u ∧ (zeroValue t).run P w = .ok u w := by
  unfold zeroOf at h
  split at h
  · rename_i i hi
    split at h
    · rename_i v hv
      exact ⟨v, ofV_conc ι h, by simp [zeroValue, typeInfo, hi, hv]⟩
    · cases h
  · cases h

/-- a new block of cells -/
theorem cellsOk_new {ι : Img} {b ty n cap sf : Nat} {vs : List AV} {us : List Value} {fr : Nat × Nat} (hus : concs ι vs = some us) (hn : n = us.length) (hcap : cap * sz P ty ≤ us.length) (hf : unfrozen sf us.length fr) :
    CellsOk P ι ⟨b, 0, cap⟩ (PT.setL .nil 0 vs) n ty sf ⟨us⟩ fr := by
  refine ⟨by simp [hn], by simpa using hcap, by simp, fun o v ho => ?_, by simpa using hf⟩
  rw [PT.get_setL] at ho
  split at ho
  · obtain ⟨u, hu, hc⟩ := concs_get hus _ _ ho
    rename_i hr
    refine ⟨?_, u, hc, by simpa using hu⟩
    rw [hn, concs_length hus]; omega
  · simp at ho

theorem unfrozen_zero (sf size : Nat) : unfrozen sf size (0, 0) := ⟨fun _ => rfl, fun _ => .inl rfl⟩

theorem free_box {A : AH} {ι : Img} {w : World} {t : TypeId} {v : AV} {u : Value} (hv : conc ι v = some u) (hn : ι A.next = none) :
    FreeRun P A ι w (do pure (.value (← Instr.box t u))) (.ptr A.next 0) (.new (.cells (PT.setL .nil 0 v.cells) v.cells.length t A.next 0)) := by
  have hc := concs_mono (Img.set_ext ⟨w.heap.size, 0, 0⟩ hn) _ _ (cells_conc hv)
  refine ⟨.pointer (some ⟨w.heap.size, 0, none⟩), { w with heap := w.heap.push (.cells u.cells t) }, ⟨w.heap.size, 0, 0⟩, .cells u.cells t, by simp only [Instr.box, newVar, newRow, Sem.run_bind, Sem.run_pure, run_newObj, Result.andThen_ok], rfl, rfl, ?_, rfl, by simp [conc, Img.set_same]⟩
  refine ⟨u.cells, (0, 0), by simp, ?_⟩
  have := cellsOk_new (P := P) (b := w.heap.size) (ty := t) (cap := 0) (n := v.cells.length) (sf := 0) hc (by rw [concs_length hc]) (by simp) (unfrozen_zero _ _)
  simpa using this


/-! ## composites -/

theorem foldl_set (off : Nat) : ∀ (vs : List Value) (k : Nat) (cells : Array Value) (x : Nat), off + k + vs.length ≤ cells.size →
    ((vs.zipIdx k).foldl (fun (cs : Array Value) (p : Value × Nat) => cs.setIfInBounds (off + p.2) p.1) cells)[x]? = if off + k ≤ x ∧ x < off + k + vs.length then vs[x - (off + k)]? else cells[x]?
  | [], k, cells, x, _ => by simp; omega
  | v :: vs, k, cells, x, h => by
    simp only [List.length_cons] at h
    simp only [List.zipIdx_cons, List.foldl_cons]
    rw [foldl_set off vs (k + 1) _ x (by rw [Array.size_setIfInBounds]; omega)]
    by_cases e : x = off + k
    · subst e
      rw [if_neg (by omega), if_pos (by simp), Array.getElem?_setIfInBounds_self_of_lt (by omega)]
      simp
    · by_cases e' : off + (k + 1) ≤ x ∧ x < off + (k + 1) + vs.length
      · rw [if_pos e', if_pos (by simp; omega)]
        obtain ⟨j, rfl⟩ : ∃ j, x = off + (k + 1) + j := ⟨x - (off + (k + 1)), by omega⟩
        rw [show off + (k + 1) + j - (off + (k + 1)) = j from by omega, show off + (k + 1) + j - (off + k) = j + 1 from by omega]
        simp
      · rw [if_neg e', if_neg (by simp; omega), Array.getElem?_setIfInBounds_ne (Ne.symm e)]

theorem foldl_set_toList (off : Nat) (vs : Array Value) (cells : Array Value) (h : off + vs.size ≤ cells.size) :
    (vs.zipIdx.foldl (fun (cs : Array Value) (p : Value × Nat) => cs.setIfInBounds (off + p.2) p.1) cells) = (cells.toList.take off ++ vs.toList ++ cells.toList.drop (off + vs.size)).toArray := by
  apply Array.ext_getElem?
  intro x
  rw [← Array.foldl_toList, Array.toList_zipIdx, foldl_set off vs.toList 0 cells x (by simpa using h)]
  simp only [Nat.add_zero, Array.length_toList, List.getElem?_toArray]
  by_cases h1 : x < off
  · rw [if_neg (by omega), List.append_assoc, List.getElem?_append_left (by simp; omega)]
    simp [h1]
  · by_cases h2 : x < off + vs.size
    · rw [if_pos (by omega), List.append_assoc, List.getElem?_append_right (by simp; omega), List.getElem?_append_left (by simp; omega)]
      simp
      congr 1
      omega
    · rw [if_neg (by omega), List.getElem?_append_right (by simp; omega)]
      simp
      congr 1
      omega

theorem afill_length {place : Nat → Option (Nat × Nat)} : ∀ {parts : List (Nat × AV)} {cells cs : List AV}, afill place cells parts = some cs → cs.length = cells.length
  | [], cells, cs, h => by simp [afill] at h; rw [h]
  | (i, v) :: rest, cells, cs, h => by
    simp only [afill] at h
    split at h
    · cases h
    · rename_i off size hpl
      split at h
      · cases h
      · rename_i hc
        simp only [not_or, Nat.not_lt, ne_eq, Decidable.not_not] at hc
        rw [afill_length h]
        simp
        omega

def partsOk (ι : Img) : List (Nat × AV) → List (Nat × Value) → Prop
  | [], [] => True
  | p :: ps, q :: qs => p.1 = q.1 ∧ conc ι p.2 = some q.2 ∧ partsOk ι ps qs
  | _, _ => False

theorem fill_ok {ι : Img} (place : Nat → Option (Nat × Nat)) : ∀ (parts : List (Nat × AV)) (cparts : List (Nat × Value)) (cells cs : List AV) (us : List Value), partsOk ι parts cparts → concs ι cells = some us → afill place cells parts = some cs →
    ∃ r, Instr.fill place us.toArray cparts = some r ∧ concs ι cs = some r.toList
  | [], [], cells, cs, us, _, hu, h => by simp [afill] at h; subst h; exact ⟨us.toArray, rfl, by simpa using hu⟩
  | (i, v) :: rest, (j, u) :: crest, cells, cs, us, hp, hu, h => by
    obtain ⟨e1, e2, e3⟩ := hp
    simp only at e1 e2
    subst e1
    simp only [afill] at h
    split at h
    · cases h
    · rename_i off size hpl
      split at h
      · cases h
      · rename_i hc
        have hvc := cells_conc e2
        have hvl := concs_length hvc
        have hul := concs_length hu
        have hsz : u.cells.size = v.cells.length := by simpa using hvl
        simp only [not_or, Nat.not_lt, ne_eq, Decidable.not_not] at hc
        have hu' : concs ι (cells.take off ++ v.cells ++ cells.drop (off + size)) = some (us.take off ++ u.cells.toList ++ us.drop (off + size)) :=
          concs_append (concs_append (concs_take hu _) hvc) (concs_drop hu _)
        obtain ⟨r, hr, hrc⟩ := fill_ok place rest crest _ cs _ e3 hu' h
        refine ⟨r, ?_, hrc⟩
        simp only [Instr.fill, hpl]
        rw [if_neg (by simp; omega)]
        rw [foldl_set_toList off u.cells us.toArray (by simp; omega)]
        rw [hsz, hc.1]
        exact hr
  | [], _ :: _, _, _, _, hp, _, _ => hp.elim
  | _ :: _, [], _, _, _, hp, _, _ => hp.elim

theorem partsA_ok {ι : Img} {m : TM} {a : Act} (hg : GlobOk ι) (h : TMok ι m a.tmps) {ps : Array (Nat × Operand)} {l : List (Nat × AV)} (hp : partsA m ps = some l) : partsOk ι l (ps.map fun (i, x) => (i, a.eval x)).toList := by
  obtain ⟨ps⟩ := ps
  simp only [partsA] at hp
  simp only [List.map_toArray]
  induction ps generalizing l with
  | nil => simp [mapO] at hp; subst hp; trivial
  | cons p ps ih =>
    obtain ⟨y, ys, rfl, hy, hys⟩ := mapO_cons hp
    split at hy
    · rename_i v hv
      cases hy
      exact ⟨rfl, ρ_ok hg h hv, ih hys⟩
    · cases hy

theorem repl_conc {ι : Img} {z : List AV} {u : List Value} (h : concs ι z = some u) : ∀ n, ∃ r, concs ι (repl z n) = some r ∧ r.length = n * u.length ∧ ∀ i, i < n * u.length → r[i]? = u[i % u.length]?
  | 0 => ⟨[], by simp [repl, concs], by simp, fun i hi => by omega⟩
  | n + 1 => by
    obtain ⟨r, hr, hl, hg⟩ := repl_conc h n
    refine ⟨u ++ r, concs_append h hr, by simp [hl, Nat.add_mul]; omega, fun i hi => ?_⟩
    by_cases hlt : i < u.length
    · rw [List.getElem?_append_left hlt, Nat.mod_eq_of_lt hlt]
    · rw [List.getElem?_append_right (by omega), hg _ (by rw [Nat.add_mul] at hi; omega)]
      congr 1
      exact (Nat.mod_eq_sub_mod (by omega)).symm

theorem mapM_places {w : World} : ∀ (fs : List Field) (pl : List (Nat × Nat)), mapO (fun (f : Field) => match szOf P f.type with | some n => some (f.offset, n) | none => none) fs = some pl →
    (fs.mapM (m := Sem) fun f => do pure (f.offset, ← sizeOf f.type)).run P w = .ok pl w
  | [], pl, h => by simp [mapO] at h; subst h; simp
  | f :: fs, pl, h => by
    obtain ⟨y, ys, rfl, hy, hys⟩ := mapO_cons h
    split at hy
    · rename_i n hn
      cases hy
      have ih := mapM_places (w := w) fs ys hys
      simp only [List.mapM_cons, Sem.run_bind, szOf_run hn, Result.andThen_ok, Sem.run_pure, ih]
    · cases hy

theorem free_build {A : AH} {ι : Img} {w : World} {t : TypeId} {ps : List (Nat × AV)} {qs : Array (Nat × Value)} {v : AV} (hp : partsOk ι ps qs.toList) (h : abuild P t ps = some v) :
    FreeRun P A ι w (do pure (.value (← Instr.build t qs))) v .none := by
  unfold abuild at h
  split at h
  · rename_i z fields hz hu
    obtain ⟨u, hzc, hzr⟩ := zeroOf_conc (P := P) ι hz w
    split at h
    · rename_i places hpl
      split at h
      · rename_i cs hcs
        cases h
        obtain ⟨r, hr, hrc⟩ := fill_ok _ _ _ _ _ _ hp (cells_conc hzc) hcs
        refine ⟨.agg r, w, ?_, rfl, by simp [conc, hrc]⟩
        have hm := mapM_places (P := P) (w := w) _ _ hpl
        simp only [Instr.build, Sem.run_bind, hzr, Result.andThen_ok, run_underlying hu, Array.mapM_eq_mapM_toList, Sem.run_map, hm]
        rw [show ((fun x => places.toArray[x]?) : Nat → Option (Nat × Nat)) = fun i => places[i]? from by funext i; simp]
        simp only [Array.toArray_toList] at hr
        simp only [hr, Sem.run_pure, Result.andThen_ok]
      · cases h
    · cases h
  · rename_i z n e hz hu
    obtain ⟨u, hzc, hzr⟩ := zeroOf_conc (P := P) ι hz w
    split at h
    · rename_i size hsz
      split at h
      · rename_i cs hcs
        cases h
        obtain ⟨r, hr, hrc⟩ := fill_ok _ _ _ _ _ _ hp (cells_conc hzc) hcs
        refine ⟨.agg r, w, ?_, rfl, by simp [conc, hrc]⟩
        simp only [Array.toArray_toList] at hr
        simp only [Instr.build, Sem.run_bind, hzr, Result.andThen_ok, run_underlying hu, szOf_run hsz, hr, Sem.run_pure]
      · cases h
    · cases h
  · cases h

theorem modGet (zero : Array Value) (n : Nat) (h : ∀ i, i < n → i % zero.size < zero.size) : ((Array.range n).map (zero[· % zero.size]!)).toList.length = n ∧ ∀ i, i < n → ((Array.range n).map (zero[· % zero.size]!)).toList[i]? = zero[i % zero.size]? := by
  refine ⟨by simp, fun i hi => ?_⟩
  simp [hi]
  have := h i hi
  simp [getElem!_def, Array.getElem?_eq_getElem this]

theorem replArr {ι : Img} {z : AV} {u : Value} {n : Nat} (h : conc ι z = some u) (hz : 0 < z.cells.length) : concs ι (repl z.cells n) = some ((Array.range (n * z.cells.length)).map (u.cells[· % u.cells.size]!)).toList := by
  have hc := cells_conc h
  have hl := concs_length hc
  obtain ⟨r, hr, hrl, hg⟩ := repl_conc hc n
  rw [hr]
  congr 1
  have hsz : u.cells.size = z.cells.length := by simpa using hl
  have hm := modGet u.cells (n * z.cells.length) (fun i _ => Nat.mod_lt _ (by omega))
  apply List.ext_getElem?
  intro i
  by_cases hi : i < n * z.cells.length
  · rw [hm.2 i hi, hg i (by rw [hl]; exact hi)]
    simp
  · rw [List.getElem?_eq_none (by rw [hrl, hl]; omega), List.getElem?_eq_none (by rw [hm.1]; omega)]

theorem free_buildSlice {A A' : AH} {t : TypeId} {len : Nat} {ps : List (Nat × AV)} {v : AV} (h : abuildSlice P A t len ps = some (v, A')) :
    ∃ eff, A' = Eff.app A eff ∧ ∀ (ι : Img) (w : World) (qs : Array (Nat × Value)), partsOk ι ps qs.toList → (eff ≠ .none → ι A.next = none) → FreeRun P A ι w (do pure (.value (← Instr.buildSlice t len qs))) v eff := by
  unfold abuildSlice at h
  split at h
  · rename_i e hu
    split at h
    · rename_i size z hsz hz
      split at h
      · rename_i hlen
        split at h
        · cases h
          refine ⟨.new _, rfl, fun ι w qs hp hn => ?_⟩
          have hq : qs = #[] := by
            cases hh : qs.toList with
            | nil => exact Array.toList_eq_nil_iff.1 hh
            | cons q qs' => rw [hh] at hp; exact hp.elim
          subst hq
          refine ⟨.slice (some ⟨w.heap.size, 0, none⟩) 0 0, { w with heap := w.heap.push (.cells #[] e) }, ⟨w.heap.size, 0, 0⟩, .cells #[] e, ?_, rfl, rfl, ⟨#[], (0, 0), by simp, cellsOk_new (us := []) (by simp [concs]) (by simp) (by simp) (unfrozen_zero _ _)⟩, rfl, by simp [conc, Img.set_same]⟩
          simp [Instr.buildSlice, run_underlying hu, szOf_run hsz, Instr.fill, newRow]
          subst hlen
          have h0 : Array.map (fun _ => (default : Value)) (Array.range 0) = #[] := Array.eq_empty_of_size_eq_zero (by simp)
          simp [h0]
        · cases h
      · rename_i hlen
        split at h
        · cases h
        · rename_i hc
          simp only [not_or] at hc
          split at h
          · rename_i cs hcs
            cases h
            refine ⟨.new _, rfl, fun ι w qs hp hn => ?_⟩
            obtain ⟨u, hzc, hzr⟩ := zeroOf_conc (P := P) ι hz w
            have hzl : z.cells.length = size := by have := hc.2.1; omega
            have hrep := replArr (n := len) hzc (by omega)
            obtain ⟨r, hr, hrc⟩ := fill_ok _ _ _ _ _ _ hp hrep hcs
            have hext := Img.set_ext ⟨w.heap.size, 0, 0⟩ (hn nofun)
            have hcl : cs.length = len * size := by
              rw [afill_length hcs]
              have := concs_length hrep
              simp only [Array.length_toList, Array.size_map, Array.size_range] at this
              rw [← this, hzl]
            refine ⟨.slice (some ⟨w.heap.size, 0, none⟩) len len, { w with heap := w.heap.push (.cells r e) }, ⟨w.heap.size, 0, 0⟩, .cells r e, ?_, rfl, rfl, ⟨r, (0, 0), by simp, ?_⟩, rfl, by simp [conc, Img.set_same]⟩
            · have h0 : ¬ (len * size = 0) := by
                intro h0; rcases Nat.mul_eq_zero.1 h0 with h0 | h0 <;> omega
              have h24 : ¬ (len * size > 2 ^ 24) := by have := hc.2.2; omega
              rw [hzl] at hr
              simp only [Array.toArray_toList] at hr
              simp only [Instr.buildSlice, Sem.run_bind, run_underlying hu, Result.andThen_ok, szOf_run hsz, if_neg h24, if_neg h0, hzr, Sem.run_pure, hr, newRow, run_newObj]
            · have := cellsOk_new (P := P) (b := w.heap.size) (ty := e) (cap := 0) (n := len * size) (sf := 0) (concs_mono hext _ _ hrc) (by rw [concs_length hrc, hcl]) (by simp) (unfrozen_zero _ _)
              simpa using this
          · cases h
    · cases h
  · cases h

end
end Go.Eng
