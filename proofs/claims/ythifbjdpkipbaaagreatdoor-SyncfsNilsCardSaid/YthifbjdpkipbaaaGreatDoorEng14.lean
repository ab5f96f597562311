/- THE ENGINE: operations that act: slices. -/
import Derived.Test.YthifbjdpkipbaaaGreatDoorEng13
import Derived.Lib.AppendStr
set_option linter.all false
namespace Go.Eng

section
variable {P : Program}

theorem lenOf_ok {ι : Img} {x : AV} {u : Value} {n : Nat} (h : x.sliceLen = some n) (hx : conc ι x = some u) (w : World) : (Builtin.lenOf u).run P w = .ok n w := by
  unfold AV.sliceLen at h
  split at h
  · cases h; simp only [conc] at hx; cases hx; rfl
  · cases h; simp only [conc] at hx; split at hx
    · cases hx; rfl
    · cases hx
  · rename_i f o n' c
    cases h
    cases c <;> simp only [conc] at hx <;> split at hx
    · cases hx; rfl
    · cases hx
    · split at hx
      · cases hx; rfl
      · cases hx
    · cases hx
  · cases h
    have e := conc_str hx; subst e; rfl
  · cases h

theorem slice_conc {ι : Img} {f o len : Nat} {c : Cap} {u : Value} (hx : conc ι (.slice f o len c) = some u) : ∃ l k, ι f = some l ∧ u = .slice (some ⟨l.block, l.lo + o, none⟩) len k ∧ (match c with | .ex n => k = n | .gr skip room => skip + room ≤ l.cap ∧ k = l.cap - skip) := by
  cases c <;> simp only [conc] at hx <;> split at hx
  · rename_i l hl; cases hx; exact ⟨l, _, hl, rfl, rfl⟩
  · cases hx
  · rename_i l hl
    split at hx
    · rename_i hc; cases hx; exact ⟨l, _, hl, rfl, hc, rfl⟩
    · cases hx
  · cases hx

theorem firstCells_ok {ι : Img} {A : AH} {w : World} (h : Rel P ι A w) {sz n : Nat} {x : AV} {vs : List AV} {u : Value} (ha : acells A sz n x = some vs) (hx : conc ι x = some u) :
    ∃ us, concs ι vs = some us ∧ ∀ w' : World, w'.heap = w.heap → (Builtin.firstCells sz n u).run P w' = .ok us.toArray w' := by
  unfold acells at ha
  split at ha
  · split at ha
    · cases ha; simp only [conc] at hx; cases hx; exact ⟨[], by simp [concs], fun w' _ => rfl⟩
    · cases ha
  · split at ha
    · rename_i h0; cases ha; subst h0
      simp only [conc] at hx; split at hx
      · cases hx; exact ⟨[], by simp [concs], fun w' _ => by simp [Builtin.firstCells, loadCells, loadCellsFrom]⟩
      · cases hx
    · cases ha
  · rename_i f o len c
    obtain ⟨l, k, hl, rfl, _⟩ := slice_conc hx
    split at ha
    · rename_i h0
      cases ha
      exact ⟨[], by simp [concs], fun w' _ => by simp [Builtin.firstCells, loadCells, loadCellsFrom, h0]⟩
    · obtain ⟨l', us, hl', hus, _, _, _⟩ := read_ok h ha
      refine ⟨us, hus, fun w' hw' => ?_⟩
      obtain ⟨l'', us', hl'', hus', _, hrun, _⟩ := read_ok (h.congr hw') ha
      rw [hl] at hl''; cases hl''
      rw [hus] at hus'; cases hus'
      simpa [Builtin.firstCells] using hrun
  · rename_i s
    cases ha
    have e := conc_str hx; subst e
    refine ⟨_, bytes_conc ι _, fun w' _ => ?_⟩
    simp only [Builtin.firstCells, Sem.run_pure, ByteArray.data_extract]
    congr 1
    apply Array.toList_inj.1
    simp
  · cases ha

theorem store_ok {ι : Img} {A A' : AH} {w : World} (h : Rel P ι A w) {t : TypeId} {f o : Nat} {v : AV} {ua uv : Value} (hs : astore P A t f o v = some A') (ha : conc ι (.ptr f o) = some ua) (hv : conc ι v = some uv) :
    ∃ w', (Instr.storeAt t ua uv).run P w = .ok () w' ∧ Step P ι A w ι A' w' ∧ A'.next = A.next := by
  unfold astore at hs
  split at hs
  · rename_i n hn
    split at hs
    · rename_i hlen
      simp only [conc] at ha
      split at ha
      · rename_i l hl
        cases ha
        obtain ⟨l', o', hl', hrun, hstep, hnx⟩ := write_ok h hs (cells_conc hv)
        rw [hl] at hl'; cases hl'
        have hc := concs_length (cells_conc hv)
        have hsz : ¬ (uv.cells.size ≠ n) := by rw [← Array.length_toList, hc]; omega
        refine ⟨_, ?_, hstep, hnx⟩
        simp only [Instr.storeAt, Instr.sureAddr, Sem.run_bind, Sem.run_pure, Result.andThen_ok, storeVar, szOf_run hn, if_neg hsz, hrun]
      · cases ha
    · cases hs
  · cases hs

/-! ## append -/

theorem growBy_le (n : Nat) : ∀ r c, Builtin.growBy n r c ≤ max c (n + (n + 768) / 4)
  | 0, c => by simp [Builtin.growBy]; omega
  | r + 1, c => by
    unfold Builtin.growBy
    split
    · omega
    · have := growBy_le n r (c + (c + 768) / 4)
      omega

theorem nextcap_le {need cap : Nat} (h : cap < need) : Builtin.nextslicecap need cap ≤ 2 * need + 768 := by
  unfold Builtin.nextslicecap
  split
  · omega
  · split
    · omega
    · have := growBy_le need 4 cap
      omega

/-- what is appended -/
inductive AppArg (P : Program) (e : TypeId) (size : Nat) (ts : Array TypeId) (args : Array Value) (w : World) : Nat → List Value → Prop
  | zeros (u : TypeId) (k j : IntKind) (m : Int) (z : Value) (b : Nat) (h1 : ts[1]? = some u) (h2 : P.underlying u = some (.int k)) (h3 : args[1]? = some (.int j m)) (h0 : 0 ≤ m) (hm : m < 100000000)
      (hz : ∀ w : World, (zeroValue e).run P w = .ok z w) (hzl : z.cells.size = size) (hb : bytesOf P e = some b) (hb' : b < 100000) : AppArg P e size ts args w m.toNat (Builtin.zeroCells z.cells m.toNat).toList
  | elems (u : TypeId) (d : TypeDesc) (x : Value) (n : Nat) (us : List Value) (h1 : ts[1]? = some u) (h2 : P.underlying u = some d) (hd : ∀ k, d ≠ .int k) (h3 : args[1]? = some x)
      (hl : ∀ w : World, (Builtin.lenOf x).run P w = .ok n w) (hf : ∀ w' : World, w'.heap = w.heap → (Builtin.firstCells size n x).run P w' = .ok us.toArray w') : AppArg P e size ts args w n us

theorem bytes_info {e : TypeId} {b : Nat} (h : bytesOf P e = some b) : ∃ i, P.info? e = some i ∧ i.bytes = b ∧ ∀ w : World, (typeInfo e).run P w = .ok i w := by
  unfold bytesOf at h
  split at h
  · rename_i i hi; cases h; exact ⟨i, hi, rfl, fun w => by simp [typeInfo, hi]⟩
  · cases h

theorem matchInt_false {d : TypeDesc} (hd : ∀ k, d ≠ .int k) : (match d with | .int _ => true | _ => false) = false := by
  cases d <;> first | rfl | exact absurd rfl (hd _)

theorem run_append_room {ts : Array TypeId} {ty t e : TypeId} {args : Array Value} {base : Option Addr} {sLen sCap size n : Nat} {us : List Value} {w w' : World}
    (h0 : ts[0]? = some t) (ha0 : args[0]? = some (.slice base sLen sCap)) (hu : P.underlying t = some (.slice e)) (hsz : szOf P e = some size) (hx : AppArg P e size ts args w n us) (hroom : sLen + n ≤ sCap)
    (hst : match base with | some a => (storeCells (a.add (sLen * size)) us).run P w = .ok () w' | none => w' = w) :
    (Builtin.append_ ts ty args).run P w = .ok (.slice base (sLen + n) sCap) w' := by
  cases hx with
  | zeros u k j m z b h1 h2 h3 hm0 hm hz hzl hb hb' =>
    obtain ⟨i, hi, hib, hti⟩ := bytes_info hb
    have hw : IntKind.i64.wrap m = m := wrap64_small hm0 (by omega)
    have hn0 : ¬ (m < 0) := by omega
    have hbig : ¬ (m * (b : Int) > 2 ^ 48) := by
      have : m * (b : Int) ≤ 100000000 * 100000 := Int.mul_le_mul (by omega) (by omega) (by omega) (by omega)
      omega
    have hnew : (if m.toNat * size = 0 then pure #[] else do pure (Builtin.zeroCells (← zeroValue e).cells m.toNat) : Sem (Array Value)).run P w = .ok (Builtin.zeroCells z.cells m.toNat) w := by
      split
      · rename_i hz0
        have : Builtin.zeroCells z.cells m.toNat = #[] := Array.eq_empty_of_size_eq_zero (by simp [Builtin.zeroCells, hzl, hz0])
        rw [this]; rfl
      · simp [hz]
    simp only [Builtin.append_, h0, ha0, h3, Sem.run_bind, run_underlying hu, Result.andThen_ok, szOf_run hsz, h1, run_underlying h2, Sem.run_pure, if_true, asInt, asIntOf, hw, if_neg hn0, hti, hib, if_neg hbig, if_pos hroom, Bool.not_true, Bool.false_eq_true, if_false, hnew]
    cases base with
    | none => simp only at hst; subst hst; simp
    | some a => simp only at hst; simp [hst]
  | elems u d x n us h1 h2 hd h3 hl hf =>
    have hmi := matchInt_false hd
    simp only [Builtin.append_, h0, ha0, h3, Sem.run_bind, run_underlying hu, Result.andThen_ok, szOf_run hsz, h1, run_underlying h2, Sem.run_pure, hmi, Bool.false_eq_true, if_false, hl, if_pos hroom, Bool.not_false, if_true, hf w rfl]
    cases base with
    | none => simp only at hst; subst hst; simp
    | some a => simp only at hst; simp [hst]

theorem run_choose_cap (need old : Nat) (e : TypeId) (w : World) : ∃ k w', (choose (.appendCap need old e)).run P w = .ok (need + k) w' ∧ HeapIs w w' w.heap :=
  ⟨w.tape w.drawn (.appendCap need old e) % (2 ^ 63 - need), { w with drawn := w.drawn + 1 }, by simp [choose, Sem.run, Question.forced, Question.cut], rfl⟩

theorem run_append_grow {ts : Array TypeId} {ty t e : TypeId} {args : Array Value} {base : Option Addr} {sLen sCap size n b : Nat} {us old : List Value} {w : World} {z : Value}
    (h0 : ts[0]? = some t) (ha0 : args[0]? = some (.slice base sLen sCap)) (hu : P.underlying t = some (.slice e)) (hsz : szOf P e = some size) (hx : AppArg P e size ts args w n us) (hroom : ¬ sLen + n ≤ sCap)
    (hb : bytesOf P e = some b) (hb' : b < 100000) (hz : ∀ w : World, (zeroValue e).run P w = .ok z w) (hsl : sLen < 100000000) (hn : n < 100000000) (hs0 : size ≠ 0) (hn0 : n ≠ 0)
    (hold : ∀ w' : World, w'.heap = w.heap → (Builtin.firstCells size sLen (.slice base sLen sCap)).run P w' = .ok old.toArray w') :
    ∃ k w', (Builtin.append_ ts ty args).run P w = .ok (.slice (some ⟨w.heap.size, 0, none⟩) (sLen + n) (sLen + n + k)) w' ∧ HeapIs w w' (w.heap.push (.cells (old.toArray ++ us.toArray ++ Builtin.zeroCells z.cells k) e (0, 0))) := by
  obtain ⟨i, hi, hib, hti⟩ := bytes_info hb
  obtain ⟨k, w1, hch, hW1⟩ := run_choose_cap (P := P) (sLen + n) sCap e w
  have hw1 := hW1.heap
  have hmax : IntKind.i64.max = 9223372036854775807 := rfl
  have hbig : ¬ (Builtin.nextslicecap (sLen + n) sCap * b > 2 ^ 48) := by
    have h1 := nextcap_le (need := sLen + n) (cap := sCap) (by omega)
    have : Builtin.nextslicecap (sLen + n) sCap * b ≤ (2 * (sLen + n) + 768) * 100000 := Nat.mul_le_mul h1 (by omega)
    omega
  have hneed : ∀ p : Prop, ¬ (((sLen + n : Nat) : Int) > IntKind.i64.max ∧ p) := fun p h => by have := h.1; rw [hmax] at this; omega
  have hkk : sLen + n + k - (sLen + n) = k := by omega
  refine ⟨k, { w1 with heap := w1.heap.push (.cells (old.toArray ++ us.toArray ++ Builtin.zeroCells z.cells k) e (0, 0)) }, ?_, by rw [← hw1]; exact HeapIs.mk' rfl hW1.all.2.1 hW1.all.2.2.1 hW1.all.2.2.2⟩
  have hwz : w1.heap.size = w.heap.size := by rw [hw1]
  cases hx with
  | zeros u kk j m z' b2 h1 h2 h3 hm0 hm hz' hzl hb2 hb2' =>
    have hzz : z' = z := by have := (hz' w).symm.trans (hz w); cases this; rfl
    subst hzz
    rw [hb] at hb2; cases hb2
    have hw : IntKind.i64.wrap m = m := wrap64_small hm0 (by omega)
    have hm' : ¬ (m < 0) := by omega
    have hbigm : ¬ (m * (b : Int) > 2 ^ 48) := by
      have : m * (b : Int) ≤ 100000000 * 100000 := Int.mul_le_mul (by omega) (by omega) (by omega) (by omega)
      omega
    have hns : ¬ (m.toNat * size = 0) := fun h => by rcases Nat.mul_eq_zero.1 h with h | h <;> omega
    simp only [Builtin.append_, h0, ha0, h3, Sem.run_bind, run_underlying hu, Result.andThen_ok, szOf_run hsz, h1, run_underlying h2, Sem.run_pure, if_true, asInt, asIntOf, hw, if_neg hm', hti, hib, if_neg hbigm, if_neg hroom, if_neg (hneed _), if_neg hbig, hch, run_askRoom, hold w1 hw1, Bool.not_true, Bool.false_eq_true, if_false, if_neg hns, hz, hkk, newRow, newObj, Sem.run, hwz]
  | elems u d x n us h1 h2 hd h3 hl hf =>
    have hmi := matchInt_false hd
    simp only [Builtin.append_, h0, ha0, h3, Sem.run_bind, run_underlying hu, Result.andThen_ok, szOf_run hsz, h1, run_underlying h2, Sem.run_pure, hmi, Bool.false_eq_true, if_false, hl, hti, hib, if_neg hroom, if_neg (hneed _), if_neg hbig, hch, run_askRoom, hold w1 hw1, Bool.not_false, if_true, hf w1 hw1, hz, hkk, newRow, newObj, Sem.run, hwz]

end
end Go.Eng
