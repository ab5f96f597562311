/- THE ENGINE: every operation of the acting class. -/
import Derived.Test.YthifbjdpkipbaaaGreatDoorEng16
set_option linter.all false
namespace Go.Eng

/-- what an operation comes to -/
def ARok (ι : Img) : AR → Next → Prop
  | .val v, .value u => conc ι v = some u
  | .skip, .skip => True
  | .enter f args, .enter g us => f = g ∧ concs ι args = some us.toList
  | .round l L m, .round b fn tmps asg body => (∃ loc, ι l = some loc ∧ loc.block = b) ∧ asg = L.assign ∧ body = L.body ∧ TMok ι m tmps
  | _, _ => False

section
variable (P : Program)

def extOf (fn : Func) : Ext → (Array Value → Sem Value) → Prop
  | .indexByte, e => e = Extern.BytealgIndexByte.indexByte
  | .count, e => e = Extern.BytealgCount.count
  | .makeNoZero, e => e = Extern.BytealgMakeNoZero.makeNoZero fn.params fn.resultTypes
  | .same, e => e = Extern.AbiNoEscape.same
  | .overlaps, _ => False

structure CfgOk (cfg : Cfg) : Prop where
  name : ∀ (f : FuncId) (fn : Func), P.funcs[f]? = some fn → (fn.name == "runtime.NumGoroutine") = false
  ext : ∀ (f : FuncId) (e : Ext) (fn : Func), cfg.ext f = some e → P.funcs[f]? = some fn → ∃ x, Extern.findNext fn = none ∧ Extern.find fn = some x ∧ extOf fn e x

variable {P}

theorem findByte_spec (c : UInt8) : ∀ (s : List UInt8) (k : Nat), (match findByte c s k with | some i => (i : Int) = Lib.indexByte s c + k ∧ 0 ≤ Lib.indexByte s c | none => Lib.indexByte s c = -1)
  | [], k => by simp [findByte, Lib.indexByte]
  | b :: s, k => by
    have ih := findByte_spec c s (k + 1)
    have hge := Lib.indexByte_ge s c
    simp only [findByte, Lib.indexByte]
    by_cases hb : (b == c) = true
    · simp [hb]
    · simp only [hb]
      split at ih
      · rename_i i hi
        simp only [Bool.false_eq_true, if_false, hi]
        have : ¬ ((Lib.indexByte s c == -1) = true) := by simp; omega
        rw [if_neg this]
        omega
      · rename_i hi
        simp [hi, ih]

theorem digits_size : ∀ (n t : Nat) (acc : Array Value), (Extern.BytealgMakeNoZero.digits n t acc).size = acc.size + n
  | 0, _, _ => rfl
  | n + 1, t, acc => by
    rw [Extern.BytealgMakeNoZero.digits, digits_size n]
    simp; omega

theorem ext_ok {ι : Img} {A : AH} {w : World} (h : Rel P ι A w) {fn : Func} {e : Ext} {x : Array Value → Sem Value} (hx : extOf fn e x) {args : List AV} {us : List Value} {L : List (AR × AH)}
    (ha : aext P e fn.resultTypes.toList args A = some L) (hu : concs ι args = some us) (hn : ∀ y ∈ L, A.next < y.2.next → ι A.next = none) :
    ∃ y ∈ L, ∃ u w' ι', (x ⟨us⟩).run P w = .ok u w' ∧ ARok ι' y.1 (.value u) ∧ Step P ι A w ι' y.2 w' := by
  unfold aext at ha
  split at ha
  · rename_i s c
    obtain rfl : x = Extern.BytealgIndexByte.indexByte := hx
    simp [concs, conc] at hu; subst hu
    have hrun := Lib.run_indexByteString (P := P) ⟨⟨s⟩⟩ c w
    have hs := findByte_spec (UInt8.ofNat c.toNat) s 0
    split at ha
    · rename_i i hi
      cases ha
      rw [hi] at hs
      refine ⟨_, List.mem_singleton.2 rfl, _, w, ι, hrun, ?_, Step.refl h⟩
      show conc ι (.int .i64 (i : Int)) = _
      simp only [conc]
      have := hs.1
      simp only [Int.natCast_zero, Int.add_zero] at this
      rw [this]
    · rename_i hi
      cases ha
      rw [hi] at hs
      refine ⟨_, List.mem_singleton.2 rfl, _, w, ι, hrun, ?_, Step.refl h⟩
      show conc ι (.int .i64 (-1)) = _
      simp only [conc]
      rw [← hs]
  · rename_i s c
    obtain rfl : x = Extern.BytealgCount.count := hx
    simp [concs, conc] at hu; subst hu
    cases ha
    refine ⟨_, List.mem_singleton.2 rfl, _, w, ι, Lib.run_countString (P := P) ⟨⟨s⟩⟩ c w, ?_, Step.refl h⟩
    show conc ι (.int .i64 _) = _
    simp only [conc, Lib.countByte, List.count_eq_length_filter]
  · rename_i n
    obtain rfl : x = Extern.BytealgMakeNoZero.makeNoZero fn.params fn.resultTypes := hx
    simp [concs, conc] at hu; subst hu
    split at ha
    · rename_i t ts hts
      split at ha
      · rename_i e hu
        split at ha
        · rename_i hc
          obtain ⟨h0, h8, hsz⟩ := hc
          cases ha
          have hnx : ι A.next = none := hn _ (List.mem_singleton.2 rfl) (by simp [AH.newCells, AH.new])
          have hr0 : fn.resultTypes[0]? = some t := by rw [← Array.getElem?_toList, hts]; rfl
          obtain ⟨k, w1, hch, hW1⟩ := run_choose_cap (P := P) n.toNat 0 e w
          have hw1 := hW1.heap
          obtain ⟨by', hby⟩ : ∃ b, (choose (.extern "internal/bytealg.MakeNoZero.bytes" 0)).run P w1 = .ok b { w1 with drawn := w1.drawn + 1 } := ⟨_, rfl⟩
          have hcond : (decide (n < 0) || decide (n > 2 ^ 48)) = false := by simp; omega
          refine ⟨_, List.mem_singleton.2 rfl, .slice (some ⟨w.heap.size, 0, none⟩) n.toNat (n.toNat + k), { w1 with drawn := w1.drawn + 1, heap := w1.heap.push (.cells (Extern.BytealgMakeNoZero.digits (n.toNat + k) by' #[]) e) }, Img.set ι A.next ⟨w.heap.size, 0, n.toNat + k⟩, ?_, ?_, Step.alloc h (HeapIs.mk' (by simp only; rw [hw1]) hW1.all.2.1 hW1.all.2.2.1 hW1.all.2.2.2) hnx rfl ?_ rfl⟩
          · have hdef : Extern.BytealgMakeNoZero.makeNoZero fn.params fn.resultTypes #[.int .i64 n] = (do
                let some t := fn.resultTypes[0]? | stuck "bytealg.MakeNoZero: no result type"
                let .slice elem ← underlying t | stuck "bytealg.MakeNoZero: slice type expected"
                if n < 0 || n > 2 ^ 48 then runtimePanic (.error "makeslice: len out of range")
                let cap ← choose (.appendCap n.toNat 0 elem)
                askRoom cap
                let bytes ← choose (.extern "internal/bytealg.MakeNoZero.bytes" 0)
                let a ← newRow elem (Extern.BytealgMakeNoZero.digits cap bytes #[])
                pure (.slice (some a) n.toNat cap)) := rfl
            rw [hdef]
            simp only [hr0, Sem.run_bind, run_underlying hu, Result.andThen_ok, hcond, Bool.false_eq_true, if_false, Sem.run_pure, hch, run_askRoom, hby, newRow, newObj, Sem.run, hw1]
          · show conc _ (.slice _ _ _ _) = _
            have : 0 + n.toNat ≤ n.toNat + k := by omega
            simp only [conc, Img.set_same, if_pos this]
            rfl
          · refine ⟨_, (0, 0), by simp only; rw [hw1]; exact Array.getElem?_push_size, by simp [digits_size], by simp [digits_size, szOf_sz hsz], by simp, fun p v hp => ?_, unfrozen_zero _ _⟩
            simp [PT.setL] at hp
        · cases ha
      · cases ha
    · cases ha
  · rename_i y
    obtain rfl : x = Extern.AbiNoEscape.same := hx
    cases ha
    simp only [concs] at hu
    split at hu
    · rename_i u us' hu1 hu2
      cases hu; cases hu2
      exact ⟨_, List.mem_singleton.2 rfl, u, w, ι, rfl, hu1, Step.refl h⟩
    · cases hu
  · cases ha

theorem layParams_ok {ι : Img} : ∀ {ps : List Tmp} {args : List AV} {us : List Value} {m m' : TM} {tmps : Array Value}, layParams (ps.zip args) m = some m' → concs ι args = some us → TMok ι m tmps →
    TMok ι m' ((ps.zip us).foldl (fun tmps (t, a) => tmps.setIfInBounds t a) tmps)
  | [], _, _, _, _, _, h, _, ht => by simp [layParams] at h; subst h; simpa using ht
  | p :: ps, [], us, _, _, _, h, hu, ht => by simp [concs] at hu; subst hu; simp [layParams] at h; subst h; simpa using ht
  | p :: ps, x :: args, us, m, m', tmps, h, hu, ht => by
    simp only [concs] at hu
    split at hu
    · rename_i u us' hu1 hu2
      cases hu
      simp only [List.zip_cons_cons, layParams] at h
      split at h
      · rename_i m1 hm1
        have h1 : TMok ι m1 (tmps.setIfInBounds p u) := TMok.put (a := ⟨tmps, []⟩) ht hm1 hu1
        exact layParams_ok (ps := ps) (args := args) h hu2 h1
      · cases h
    · cases hu

theorem concs_two {ι : Img} {x y : AV} {us : List Value} (h : concs ι [x, y] = some us) : ∃ u v, us = [u, v] ∧ conc ι x = some u ∧ conc ι y = some v := by
  simp only [concs] at h
  split at h
  · rename_i u us' hu hus
    split at hus
    · rename_i v vs hv hvs
      cases h; cases hus; cases hvs
      exact ⟨u, v, rfl, hu, hv⟩
    · cases hus
  · cases h

theorem concs_one {ι : Img} {x : AV} {us : List Value} (h : concs ι [x] = some us) : ∃ u, us = [u] ∧ conc ι x = some u := by
  simp only [concs] at h
  split at h
  · rename_i u us' hu hus
    cases h; cases hus
    exact ⟨u, rfl, hu⟩
  · cases h

theorem skipO_some {A : Option AH} {L : List (AR × AH)} (h : skipO A = some L) : ∃ A', A = some A' ∧ L = [(.skip, A')] := by
  cases A with
  | none => cases h
  | some A => cases h; exact ⟨A, rfl, rfl⟩

def stored (P : Program) (base : Option Addr) (uc : List Value) (w w' : World) : Prop := match base with
  | some a => (storeCells a uc).run P w = .ok () w'
  | none => w' = w

/-- what a builtin that acts comes to -/
def BuiltinOk (P : Program) (ι : Img) (A : AH) (w : World) (b : Builtin) (ts : Array TypeId) (ty : TypeId) (us : List Value) (L : List (AR × AH)) : Prop :=
  ∃ x ∈ L, ∃ (n : Next) (w' : World) (ι' : Img), (∀ consts, (builtin b ts ty consts ⟨us⟩).run P w = .ok n w') ∧ ARok ι' x.1 n ∧ Step P ι A w ι' x.2 w'

set_option maxHeartbeats 2000000 in
theorem builtin_ok {ι : Img} {A : AH} {w : World} (h : Rel P ι A w) {b : Builtin} {ts : Array TypeId} {ty : TypeId} {args : List AV} {us : List Value} {L : List (AR × AH)} (hl : abuiltin P b ts.toList args A = some L)
    (hb : b ≠ .len) (hb2 : idle b = false) (hu : concs ι args = some us) (hn : ∀ y ∈ L, A.next < y.2.next → ι A.next = none) : BuiltinOk P ι A w b ts ty us L := by
  have t0 : ∀ {t : TypeId} {r : List TypeId}, ts.toList = t :: r → ts[0]? = some t := fun e => by rw [← Array.getElem?_toList, e]; rfl
  have t1 : ∀ {t u : TypeId} {r : List TypeId}, ts.toList = t :: u :: r → ts[1]? = some u := fun e => by rw [← Array.getElem?_toList, e]; rfl
  unfold abuiltin at hl
  split at hl
  · exact absurd rfl hb
  · simp [idle] at hb2
  · -- append
    rename_i t u s x hts
    obtain ⟨us0, ux, rfl, hs, hx⟩ := concs_two hu
    have h0 := t0 hts
    have h1 := t1 hts
    have a0 : (⟨[us0, ux]⟩ : Array Value)[0]? = some us0 := rfl
    have a1 : (⟨[us0, ux]⟩ : Array Value)[1]? = some ux := rfl
    split at hl
    · rename_i e hu'
      split at hl
      · rename_i size k hsz huk
        split at hl
        · rename_i z j m hz
          split at hl
          · rename_i hc
            obtain ⟨hc0, hc8, hg⟩ := hc
            obtain ⟨v, A', hv, rfl⟩ := oneA_some hl
            obtain ⟨z', b', hb', hb5, _, hzs, hzr⟩ := grow_facts hg ι
            obtain ⟨uz, huz, hrz⟩ := zeroOf_conc (P := P) ι hz w
            obtain rfl : uz = z' := by have := hrz.symm.trans (hzr w); cases this; rfl
            have e1 := conc_int hx; subst e1
            obtain ⟨r, w', ι', hrun, hcr, hstep⟩ := append_ok (ty := ty) h hv hs h0 a0 hu' hsz (zeroCells_conc huz) (.zeros u k j m uz b' h1 huk a1 hc0 hc8 hzr hzs hb' hb5) (fun hlt => hn _ (List.mem_singleton.2 rfl) hlt)
            exact ⟨_, List.mem_singleton.2 rfl, .value r, w', ι', fun _ => by simp [builtin, hrun], hcr, hstep⟩
          · cases hl
        · cases hl
      · rename_i size dd hnk hsz hd
        split at hl
        · rename_i n hn'
          split at hl
          · rename_i new hnew
            obtain ⟨v, A', hv, rfl⟩ := oneA_some hl
            obtain ⟨us', hus', hf⟩ := firstCells_ok (P := P) h hnew hx
            obtain ⟨r, w', ι', hrun, hcr, hstep⟩ := append_ok (ty := ty) h hv hs h0 a0 hu' hsz hus' (.elems u dd ux n us' h1 hd (fun k e => hnk k (by rw [← e])) a1 (fun w => lenOf_ok hn' hx w) hf) (fun hlt => hn _ (List.mem_singleton.2 rfl) hlt)
            exact ⟨_, List.mem_singleton.2 rfl, .value r, w', ι', fun _ => by simp [builtin, hrun], hcr, hstep⟩
          · cases hl
        · cases hl
      · cases hl
    · cases hl
  · -- copy
    rename_i t r d x hts
    obtain ⟨ud, ux, rfl, hd, hx⟩ := concs_two hu
    have h0 := t0 hts
    split at hl
    · rename_i e hu'
      split at hl
      · rename_i size dl xl hsz hdl hxl
        split at hl
        · rename_i cs hcs
          obtain ⟨uc, huc, hf⟩ := firstCells_ok (P := P) h hcs hx
          have hlen := lenOf_ok (P := P) hxl hx w
          have hfw := hf w rfl
          have hucl := concs_length huc
          have fin : ∀ base k w', ud = .slice base dl k → stored P base uc w w' → (Builtin.copy_ ts ty ⟨[ud, ux]⟩).run P w = .ok (.int .i64 (min xl dl : Nat)) w' := by
            intro base k w' e hst
            subst e
            have a0 : (⟨[.slice base dl k, ux]⟩ : Array Value)[0]? = some (.slice base dl k) := rfl
            have a1 : (⟨[.slice base dl k, ux]⟩ : Array Value)[1]? = some ux := rfl
            have hmin : Nat.min xl dl = min xl dl := rfl
            cases base with
            | none => simp only [stored] at hst; subst hst; simp only [Builtin.copy_, h0, a0, a1, Sem.run_bind, run_underlying hu', Result.andThen_ok, hlen, szOf_run hsz, hmin, hfw, Sem.run_pure]; rfl
            | some a => simp only [stored] at hst; simp only [Builtin.copy_, h0, a0, a1, Sem.run_bind, run_underlying hu', Result.andThen_ok, hlen, szOf_run hsz, hmin, hfw, Sem.run_pure, hst]; rfl
          have done : ∀ A' w' ι' base k, L = [(.val (.int .i64 (min xl dl : Nat)), A')] → ud = .slice base dl k → stored P base uc w w' → Step P ι A w ι' A' w' → BuiltinOk P ι A w .copy ts ty [ud, ux] L := by
            intro A' w' ι' base k e1 e2 e3 e4
            subst e1
            exact ⟨_, List.mem_singleton.2 rfl, .value _, w', ι', fun _ => by simp only [builtin, Sem.run_bind, fin base k w' e2 e3, Result.andThen_ok, Sem.run_pure], rfl, e4⟩
          split at hl
          · rename_i f o n' c
            simp only [AV.sliceLen, Option.some.injEq] at hdl
            subst hdl
            obtain ⟨l, k, hlc, rfl, _⟩ := slice_conc hd
            split at hl
            · rename_i h00
              have : uc = [] := List.length_eq_zero_iff.1 (by omega)
              subst this
              cases hl
              exact done A w ι _ _ rfl rfl (by simp [stored, storeCells]) (Step.refl h)
            · split at hl
              · rename_i A1 hw
                cases hl
                obtain ⟨l', o', hl', hrun, hstep, _⟩ := write_ok h hw huc
                rw [hlc] at hl'; cases hl'
                exact done A1 _ ι _ _ rfl rfl hrun hstep
              · cases hl
          · split at hl
            · cases hl
              simp only [AV.sliceLen, Option.some.injEq] at hdl
              subst hdl
              simp only [conc, Option.some.injEq] at hd
              exact done A w ι none 0 rfl hd.symm rfl (Step.refl h)
            · cases hl
          · split at hl
            · rename_i h00
              have : uc = [] := List.length_eq_zero_iff.1 (by omega)
              subst this
              cases hl
              simp only [AV.sliceLen, Option.some.injEq] at hdl
              subst hdl
              simp only [conc] at hd
              split at hd
              · simp only [Option.some.injEq] at hd
                exact done A w ι _ _ rfl hd.symm (by simp [stored, storeCells]) (Step.refl h)
              · cases hd
            · cases hl
          · cases hl
        · cases hl
      · cases hl
    · cases hl
  · -- delete
    rename_i t r mm k hts
    obtain ⟨um, uk, rfl, hm, hk⟩ := concs_two hu
    have h0 := t0 hts
    have a0 : (⟨[um, uk]⟩ : Array Value)[0]? = some um := rfl
    have a1 : (⟨[um, uk]⟩ : Array Value)[1]? = some uk := rfl
    split at hl
    · rename_i kt e f hu'
      split at hl
      · cases hl
      rename_i hpk
      have hp : plainKey P kt = true := by simp at hpk; exact hpk.1
      have hf : keyFits P kt k = true := by simp at hpk; exact hpk.2
      split at hl
      · rename_i es clock hlook
        split at hl
        · rename_i i en hfk
          cases hl
          obtain ⟨w', hrun, hstep⟩ := delete_ok (ty := ty) h hu' hp hf hlook hfk rfl hm hk h0 a0 a1
          exact ⟨_, List.mem_singleton.2 rfl, .value (.tuple #[]), w', ι, fun _ => by simp [builtin, hrun], rfl, hstep⟩
        · rename_i hfk
          cases hl
          obtain ⟨w', hrun, hstep⟩ := delete_ok (ty := ty) h hu' hp hf hlook hfk rfl hm hk h0 a0 a1
          exact ⟨_, List.mem_singleton.2 rfl, .value (.tuple #[]), w', ι, fun _ => by simp [builtin, hrun], rfl, hstep⟩
        · cases hl
      · cases hl
    · cases hl
  · -- clear
    rename_i t r x hts
    obtain ⟨ux, rfl, hx⟩ := concs_one hu
    have h0 := t0 hts
    have a0 : (⟨[ux]⟩ : Array Value)[0]? = some ux := rfl
    split at hl
    · rename_i e hu'
      cases hl
      simp only [conc, Option.some.injEq] at hx; subst hx
      exact ⟨_, List.mem_singleton.2 rfl, .value (.tuple #[]), w, ι, fun _ => by simp [builtin, Builtin.clear_, h0, run_underlying hu'], rfl, Step.refl h⟩
    · rename_i e k hu'
      cases hl
      simp only [conc] at hx
      split at hx
      · simp only [Option.some.injEq] at hx; subst hx
        exact ⟨_, List.mem_singleton.2 rfl, .value (.tuple #[]), w, ι, fun _ => by simp [builtin, Builtin.clear_, h0, run_underlying hu'], rfl, Step.refl h⟩
      · cases hx
    · rename_i e f o n c hu'
      obtain ⟨l, k, hlc, rfl, _⟩ := slice_conc hx
      split at hl
      · rename_i hn0
        subst hn0
        cases hl
        exact ⟨_, List.mem_singleton.2 rfl, .value (.tuple #[]), w, ι, fun _ => by simp [builtin, Builtin.clear_, h0, run_underlying hu'], rfl, Step.refl h⟩
      · rename_i hn0
        split at hl
        · rename_i z sz hz hsz
          split at hl
          · rename_i hzl
            split at hl
            · rename_i A1 hw
              cases hl
              obtain ⟨uz, huz, hrz⟩ := zeroOf_conc (P := P) ι hz w
              obtain ⟨l', o', hl', hrun, hstep, _⟩ := write_ok h hw (zeroCells_conc huz)
              rw [hlc] at hl'; cases hl'
              obtain ⟨n', rfl⟩ : ∃ n', n = n' + 1 := ⟨n - 1, by omega⟩
              exact ⟨_, List.mem_singleton.2 rfl, .value (.tuple #[]), _, ι, fun _ => by simp [builtin, Builtin.clear_, h0, run_underlying hu', hrz, hrun], rfl, hstep⟩
            · cases hl
          · cases hl
        · cases hl
    · cases hl
  · simp [idle] at hb2
  · simp [idle] at hb2
  · -- unsafe.SliceData
    rename_i t r f o n c hts
    obtain ⟨ux, rfl, hx⟩ := concs_one hu
    obtain ⟨l, k, hlc, rfl, hk⟩ := slice_conc hx
    split at hl
    · have fin : k ≠ 0 → L = [(.val (.ptr f o), A)] → BuiltinOk P ι A w .unsafeSliceData ts ty [.slice (some ⟨l.block, l.lo + o, none⟩) n k] L := fun hk0 e => by
        subst e
        refine ⟨_, List.mem_singleton.2 rfl, .value (.pointer (some ⟨l.block, l.lo + o, none⟩)), w, ι, fun _ => ?_, by show conc _ (.ptr f o) = _; simp [conc, hlc], Step.refl h⟩
        have := Lib.run_unsafeSliceData_row (P := P) w ts ty ⟨l.block, l.lo + o, none⟩ n k hk0
        simp [builtin, this]
      cases c with
      | ex cn =>
        have hk' : k = cn := hk
        simp only at hl
        split at hl
        · cases hl
        · cases hl; exact fin (by omega) rfl
      | gr sk rm =>
        have hk' : sk + rm ≤ l.cap ∧ k = l.cap - sk := hk
        simp only at hl
        split at hl
        · cases hl
        · cases hl; exact fin (by omega) rfl
    · cases hl
  · -- unsafe.String
    rename_i t r f o j n hts
    obtain ⟨up, un, rfl, hp, hun⟩ := concs_two hu
    have h0 := t0 hts
    have e1 := conc_int hun; subst e1
    split at hl
    · cases hl
    rename_i hn0
    split at hl
    · cases hl
    rename_i hn8
    split at hl
    · rename_i e c m ty' g sf hu' hf
      split at hl
      · split at hl
        · rename_i hc
          split at hl
          · rename_i vs hvs
            split at hl
            · rename_i bs hbs
              split at hl
              · rename_i hown
                cases hl
                obtain ⟨w', hrun, hstep⟩ := unsafeString_ok (rt := ty) (j := j) h hn0 hn8 hu' hf hc.1 hc.2.1 hc.2.2 hvs hbs hown h0 hp
                exact ⟨_, List.mem_singleton.2 rfl, .value _, w', ι, fun _ => by simp only [builtin, Sem.run_bind, hrun, Result.andThen_ok, Sem.run_pure], rfl, hstep⟩
              · cases hl
            · cases hl
          · cases hl
        · cases hl
      · cases hl
    · cases hl
  · cases hl

end
end Go.Eng
