/- THE ENGINE: the other operations that hang on their operands alone. -/
import Derived.Test.YthifbjdpkipbaaaGreatDoorEng5
import Derived.Laws.Strings
import Derived.Laws.Strings2
import Derived.Laws.Concat
set_option linter.all false
namespace Go.Eng

section
variable {P : Program}

theorem apart_ok {ι : Img} {t : TypeId} {cs : List AV} {us : List Value} {off : Nat} {v : AV} (hu : concs ι cs = some us) (h : apart P t cs off = some v) (w : World) :
    ∃ u, conc ι v = some u ∧ (part t us.toArray off).run P w = .ok u w := by
  unfold apart at h
  split at h
  · rename_i ha
    split at h
    · rename_i n hn
      cases h
      refine ⟨.agg (us.toArray.extract off (off + n)), ?_, by simp [part, isAggT_run ha, szOf_run hn]⟩
      have := concs_take (concs_drop hu off) n
      simp only [conc, this]
      congr 2
      simp
    · cases h
  · rename_i ha
    obtain ⟨b, hb, hc⟩ := concs_get hu _ _ h
    exact ⟨b, hc, by simp [part, isAggT_run ha, hb]⟩
  · cases h

theorem free_val {A : AH} {ι : Img} {w : World} {s : Sem Value} {v : AV} {u : Value} (hr : s.run P w = .ok u w) (hc : conc ι v = some u) : FreeRun P A ι w (do pure (.value (← s))) v .none :=
  ⟨u, w, by simp [hr], rfl, hc⟩

theorem conc_int {ι : Img} {k : IntKind} {n : Int} {u : Value} (h : conc ι (.int k n) = some u) : u = .int k n := by simp [conc] at h; exact h.symm
theorem conc_str {ι : Img} {s : List UInt8} {u : Value} (h : conc ι (.str s) = some u) : u = .string ⟨⟨s⟩⟩ := by simp [conc] at h; exact h.symm
theorem conc_bool {ι : Img} {b : Bool} {u : Value} (h : conc ι (.bool b) = some u) : u = .bool b := by simp [conc] at h; exact h.symm

theorem run_binInt {op : BinOp} {t : TypeId} {k : IntKind} {x y : Int} {v : AV} (ι : Img) (w : World) (h : abinInt op k x y = some v) : ∃ u, conc ι v = some u ∧ (binOp op t (.int k x) (.int k y)).run P w = .ok u w := by
  cases op <;> simp only [abinInt] at h
  case quo | rem =>
    split at h
    · cases h
    · rename_i hy
      cases h
      exact ⟨_, rfl, by simp [binOp, Op.intDiv, hy]⟩
  case shl | shr => cases h
  all_goals
    cases h
    exact ⟨_, rfl, by simp [binOp, Op.intArith, Op.intBits, Op.intCmp]⟩

theorem run_shift {op : BinOp} {t : TypeId} {k j : IntKind} {x y : Int} {v : AV} (ι : Img) (w : World) (hop : op = .shl ∨ op = .shr) (h : ashift op k x y = some v) : ∃ u, conc ι v = some u ∧ (binOp op t (.int k x) (.int j y)).run P w = .ok u w := by
  unfold ashift at h
  split at h
  · cases h
  · rename_i hy
    rcases hop with rfl | rfl <;> (simp only at h; cases h; exact ⟨_, rfl, by simp [binOp, Op.shift, hy]⟩)

theorem strLess_eq : ∀ a b : List UInt8, strLess a b = Op.bytesLess a b
  | a, [] => by cases a <;> rfl
  | [], _ :: _ => rfl
  | a :: x, b :: y => by simp [strLess, Op.bytesLess, strLess_eq x y]

theorem run_strOp {op : BinOp} {a b : List UInt8} {v : AV} (ι : Img) (w : World) (h : astrOp op a b = some v) : ∃ u, conc ι v = some u ∧ (Op.stringOp op ⟨⟨a⟩⟩ ⟨⟨b⟩⟩).run P w = .ok u w := by
  cases op <;> simp only [astrOp] at h <;> try (cases h; done)
  case add =>
    split at h
    · rename_i hl
      cases h
      refine ⟨_, rfl, ?_⟩
      have h0 : ¬ (((⟨⟨a⟩⟩ : ByteArray).size + (⟨⟨b⟩⟩ : ByteArray).size : Nat) : Int) > IntKind.i64.max := by
        have h1 : (⟨⟨a⟩⟩ : ByteArray).size = a.length := rfl
        have h2 : (⟨⟨b⟩⟩ : ByteArray).size = b.length := rfl
        rw [h1, h2]
        have : IntKind.i64.max = 9223372036854775807 := by decide
        omega
      have h3 : ((⟨⟨a⟩⟩ : ByteArray) ++ ⟨⟨b⟩⟩) = ⟨⟨a ++ b⟩⟩ := ByteArray.mk_append_mk a b
      simp only [Op.stringOp]
      rw [if_neg h0, h3]
      rfl
    · cases h
  all_goals
    cases h
    refine ⟨_, rfl, ?_⟩
    simp [Op.stringOp, ByteArray.toList_eq, strLess_eq]

theorem run_strBin {op : BinOp} {t : TypeId} {a b : ByteArray} (hop : op ≠ .shl) : binOp op t (.string a) (.string b) = Op.stringOp op a b := by
  cases op <;> rfl

/-- an operation on two operands that is no comparison -/
theorem free_bin {A : AH} {op : BinOp} {t : TypeId} {x y : Operand} {a b v : AV} (h1 : op ≠ .eql) (h2 : op ≠ .neq) (h : abin P A op t x y a b = some v) (ι : Img) (w : World) {ua ub : Value} (ha : conc ι a = some ua) (hb : conc ι b = some ub) :
    ∃ u, conc ι v = some u ∧ (do eqGuard op t x y ua ub; binOp op t ua ub : Sem Value).run P w = .ok u w := by
  have hg : (eqGuard op t x y ua ub).run P w = .ok () w := by cases op <;> first | exact absurd rfl h1 | exact absurd rfl h2 | rfl
  have hrun : (do eqGuard op t x y ua ub; binOp op t ua ub : Sem Value).run P w = (binOp op t ua ub).run P w := by simp [hg]
  rw [hrun]
  unfold abin at h
  split at h
  · have e1 := conc_int ha; have e2 := conc_int hb; subst e1; subst e2
    exact run_shift ι w (.inl rfl) h
  · have e1 := conc_int ha; have e2 := conc_int hb; subst e1; subst e2
    exact run_shift ι w (.inr rfl) h
  · split at h
    · rename_i e
      subst e
      have e1 := conc_int ha; have e2 := conc_int hb; subst e1; subst e2
      exact run_binInt ι w h
    · cases h
  · have e1 := conc_str ha; have e2 := conc_str hb; subst e1; subst e2
    rw [run_strBin]
    · exact run_strOp ι w h
    · rintro rfl; simp [astrOp] at h
  · exact absurd rfl h1
  · exact absurd rfl h2
  · cases h

theorem free_un {A : AH} {op : UnOp} {a v : AV} (h : aun op a = some v) (ι : Img) (w : World) {u : Value} (ha : conc ι a = some u) : FreeRun P A ι w (do pure (.value (← Op.unary op u))) v .none := by
  unfold aun at h
  split at h
  · have e := conc_int ha; subst e
    simp only [abinInt] at h; cases h
    exact free_val (u := .int _ _) (by simp [Op.unary, Op.intArith]) rfl
  · have e := conc_int ha; subst e
    simp only [abinInt] at h; cases h
    exact free_val (u := .int _ _) (by simp [Op.unary, Op.intBits]) rfl
  · have e := conc_bool ha; subst e
    cases h
    exact free_val (u := .bool _) (by simp [Op.unary]) rfl
  · cases h

theorem free_makeInterface {A : AH} {t : TypeId} {d : TypeDesc} {v : AV} (hd : P.underlying t = some d) (hi : ∀ ms, d ≠ .interface ms) (ι : Img) (w : World) {u : Value} (hv : conc ι v = some u) : FreeRun P A ι w (do pure (.value (← Instr.makeInterface t u))) (.iface t v) .none :=
  free_val (u := .iface t u) (by cases d <;> first | exact absurd rfl (hi _) | simp [Instr.makeInterface, run_underlying hd]) (by simp [conc, hv])

theorem free_fieldAddr {A : AH} {t : TypeId} {x v : AV} {i : Nat} (h : afieldAddr P t x i = some v) (ι : Img) (w : World) {u : Value} (hx : conc ι x = some u) : FreeRun P A ι w (do pure (.value (← Instr.fieldAt t u i))) v .none := by
  unfold afieldAddr at h
  split at h
  · rename_i fields f o hu
    split at h
    · rename_i fd hfd
      split at h
      · rename_i k hk
        cases h
        simp only [conc] at hx
        split at hx
        · rename_i l hl
          cases hx
          refine free_val (u := .pointer (some ⟨l.block, l.lo + (o + fd.offset), none⟩)) ?_ (by simp [conc, hl])
          have hsz : (sizeOf fd.type).run P w = .ok (k + 1) w := szOf_run hk w
          simp [Instr.fieldAt, run_underlying hu, hfd, Instr.sureAddr, fieldPlace, hsz, addr_add, Nat.add_assoc]
        · cases hx
      · cases h
    · cases h
  · cases h

theorem free_field {A : AH} {t : TypeId} {x v : AV} {i : Nat} (h : afield P t x i = some v) (ι : Img) (w : World) {u : Value} (hx : conc ι x = some u) : FreeRun P A ι w (do pure (.value (← Instr.field t u i))) v .none := by
  unfold afield at h
  split at h
  · rename_i fields cs hu
    split at h
    · rename_i f hf
      simp only [conc] at hx
      split at hx
      · rename_i us hus
        cases hx
        obtain ⟨u, hu', hr⟩ := apart_ok hus h w
        exact free_val (u := u) (by simp [Instr.field, run_underlying hu, hf, asAgg, hr]) hu'
      · cases hx
    · cases h
  · cases h

theorem free_indexAddr {A : AH} {t : TypeId} {x i v : AV} (h : aindexAddr P t x i = some v) (ι : Img) (w : World) {ux ui : Value} (hx : conc ι x = some ux) (hi : conc ι i = some ui) : FreeRun P A ι w (do pure (.value (← Instr.indexAt t ux ui))) v .none := by
  unfold aindexAddr at h
  split at h
  · rename_i e f o len c k n hu
    have e1 := conc_int hi; subst e1
    split at h
    · rename_i hb
      split at h
      · rename_i sz hsz
        cases h
        have key : ∃ l cap, ι f = some l ∧ ux = .slice (some ⟨l.block, l.lo + o, none⟩) len cap := by
          cases c <;> simp only [conc] at hx <;> split at hx <;> (try split at hx) <;> cases hx <;> exact ⟨_, _, by assumption, rfl⟩
        obtain ⟨l, cap, hl, rfl⟩ := key
        refine free_val (u := .pointer (some ⟨l.block, l.lo + (o + n.toNat * sz), none⟩)) ?_ (by simp [conc, hl])
        have hs := szOf_run hsz w
        simp [Instr.indexAt, asIntOf, run_underlying hu, hb.1, hb.2, hs, addr_add, Nat.add_assoc]
      · cases h
    · cases h
  · rename_i len e f o k n hu
    have e1 := conc_int hi; subst e1
    split at h
    · rename_i hb
      split at h
      · rename_i sz hsz
        cases h
        simp only [conc] at hx
        split at hx
        · rename_i l hl
          cases hx
          refine free_val (u := .pointer (some ⟨l.block, l.lo + (o + n.toNat * sz), none⟩)) ?_ (by simp [conc, hl])
          have hs := szOf_run hsz w
          simp [Instr.indexAt, asIntOf, run_underlying hu, Instr.sureAddr, hb.1, hb.2, hs, addr_add, Nat.add_assoc]
        · cases hx
      · cases h
    · cases h
  · cases h

theorem free_index {A : AH} {t : TypeId} {x i v : AV} (h : aindex P t x i = some v) (ι : Img) (w : World) {ux ui : Value} (hx : conc ι x = some ux) (hi : conc ι i = some ui) : FreeRun P A ι w (do pure (.value (← Instr.index t ux ui))) v .none := by
  unfold aindex at h
  split at h
  · rename_i len e cs k n hu
    have e1 := conc_int hi; subst e1
    split at h
    · rename_i hb
      split at h
      · rename_i sz hsz
        simp only [conc] at hx
        split at hx
        · rename_i us hus
          cases hx
          obtain ⟨u, hu', hr⟩ := apart_ok hus h w
          have hs := szOf_run hsz w
          exact free_val (u := u) (by simp [Instr.index, asIntOf, run_underlying hu, hb.1, hb.2, hs, hr]) hu'
        · cases hx
      · cases h
    · cases h
  · rename_i s k n hu
    have e1 := conc_int hi; subst e1
    have e2 := conc_str hx; subst e2
    split at h
    · rename_i hb
      split at h
      · rename_i b hbt
        cases h
        refine free_val (u := .int .u8 b.toNat) ?_ rfl
        have hlt : n.toNat < s.length := (List.getElem?_eq_some_iff.1 hbt).1
        have hget : (⟨⟨s⟩⟩ : ByteArray)[n.toNat]? = some b := by
          have : (⟨⟨s⟩⟩ : ByteArray)[n.toNat]? = s[n.toNat]? := by
            rw [getElem?_pos (⟨⟨s⟩⟩ : ByteArray) n.toNat (by exact hlt), List.getElem?_eq_getElem hlt]
            rfl
          rw [this]; exact hbt
        simp [Instr.index, asIntOf, run_underlying hu, hb, hget]
      · cases h
    · cases h
  · cases h

theorem free_typeAssert {A : AH} {x v : AV} {xt t : TypeId} {ok : Bool} (h : atypeAssert P x t ok = some v) (ι : Img) (w : World) {u : Value} (hx : conc ι x = some u) : FreeRun P A ι w (do pure (.value (← Instr.typeAssert u xt t ok))) v .none := by
  unfold atypeAssert at h
  split at h
  · cases h
  · rename_i d t' v' hni hu
    simp only [conc] at hx
    split at hx
    · rename_i uv huv
      cases hx
      have hd : ∀ ms, d ≠ .interface ms := fun ms e => hni ms e
      split at h
      · rename_i e
        subst e
        cases h
        refine free_val (u := if ok then .tuple #[uv, .bool true] else uv) ?_ ?_
        · cases d <;> first | exact absurd rfl (hd _) | (cases ok <;> simp [Instr.typeAssert, run_underlying hu])
        · cases ok <;> simp [conc, concs, huv]
      · rename_i hne
        split at h
        · rename_i hok
          split at h
          · rename_i z hz
            cases h
            obtain ⟨uz, hzc, hzr⟩ := zeroOf_conc (P := P) ι hz w
            refine free_val (u := .tuple #[uz, .bool false]) ?_ (by simp [conc, concs, hzc])
            cases d <;> first | exact absurd rfl (hd _) | simp [Instr.typeAssert, run_underlying hu, hne, hok, hzr]
          · cases h
        · cases h
    · cases hx
  · rename_i d hni hu
    simp only [conc] at hx
    cases hx
    have hd : ∀ ms, d ≠ .interface ms := fun ms e => hni ms e
    split at h
    · rename_i hok
      split at h
      · rename_i z hz
        cases h
        obtain ⟨uz, hzc, hzr⟩ := zeroOf_conc (P := P) ι hz w
        refine free_val (u := .tuple #[uz, .bool false]) ?_ (by simp [conc, concs, hzc])
        cases d <;> first | exact absurd rfl (hd _) | simp [Instr.typeAssert, run_underlying hu, hok, hzr]
      · cases h
    · cases h
  · cases h

theorem free_extract {A : AH} {x v : AV} {i : Nat} (h : aextract x i = some v) (ι : Img) (w : World) {u : Value} (hx : conc ι x = some u) : FreeRun P A ι w (do pure (.value (← Instr.extract u i))) v .none := by
  unfold aextract at h
  split at h
  · simp only [conc] at hx
    split at hx
    · rename_i us hus
      cases hx
      obtain ⟨b, hb, hc⟩ := concs_get hus _ _ h
      exact free_val (u := b) (by simp [Instr.extract, hb]) hc
    · cases hx
  · cases h

theorem foldMin_ok {ι : Img} {w : World} (mx : Bool) : ∀ (rest : List AV) (x v : AV) (ux : Value) (us : List Value), foldMin mx x rest = some v → conc ι x = some ux → concs ι rest = some us →
    ∃ u, conc ι v = some u ∧ (us.foldlM (if mx then Builtin.max2 else Builtin.min2) ux).run P w = .ok u w
  | [], x, v, ux, us, h, hx, hr => by
    simp [concs] at hr; subst hr
    cases x <;> simp [foldMin] at h
    subst h
    exact ⟨ux, hx, by simp⟩
  | y :: rest, x, v, ux, us, h, hx, hr => by
    cases x <;> try (simp [foldMin] at h; done)
    rename_i k a
    cases y <;> try (simp [foldMin] at h; done)
    rename_i j b
    simp only [foldMin] at h
    simp only [concs, conc] at hr
    split at hr
    · rename_i x1 y1 hx1 hy1
      cases hx1
      cases hr
      have e := conc_int hx; subst e
      obtain ⟨u, hu, hrun⟩ := foldMin_ok (ι := ι) (w := w) mx rest _ v _ y1 h rfl hy1
      refine ⟨u, hu, ?_⟩
      cases mx <;> simp only [List.foldlM_cons, Sem.run_bind, Builtin.max2, Builtin.min2, Bool.false_eq_true, if_false, if_true, Sem.run_pure, Result.andThen_ok, decide_eq_true_eq] at hrun ⊢ <;> exact hrun
    · cases hr

end
end Go.Eng
