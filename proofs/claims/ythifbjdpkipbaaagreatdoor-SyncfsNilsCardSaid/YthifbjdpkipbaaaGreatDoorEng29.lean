/- THE ENGINE, LAID OUT FOR THE KERNEL: what hangs on the program's text alone is found once. -/
import Derived.Test.YthifbjdpkipbaaaGreatDoorEng28
set_option linter.all false
namespace Go.Eng

noncomputable section

/-- a thing that is reckoned to its head once -/
structure W (α : Type) where
  x : α

section
variable (P : Program) (cfg : Cfg)

def opdC : Operand → W (TM → Option AV)
  | .tmp t => ⟨fun m => some (m.get t)⟩
  | .const v => match ofV v with
    | some u => ⟨fun _ => some u⟩
    | none => ⟨fun _ => none⟩
  | .global g => if g < 64 then ⟨fun _ => some (.ptr g 0)⟩ else ⟨fun _ => none⟩
  | .func f => ⟨fun _ => some (.func f [] [])⟩

theorem opdC_eq (x : Operand) (m : TM) : (opdC x).x m = ρ m x := by
  cases x with
  | tmp t => rfl
  | const v => simp only [opdC, ρ]; cases ofV v <;> rfl
  | global g => simp only [opdC, ρ]; split <;> rfl
  | func f => rfl

def opdsC : List Operand → W (TM → Option (List AV))
  | [] => ⟨fun _ => some []⟩
  | x :: xs => ⟨fun m => match (opdC x).x m with
    | none => none
    | some v => match (opdsC xs).x m with
      | none => none
      | some vs => some (v :: vs)⟩

theorem opdsC_eq (l : List Operand) (m : TM) : (opdsC l).x m = ρs m l := by
  induction l with
  | nil => rfl
  | cons x xs ih =>
    simp only [opdsC, opdC_eq, ih, ρs, mapO]
    cases ρ m x with
    | none => rfl
    | some v =>
      simp only
      cases mapO (ρ m) xs <;> rfl

/-! ## numbers -/

def kmax : IntKind → Nat
  | .i8 => 127
  | .i16 => 32767
  | .i32 => 2147483647
  | .i64 => 9223372036854775807
  | .u8 => 255
  | .u16 => 65535
  | .u32 => 4294967295
  | .u64 => 18446744073709551615

def wrapF (k : IntKind) (n : Int) : Int := match n with
  | .ofNat x => match Nat.ble x (kmax k) with
    | true => .ofNat x
    | false => k.wrap (.ofNat x)
  | .negSucc x => k.wrap (.negSucc x)

theorem wrapF_eq (k : IntKind) (n : Int) : wrapF k n = k.wrap n := by
  unfold wrapF
  split
  · rename_i x
    split
    · rename_i h
      have h := Nat.le_of_ble_eq_true h
      have e : (Int.ofNat x : Int) = (x : Int) := rfl
      simp only [IntKind.wrap]
      rw [e]
      cases k <;> simp only [kmax, IntKind.bits, IntKind.signed, Bool.true_and, Bool.false_and] at * <;>
        first
          | (rw [if_neg (by simp; omega)]; omega)
          | (simp only [Bool.false_eq_true, if_false]; omega)
    · rfl
  · rfl

def intEq : Int → Int → Bool
  | .ofNat x, .ofNat y => Nat.beq x y
  | .negSucc x, .negSucc y => Nat.beq x y
  | _, _ => false

theorem intEq_eq (a b : Int) : intEq a b = (a == b) := by
  cases a <;> cases b <;> simp only [intEq]
  · rename_i x y
    rw [Bool.eq_iff_iff, Nat.beq_eq, beq_iff_eq]
    exact ⟨fun h => by rw [h], fun h => by injection h⟩
  · rename_i x y
    exact (beq_eq_false_iff_ne.2 (by intro h; injection h)).symm
  · rename_i x y
    exact (beq_eq_false_iff_ne.2 (by intro h; injection h)).symm
  · rename_i x y
    rw [Bool.eq_iff_iff, Nat.beq_eq, beq_iff_eq]
    exact ⟨fun h => by rw [h], fun h => by injection h⟩

def intLt : Int → Int → Bool
  | .ofNat x, .ofNat y => Nat.blt x y
  | .negSucc x, .negSucc y => Nat.blt y x
  | .negSucc _, .ofNat _ => true
  | .ofNat _, .negSucc _ => false

theorem intLt_eq (a b : Int) : intLt a b = decide (a < b) := by
  cases a <;> cases b <;> rename_i x y <;> simp only [intLt]
  · rw [Bool.eq_iff_iff, decide_eq_true_iff, Nat.blt_eq]
    exact ⟨fun h => Int.ofNat_lt.2 h, fun h => Int.ofNat_lt.1 h⟩
  · simp; omega
  · simp; omega
  · rw [Bool.eq_iff_iff, decide_eq_true_iff, Nat.blt_eq]
    constructor <;> intro h <;> omega

def intLe : Int → Int → Bool
  | .ofNat x, .ofNat y => Nat.ble x y
  | .negSucc x, .negSucc y => Nat.ble y x
  | .negSucc _, .ofNat _ => true
  | .ofNat _, .negSucc _ => false

theorem intLe_eq (a b : Int) : intLe a b = decide (a ≤ b) := by
  cases a <;> cases b <;> rename_i x y <;> simp only [intLe]
  · rw [Bool.eq_iff_iff, decide_eq_true_iff, Nat.ble_eq]
    exact ⟨fun h => Int.ofNat_le.2 h, fun h => Int.ofNat_le.1 h⟩
  · simp; omega
  · simp; omega
  · rw [Bool.eq_iff_iff, decide_eq_true_iff, Nat.ble_eq]
    constructor <;> intro h <;> omega

/-- operations on two values, by their kind -/
def binC (op : BinOp) (t : TypeId) (x y : Operand) : W (AH → AV → AV → Option AV) := match op with
  | .add => ⟨fun A a b => match a, b with
    | .int j m, .int k n => if j = k then some (.int j (wrapF j (m + n))) else none
    | a, b => abin P A .add t x y a b⟩
  | .sub => ⟨fun A a b => match a, b with
    | .int j m, .int k n => if j = k then some (.int j (wrapF j (m - n))) else none
    | a, b => abin P A .sub t x y a b⟩
  | .eql => ⟨fun A a b => match a, b with
    | .int j m, .int k n => if j = k then some (.bool (intEq m n)) else none
    | a, b => abin P A .eql t x y a b⟩
  | .neq => ⟨fun A a b => match a, b with
    | .int j m, .int k n => if j = k then some (.bool !(intEq m n)) else none
    | a, b => abin P A .neq t x y a b⟩
  | .lss => ⟨fun A a b => match a, b with
    | .int j m, .int k n => if j = k then some (.bool (intLt m n)) else none
    | a, b => abin P A .lss t x y a b⟩
  | .leq => ⟨fun A a b => match a, b with
    | .int j m, .int k n => if j = k then some (.bool (intLe m n)) else none
    | a, b => abin P A .leq t x y a b⟩
  | .gtr => ⟨fun A a b => match a, b with
    | .int j m, .int k n => if j = k then some (.bool (intLt n m)) else none
    | a, b => abin P A .gtr t x y a b⟩
  | .geq => ⟨fun A a b => match a, b with
    | .int j m, .int k n => if j = k then some (.bool (intLe n m)) else none
    | a, b => abin P A .geq t x y a b⟩
  | op => ⟨fun A a b => abin P A op t x y a b⟩

theorem binC_eq (op : BinOp) (t : TypeId) (x y : Operand) (A : AH) (a b : AV) : (binC P op t x y).x A a b = abin P A op t x y a b := by
  cases op <;> simp only [binC] <;> (try rfl) <;> split <;> first | rfl | skip
  all_goals
    simp only [abin, abinInt, wrapF_eq, intEq_eq, intLt_eq, intLe_eq]
    try rfl

/-- a load of one cell -/
def loadC (t : TypeId) : W (AH → Nat → Nat → Option AV) := match isAggT P t with
  | some false => ⟨fun A f o => match A.look f with
    | some (.cells c _ _ _ _) => c.get o
    | _ => none⟩
  | _ => ⟨fun A f o => aload P A t f o⟩

theorem loadC_eq (t : TypeId) (A : AH) (f o : Nat) : (loadC P t).x A f o = aload P A t f o := by
  unfold loadC aload
  cases h : isAggT P t with
  | none => simp only [h]
  | some b =>
    cases b with
    | true => simp only [h]
    | false =>
      simp only [AH.read]
      generalize A.look f = e
      rcases e with _ | e
      · rfl
      cases e
      case cells c n ty g sf =>
        simp only [PT.getL]
        cases c.get o <;> rfl
      all_goals rfl

/-- a call of a function that is named -/
def callC (c : Call) : W (AH → TM → Option (List (AR × AH))) := match c.callee with
  | .value (.func g) => match P.funcs[g]? with
    | none => ⟨fun _ m => match (opdsC c.args.toList).x m with
      | some _ => none
      | none => none⟩
    | some fn => match fn.body with
      | some _ => ⟨fun A m => match (opdsC c.args.toList).x m with
        | some args => some [(.enter g args, A)]
        | none => none⟩
      | none => ⟨fun A m => acall P cfg A m c⟩
  | .builtin .len => match c.argTypes.toList, c.args.toList with
    | t :: _, [x] => ⟨fun A m => match (opdC x).x m with
      | some v => match alen P A t v with
        | some n => some [(.val (.int .i64 (n : Int)), A)]
        | none => none
      | none => none⟩
    | _, _ => ⟨fun A m => acall P cfg A m c⟩
  | _ => ⟨fun A m => acall P cfg A m c⟩

theorem callC_eq (c : Call) (A : AH) (m : TM) : (callC P cfg c).x A m = acall P cfg A m c := by
  unfold callC
  split
  · rename_i g hc
    split
    · rename_i hf
      simp only [acall, hc, opdsC_eq, ρ, acallF]
      cases ρs m c.args.toList with
      | none => rfl
      | some l => simp only [hf]
    · rename_i fn hf
      split
      · rename_i b hb
        simp only [acall, hc, opdsC_eq, ρ, acallF]
        cases ρs m c.args.toList with
        | none => rfl
        | some l => simp only [hf, hb, List.nil_append, List.append_nil]
      · rfl
  · rename_i hc
    split
    · rename_i t ts x hts hargs
      simp only [acall, hc, hts, hargs, opdC_eq, ρs, mapO]
      cases ρ m x with
      | none => rfl
      | some v => simp only [abuiltin, one]; rfl
    · rfl
  · rfl

def one' (v : Option AV) (A : AH) : Option (List (AR × AH)) := match v with
  | some v => some [(.val v, A)]
  | none => none

/-- operations that come to a value, and turn nothing -/
def valC (op : Op) : Option (W (AH → TM → Option AV)) := match op with
  | .move x => some ⟨fun _ m => (opdC x).x m⟩
  | .assign x => some ⟨fun _ m => (opdC x).x m⟩
  | .pick c a b => some ⟨fun _ m => match (opdC c).x m with
    | some (.bool true) => (opdC a).x m
    | some (.bool false) => (opdC b).x m
    | _ => none⟩
  | .load t a => some ⟨fun A m => match (opdC a).x m with
    | some (.ptr f o) => (loadC P t).x A f o
    | _ => none⟩
  | .binOp op t x y _ => some ⟨fun A m => match (opdC x).x m with
    | some a => match (opdC y).x m with
      | some b => (binC P op t x y).x A a b
      | none => none
    | none => none⟩
  | .unOp op _ x => some ⟨fun _ m => match (opdC x).x m with
    | some a => aun op a
    | none => none⟩
  | .nilCheck x => some ⟨fun _ m => match (opdC x).x m with
    | some .nilptr | some .nilIface | some .nilFunc => none
    | some v => some v
    | none => none⟩
  | .fieldAddr t x i => some ⟨fun _ m => match (opdC x).x m with
    | some x => afieldAddr P t x i
    | none => none⟩
  | .field t x i => some ⟨fun _ m => match (opdC x).x m with
    | some x => afield P t x i
    | none => none⟩
  | .indexAddr t x i => some ⟨fun _ m => match (opdC x).x m with
    | some x => match (opdC i).x m with
      | some i => aindexAddr P t x i
      | none => none
    | none => none⟩
  | .index t x i => some ⟨fun _ m => match (opdC x).x m with
    | some x => match (opdC i).x m with
      | some i => aindex P t x i
      | none => none
    | none => none⟩
  | .extract x i => some ⟨fun _ m => match (opdC x).x m with
    | some x => aextract x i
    | none => none⟩
  | _ => none

theorem valC_eq {o : Oper} {f : W (AH → TM → Option AV)} (h : valC P o.op = some f) (A : AH) (m : TM) : aop P cfg A m o = one' (f.x A m) A := by
  obtain ⟨dst, op, ty, pos, after, guard⟩ := o
  cases op <;> simp only [valC, Option.some.injEq, reduceCtorEq] at h <;> subst h <;> simp only [aop, opdC_eq, loadC_eq, binC_eq]
  case pick c a b =>
    cases ρ m c with
    | none => rfl
    | some v =>
      cases v
      case bool t => cases t <;> rfl
      all_goals rfl
  case load t a =>
    cases ρ m a with
    | none => rfl
    | some v => cases v <;> rfl
  case binOp op t x y yt =>
    cases ρ m x with
    | none => rfl
    | some v => cases ρ m y <;> rfl
  case indexAddr t x i =>
    cases ρ m x with
    | none => rfl
    | some v => cases ρ m i <;> rfl
  case index t x i =>
    cases ρ m x with
    | none => rfl
    | some v => cases ρ m i <;> rfl
  case nilCheck x =>
    cases ρ m x with
    | none => rfl
    | some v => cases v <;> rfl
  all_goals first | rfl | (rename_i x; cases ρ m x <;> rfl) | (rename_i x _; cases ρ m x <;> rfl) | (rename_i _ x; cases ρ m x <;> rfl) | (rename_i _ x _; cases ρ m x <;> rfl)

def opC (o : Oper) : W (AH → TM → Option (List (AR × AH))) := match o.op with
  | .store t a x => ⟨fun A m => match (opdC a).x m with
    | some (.ptr f o) => match (opdC x).x m with
      | some v => skipO (astore P A t f o v)
      | none => none
    | _ => none⟩
  | .convert s d x => ⟨fun A m => match (opdC x).x m with
    | some a => oneA (aconvert P A s d a)
    | none => none⟩
  | .call c => callC P cfg c
  | op => match valC P op with
    | some f => ⟨fun A m => one' (f.x A m) A⟩
    | none => ⟨fun A m => aop P cfg A m o⟩

theorem opC_eq (o : Oper) (A : AH) (m : TM) : (opC P cfg o).x A m = aop P cfg A m o := by
  unfold opC
  split
  · rename_i t a x h
    simp only [aop, h, opdC_eq]
    cases ρ m a with
    | none => rfl
    | some v =>
      cases v
      case ptr f o' => simp only; cases ρ m x <;> rfl
      all_goals rfl
  · rename_i s d x h
    simp only [aop, h, opdC_eq]
    cases ρ m x <;> rfl
  · rename_i c h
    simp only [aop, h]
    exact callC_eq P cfg c A m
  · split
    · rename_i f hf
      exact (valC_eq P cfg hf A m).symm
    · rfl

/-! ## operations in a walk -/

def putC (d : Option Tmp) : W (TM → AV → AH → Option (List (TM × AH))) := match d with
  | none => ⟨fun m _ A => some [(m, A)]⟩
  | some d => ⟨fun m v A => match m with
    | ⟨t, n⟩ => match Nat.blt d n with
      | true => some [(⟨updT t d v, n⟩, A)]
      | false => none⟩

theorem putC_eq (d : Option Tmp) (m : TM) (v : AV) (A : AH) : (putC d).x m v A = (match m.put d v with | some m => some [(m, A)] | none => none) := by
  cases d with
  | none => rfl
  | some d =>
    simp only [putC, TM.put]
    by_cases h : d < m.n
    · rw [if_pos h, show Nat.blt d m.n = true from by rw [Nat.blt_eq]; exact h]
    · rw [if_neg h]
      have : Nat.blt d m.n = false := by
        cases hb : Nat.blt d m.n with
        | false => rfl
        | true => exact absurd (by rw [Nat.blt_eq] at hb; exact hb) h
      rw [this]

/-- an operation that is wanted -/
def wantC (o : Oper) : W (Rec → TM → AH → Option (List (TM × AH))) :=
  ⟨fun r m A => match (opC P cfg o).x A m with
    | none => none
    | some [(.val v, A')] => (putC o.dst).x m v A'
    | some [(.skip, A')] => (putC o.dst).x m (.tuple []) A'
    | some [(.enter f args, A')] => (match r.call f args A' with
      | none => none
      | some [(v, A2)] => (putC o.dst).x m v A2
      | some outs => bindL (fun (x : AV × AH) => (putC o.dst).x m x.1 x.2) outs)
    | some ars => match bindL (finishOp r) ars with
      | none => none
      | some outs => bindL (fun (x : AV × AH) => (putC o.dst).x m x.1 x.2) outs⟩

theorem wantC_eq (o : Oper) (r : Rec) (m : TM) (A : AH) : (wantC P cfg o).x r m A = (match aop P cfg A m o with
    | none => none
    | some ars => match bindL (finishOp r) ars with
      | none => none
      | some outs => bindL (fun (x : AV × AH) => match m.put o.dst x.1 with
        | some m => some [(m, x.2)]
        | none => none) outs) := by
  simp only [wantC, opC_eq, putC_eq]
  generalize aop P cfg A m o = L
  rcases L with _ | L
  · rfl
  rcases L with _ | ⟨⟨x, A'⟩, rest⟩
  · rfl
  rcases rest with _ | ⟨y, rest⟩
  · cases x
    case val v => rfl
    case skip => rfl
    case enter f args =>
      simp only [bindL, finishOp]
      cases r.call f args A' with
      | none => rfl
      | some outs =>
        rcases outs with _ | ⟨z, outs⟩
        · rfl
        rcases outs with _ | ⟨z', outs⟩
        · rfl
        · rfl
    case round l L m' => rfl
    case defer f args => rfl
  · cases x <;> rfl

def doC (ops : List Oper) (o : Oper) : W (Rec → TM → AH → Option (List (TM × AH))) := match o.guard with
  | none => wantC P cfg o
  | some _ => ⟨fun r m A => match wantedA ops m o with
    | true => (wantC P cfg o).x r m A
    | false => (putC o.dst).x m (.tuple []) A⟩

theorem doC_eq (ops : List Oper) (o : Oper) (r : Rec) (m : TM) (A : AH) : (doC P cfg ops o).x r m A = doOp P cfg r ops o m A := by
  unfold doC doOp
  cases hg : o.guard with
  | none =>
    simp only [wantC_eq, wantedA, hg, if_true]
    cases aop P cfg A m o with
    | none => rfl
    | some ars =>
      simp only
      cases bindL (finishOp r) ars <;> rfl
  | some g =>
    simp only [wantC_eq, putC_eq]
    cases wantedA ops m o <;> rfl

/-- behind an operation: its value is laid, and what follows it goes on -/
def goC (d : Option Tmp) (k : W (Rec → TM → AH → Option (List (TM × AH)))) : W (Rec → TM → AV → AH → Option (List (TM × AH))) := match d with
  | none => ⟨fun r m _ A => k.x r m A⟩
  | some d => ⟨fun r m v A => match m with
    | ⟨t, n⟩ => match Nat.blt d n with
      | true => k.x r ⟨updT t d v, n⟩ A
      | false => none⟩

theorem goC_eq (d : Option Tmp) (k : W (Rec → TM → AH → Option (List (TM × AH)))) (r : Rec) (m : TM) (v : AV) (A : AH) : (goC d k).x r m v A = (match m.put d v with
    | some m => k.x r m A
    | none => none) := by
  cases d with
  | none => rfl
  | some d =>
    obtain ⟨t, n⟩ := m
    simp only [goC, TM.put]
    by_cases h : d < n
    · rw [if_pos h, show Nat.blt d n = true from by rw [Nat.blt_eq]; exact h]
    · rw [if_neg h]
      have : Nat.blt d n = false := by
        cases hb : Nat.blt d n with
        | false => rfl
        | true => exact absurd (by rw [Nat.blt_eq] at hb; exact hb) h
      rw [this]

/-- what is called, where it is named, and has a body -/
def namedC (op : Op) : Option (FuncId × List Operand) := match op with
  | .call c => match c.callee with
    | .value (.func g) => match P.funcs[g]? with
      | some fn => match fn.body with
        | some _ => some (g, c.args.toList)
        | none => none
      | none => none
    | _ => none
  | _ => none

def opsC (ops : List Oper) : List Oper → W (Rec → TM → AH → Option (List (TM × AH)))
  | [] => ⟨fun _ m A => some [(m, A)]⟩
  | o :: rest => match o.guard with
    | some _ => ⟨fun r m A => match (doC P cfg ops o).x r m A with
      | none => none
      | some [(m', A')] => (opsC ops rest).x r m' A'
      | some outs => bindL (fun (x : TM × AH) => (opsC ops rest).x r x.1 x.2) outs⟩
    | none => match valC P o.op with
      | some f => ⟨fun r m A => match f.x A m with
        | some v => (goC o.dst (opsC ops rest)).x r m v A
        | none => none⟩
      | none => match namedC P o.op with
        | some (g, l) => ⟨fun r m A => match (opdsC l).x m with
          | none => none
          | some args => match r.call g args A with
            | none => none
            | some [(v, A')] => (goC o.dst (opsC ops rest)).x r m v A'
            | some outs => match bindL (fun (x : AV × AH) => (putC o.dst).x m x.1 x.2) outs with
              | none => none
              | some outs => bindL (fun (x : TM × AH) => (opsC ops rest).x r x.1 x.2) outs⟩
        | none => ⟨fun r m A => match (doC P cfg ops o).x r m A with
          | none => none
          | some [(m', A')] => (opsC ops rest).x r m' A'
          | some outs => bindL (fun (x : TM × AH) => (opsC ops rest).x r x.1 x.2) outs⟩

theorem opsC_eq (ops : List Oper) : ∀ (l : List Oper) (r : Rec) (m : TM) (A : AH), (opsC P cfg ops l).x r m A = doOps P cfg r ops l m A
  | [], _, _, _ => rfl
  | o :: rest, r, m, A => by
    have gen : (match doOp P cfg r ops o m A with
      | none => none
      | some [(m', A')] => (opsC P cfg ops rest).x r m' A'
      | some outs => bindL (fun (x : TM × AH) => (opsC P cfg ops rest).x r x.1 x.2) outs) = doOps P cfg r ops (o :: rest) m A := by
      simp only [doOps, opsC_eq ops rest]
      generalize doOp P cfg r ops o m A = L
      rcases L with _ | L
      · rfl
      rcases L with _ | ⟨x, L⟩
      · rfl
      rcases L with _ | ⟨y, L⟩
      · rfl
      · rfl
    unfold opsC
    cases hg : o.guard with
    | some g =>
      simp only [doC_eq]
      exact gen
    | none =>
      simp only
      cases hv : valC P o.op with
      | some f =>
        simp only [goC_eq]
        have hd : doOp P cfg r ops o m A = (match f.x A m with
          | some v => (match m.put o.dst v with
            | some m' => some [(m', A)]
            | none => none)
          | none => none) := by
          simp only [doOp, wantedA, hg, if_true, valC_eq P cfg hv]
          cases f.x A m <;> rfl
        rw [← gen, hd]
        cases f.x A m with
        | none => rfl
        | some v =>
          simp only
          cases m.put o.dst v <;> rfl
      | none =>
        simp only
        cases hn : namedC P o.op with
        | none =>
          simp only [doC_eq]
          exact gen
        | some gl =>
          obtain ⟨g, l⟩ := gl
          simp only [goC_eq, opdsC_eq, putC_eq]
          have ha : aop P cfg A m o = (match ρs m l with
            | some args => some [(.enter g args, A)]
            | none => none) := by
            unfold namedC at hn
            split at hn
            · rename_i c hop
              split at hn
              · rename_i g' hc
                split at hn
                · rename_i fn hf
                  split at hn
                  · rename_i b hb
                    simp only [Option.some.injEq, Prod.mk.injEq] at hn
                    obtain ⟨rfl, rfl⟩ := hn
                    simp only [aop, hop, acall, hc, ρ, acallF]
                    cases ρs m c.args.toList with
                    | none => rfl
                    | some args => simp only [hf, hb, List.nil_append, List.append_nil]
                  · cases hn
                · cases hn
              · cases hn
            · cases hn
          have hd : doOp P cfg r ops o m A = (match ρs m l with
            | none => none
            | some args => match r.call g args A with
              | none => none
              | some outs => bindL (fun (x : AV × AH) => match m.put o.dst x.1 with
                | some m => some [(m, x.2)]
                | none => none) outs) := by
            simp only [doOp, wantedA, hg, if_true, ha]
            cases ρs m l with
            | none => rfl
            | some args =>
              simp only [bindL, finishOp]
              cases r.call g args A <;> rfl
          rw [← gen, hd]
          cases ρs m l with
          | none => rfl
          | some args =>
            simp only
            cases r.call g args A with
            | none => rfl
            | some outs =>
              rcases outs with _ | ⟨⟨v, A'⟩, outs⟩
              · rfl
              rcases outs with _ | ⟨y, outs⟩
              · simp only [bindL]
                cases m.put o.dst v <;> rfl
              · simp only
                generalize bindL _ (((v, A') :: y :: outs)) = L
                rcases L with _ | L
                · rfl
                rcases L with _ | ⟨x, L⟩
                · rfl
                rcases L with _ | ⟨y, L⟩
                · rfl
                · rfl

def listC (ops : List Oper) : List Nat → W (Rec → TM → AH → Option (List (TM × AH) × (TM × AH)))
  | [] => ⟨fun _ m A => some ([], (m, A))⟩
  | i :: is => match ops[i]? with
    | none => ⟨fun _ _ _ => none⟩
    | some o => ⟨fun r m A => match (doC P cfg ops o).x r m A with
      | some [(m', A')] => match Nat.ble A.next A'.next with
        | true => match (listC ops is).x r m' A' with
          | some (tr, e) => some ((m, A) :: tr, e)
          | none => none
        | false => none
      | _ => none⟩

theorem listC_eq (ops : List Oper) : ∀ (l : List Nat) (r : Rec) (m : TM) (A : AH), (listC P cfg ops l).x r m A = doList P cfg r ops l m A
  | [], _, _, _ => rfl
  | i :: is, r, m, A => by
    simp only [listC, doList]
    cases ops[i]? with
    | none => rfl
    | some o =>
      simp only [doC_eq, listC_eq ops is]
      generalize doOp P cfg r ops o m A = L
      rcases L with _ | L
      · rfl
      rcases L with _ | ⟨⟨m', A'⟩, L⟩
      · rfl
      rcases L with _ | ⟨y, L⟩
      · simp only
        cases Nat.ble A.next A'.next with
        | false => rfl
        | true =>
          simp only
          cases doList P cfg r ops is m' A' <;> rfl
      · rfl

def sameC (o : Oper) (m : TM) (v : Option AV) (tr : List (TM × AH)) : List Nat → Bool
  | [] => true
  | p :: ps => match tr[p]? with
    | some s => match (opC P cfg o).x s.2 m with
      | some [(.val u, _)] => match v with
        | some v => match avEq u v with
          | true => sameC o m (some v) tr ps
          | false => false
        | none => sameC o m none tr ps
      | _ => false
    | none => false

theorem sameC_eq (o : Oper) (m : TM) (v : Option AV) (tr : List (TM × AH)) : ∀ ps : List Nat, sameC P cfg o m v tr ps = sameAt P cfg o m v tr ps
  | [] => rfl
  | p :: ps => by
    simp only [sameC, sameAt, opC_eq, sameC_eq o m _ tr ps]
    cases tr[p]? with
    | none => rfl
    | some s =>
      simp only
      generalize aop P cfg s.2 m o = L
      rcases L with _ | L
      · rfl
      rcases L with _ | ⟨⟨x, A'⟩, L⟩
      · rfl
      rcases L with _ | ⟨y, L⟩
      · cases x
        case val u =>
          cases v with
          | none => rfl
          | some v =>
            simp only
            cases avEq u v <;> rfl
        all_goals rfl
      · cases x <;> rfl

def checkC (ops : List Oper) (σ : List Nat) (tr : List (TM × AH)) (e : TM) : List (Nat × List Nat) → Bool
  | [] => true
  | (_, []) :: rest => checkC ops σ tr e rest
  | (k, ps) :: rest => match σ[k]?, tr[k]? with
    | some i, some s => match ops[i]? with
      | some o => (match wantedA ops s.1 o with
        | true => sameC P cfg o s.1 (o.dst.map e.get) tr ps
        | false => true) && checkC ops σ tr e rest
      | none => false
    | _, _ => false

def drawnC (ops : Array Oper) : W (Rec → TM → AH → Option (TM × AH)) := match planOf P ops with
  | none => ⟨fun _ _ _ => none⟩
  | some p => ⟨fun r m A => match (listC P cfg ops.toList p.order).x r m A with
    | none => none
    | some (tr, e) => match checkFloats P cfg ops.toList p.order tr e.1 p.floats with
      | true => some e
      | false => none⟩

theorem drawnC_eq (ops : Array Oper) (r : Rec) (m : TM) (A : AH) : (drawnC P cfg ops).x r m A = doDrawn P cfg r ops m A := by
  unfold drawnC doDrawn
  cases planOf P ops with
  | none => rfl
  | some p =>
    simp only [listC_eq]
    cases doList P cfg r ops.toList p.order m A with
    | none => rfl
    | some x =>
      simp only
      cases checkFloats P cfg ops.toList p.order x.1 x.2.1 p.floats <;> rfl

/-! ## code -/

def codeC (c : Code) : W (Rec → FuncId → Option Nat → TM → List ADef → AH → Option (List St)) := match c with
  | .region _ ops false => ⟨fun r _ _ m d A => match (opsC P cfg ops.toList ops.toList).x r m A with
    | none => none
    | some [(m', A')] => some [⟨.normal, m', d, A'⟩]
    | some outs => some (outs.map fun x => ⟨.normal, x.1, d, x.2⟩)⟩
  | .region _ ops true => ⟨fun r _ _ m d A => match (drawnC P cfg ops).x r m A with
    | none => none
    | some (m, A) => some [⟨.normal, m, d, A⟩]⟩
  | .seq a b => ⟨fun r fn rd m d A => match r.code fn rd a m d A with
    | none => none
    | some [⟨.normal, m', d', A'⟩] => r.code fn rd b m' d' A'
    | some outs => bindL (andThen fun s => r.code fn rd b s.m s.d s.A) outs⟩
  | .cond x a b => ⟨fun r fn rd m d A => match (opdC x).x m with
    | some (.bool true) => r.code fn rd a m d A
    | some (.bool false) => r.code fn rd b m d A
    | _ => none⟩
  | .loop b => ⟨fun r fn rd m d A => match r.code fn rd b m d A with
    | none => none
    | some [⟨.normal, m', d', A'⟩] => r.code fn rd (.loop b) m' d' A'
    | some outs => bindL (andThen fun s => r.code fn rd (.loop b) s.m s.d s.A) outs⟩
  | .skip => ⟨fun _ _ _ m d A => some [⟨.normal, m, d, A⟩]⟩
  | .label _ => ⟨fun _ _ _ m d A => some [⟨.normal, m, d, A⟩]⟩
  | .exit id => ⟨fun _ _ _ m d A => some [⟨.exit id, m, d, A⟩]⟩
  | .ret => ⟨fun _ _ _ m d A => some [⟨.ret, m, d, A⟩]⟩
  | .block id b => ⟨fun r fn rd m d A => match r.code fn rd b m d A with
    | none => none
    | some outs => some (outs.map fun s => match s.ex with
      | .exit i => if i = id then ⟨.normal, s.m, s.d, s.A⟩ else s
      | _ => s)⟩
  | c => ⟨fun r fn rd m d A => codeStep P cfg r fn rd c m d A⟩

theorem codeC_eq (c : Code) (r : Rec) (fn : FuncId) (rd : Option Nat) (m : TM) (d : List ADef) (A : AH) : (codeC P cfg c).x r fn rd m d A = codeStep P cfg r fn rd c m d A := by
  cases c
  case region id ops dr =>
    cases dr with
    | false =>
      simp only [codeC, codeStep, opsC_eq]
      generalize doOps P cfg r ops.toList ops.toList m A = L
      rcases L with _ | L
      · rfl
      rcases L with _ | ⟨x, L⟩
      · rfl
      rcases L with _ | ⟨y, L⟩
      · rfl
      · rfl
    | true =>
      simp only [codeC, codeStep, drawnC_eq]
      rfl
  case seq a b =>
    simp only [codeC, codeStep]
    generalize r.code fn rd a m d A = L
    rcases L with _ | L
    · rfl
    rcases L with _ | ⟨⟨ex, m', d', A'⟩, L⟩
    · rfl
    rcases L with _ | ⟨y, L⟩
    · cases ex <;> rfl
    · cases ex <;> rfl
  case loop b =>
    simp only [codeC, codeStep]
    generalize r.code fn rd b m d A = L
    rcases L with _ | L
    · rfl
    rcases L with _ | ⟨⟨ex, m', d', A'⟩, L⟩
    · rfl
    rcases L with _ | ⟨y, L⟩
    · cases ex <;> rfl
    · cases ex <;> rfl
  case cond x a b =>
    simp only [codeC, codeStep, opdC_eq]
    rfl
  all_goals rfl

def funC (f : FuncId) : W (Rec → List AV → AH → Option (List (AV × AH))) := match P.funcs[f]? with
  | none => ⟨fun _ _ _ => none⟩
  | some fn => match fn.body with
    | none => ⟨fun _ _ _ => none⟩
    | some c => ⟨fun r args A => match r.code f none c ⟨argT args, max args.length fn.ntmps⟩ [] A with
      | none => none
      | some outs => bindL (fun (s : St) => match s.ex with
        | .exit _ => none
        | _ => match unwindA s.d s.A with
          | none => none
          | some A' => match resultsA P fn s.m A' with
            | some v => some [(v, A')]
            | none => none) outs⟩

theorem funC_eq (f : FuncId) (r : Rec) (args : List AV) (A : AH) : (funC P f).x r args A = callStep P cfg r f args A := by
  unfold funC callStep
  cases P.funcs[f]? with
  | none => rfl
  | some fn =>
    simp only
    cases fn.body with
    | none => rfl
    | some c => rfl

def recF (n : Nat) : Rec :=
  Nat.rec (motive := fun _ => Rec) ⟨fun _ _ _ _ _ _ => none, fun _ _ _ => none⟩
    (fun _ ih => ⟨fun fn rd c m d A => (codeC P cfg c).x ih fn rd m d A, fun f args A => (funC P f).x ih args A⟩) n

theorem recF_eq (n : Nat) : recF P cfg n = recN P cfg n := by
  induction n with
  | zero => rfl
  | succ n ih =>
    have e : recF P cfg (n + 1) = ⟨fun fn rd c m d A => (codeC P cfg c).x (recF P cfg n) fn rd m d A, fun f args A => (funC P f).x (recF P cfg n) args A⟩ := rfl
    rw [e, ih]
    simp only [recN, codeC_eq, funC_eq P cfg]

end
end
end Go.Eng
