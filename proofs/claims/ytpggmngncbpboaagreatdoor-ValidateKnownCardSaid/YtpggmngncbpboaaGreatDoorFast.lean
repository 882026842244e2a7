/- The engine, part 13a: the same step, laid so that the kernel computes it with little work: every alternative of a 'match' is closed. -/
import Derived.Test.YtpggmngncbpboaaGreatDoorStep
namespace Go.AE
set_option linter.unusedSimpArgs false

noncomputable def optV (r : Option AV) (h : Heap) (n : Nat) (d : List Def) : Option (AV × Heap × Nat × List Def) :=
  match r with
  | some v => some (v, h, n, d)
  | none => none

def kindNo : IntKind → Nat
  | .i8 => 0 | .i16 => 1 | .i32 => 2 | .i64 => 3 | .u8 => 4 | .u16 => 5 | .u32 => 6 | .u64 => 7

theorem kindNo_inj {k k' : IntKind} : (Nat.beq (kindNo k) (kindNo k') = true) = (k = k') := by
  cases k <;> cases k' <;> simp [kindNo]

def ltI : Int → Int → Bool
  | .ofNat a, .ofNat b => Nat.blt a b
  | .ofNat _, .negSucc _ => false
  | .negSucc _, .ofNat _ => true
  | .negSucc a, .negSucc b => Nat.blt b a
def eqI : Int → Int → Bool
  | .ofNat a, .ofNat b => Nat.beq a b
  | .negSucc a, .negSucc b => Nat.beq a b
  | _, _ => false

theorem blt_eq (a b : Nat) : Nat.blt a b = decide (a < b) := by
  cases hb : Nat.blt a b with
  | true => simp [lt_of_blt hb]
  | false =>
    symm
    rw [decide_eq_false_iff_not]
    intro h
    have : Nat.blt a b = true := Nat.ble_eq_true_of_le h
    rw [this] at hb; cases hb

theorem ltI_eq (x y : Int) : ltI x y = decide (x < y) := by
  cases x with
  | ofNat a =>
    cases y with
    | ofNat b => simp [ltI, blt_eq]
    | negSucc b => simp [ltI]; omega
  | negSucc a =>
    cases y with
    | ofNat b => simp only [ltI]; symm; rw [decide_eq_true_iff]; simp only [Int.ofNat_eq_natCast]; omega
    | negSucc b => simp only [ltI, blt_eq]; congr 1; apply propext; omega

theorem eqI_eq (x y : Int) : eqI x y = (x == y) := by
  cases x with
  | ofNat a =>
    cases y with
    | ofNat b =>
      simp only [eqI]
      by_cases h : a = b
      · subst h; simp
      · have h1 : Nat.beq a b = false := by cases hb : Nat.beq a b with | false => rfl | true => exact absurd (Nat.eq_of_beq_eq_true hb) h
        rw [h1]; symm; rw [beq_eq_false_iff_ne]; intro e; exact h (by injection e)
    | negSucc b => rfl
  | negSucc a =>
    cases y with
    | ofNat b => rfl
    | negSucc b =>
      simp only [eqI]
      by_cases h : a = b
      · subst h; simp
      · have h1 : Nat.beq a b = false := by cases hb : Nat.beq a b with | false => rfl | true => exact absurd (Nat.eq_of_beq_eq_true hb) h
        rw [h1]; symm; rw [beq_eq_false_iff_ne]; intro e; exact h (by injection e)

/-- Two numbers of one kind. -/
noncomputable def intF (op : BinOp) (k : IntKind) (x y : Int) : Option AV :=
  (match op with
  | .add => fun k x y => some (.nt k (wrapA k (Int.add x y)))
  | .sub => fun k x y => some (.nt k (wrapA k (Int.sub x y)))
  | .eql => fun _ x y => some (.bo (eqI x y))
  | .neq => fun _ x y => some (.bo (not (eqI x y)))
  | .lss => fun _ x y => some (.bo (ltI x y))
  | .leq => fun _ x y => some (.bo (not (ltI y x)))
  | .gtr => fun _ x y => some (.bo (ltI y x))
  | .geq => fun _ x y => some (.bo (not (ltI x y)))
  | .mul => fun k x y => intA .mul k x y
  | .quo => fun k x y => intA .quo k x y
  | .rem => fun k x y => intA .rem k x y
  | .and => fun k x y => intA .and k x y
  | .or => fun k x y => intA .or k x y
  | .xor => fun k x y => intA .xor k x y
  | .andNot => fun k x y => intA .andNot k x y
  | .shl => fun k x y => shiftA .shl k x y
  | .shr => fun k x y => shiftA .shr k x y : IntKind → Int → Int → Option AV) k x y

theorem not_lt_dec (x y : Int) : (!decide (y < x)) = decide (x ≤ y) := by
  by_cases h : x ≤ y
  · simp [h]
  · simp [h]; omega

theorem intF_eq (P : Program) (op : BinOp) (t : TypeId) (a b : Operand) (k : IntKind) (x y : Int) : intF op k x y = binA P op t a b (.nt k x) (.nt k y) := by
  cases op <;> simp [intF, binA, intA, ltI_eq, eqI_eq, not_lt_dec] <;> first | rfl | (simp [bne]; done) | skip

noncomputable def binF (P : Program) (op : BinOp) (t : TypeId) (x y : Operand) (a b : AV) : Option AV :=
  (match a with
  | .nt k m => fun P op t x y b =>
    (match b with
    | .nt k' n => fun P op t x y k m => bif Nat.beq (kindNo k) (kindNo k') then intF op k m n else binA P op t x y (.nt k m) (.nt k' n)
    | b => fun P op t x y k m => binA P op t x y (.nt k m) b : Program → BinOp → TypeId → Operand → Operand → IntKind → Int → Option AV) P op t x y k m
  | a => fun P op t x y b => binA P op t x y a b : Program → BinOp → TypeId → Operand → Operand → AV → Option AV) P op t x y b

theorem binF_eq (P : Program) (op : BinOp) (t : TypeId) (x y : Operand) (a b : AV) : binF P op t x y a b = binA P op t x y a b := by
  cases a <;> try rfl
  cases b <;> try rfl
  rename_i k m k' n
  simp only [binF]
  cases hk : Nat.beq (kindNo k) (kindNo k') with
  | false => rfl
  | true =>
    have : k = k' := by rw [← kindNo_inj]; exact hk
    subst this
    exact intF_eq ..

noncomputable def callF (callA : CallF) (f : AV) (args : List AV) (h : Heap) (n : Nat) (d : List Def) : Option (AV × Heap × Nat × List Def) :=
  (match f with
  | .fu g first cap => fun callA args h n d =>
    match callA (.fn g) (first ++ args ++ cap) h n with
    | some (v, h', n') => some (v, h', n', d)
    | none => none
  | .yl b => fun callA args h n d =>
    match callA (.yl b) args h n with
    | some (v, h', n') => some (v, h', n', d)
    | none => none
  | _ => fun _ _ _ _ _ => none : CallF → List AV → Heap → Nat → List Def → Option (AV × Heap × Nat × List Def)) callA args h n d

noncomputable def actF (P : Program) (callA : CallF) (o : Oper) (ev : Operand → AV) (h : Heap) (n : Nat) (d : List Def) : Option (AV × Heap × Nat × List Def) :=
  (match o.op with
  | .move x => fun _ _ _ ev h n d => some (ev x, h, n, d)
  | .assign x => fun _ _ _ ev h n d => some (ev x, h, n, d)
  | .pick c a b => fun _ _ _ ev h n d => match ev c with | .bo true => some (ev a, h, n, d) | .bo false => some (ev b, h, n, d) | _ => none
  | .load t a => fun P _ _ ev h n d => optV (loadO P h t (ev a)) h n d
  | .store t a x => fun P _ _ ev h n d => match storeO P h t (ev a) (ev x) with | some h' => some (.tup [], h', n, d) | none => none
  | .binOp op t x y _ => fun P _ _ ev h n d => optV (binF P op t x y (ev x) (ev y)) h n d
  | .unOp op _ x => fun _ _ _ ev h n d => optV (unA op (ev x)) h n d
  | .fieldAddr s x f => fun P _ _ ev h n d => optV (fieldAtO P s (ev x) f) h n d
  | .field t x f => fun P _ _ ev h n d => optV (fieldO P t (ev x) f) h n d
  | .indexAddr t x ix => fun P _ _ ev h n d => optV (indexAtO P t (ev x) (ev ix)) h n d
  | .index t x ix => fun P _ _ ev h n d => optV (indexO P t (ev x) (ev ix)) h n d
  | .extract t i => fun _ _ _ ev h n d => match ev t with | .tup vs => optV (vs[i]?) h n d | _ => none
  | .call c => fun P callA o ev h n d =>
    (match c.callee with
    | .value f => fun c _ callA _ ev h n d => callF callA (ev f) (c.args.toList.map ev) h n d
    | _ => fun _ P callA o ev h n d => actO P callA o ev h n d : Call → Program → CallF → Oper → (Operand → AV) → Heap → Nat → List Def → Option (AV × Heap × Nat × List Def)) c P callA o ev h n d
  | _ => fun P callA o ev h n d => actO P callA o ev h n d : Program → CallF → Oper → (Operand → AV) → Heap → Nat → List Def → Option (AV × Heap × Nat × List Def)) P callA o ev h n d

theorem optV_map (r : Option AV) (h : Heap) (n : Nat) (d : List Def) : optV r h n d = (match r.map fun r => (r, h, n) with | some (v, h', n') => some (v, h', n', d) | none => none) := by
  cases r <;> rfl

theorem actF_eq (P : Program) (callA : CallF) (o : Oper) (ev : Operand → AV) (h : Heap) (n : Nat) (d : List Def) : actF P callA o ev h n d = actO P callA o ev h n d := by
  unfold actF actO
  cases ho : o.op <;> simp only [] <;> try rfl
  case move x => simp [aop, ho]
  case assign x => simp [aop, ho]
  case pick c a b =>
    simp only [aop, ho]
    cases hc : ev c <;> first | rfl | (rename_i b; cases b <;> rfl)
  case load t a => simp only [aop, ho, optV_map]; rfl
  case store t a x => simp only [aop, ho]; cases storeO P h t (ev a) (ev x) <;> rfl
  case binOp op t x y ty => simp only [aop, ho, optV_map, binF_eq]; rfl
  case unOp op t x => simp only [aop, ho, optV_map]; rfl
  case fieldAddr s x f => simp only [aop, ho, optV_map]; rfl
  case field s x f => simp only [aop, ho, optV_map]; rfl
  case indexAddr s x f => simp only [aop, ho, optV_map]; rfl
  case index s x f => simp only [aop, ho, optV_map]; rfl
  case extract t i =>
    simp only [aop, ho]
    cases hc : ev t <;> first | rfl | (simp only [optV_map]; rfl)
  case call c =>
    obtain ⟨callee, args, ats⟩ := c
    cases callee with
    | value f =>
      simp only [callF]
      cases hf : ev f <;> rfl
    | builtin b => simp only [actO, ho]
    | invoke r m => simp only [actO, ho]
  all_goals simp only [ho]

noncomputable def putF (N : Nat) (dst : Option Tmp) (r : Option (AV × Heap × Nat × List Def)) (t : PT AV) : Option St :=
  Option.rec (motive := fun _ => Nat → Option Tmp → PT AV → Option St) (fun _ _ _ => none)
    (fun r N dst t =>
      Option.rec (motive := fun _ => Nat → PT AV → AV × Heap × Nat × List Def → Option St)
        (fun _ t r => some ⟨t, r.2.1, r.2.2.1, r.2.2.2⟩)
        (fun k N t r => Bool.rec (motive := fun _ => Option St) none (some ⟨t.set k r.1, r.2.1, r.2.2.1, r.2.2.2⟩) (Nat.blt k N)) dst N t r) r N dst t

noncomputable def stepF (P : Program) (callA : CallF) (N : Nat) (ops : Array Oper) (o : Oper) (s : St) : Option St :=
  Option.rec (motive := fun _ => Program → CallF → Nat → Array Oper → Oper → St → Option St)
    (fun P callA N _ o s => putF N o.dst (actF P callA o (evA P.globals.size s.t) s.h s.n s.d) s.t)
    (fun _ P callA N ops o s => stepA P callA N ops o s) o.guard P callA N ops o s

theorem stepF_eq (P : Program) (callA : CallF) (N : Nat) (ops : Array Oper) (o : Oper) (s : St) : stepF P callA N ops o s = stepA P callA N ops o s := by
  unfold stepF
  cases hg : o.guard with
  | some g => rfl
  | none =>
    simp only [stepA, guardO, hg, actF_eq]
    cases actO P callA o (evA P.globals.size s.t) s.h s.n s.d with
    | none => rfl
    | some r =>
      obtain ⟨v, h, n, d⟩ := r
      simp only [putF, putO]
      cases hd : o.dst with
      | none => rfl
      | some k =>
        simp only []
        cases Nat.blt k N <;> rfl
end Go.AE
