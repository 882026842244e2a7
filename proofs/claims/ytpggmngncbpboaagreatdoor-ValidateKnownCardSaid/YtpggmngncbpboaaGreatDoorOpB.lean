/- The engine, part 4: binary and unary operations, conversions, slices' bounds. -/
import Derived.Test.YtpggmngncbpboaaGreatDoorOpA
import Derived.Laws.Slices
namespace Go.AE
set_option linter.unusedSimpArgs false

/-! ### numbers -/
def lim : IntKind → Nat
  | .i8 => 128 | .i16 => 32768 | .i32 => 2147483648 | .i64 => 9223372036854775808
  | .u8 => 256 | .u16 => 65536 | .u32 => 4294967296 | .u64 => 18446744073709551616

def wrapA (k : IntKind) (n : Int) : Int :=
  match n with
  | .ofNat m => bif Nat.blt m (lim k) then .ofNat m else k.wrap (.ofNat m)
  | .negSucc m => bif k.signed && Nat.blt m (lim k) then .negSucc m else k.wrap (.negSucc m)

theorem lt_of_blt {m n : Nat} (h : Nat.blt m n = true) : m < n := Nat.le_of_ble_eq_true (show Nat.ble (m + 1) n = true from h)

theorem wrapA_eq (k : IntKind) (n : Int) : wrapA k n = k.wrap n := by
  cases n with
  | ofNat m =>
    show (bif Nat.blt m (lim k) then Int.ofNat m else k.wrap (.ofNat m)) = _
    by_cases h : Nat.blt m (lim k) = true
    · have h' : m < lim k := lt_of_blt h
      rw [h, cond_true]
      cases k <;> simp only [lim] at h' <;> simp only [IntKind.wrap, IntKind.bits, IntKind.signed] <;> simp <;> omega
    · rw [Bool.eq_false_iff.2 h, cond_false]
  | negSucc m =>
    show (bif k.signed && Nat.blt m (lim k) then Int.negSucc m else k.wrap (.negSucc m)) = _
    by_cases h : (k.signed && Nat.blt m (lim k)) = true
    · rw [h, cond_true]
      rw [Bool.and_eq_true] at h
      obtain ⟨hs, h⟩ := h
      have h' : m < lim k := lt_of_blt h
      cases k <;> simp [IntKind.signed] at hs <;> simp only [lim] at h' <;> simp only [IntKind.wrap, IntKind.bits, IntKind.signed] <;> simp <;> omega
    · rw [Bool.eq_false_iff.2 h, cond_false]

noncomputable def intA (op : BinOp) (k : IntKind) (x y : Int) : Option AV :=
  match op with
  | .add => some (.nt k (wrapA k (x + y)))
  | .sub => some (.nt k (wrapA k (x - y)))
  | .mul => some (.nt k (wrapA k (x * y)))
  | .quo => if y = 0 then none else some (.nt k (wrapA k (x.tdiv y)))
  | .rem => if y = 0 then none else some (.nt k (x.tmod y))
  | .and => some (.nt k (wrapA k (BitVec.ofInt k.bits x &&& BitVec.ofInt k.bits y).toNat))
  | .or => some (.nt k (wrapA k (BitVec.ofInt k.bits x ||| BitVec.ofInt k.bits y).toNat))
  | .xor => some (.nt k (wrapA k (BitVec.ofInt k.bits x ^^^ BitVec.ofInt k.bits y).toNat))
  | .andNot => some (.nt k (wrapA k (BitVec.ofInt k.bits x &&& ~~~BitVec.ofInt k.bits y).toNat))
  | .eql => some (.bo (x == y))
  | .neq => some (.bo (x != y))
  | .lss => some (.bo (decide (x < y)))
  | .leq => some (.bo (decide (x ≤ y)))
  | .gtr => some (.bo (decide (x > y)))
  | .geq => some (.bo (decide (x ≥ y)))
  | _ => none

noncomputable def shiftA (op : BinOp) (k : IntKind) (x y : Int) : Option AV :=
  if y < 0 then none else
  match op with
  | .shl => some (.nt k (wrapA k (x * 2 ^ min y.toNat k.bits)))
  | .shr => some (.nt k (x.fdiv (2 ^ min y.toNat k.bits)))
  | _ => none

noncomputable def strA (op : BinOp) (x y : List UInt8) : Option AV :=
  match op with
  | .add => if x.length + y.length ≤ 9223372036854775807 then some (.st (x ++ y)) else none
  | .eql => some (.bo (x == y))
  | .neq => some (.bo !(x == y))
  | .lss => some (.bo (Op.bytesLess x y))
  | .leq => some (.bo (Op.bytesLess x y || x == y))
  | .gtr => some (.bo !(Op.bytesLess x y || x == y))
  | .geq => some (.bo !(Op.bytesLess x y))
  | _ => none

def isConst : Operand → Bool
  | .const _ => true
  | _ => false

/-- May values of this type be held against each other although the model asks first? -/
noncomputable def guardA (P : Program) (t : TypeId) (x y : Operand) (a b : AV) : Bool :=
  match a, b with
  | .ifn, .ifn => isConst x || isConst y
  | .ifn, .raw _ => false
  | .raw _, _ => false
  | .agg _, .agg _ => !P.eqGuardType P.depth t
  | .agg _, _ => false
  | _, _ => true

noncomputable def binA (P : Program) (op : BinOp) (t : TypeId) (x y : Operand) (a b : AV) : Option AV :=
  match op, a, b with
  | .shl, .nt k m, .nt _ n => shiftA .shl k m n
  | .shr, .nt k m, .nt _ n => shiftA .shr k m n
  | op, .nt k m, .nt k' n => if k = k' then intA op k m n else none
  | op, .st m, .st n => strA op m n
  | .eql, .raw _, _ => none
  | .eql, _, .raw _ => none
  | .neq, .raw _, _ => none
  | .neq, _, .raw _ => none
  | .eql, a, b => bif guardA P t x y a b then (eqO P Op.maxDepth t a b).map .bo else none
  | .neq, a, b => bif guardA P t x y a b then (eqO P Op.maxDepth t a b).map fun r => .bo !r else none
  | _, _, _ => none

theorem bytes_toList (l : List UInt8) : (⟨l.toArray⟩ : ByteArray).toList = l := by rw [ByteArray.toList_eq]

theorem run_intA {P : Program} (w : World) (E : Env) (op : BinOp) (t : TypeId) (k : IntKind) (x y : Int) (r : AV) (h : intA op k x y = some r) (h1 : op ≠ .shl) (h2 : op ≠ .shr) :
    (binOp op t (.int k x) (.int k y)).run P w = .ok (r.conc E) w := by
  cases op <;> simp only [intA] at h <;> first
    | exact absurd rfl h1
    | exact absurd rfl h2
    | (cases h; simp [binOp, Op.intArith, Op.intCmp, Op.intBits, AV.conc, wrapA_eq]; done)
    | (split at h
       · simp at h
       · rename_i hy; cases h; simp [binOp, Op.intDiv, AV.conc, wrapA_eq, hy])
    | (simp at h; done)

theorem run_shiftA {P : Program} (w : World) (E : Env) (op : BinOp) (t : TypeId) (k k' : IntKind) (x y : Int) (r : AV) (h : shiftA op k x y = some r) :
    (binOp op t (.int k x) (.int k' y)).run P w = .ok (r.conc E) w := by
  unfold shiftA at h
  split at h
  · simp at h
  · rename_i hy
    cases op <;> simp only [] at h <;> first
      | (simp at h; done)
      | (cases h; simp [binOp, Op.shift, AV.conc, wrapA_eq, hy])

theorem run_strAdd {P : Program} (w : World) (t : TypeId) (x y : List UInt8) (h : x.length + y.length ≤ 9223372036854775807) :
    (binOp .add t (.string ⟨x.toArray⟩) (.string ⟨y.toArray⟩)).run P w = .ok (.string ⟨(x ++ y).toArray⟩) w := by
  have hs : ¬ ((((⟨x.toArray⟩ : ByteArray).size + (⟨y.toArray⟩ : ByteArray).size : Nat) : Int) > IntKind.i64.max) := by
    rw [IntKind.max_i64]
    have e1 : (⟨x.toArray⟩ : ByteArray).size = x.length := by simp [ByteArray.size]
    have e2 : (⟨y.toArray⟩ : ByteArray).size = y.length := by simp [ByteArray.size]
    rw [e1, e2]; omega
  simp only [binOp, Op.stringOp, Sem.run_ite]
  rw [if_neg hs]
  simp only [Sem.run_pure]
  congr 2

theorem run_strA {P : Program} (w : World) (E : Env) (op : BinOp) (t : TypeId) (x y : List UInt8) (r : AV) (h : strA op x y = some r) :
    (binOp op t (.string ⟨x.toArray⟩) (.string ⟨y.toArray⟩)).run P w = .ok (r.conc E) w := by
  cases op
  case add =>
    simp only [strA] at h
    by_cases hl : x.length + y.length ≤ 9223372036854775807
    · rw [if_pos hl] at h
      cases h
      rw [run_strAdd w t x y hl]; rfl
    · rw [if_neg hl] at h; simp at h
  all_goals simp only [strA] at h
  all_goals first
    | (simp at h; done)
    | (cases h; simp [binOp, Op.stringOp, AV.conc, bytes_toList])

theorem eqO_not_undef {P : Program} {d : Nat} {t : TypeId} {a b : AV} {r : Bool} (h : eqO P d t a b = some r) : (∀ v, a ≠ .raw v) ∧ (∀ v, b ≠ .raw v) := by
  cases d with
  | zero => simp [eqO] at h
  | succ d =>
    constructor
    · intro v hv; subst hv; simp [eqO] at h
    · intro v hv; subst hv; simp [eqO] at h

theorem run_guardA {P : Program} (w : World) (E : Env) (op : BinOp) (t : TypeId) (x y : Operand) (a b : AV) (h : guardA P t x y a b = true) :
    (eqGuard op t x y (a.conc E) (b.conc E)).run P w = .ok () w := by
  have triv : ∀ (A B : Value), (∀ z, A ≠ .agg z) → A ≠ .nilIface → (eqGuard op t x y A B) = Pure.pure () := by
    intro A B h1 h2
    cases op <;> cases A <;> first | rfl | exact absurd rfl (h1 _) | exact absurd rfl h2
  cases a with
  | raw v => simp [guardA] at h
  | ifn =>
    cases b with
    | ifn =>
      simp only [guardA, Bool.or_eq_true] at h
      have : eqGuard op t x y .nilIface .nilIface = Pure.pure () := by
        rcases h with h | h
        · cases x <;> simp [isConst] at h
          exact eqGuard_nil_constL _ _ _ _
        · cases y <;> simp [isConst] at h
          exact eqGuard_nil_constR _ _ _ _
      simp only [AV.conc, this, Sem.run_pure]
    | raw v => simp [guardA] at h
    | ifc t' v => simp only [AV.conc, eqGuard_nil_iface, Sem.run_pure]
    | _ => cases op <;> simp [AV.conc, eqGuard]
  | agg xs =>
    cases b with
    | agg ys =>
      simp only [guardA, Bool.not_eq_true'] at h
      exact run_eqGuard_agg w op t x y _ _ h
    | _ => simp [guardA] at h
  | _ => rw [AV.conc, triv _ _ (by simp) (by simp)]; rfl

theorem run_eql_of {P : Program} (w : World) (t : TypeId) (A B : Value) (r : Bool) (h : (Op.equal t A B).run P w = .ok r w)
    (hA : ∀ k n, A ≠ .int k n) (hA2 : ∀ k n, A ≠ .float k n) (hA3 : ∀ k n m, A ≠ .complex k n m) (hA4 : ∀ s, A ≠ .string s) : (binOp .eql t A B).run P w = .ok (.bool r) w := by
  have : binOp .eql t A B = (Op.equal t A B >>= fun r => Pure.pure (Value.bool r)) := by
    cases A <;> first | rfl | exact absurd rfl (hA _ _) | exact absurd rfl (hA2 _ _) | exact absurd rfl (hA3 _ _ _) | exact absurd rfl (hA4 _)
  rw [this]
  simp [h]

theorem run_neq_of {P : Program} (w : World) (t : TypeId) (A B : Value) (r : Bool) (h : (Op.equal t A B).run P w = .ok r w)
    (hA : ∀ k n, A ≠ .int k n) (hA2 : ∀ k n, A ≠ .float k n) (hA3 : ∀ k n m, A ≠ .complex k n m) (hA4 : ∀ s, A ≠ .string s) : (binOp .neq t A B).run P w = .ok (.bool !r) w := by
  have : binOp .neq t A B = (Op.equal t A B >>= fun r => Pure.pure (Value.bool (!r))) := by
    cases A <;> first | rfl | exact absurd rfl (hA _ _) | exact absurd rfl (hA2 _ _) | exact absurd rfl (hA3 _ _ _) | exact absurd rfl (hA4 _)
  rw [this]
  simp [h]

theorem conc_kind (E : Env) (a : AV) (h : ∀ v, a ≠ .raw v) : (∀ k n, a.conc E = .int k n → a = .nt k n) ∧ (∀ k n, a.conc E ≠ .float k n) ∧ (∀ k n m, a.conc E ≠ .complex k n m) ∧
    (∀ s, a.conc E = .string s → ∃ l, a = .st l) := by
  cases a <;> simp_all [AV.conc]

theorem eqO_nt {P : Program} {d : Nat} {t : TypeId} {k : IntKind} {m : Int} {b : AV} {q : Bool} (h : eqO P d t (.nt k m) b = some q) : ∃ k' n, b = .nt k' n := by
  cases d with
  | zero => simp [eqO] at h
  | succ d => cases b <;> simp [eqO] at h <;> exact ⟨_, _, rfl⟩
theorem eqO_st {P : Program} {d : Nat} {t : TypeId} {l : List UInt8} {b : AV} {q : Bool} (h : eqO P d t (.st l) b = some q) : ∃ l', b = .st l' := by
  cases d with
  | zero => simp [eqO] at h
  | succ d => cases b <;> simp [eqO] at h <;> exact ⟨_, rfl⟩

theorem run_binA {P : Program} (w : World) (E : Env) (op : BinOp) (t : TypeId) (x y : Operand) (a b r : AV) (h : binA P op t x y a b = some r) :
    ((do eqGuard op t x y (a.conc E) (b.conc E); binOp op t (a.conc E) (b.conc E)) : Sem Value).run P w = .ok (r.conc E) w := by
  have key : (eqGuard op t x y (a.conc E) (b.conc E)).run P w = .ok () w ∧ (binOp op t (a.conc E) (b.conc E)).run P w = .ok (r.conc E) w := by
    unfold binA at h
    split at h
    · exact ⟨by simp [AV.conc, eqGuard_at_int], run_shiftA w E _ t _ _ _ _ _ h⟩
    · exact ⟨by simp [AV.conc, eqGuard_at_int], run_shiftA w E _ t _ _ _ _ _ h⟩
    · rename_i h1 h2
      split at h
      · rename_i hk
        subst hk
        exact ⟨by simp [AV.conc, eqGuard_at_int], run_intA w E _ t _ _ _ _ h (fun e => h1 e) (fun e => h2 e)⟩
      · simp at h
    · exact ⟨by simp [AV.conc, eqGuard_at_string], run_strA w E _ t _ _ _ h⟩
    · simp at h
    · simp at h
    · simp at h
    · simp at h
    · rename_i hi hs hr1 hr2
      cases hg : guardA P t x y a b with
      | false => rw [hg] at h; simp at h
      | true =>
        rw [hg] at h
        simp only [cond_true, Option.map_eq_some_iff] at h
        obtain ⟨q, hq, rfl⟩ := h
        refine ⟨run_guardA w E _ t x y a b hg, ?_⟩
        have he : (Op.equal t (a.conc E) (b.conc E)).run P w = .ok q w := run_eqO E w _ t a b q hq
        have hraw := eqO_not_undef hq
        obtain ⟨c1, c2, c3, c4⟩ := conc_kind E a hraw.1
        by_cases hint : ∃ k n, a = .nt k n
        · obtain ⟨k, n, rfl⟩ := hint
          exfalso
          obtain ⟨k', n', rfl⟩ := eqO_nt hq
          exact hr1 _ _ _ _ rfl rfl
        · by_cases hstr : ∃ l, a = .st l
          · obtain ⟨l, rfl⟩ := hstr
            exfalso
            obtain ⟨l', rfl⟩ := eqO_st hq
            exact hr2 _ _ rfl rfl
          · exact run_eql_of w t _ _ q he (fun k n e => hint ⟨k, n, c1 k n e⟩) c2 c3 (fun s e => hstr (c4 s e))
    · rename_i hi hs hr1 hr2
      cases hg : guardA P t x y a b with
      | false => rw [hg] at h; simp at h
      | true =>
        rw [hg] at h
        simp only [cond_true, Option.map_eq_some_iff] at h
        obtain ⟨q, hq, rfl⟩ := h
        refine ⟨run_guardA w E _ t x y a b hg, ?_⟩
        have he : (Op.equal t (a.conc E) (b.conc E)).run P w = .ok q w := run_eqO E w _ t a b q hq
        have hraw := eqO_not_undef hq
        obtain ⟨c1, c2, c3, c4⟩ := conc_kind E a hraw.1
        by_cases hint : ∃ k n, a = .nt k n
        · obtain ⟨k, n, rfl⟩ := hint
          exfalso
          obtain ⟨k', n', rfl⟩ := eqO_nt hq
          exact hr1 _ _ _ _ rfl rfl
        · by_cases hstr : ∃ l, a = .st l
          · obtain ⟨l, rfl⟩ := hstr
            exfalso
            obtain ⟨l', rfl⟩ := eqO_st hq
            exact hr2 _ _ rfl rfl
          · exact run_neq_of w t _ _ q he (fun k n e => hint ⟨k, n, c1 k n e⟩) c2 c3 (fun s e => hstr (c4 s e))
    · simp at h
  simp only [Sem.run_bind, key.1, Result.andThen_ok]
  exact key.2

theorem binA_sc {P : Program} {op : BinOp} {t : TypeId} {x y : Operand} {a b r : AV} (n : Nat) (h : binA P op t x y a b = some r) : r.sc n := by
  have hi : ∀ op k x y r, intA op k x y = some r → r.sc n := by
    intro op k x y r h
    cases op <;> simp only [intA] at h <;> first | (cases h; simp [AV.sc]; done) | (simp at h; done) | (split at h <;> first | (simp at h; done) | (cases h; simp [AV.sc]))
  have hsh : ∀ op k x y r, shiftA op k x y = some r → r.sc n := by
    intro op k x y r h
    unfold shiftA at h
    split at h
    · simp at h
    · cases op <;> simp only [] at h <;> first | (simp at h; done) | (cases h; simp [AV.sc])
  have hst : ∀ op x y r, strA op x y = some r → r.sc n := by
    intro op x y r h
    cases op <;> simp only [strA] at h <;> first | (simp at h; done) | (cases h; simp [AV.sc]; done) | (simp only [Option.ite_none_right_eq_some] at h; obtain ⟨_, rfl⟩ := h; simp [AV.sc]) | skip
    all_goals
      by_cases hl : x.length + y.length ≤ 9223372036854775807
      · rw [if_pos hl] at h; cases h; simp [AV.sc]
      · rw [if_neg hl] at h; simp at h
  unfold binA at h
  split at h
  · exact hsh _ _ _ _ _ h
  · exact hsh _ _ _ _ _ h
  · split at h
    · exact hi _ _ _ _ _ h
    · simp at h
  · exact hst _ _ _ _ h
  · simp at h
  · simp at h
  · simp at h
  · simp at h
  · cases hg : guardA P t x y a b with
    | false => rw [hg] at h; simp at h
    | true => rw [hg] at h; simp only [cond_true, Option.map_eq_some_iff] at h; obtain ⟨q, _, rfl⟩ := h; simp [AV.sc]
  · cases hg : guardA P t x y a b with
    | false => rw [hg] at h; simp at h
    | true => rw [hg] at h; simp only [cond_true, Option.map_eq_some_iff] at h; obtain ⟨q, _, rfl⟩ := h; simp [AV.sc]
  · simp at h

/-! ### unary operations -/
noncomputable def unA (op : UnOp) (x : AV) : Option AV :=
  match op, x with
  | .neg, .nt k n => some (.nt k (wrapA k (0 - n)))
  | .xor, .nt k n => intA .xor k (if k.signed then -1 else k.max) n
  | .not, .bo b => some (.bo !b)
  | _, _ => none

theorem run_unA {P : Program} (w : World) (E : Env) (op : UnOp) (x r : AV) (h : unA op x = some r) : (Op.unary op (x.conc E)).run P w = .ok (r.conc E) w := by
  unfold unA at h
  split at h
  · cases h; simp [AV.conc, Op.unary, Op.intArith, wrapA_eq]
  · simp only [intA] at h; cases h; simp [AV.conc, Op.unary, Op.intBits, wrapA_eq]
  · cases h; simp [AV.conc, Op.unary]
  · simp at h

theorem unA_sc {op : UnOp} {x r : AV} (n : Nat) (h : unA op x = some r) : r.sc n := by
  unfold unA at h
  split at h
  · cases h; simp [AV.sc]
  · simp only [intA] at h; cases h; simp [AV.sc]
  · cases h; simp [AV.sc]
  · simp at h

end Go.AE
