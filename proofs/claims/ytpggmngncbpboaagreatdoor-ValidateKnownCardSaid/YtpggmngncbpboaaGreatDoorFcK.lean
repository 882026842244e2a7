/- The fast code, part 1b: the operations laid for the kernel: every alternative of a recursor is closed, numbers are computed at once. (Printed in part by a small program.) -/
import Derived.Test.YtpggmngncbpboaaGreatDoorFcA
namespace Go.AE
set_option linter.unusedSimpArgs false
set_option linter.unusedVariables false

/-! ### lists and numbers -/
noncomputable def natK (x : Nat) (f : Nat → Res) : Res := Nat.rec (motive := fun _ => (Nat → Res) → Res) (fun f => f 0) (fun m _ f => f (Nat.succ m)) x f
theorem natK_eq (x : Nat) (f : Nat → Res) : natK x f = f x := by cases x <;> rfl
noncomputable def nthA (l : List AV) : Nat → Option AV := List.rec (motive := fun _ => Nat → Option AV) (fun _ => none) (fun a _ ih n => Nat.rec (motive := fun _ => Option AV) (some a) (fun m _ => ih m) n) l
theorem nthA_eq (l : List AV) (n : Nat) : nthA l n = l[n]? := by
  induction l generalizing n with
  | nil => rfl
  | cons a l ih => cases n with
    | zero => rfl
    | succ n => show nthA l n = _; rw [ih]; simp
noncomputable def nthS (l : List UInt8) : Nat → Option UInt8 := List.rec (motive := fun _ => Nat → Option UInt8) (fun _ => none) (fun a _ ih n => Nat.rec (motive := fun _ => Option UInt8) (some a) (fun m _ => ih m) n) l
theorem nthS_eq (l : List UInt8) (n : Nat) : nthS l n = l[n]? := by
  induction l generalizing n with
  | nil => rfl
  | cons a l ih => cases n with
    | zero => rfl
    | succ n => show nthS l n = _; rw [ih]; simp
noncomputable def lenA (l : List AV) : Nat := List.rec (motive := fun _ => Nat) 0 (fun _ _ ih => Nat.succ ih) l
theorem lenA_eq (l : List AV) : lenA l = l.length := by
  induction l with
  | nil => rfl
  | cons a l ih => show Nat.succ (lenA l) = _; rw [ih]; rfl
noncomputable def lenS (l : List UInt8) : Nat := List.rec (motive := fun _ => Nat) 0 (fun _ _ ih => Nat.succ ih) l
theorem lenS_eq (l : List UInt8) : lenS l = l.length := by
  induction l with
  | nil => rfl
  | cons a l ih => show Nat.succ (lenS l) = _; rw [ih]; rfl
noncomputable def dropA (l : List AV) : Nat → List AV := List.rec (motive := fun _ => Nat → List AV) (fun _ => []) (fun a l ih n => Nat.rec (motive := fun _ => List AV) (a :: l) (fun m _ => ih m) n) l
theorem dropA_eq (l : List AV) (n : Nat) : dropA l n = l.drop n := by
  induction l generalizing n with
  | nil => simp [dropA]
  | cons a l ih => cases n with
    | zero => rfl
    | succ n => show dropA l n = _; rw [ih]; rfl
noncomputable def takeA (l : List AV) : Nat → List AV := List.rec (motive := fun _ => Nat → List AV) (fun _ => []) (fun a _ ih n => Nat.rec (motive := fun _ => List AV) [] (fun m _ => a :: ih m) n) l
theorem takeA_eq (l : List AV) (n : Nat) : takeA l n = l.take n := by
  induction l generalizing n with
  | nil => simp [takeA]
  | cons a l ih => cases n with
    | zero => rfl
    | succ n => show a :: takeA l n = _; rw [ih]; rfl
noncomputable def hasA (l : List AV) : Nat → Bool :=
  List.rec (motive := fun _ => Nat → Bool) (fun n => Nat.rec (motive := fun _ => Bool) true (fun _ _ => false) n) (fun _ _ ih n => Nat.rec (motive := fun _ => Bool) true (fun m _ => ih m) n) l
theorem hasA_eq (l : List AV) (n : Nat) : hasA l n = hasLen l n := by
  induction l generalizing n with
  | nil => cases n <;> rfl
  | cons a l ih => cases n with
    | zero => rfl
    | succ n => show hasA l n = _; rw [ih]; rfl
noncomputable def updA (l : List AV) : Nat → List AV → List AV :=
  List.rec (motive := fun _ => Nat → List AV → List AV) (fun _ _ => [])
    (fun c r ih o vs => Nat.rec (motive := fun _ => List AV → List AV) (fun vs => List.rec (motive := fun _ => List AV) (c :: r) (fun v l _ => v :: ih 0 l) vs) (fun m _ vs => c :: ih m vs) o vs) l
theorem updA_eq (l : List AV) (o : Nat) (vs : List AV) : updA l o vs = updL l o vs := by
  induction l generalizing o vs with
  | nil => cases o <;> cases vs <;> rfl
  | cons c r ih => cases o with
    | zero => cases vs with
      | nil => rfl
      | cons v l => show v :: updA r 0 l = _; rw [ih]; rfl
    | succ o => show c :: updA r o vs = _; rw [ih]; rfl
noncomputable def limK (k : IntKind) : Nat := IntKind.rec (motive := fun _ => Nat) 128 32768 2147483648 9223372036854775808 256 65536 4294967296 18446744073709551616 k
theorem limK_eq (k : IntKind) : limK k = lim k := by cases k <;> rfl
noncomputable def sgnK (k : IntKind) : Bool := IntKind.rec (motive := fun _ => Bool) true true true true false false false false k
theorem sgnK_eq (k : IntKind) : sgnK k = k.signed := by cases k <;> rfl
noncomputable def noK (k : IntKind) : Nat := IntKind.rec (motive := fun _ => Nat) 0 1 2 3 4 5 6 7 k
theorem noK_eq (k : IntKind) : noK k = kindNo k := by cases k <;> rfl
noncomputable def subNK (m n : Nat) : Int := Bool.rec (motive := fun _ => Int) (.negSucc (Nat.sub (Nat.sub n m) 1)) (.ofNat (Nat.sub m n)) (Nat.ble n m)
theorem subNK_eq (m n : Nat) : subNK m n = (m : Int) - n := by
  unfold subNK
  cases h : Nat.ble n m with
  | true => have := Nat.le_of_ble_eq_true h; show ((m - n : Nat) : Int) = _; omega
  | false =>
    have : ¬ n ≤ m := by intro e; rw [Nat.ble_eq_true_of_le e] at h; cases h
    show Int.negSucc (n - m - 1) = _
    rw [Int.negSucc_eq]; omega
noncomputable def addK (x y : Int) : Int :=
  Int.rec (motive := fun _ => Int → Int) (fun m y => Int.rec (motive := fun _ => Nat → Int) (fun n m => .ofNat (Nat.add m n)) (fun n m => subNK m (Nat.succ n)) y m)
    (fun m y => Int.rec (motive := fun _ => Nat → Int) (fun n m => subNK n (Nat.succ m)) (fun n m => .negSucc (Nat.succ (Nat.add m n))) y m) x y
theorem addK_eq (x y : Int) : addK x y = x + y := by
  cases x <;> cases y
  · rfl
  · rename_i m n; show subNK m (n + 1) = _; rw [subNK_eq, Int.negSucc_eq]; simp only [Int.ofNat_eq_natCast]; omega
  · rename_i m n; show subNK n (m + 1) = _; rw [subNK_eq, Int.negSucc_eq]; simp only [Int.ofNat_eq_natCast]; omega
  · rename_i m n; show Int.negSucc (m + n + 1) = _; simp only [Int.negSucc_eq]; omega
noncomputable def subK (x y : Int) : Int :=
  Int.rec (motive := fun _ => Int → Int) (fun m y => Int.rec (motive := fun _ => Nat → Int) (fun n m => subNK m n) (fun n m => .ofNat (Nat.succ (Nat.add m n))) y m)
    (fun m y => Int.rec (motive := fun _ => Nat → Int) (fun n m => .negSucc (Nat.add m n)) (fun n m => subNK n m) y m) x y
theorem subK_eq (x y : Int) : subK x y = x - y := by
  cases x <;> cases y
  · rename_i m n; show subNK m n = _; rw [subNK_eq]; rfl
  · rename_i m n; show Int.ofNat (m + n + 1) = _; simp only [Int.negSucc_eq, Int.ofNat_eq_natCast]; omega
  · rename_i m n; show Int.negSucc (m + n) = _; simp only [Int.negSucc_eq, Int.ofNat_eq_natCast]; omega
  · rename_i m n; show subNK n m = _; rw [subNK_eq]; simp only [Int.negSucc_eq]; omega
noncomputable def eqK (x y : Int) : Bool :=
  Int.rec (motive := fun _ => Int → Bool) (fun m y => Int.rec (motive := fun _ => Nat → Bool) (fun n m => Nat.beq m n) (fun _ _ => false) y m)
    (fun m y => Int.rec (motive := fun _ => Nat → Bool) (fun _ _ => false) (fun n m => Nat.beq m n) y m) x y
theorem eqK_eq (x y : Int) : eqK x y = eqI x y := by cases x <;> cases y <;> rfl
noncomputable def ltK (x y : Int) : Bool :=
  Int.rec (motive := fun _ => Int → Bool) (fun m y => Int.rec (motive := fun _ => Nat → Bool) (fun n m => Nat.ble (Nat.succ m) n) (fun _ _ => false) y m)
    (fun m y => Int.rec (motive := fun _ => Nat → Bool) (fun _ _ => true) (fun n m => Nat.ble (Nat.succ n) m) y m) x y
theorem ltK_eq (x y : Int) : ltK x y = ltI x y := by cases x <;> cases y <;> rfl
noncomputable def notK (b : Bool) : Bool := Bool.rec (motive := fun _ => Bool) true false b
theorem notK_eq (b : Bool) : notK b = !b := by cases b <;> rfl
noncomputable def andK (a b : Bool) : Bool := Bool.rec (motive := fun _ => Bool → Bool) (fun _ => false) (fun b => b) a b
theorem andK_eq (a b : Bool) : andK a b = (a && b) := by cases a <;> rfl

/-- A number of a kind: wrapped, and computed at once. -/
noncomputable def wrapK (k : IntKind) (x : Int) (h : Heap) (n : Nat) : Res :=
  Int.rec (motive := fun _ => IntKind → Heap → Nat → Res)
    (fun m k h n => Nat.rec (motive := fun _ => IntKind → Heap → Nat → Res) (fun k h n => some (.nt k (.ofNat 0), h, n))
      (fun m _ k h n => Bool.rec (motive := fun _ => Nat → IntKind → Heap → Nat → Res) (fun m k h n => forceI (k.wrap (.ofNat (Nat.succ m))) fun x => some (.nt k x, h, n)) (fun m k h n => some (.nt k (.ofNat (Nat.succ m)), h, n))
        (Nat.ble (Nat.succ (Nat.succ m)) (limK k)) m k h n) m k h n)
    (fun m k h n => Nat.rec (motive := fun _ => IntKind → Heap → Nat → Res) (fun k h n => Bool.rec (motive := fun _ => IntKind → Heap → Nat → Res) (fun k h n => forceI (k.wrap (.negSucc 0)) fun x => some (.nt k x, h, n)) (fun k h n => some (.nt k (.negSucc 0), h, n)) (sgnK k) k h n)
      (fun m _ k h n => Bool.rec (motive := fun _ => Nat → IntKind → Heap → Nat → Res) (fun m k h n => forceI (k.wrap (.negSucc (Nat.succ m))) fun x => some (.nt k x, h, n)) (fun m k h n => some (.nt k (.negSucc (Nat.succ m)), h, n))
        (andK (sgnK k) (Nat.ble (Nat.succ (Nat.succ m)) (limK k))) m k h n) m k h n) x k h n

theorem lim_pos (k : IntKind) : Nat.blt 0 (lim k) = true := by cases k <;> rfl

theorem wrapK_eq (k : IntKind) (x : Int) (h : Heap) (n : Nat) : wrapK k x h n = some (.nt k (wrapA k x), h, n) := by
  cases x with
  | ofNat m =>
    cases m with
    | zero =>
      show some (AV.nt k (.ofNat 0), h, n) = _
      simp only [wrapA, lim_pos, cond_true]
    | succ m =>
      show (Bool.rec (motive := fun _ => Nat → IntKind → Heap → Nat → Res) (fun m k h n => forceI (k.wrap (.ofNat (Nat.succ m))) fun x => some (.nt k x, h, n)) (fun m k h n => some (.nt k (.ofNat (Nat.succ m)), h, n)) (Nat.ble (Nat.succ (Nat.succ m)) (limK k)) m k h n) = some (AV.nt k (bif Nat.ble (Nat.succ (Nat.succ m)) (lim k) then .ofNat (m + 1) else k.wrap (.ofNat (m + 1))), h, n)
      rw [limK_eq]
      cases Nat.ble (Nat.succ (Nat.succ m)) (lim k) with
      | true => rfl
      | false => simp only [forceI_eq, cond_false]
  | negSucc m =>
    cases m with
    | zero =>
      show (Bool.rec (motive := fun _ => IntKind → Heap → Nat → Res) (fun k h n => forceI (k.wrap (.negSucc 0)) fun x => some (.nt k x, h, n)) (fun k h n => some (.nt k (.negSucc 0), h, n)) (sgnK k) k h n) = some (AV.nt k (bif k.signed && Nat.blt 0 (lim k) then .negSucc 0 else k.wrap (.negSucc 0)), h, n)
      rw [sgnK_eq, lim_pos, Bool.and_true]
      cases k.signed with
      | true => rfl
      | false => simp only [forceI_eq, cond_false]
    | succ m =>
      show (Bool.rec (motive := fun _ => Nat → IntKind → Heap → Nat → Res) (fun m k h n => forceI (k.wrap (.negSucc (Nat.succ m))) fun x => some (.nt k x, h, n)) (fun m k h n => some (.nt k (.negSucc (Nat.succ m)), h, n)) (andK (sgnK k) (Nat.ble (Nat.succ (Nat.succ m)) (limK k))) m k h n) =
        some (AV.nt k (bif k.signed && Nat.ble (Nat.succ (Nat.succ m)) (lim k) then .negSucc (m + 1) else k.wrap (.negSucc (m + 1))), h, n)
      rw [limK_eq, sgnK_eq, andK_eq]
      cases k.signed && Nat.ble (Nat.succ (Nat.succ m)) (lim k) with
      | true => rfl
      | false => simp only [forceI_eq, cond_false]

/-! ### binary operations -/
noncomputable def slowK (op : BinOp) (k : IntKind) (x y : Int) (h : Heap) (n : Nat) : Res := optF (intF op k x y) h n
noncomputable def boK (b : Bool) (h : Heap) (n : Nat) : Res := some (.bo b, h, n)
/-- Two numbers that are not negative: by one function of natural numbers; else the slow way. -/
noncomputable def natsK (op : BinOp) (f : Nat → Nat → Nat) (k : IntKind) (x y : Int) (h : Heap) (n : Nat) : Res :=
  Int.rec (motive := fun _ => BinOp → (Nat → Nat → Nat) → IntKind → Int → Heap → Nat → Res)
    (fun a op f k y h n => Int.rec (motive := fun _ => BinOp → (Nat → Nat → Nat) → IntKind → Nat → Heap → Nat → Res)
      (fun b op f k a h n => Bool.rec (motive := fun _ => Nat → Nat → BinOp → (Nat → Nat → Nat) → IntKind → Heap → Nat → Res) (fun a b op _ k h n => slowK op k (.ofNat a) (.ofNat b) h n) (fun a b _ f k h n => natK (f a b) fun m => some (.nt k (.ofNat m), h, n))
        (andK (Nat.ble (Nat.succ a) (limK k)) (andK (Nat.ble (Nat.succ b) (limK k)) (Nat.ble 1 b))) a b op f k h n)
      (fun b op _ k a h n => slowK op k (.ofNat a) (.negSucc b) h n) y op f k a h n)
    (fun a op _ k y h n => slowK op k (.negSucc a) y h n) x op f k y h n

noncomputable def bitsK (op : BinOp) (f : Nat → Nat → Nat) (k : IntKind) (x y : Int) (h : Heap) (n : Nat) : Res :=
  Int.rec (motive := fun _ => BinOp → (Nat → Nat → Nat) → IntKind → Int → Heap → Nat → Res)
    (fun a op f k y h n => Int.rec (motive := fun _ => BinOp → (Nat → Nat → Nat) → IntKind → Nat → Heap → Nat → Res)
      (fun b op f k a h n => Bool.rec (motive := fun _ => Nat → Nat → BinOp → (Nat → Nat → Nat) → IntKind → Heap → Nat → Res) (fun a b op _ k h n => slowK op k (.ofNat a) (.ofNat b) h n) (fun a b _ f k h n => natK (f a b) fun m => some (.nt k (.ofNat m), h, n))
        (andK (Nat.ble (Nat.succ a) (limK k)) (Nat.ble (Nat.succ b) (limK k))) a b op f k h n)
      (fun b op _ k a h n => slowK op k (.ofNat a) (.negSucc b) h n) y op f k a h n)
    (fun a op _ k y h n => slowK op k (.negSucc a) y h n) x op f k y h n

noncomputable def intK (op : BinOp) (k : IntKind) (x y : Int) (h : Heap) (n : Nat) : Res :=
  BinOp.rec (motive := fun _ => IntKind → Int → Int → Heap → Nat → Res)
    (fun k x y h n => wrapK k (addK x y) h n)
    (fun k x y h n => wrapK k (subK x y) h n)
    (fun k x y h n => slowK .mul k x y h n)
    (fun k x y h n => natsK .quo Nat.div k x y h n)
    (fun k x y h n => natsK .rem Nat.mod k x y h n)
    (fun k x y h n => bitsK .and Nat.land k x y h n)
    (fun k x y h n => bitsK .or Nat.lor k x y h n)
    (fun k x y h n => bitsK .xor Nat.xor k x y h n)
    (fun k x y h n => slowK .shl k x y h n)
    (fun k x y h n => slowK .shr k x y h n)
    (fun k x y h n => slowK .andNot k x y h n)
    (fun _ x y h n => boK (eqK x y) h n)
    (fun _ x y h n => boK (notK (eqK x y)) h n)
    (fun _ x y h n => boK (ltK x y) h n)
    (fun _ x y h n => boK (notK (ltK y x)) h n)
    (fun _ x y h n => boK (ltK y x) h n)
    (fun _ x y h n => boK (notK (ltK x y)) h n) op k x y h n

theorem boK_eq (b : Bool) (h : Heap) (n : Nat) : boK b h n = optF (some (.bo b)) h n := by simp [boK, optF, forceV_eq]

theorem natsK_eq (op : BinOp) (f : Nat → Nat → Nat) (hf : ∀ k a b, a < lim k → b < lim k → 0 < b → intF op k (.ofNat a) (.ofNat b) = some (.nt k (.ofNat (f a b)))) (k : IntKind) (x y : Int) (h : Heap) (n : Nat) :
    natsK op f k x y h n = optF (intF op k x y) h n := by
  cases x with
  | negSucc a => rfl
  | ofNat a =>
    cases y with
    | negSucc b => rfl
    | ofNat b =>
      show (Bool.rec (motive := fun _ => Nat → Nat → BinOp → (Nat → Nat → Nat) → IntKind → Heap → Nat → Res) (fun a b op _ k h n => slowK op k (.ofNat a) (.ofNat b) h n) (fun a b _ f k h n => natK (f a b) fun m => some (.nt k (.ofNat m), h, n))
        (andK (Nat.ble (Nat.succ a) (limK k)) (andK (Nat.ble (Nat.succ b) (limK k)) (Nat.ble 1 b))) a b op f k h n) = _
      rw [andK_eq, andK_eq, limK_eq]
      cases hc : (Nat.ble (Nat.succ a) (lim k) && (Nat.ble (Nat.succ b) (lim k) && Nat.ble 1 b)) with
      | false => rfl
      | true =>
        simp only [Bool.and_eq_true] at hc
        have h1 := Nat.le_of_ble_eq_true hc.1
        have h2 := Nat.le_of_ble_eq_true hc.2.1
        have h3 := Nat.le_of_ble_eq_true hc.2.2
        rw [hf k a b h1 h2 h3]
        simp only [natK_eq, optF, forceV_eq]

theorem bitsK_eq (op : BinOp) (f : Nat → Nat → Nat) (hf : ∀ k a b, a < lim k → b < lim k → intF op k (.ofNat a) (.ofNat b) = some (.nt k (.ofNat (f a b)))) (k : IntKind) (x y : Int) (h : Heap) (n : Nat) :
    bitsK op f k x y h n = optF (intF op k x y) h n := by
  cases x with
  | negSucc a => rfl
  | ofNat a =>
    cases y with
    | negSucc b => rfl
    | ofNat b =>
      show (Bool.rec (motive := fun _ => Nat → Nat → BinOp → (Nat → Nat → Nat) → IntKind → Heap → Nat → Res) (fun a b op _ k h n => slowK op k (.ofNat a) (.ofNat b) h n) (fun a b _ f k h n => natK (f a b) fun m => some (.nt k (.ofNat m), h, n))
        (andK (Nat.ble (Nat.succ a) (limK k)) (Nat.ble (Nat.succ b) (limK k))) a b op f k h n) = _
      rw [andK_eq, limK_eq]
      cases hc : (Nat.ble (Nat.succ a) (lim k) && Nat.ble (Nat.succ b) (lim k)) with
      | false => rfl
      | true =>
        simp only [Bool.and_eq_true] at hc
        have h1 := Nat.le_of_ble_eq_true hc.1
        have h2 := Nat.le_of_ble_eq_true hc.2
        rw [hf k a b h1 h2]
        simp only [natK_eq, optF, forceV_eq]

theorem wrapA_nat {k : IntKind} {m : Nat} (h : m < lim k) : wrapA k (.ofNat m) = .ofNat m := by
  have : Nat.blt m (lim k) = true := Nat.ble_eq_true_of_le h
  simp only [wrapA, this, cond_true]

theorem lim_pow (k : IntKind) : ∃ e, lim k = 2 ^ e ∧ e ≤ k.bits := by
  cases k
  · exact ⟨7, rfl, by decide⟩
  · exact ⟨15, rfl, by decide⟩
  · exact ⟨31, rfl, by decide⟩
  · exact ⟨63, rfl, by decide⟩
  · exact ⟨8, rfl, by decide⟩
  · exact ⟨16, rfl, by decide⟩
  · exact ⟨32, rfl, by decide⟩
  · exact ⟨64, rfl, by decide⟩

theorem bits_nat {k : IntKind} {a : Nat} (h : a < lim k) : (BitVec.ofInt k.bits (.ofNat a)).toNat = a := by
  obtain ⟨e, h1, h2⟩ := lim_pow k
  have : a < 2 ^ k.bits := Nat.lt_of_lt_of_le (h1 ▸ h) (Nat.pow_le_pow_right (by omega) h2)
  rw [show (Int.ofNat a) = ((a : Nat) : Int) from rfl, BitVec.ofInt_natCast, BitVec.toNat_ofNat, Nat.mod_eq_of_lt this]

theorem intK_eq (op : BinOp) (k : IntKind) (x y : Int) (h : Heap) (n : Nat) : intK op k x y h n = optF (intF op k x y) h n := by
  cases op
  case add => show wrapK k (addK x y) h n = _; rw [wrapK_eq, addK_eq]; simp [intF, optF, forceV_eq]
  case sub => show wrapK k (subK x y) h n = _; rw [wrapK_eq, subK_eq]; simp [intF, optF, forceV_eq]; rfl
  case mul => rfl
  case quo =>
    refine natsK_eq .quo Nat.div (fun k a b h1 h2 h3 => ?_) k x y h n
    have hle : a / b < lim k := Nat.lt_of_le_of_lt (Nat.div_le_self a b) h1
    simp only [intF, intA]
    rw [if_neg (by simp only [Int.ofNat_eq_natCast]; omega)]
    show some (AV.nt k (wrapA k (.ofNat (a / b)))) = _
    rw [wrapA_nat hle]; rfl
  case rem =>
    refine natsK_eq .rem Nat.mod (fun k a b h1 h2 h3 => ?_) k x y h n
    simp only [intF, intA]
    rw [if_neg (by simp only [Int.ofNat_eq_natCast]; omega)]
    rfl
  case and =>
    refine bitsK_eq .and Nat.land (fun k a b h1 h2 => ?_) k x y h n
    have hle : a &&& b < lim k := Nat.lt_of_le_of_lt Nat.and_le_left h1
    simp only [intF, intA, BitVec.toNat_and, bits_nat h1, bits_nat h2]
    exact congrArg some (congrArg (AV.nt k) (wrapA_nat hle))
  case or =>
    refine bitsK_eq .or Nat.lor (fun k a b h1 h2 => ?_) k x y h n
    obtain ⟨e, he, _⟩ := lim_pow k
    have hle : a ||| b < lim k := by rw [he]; exact Nat.or_lt_two_pow (by rw [← he]; exact h1) (by rw [← he]; exact h2)
    simp only [intF, intA, BitVec.toNat_or, bits_nat h1, bits_nat h2]
    exact congrArg some (congrArg (AV.nt k) (wrapA_nat hle))
  case xor =>
    refine bitsK_eq .xor Nat.xor (fun k a b h1 h2 => ?_) k x y h n
    obtain ⟨e, he, _⟩ := lim_pow k
    have hle : a ^^^ b < lim k := by rw [he]; exact Nat.xor_lt_two_pow (by rw [← he]; exact h1) (by rw [← he]; exact h2)
    simp only [intF, intA, BitVec.toNat_xor, bits_nat h1, bits_nat h2]
    exact congrArg some (congrArg (AV.nt k) (wrapA_nat hle))
  case shl => rfl
  case shr => rfl
  case andNot => rfl
  case eql => show boK (eqK x y) h n = _; rw [boK_eq, eqK_eq]; rfl
  case neq => show boK (notK (eqK x y)) h n = _; rw [boK_eq, eqK_eq, notK_eq]; rfl
  case lss => show boK (ltK x y) h n = _; rw [boK_eq, ltK_eq]; rfl
  case leq => show boK (notK (ltK y x)) h n = _; rw [boK_eq, ltK_eq, notK_eq]; rfl
  case gtr => show boK (ltK y x) h n = _; rw [boK_eq, ltK_eq]; rfl
  case geq => show boK (notK (ltK x y)) h n = _; rw [boK_eq, ltK_eq, notK_eq]; rfl
end Go.AE
