/- The fast code, part 1c: operations on values, laid for the kernel. (Printed by wip/tools/fcl.py.) -/
import Derived.Test.YtpggmngncbpboaaGreatDoorFcK
namespace Go.AE
set_option linter.unusedSimpArgs false
set_option linter.unusedVariables false

noncomputable def eqSK (x : List UInt8) : List UInt8 → Bool :=
  List.rec (motive := fun _ => List UInt8 → Bool) (fun r => List.rec (motive := fun _ => Bool) true (fun _ _ _ => false) r)
    (fun a _ ih r => List.rec (motive := fun _ => UInt8 → (List UInt8 → Bool) → Bool) (fun _ _ => false) (fun b r _ a ih => Bool.rec (motive := fun _ => Bool) false (ih r) (Nat.beq a.toNat b.toNat)) r a ih) x
theorem eqSK_eq (x y : List UInt8) : eqSK x y = (x == y) := by
  induction x generalizing y with
  | nil => cases y <;> rfl
  | cons a x ih =>
    cases y with
    | nil => rfl
    | cons b y =>
      show Bool.rec (motive := fun _ => Bool) false (eqSK x y) (Nat.beq a.toNat b.toNat) = _
      rw [ih]
      cases h : Nat.beq a.toNat b.toNat with
      | true =>
        have := UInt8.toNat.inj (Nat.eq_of_beq_eq_true h)
        subst this
        simp
      | false =>
        have : a ≠ b := by rintro rfl; simp at h
        simp [this]
noncomputable def appS (x y : List UInt8) : List UInt8 := List.rec (motive := fun _ => List UInt8 → List UInt8) (fun y => y) (fun a _ ih y => a :: ih y) x y
theorem appS_eq (x y : List UInt8) : appS x y = x ++ y := by
  induction x with
  | nil => rfl
  | cons a x ih => show a :: appS x y = _; rw [ih]; rfl
noncomputable def appA (x y : List AV) : List AV := List.rec (motive := fun _ => List AV → List AV) (fun y => y) (fun a _ ih y => a :: ih y) x y
theorem appA_eq (x y : List AV) : appA x y = x ++ y := by
  induction x with
  | nil => rfl
  | cons a x ih => show a :: appA x y = _; rw [ih]; rfl
noncomputable def strK (op : BinOp) (x y : List UInt8) (h : Heap) (n : Nat) : Res :=
  BinOp.rec (motive := fun _ => List UInt8 → List UInt8 → Heap → Nat → Res)
    (fun x y h n => Bool.rec (motive := fun _ => List UInt8 → List UInt8 → Heap → Nat → Res) (fun _ _ _ _ => none) (fun x y h n => some (.st (appS x y), h, n)) (Nat.ble (Nat.add (lenS x) (lenS y)) 9223372036854775807) x y h n)
    (fun _ _ _ _ => none) (fun _ _ _ _ => none) (fun _ _ _ _ => none) (fun _ _ _ _ => none) (fun _ _ _ _ => none) (fun _ _ _ _ => none) (fun _ _ _ _ => none) (fun _ _ _ _ => none) (fun _ _ _ _ => none) (fun _ _ _ _ => none)
    (fun x y h n => boK (eqSK x y) h n)
    (fun x y h n => boK (notK (eqSK x y)) h n)
    (fun x y h n => optF (strA .lss x y) h n)
    (fun x y h n => optF (strA .leq x y) h n)
    (fun x y h n => optF (strA .gtr x y) h n)
    (fun x y h n => optF (strA .geq x y) h n) op x y h n
theorem strK_eq (op : BinOp) (x y : List UInt8) (h : Heap) (n : Nat) : strK op x y h n = optF (strA op x y) h n := by
  cases op <;> try rfl
  case add =>
    show Bool.rec (motive := fun _ => List UInt8 → List UInt8 → Heap → Nat → Res) (fun _ _ _ _ => none) (fun x y h n => some (.st (appS x y), h, n)) (Nat.ble (Nat.add (lenS x) (lenS y)) 9223372036854775807) x y h n = _
    rw [lenS_eq, lenS_eq]
    simp only [strA]
    by_cases e : x.length + y.length ≤ 9223372036854775807
    · rw [if_pos e, show Nat.ble (Nat.add x.length y.length) 9223372036854775807 = true from Nat.ble_eq_true_of_le e]
      simp only [optF, forceV_eq, appS_eq]
    · rw [if_neg e]
      have : Nat.ble (Nat.add x.length y.length) 9223372036854775807 = false := by
        rw [Bool.eq_false_iff]; intro h; exact e (Nat.le_of_ble_eq_true h)
      rw [this]
      rfl
  case eql => show boK (eqSK x y) h n = _; rw [boK_eq, eqSK_eq]; rfl
  case neq => show boK (notK (eqSK x y)) h n = _; rw [boK_eq, eqSK_eq, notK_eq]; rfl

noncomputable def bin2K (b : AV) (op : BinOp) (k : IntKind) (x : Int) (h : Heap) (n : Nat) : Res :=
  AV.rec (motive_1 := fun _ => BinOp → IntKind → Int → Heap → Nat → Res) (motive_2 := fun _ => Unit) (fun _ _ _ _ _ _ => none)
    (fun k' y op k x h n => Bool.rec (motive := fun _ => BinOp → IntKind → Int → Int → Heap → Nat → Res) (fun _ _ _ _ _ _ => none) (fun op k x y h n => intK op k x y h n) (Nat.beq (noK k) (noK k')) op k x y h n) (fun _ _ _ _ _ _ => none) (fun _ _ _ _ _ _ _ => none) (fun _ _ _ _ _ => none) (fun _ _ _ _ _ _ _ _ _ => none) (fun _ _ _ _ _ => none) (fun _ _ _ _ _ _ => none) (fun _ _ _ _ _ => none) (fun _ _ _ _ _ _ _ _ _ _ => none) (fun _ _ _ _ _ => none) (fun _ _ _ _ _ _ _ _ => none) (fun _ _ _ _ _ => none) (fun _ _ _ _ _ _ _ => none) (fun _ _ _ _ _ _ _ => none) (fun _ _ _ _ _ _ => none) (fun _ _ _ _ _ _ => none)
    () (fun _ _ _ _ => ()) b op k x h n
noncomputable def bin3K (b : AV) (op : BinOp) (l : List UInt8) (h : Heap) (n : Nat) : Res :=
  AV.rec (motive_1 := fun _ => BinOp → List UInt8 → Heap → Nat → Res) (motive_2 := fun _ => Unit) (fun _ _ _ _ _ => none) (fun _ _ _ _ _ _ => none)
    (fun r op l h n => strK op l r h n) (fun _ _ _ _ _ _ => none) (fun _ _ _ _ => none) (fun _ _ _ _ _ _ _ _ => none) (fun _ _ _ _ => none) (fun _ _ _ _ _ => none) (fun _ _ _ _ => none) (fun _ _ _ _ _ _ _ _ _ => none) (fun _ _ _ _ => none) (fun _ _ _ _ _ _ _ => none) (fun _ _ _ _ => none) (fun _ _ _ _ _ _ => none) (fun _ _ _ _ _ _ => none) (fun _ _ _ _ _ => none) (fun _ _ _ _ _ => none)
    () (fun _ _ _ _ => ()) b op l h n
noncomputable def binK (a b : AV) (op : BinOp) (h : Heap) (n : Nat) : Res :=
  AV.rec (motive_1 := fun _ => AV → BinOp → Heap → Nat → Res) (motive_2 := fun _ => Unit) (fun _ _ _ _ _ => none)
    (fun k x b op h n => bin2K b op k x h n)
    (fun l b op h n => bin3K b op l h n) (fun _ _ _ _ _ _ => none) (fun _ _ _ _ => none) (fun _ _ _ _ _ _ _ _ => none) (fun _ _ _ _ => none) (fun _ _ _ _ _ => none) (fun _ _ _ _ => none) (fun _ _ _ _ _ _ _ _ _ => none) (fun _ _ _ _ => none) (fun _ _ _ _ _ _ _ => none) (fun _ _ _ _ => none) (fun _ _ _ _ _ _ => none) (fun _ _ _ _ _ _ => none) (fun _ _ _ _ _ => none) (fun _ _ _ _ _ => none)
    () (fun _ _ _ _ => ()) a b op h n
theorem binK_eq (a b : AV) (op : BinOp) (h : Heap) (n : Nat) : binK a b op h n = optF (binQ op a b) h n := by
  cases a <;> try rfl
  case nt k x =>
    cases b <;> try rfl
    case nt k' y =>
      show Bool.rec (motive := fun _ => BinOp → IntKind → Int → Int → Heap → Nat → Res) (fun _ _ _ _ _ _ => none) (fun op k x y h n => intK op k x y h n) (Nat.beq (noK k) (noK k')) op k x y h n = optF (bif Nat.beq (kindNo k) (kindNo k') then intF op k x y else none) h n
      rw [noK_eq, noK_eq]
      cases Nat.beq (kindNo k) (kindNo k') with
      | true => exact intK_eq op k x y h n
      | false => rfl
  case st l =>
    cases b <;> try rfl
    case st r => exact strK_eq op l r h n
noncomputable def unK (v : AV) (op : UnOp) (h : Heap) (n : Nat) : Res :=
  AV.rec (motive_1 := fun _ => UnOp → Heap → Nat → Res) (motive_2 := fun _ => Unit)
    (fun x op h n => UnOp.rec (motive := fun _ => Bool → Heap → Nat → Res) (fun _ _ _ => none) (fun _ _ _ => none) (fun x h n => boK (notK x) h n) (fun _ _ _ => none) op x h n)
    (fun k x op h n => optF (unA op (.nt k x)) h n) (fun _ _ _ _ => none) (fun _ _ _ _ _ => none) (fun _ _ _ => none) (fun _ _ _ _ _ _ _ => none) (fun _ _ _ => none) (fun _ _ _ _ => none) (fun _ _ _ => none) (fun _ _ _ _ _ _ _ _ => none) (fun _ _ _ => none) (fun _ _ _ _ _ _ => none) (fun _ _ _ => none) (fun _ _ _ _ _ => none) (fun _ _ _ _ _ => none) (fun _ _ _ _ => none) (fun _ _ _ _ => none)
    () (fun _ _ _ _ => ()) v op h n
theorem unK_eq (v : AV) (op : UnOp) (h : Heap) (n : Nat) : unK v op h n = optF (unA op v) h n := by
  cases v <;> cases op <;> try rfl
  case bo.not x => show boK (notK x) h n = _; rw [boK_eq, notK_eq]; rfl
noncomputable def callvK (v : AV) (C : CallF) (as : List AV) (h : Heap) (n : Nat) : Res :=
  AV.rec (motive_1 := fun _ => CallF → List AV → Heap → Nat → Res) (motive_2 := fun _ => Unit) (fun _ _ _ _ _ => none) (fun _ _ _ _ _ _ => none) (fun _ _ _ _ _ => none) (fun _ _ _ _ _ _ => none) (fun _ _ _ _ => none) (fun _ _ _ _ _ _ _ _ => none) (fun _ _ _ _ => none) (fun _ _ _ _ _ => none) (fun _ _ _ _ => none)
    (fun g fs cs _ _ C as h n => C (.fn g) (appA fs (appA as cs)) h n) (fun _ _ _ _ => none) (fun _ _ _ _ _ _ _ => none) (fun _ _ _ _ => none) (fun _ _ _ _ _ _ => none) (fun _ _ _ _ _ _ => none) (fun _ _ _ _ _ => none)
    (fun b C as h n => C (.yl b) as h n)
    () (fun _ _ _ _ => ()) v C as h n
noncomputable def blkK (b : Option Blk) (f : List AV → Nat → Nat → Heap → Nat → Res) (o k : Nat) (h : Heap) (n : Nat) : Res :=
  Option.rec (motive := fun _ => (List AV → Nat → Nat → Heap → Nat → Res) → Nat → Nat → Heap → Nat → Res) (fun _ _ _ _ _ => none)
    (fun b f o k h n => Blk.rec (motive := fun _ => (List AV → Nat → Nat → Heap → Nat → Res) → Nat → Nat → Heap → Nat → Res) (fun vs _ _ _ f o k h n => f vs o k h n) (fun _ _ _ _ _ _ _ => none) (fun _ _ _ _ _ _ _ => none) (fun vs f o k h n => f vs o k h n) (fun _ _ _ _ _ _ => none) b f o k h n) b f o k h n
theorem blkK_eq (H : Heap) (b : Nat) (f : List AV → Nat → Nat → Heap → Nat → Res) (o k : Nat) (h : Heap) (n : Nat) : blkK (PT.get H b) f o k h n = match cellsOf H b with | some vs => f vs o k h n | none => none := by
  unfold cellsOf
  cases PT.get H b with
  | none => rfl
  | some b => cases b <;> rfl
noncomputable def aggK (l : List AV) (k : Nat) (h : Heap) (n : Nat) : Res := Bool.rec (motive := fun _ => List AV → Heap → Nat → Res) (fun _ _ _ => none) (fun l h n => some (.agg l, h, n)) (Nat.beq (lenA l) k) l h n
theorem aggK_eq (l : List AV) (k : Nat) (h : Heap) (n : Nat) : aggK l k h n = optR (if Nat.beq l.length k then some (.agg l) else none) h n := by
  unfold aggK
  rw [lenA_eq]
  cases Nat.beq l.length k <;> rfl
noncomputable def ld1K (v : AV) (h : Heap) (n : Nat) : Res :=
  AV.rec (motive_1 := fun _ => Heap → Nat → Res) (motive_2 := fun _ => Unit) (fun _ _ _ => none) (fun _ _ _ _ => none) (fun _ _ _ => none)
    (fun b o h n => blkK (PT.get h b) (fun vs o _ h n => optR (nthA vs o) h n) o 0 h n) (fun _ _ => none) (fun _ _ _ _ _ _ => none) (fun _ _ => none) (fun _ _ _ => none) (fun _ _ => none) (fun _ _ _ _ _ _ _ => none) (fun _ _ => none) (fun _ _ _ _ _ => none) (fun _ _ => none) (fun _ _ _ _ => none) (fun _ _ _ _ => none) (fun _ _ _ => none) (fun _ _ _ => none)
    () (fun _ _ _ _ => ()) v h n
noncomputable def ldnK (v : AV) (k : Nat) (h : Heap) (n : Nat) : Res :=
  AV.rec (motive_1 := fun _ => Nat → Heap → Nat → Res) (motive_2 := fun _ => Unit) (fun _ _ _ _ => none) (fun _ _ _ _ _ => none) (fun _ _ _ _ => none)
    (fun b o k h n => blkK (PT.get h b) (fun vs o k h n => aggK (takeA (dropA vs o) k) k h n) o k h n) (fun _ _ _ => none) (fun _ _ _ _ _ _ _ => none) (fun _ _ _ => none) (fun _ _ _ _ => none) (fun _ _ _ => none) (fun _ _ _ _ _ _ _ _ => none) (fun _ _ _ => none) (fun _ _ _ _ _ _ => none) (fun _ _ _ => none) (fun _ _ _ _ _ => none) (fun _ _ _ _ _ => none) (fun _ _ _ _ => none) (fun _ _ _ _ => none)
    () (fun _ _ _ _ => ()) v k h n
theorem ld1K_eq (v : AV) (h : Heap) (n : Nat) : ld1K v h n = optR (ld1Q h v) h n := by
  cases v <;> try rfl
  case pt b o =>
    show blkK (PT.get h b) (fun vs o _ h n => optR (nthA vs o) h n) o 0 h n = _
    rw [blkK_eq]
    simp only [ld1Q]
    cases cellsOf h b with
    | none => rfl
    | some vs => simp only [nthA_eq]
theorem ldnK_eq (v : AV) (k : Nat) (h : Heap) (n : Nat) : ldnK v k h n = optR (ldnQ h k v) h n := by
  cases v <;> try rfl
  case pt b o =>
    show blkK (PT.get h b) (fun vs o k h n => aggK (takeA (dropA vs o) k) k h n) o k h n = _
    rw [blkK_eq]
    simp only [ldnQ]
    cases cellsOf h b with
    | none => rfl
    | some vs => simp only [aggK_eq, takeA_eq, dropA_eq]
noncomputable def cellsK (v : AV) : List AV :=
  AV.rec (motive_1 := fun _ => List AV) (motive_2 := fun _ => Unit)
    (fun x => [.bo x])
    (fun k x => [.nt k x])
    (fun l => [.st l])
    (fun b o => [.pt b o])
    ([.pn])
    (fun b o ln cap => [.sl b o ln cap])
    ([.sn])
    (fun b => [.mp b])
    ([.mn])
    (fun g fs cs ih1 ih2 => [.fu g fs cs])
    ([.fn])
    (fun t v ih => [.ifc t v])
    ([.ifn])
    (fun cs ih => cs)
    (fun vs ih => [.tup vs])
    (fun v => [.raw v])
    (fun b => [.yl b])
    () (fun _ _ _ _ => ()) v
theorem cellsK_eq (v : AV) : cellsK v = v.cells := by cases v <;> rfl
noncomputable def oneK (v : AV) : Bool :=
  AV.rec (motive_1 := fun _ => Bool) (motive_2 := fun _ => Unit)
    (fun x => true)
    (fun k x => true)
    (fun l => true)
    (fun b o => true)
    (true)
    (fun b o ln cap => true)
    (true)
    (fun b => true)
    (true)
    (fun g fs cs ih1 ih2 => true)
    (true)
    (fun t v ih => true)
    (true)
    (fun cs ih => false)
    (fun vs ih => false)
    (fun v => AV.one (.raw v))
    (fun b => true)
    () (fun _ _ _ _ => ()) v
theorem oneK_eq (v : AV) : oneK v = v.one := by cases v <;> rfl
noncomputable def plainK (v : AV) : Bool :=
  AV.rec (motive_1 := fun _ => Bool) (motive_2 := fun _ => Unit)
    (fun x => true)
    (fun k x => true)
    (fun l => true)
    (fun b o => true)
    (true)
    (fun b o ln cap => true)
    (true)
    (fun b => true)
    (true)
    (fun g fs cs ih1 ih2 => true)
    (true)
    (fun t v ih => true)
    (true)
    (fun cs ih => true)
    (fun vs ih => true)
    (fun v => AV.plain (.raw v))
    (fun b => true)
    () (fun _ _ _ _ => ()) v
theorem plainK_eq (v : AV) : plainK v = v.plain := by cases v <;> rfl
noncomputable def allOneK (l : List AV) : Bool := List.rec (motive := fun _ => Bool) true (fun a _ ih => Bool.rec (motive := fun _ => Bool) false ih (oneK a)) l
theorem allOneK_eq (l : List AV) : allOneK l = l.all AV.one := by
  induction l with
  | nil => rfl
  | cons a l ih =>
    show Bool.rec (motive := fun _ => Bool) false (allOneK l) (oneK a) = _
    rw [ih, oneK_eq, List.all_cons]
    cases a.one <;> rfl
noncomputable def unfK (fz : Option (Nat × Nat)) (o k : Nat) : Bool :=
  Option.rec (motive := fun _ => Nat → Nat → Bool) (fun _ _ => true) (fun p o k => Bool.rec (motive := fun _ => Bool) (Bool.rec (motive := fun _ => Bool) (Nat.ble p.2 p.1) true (Nat.ble (Nat.add o k) p.1)) true (Nat.ble p.2 o)) fz o k
theorem unfK_eq (fz : Option (Nat × Nat)) (o k : Nat) : unfK fz o k = unfrozen fz o k := by
  cases fz with
  | none => rfl
  | some p =>
    obtain ⟨a, c⟩ := p
    show Bool.rec (motive := fun _ => Bool) (Bool.rec (motive := fun _ => Bool) (Nat.ble c a) true (Nat.ble (o + k) a)) true (Nat.ble c o) = (Nat.ble c o || Nat.ble (o + k) a || Nat.ble c a)
    cases Nat.ble c o <;> cases Nat.ble (o + k) a <;> rfl
noncomputable def st2K (b : Nat) (o : Nat) (v : AV) (k : Nat) (x : Option Blk) (h : Heap) (n : Nat) : Res :=
  Option.rec (motive := fun _ => Nat → Nat → AV → Nat → Heap → Nat → Res) (fun _ _ _ _ _ _ => none)
    (fun x b o v k h n => Blk.rec (motive := fun _ => Nat → Nat → AV → Nat → Heap → Nat → Res)
      (fun vs el fz gr b o v k h n => Bool.rec (motive := fun _ => Res) none (some (.tup [], PT.set h b (.cells (updA vs o (cellsK v)) el fz gr), n))
        (andK (Nat.beq (lenA (cellsK v)) k) (andK (hasA vs (Nat.add o k)) (andK (unfK fz o k) (andK (allOneK (cellsK v)) (plainK v))))))
      (fun _ _ _ _ _ _ _ _ => none) (fun _ _ _ _ _ _ _ _ => none) (fun _ _ _ _ _ _ _ => none) (fun _ _ _ _ _ _ _ => none) x b o v k h n) x b o v k h n
noncomputable def stK (x : AV) (v : AV) (k : Nat) (h : Heap) (n : Nat) : Res :=
  AV.rec (motive_1 := fun _ => AV → Nat → Heap → Nat → Res) (motive_2 := fun _ => Unit) (fun _ _ _ _ _ => none) (fun _ _ _ _ _ _ => none) (fun _ _ _ _ _ => none)
    (fun b o v k h n => st2K b o v k (PT.get h b) h n) (fun _ _ _ _ => none) (fun _ _ _ _ _ _ _ _ => none) (fun _ _ _ _ => none) (fun _ _ _ _ _ => none) (fun _ _ _ _ => none) (fun _ _ _ _ _ _ _ _ _ => none) (fun _ _ _ _ => none) (fun _ _ _ _ _ _ _ => none) (fun _ _ _ _ => none) (fun _ _ _ _ _ _ => none) (fun _ _ _ _ _ _ => none) (fun _ _ _ _ _ => none) (fun _ _ _ _ _ => none)
    () (fun _ _ _ _ => ()) x v k h n
theorem stK_eq (x v : AV) (k : Nat) (h : Heap) (n : Nat) : stK x v k h n = match stQ h k x v with | some h' => some (.tup [], h', n) | none => none := by
  cases x <;> try rfl
  case pt b o =>
    show st2K b o v k (PT.get h b) h n = _
    simp only [stQ]
    cases hb : PT.get h b with
    | none => rfl
    | some y =>
      cases y <;> try rfl
      case cells vs el fz gr =>
        show Bool.rec (motive := fun _ => Res) none (some (AV.tup [], PT.set h b (.cells (updA vs o (cellsK v)) el fz gr), n))
          (andK (Nat.beq (lenA (cellsK v)) k) (andK (hasA vs (Nat.add o k)) (andK (unfK fz o k) (andK (allOneK (cellsK v)) (plainK v))))) = _
        simp only [andK_eq, lenA_eq, hasA_eq, unfK_eq, allOneK_eq, plainK_eq, cellsK_eq, updA_eq, Bool.and_assoc]
        show Bool.rec (motive := fun _ => Res) none (some (AV.tup [], PT.set h b (.cells (updL vs o v.cells) el fz gr), n)) (Nat.beq v.cells.length k && (hasLen vs (o + k) && (unfrozen fz o k && (v.cells.all AV.one && v.plain)))) = _
        cases (Nat.beq v.cells.length k && (hasLen vs (o + k) && (unfrozen fz o k && (v.cells.all AV.one && v.plain)))) <;> rfl
noncomputable def faK (v : AV) (off : Nat) (h : Heap) (n : Nat) : Res :=
  AV.rec (motive_1 := fun _ => Nat → Heap → Nat → Res) (motive_2 := fun _ => Unit) (fun _ _ _ _ => none) (fun _ _ _ _ _ => none) (fun _ _ _ _ => none)
    (fun b o off h n => natK (Nat.add o off) fun o => some (.pt b o, h, n)) (fun _ _ _ => none) (fun _ _ _ _ _ _ _ => none) (fun _ _ _ => none) (fun _ _ _ _ => none) (fun _ _ _ => none) (fun _ _ _ _ _ _ _ _ => none) (fun _ _ _ => none) (fun _ _ _ _ _ _ => none) (fun _ _ _ => none) (fun _ _ _ _ _ => none) (fun _ _ _ _ _ => none) (fun _ _ _ _ => none) (fun _ _ _ _ => none)
    () (fun _ _ _ _ => ()) v off h n
noncomputable def fd1K (v : AV) (off : Nat) (h : Heap) (n : Nat) : Res :=
  AV.rec (motive_1 := fun _ => Nat → Heap → Nat → Res) (motive_2 := fun _ => Unit) (fun _ _ _ _ => none) (fun _ _ _ _ _ => none) (fun _ _ _ _ => none) (fun _ _ _ _ _ => none) (fun _ _ _ => none) (fun _ _ _ _ _ _ _ => none) (fun _ _ _ => none) (fun _ _ _ _ => none) (fun _ _ _ => none) (fun _ _ _ _ _ _ _ _ => none) (fun _ _ _ => none) (fun _ _ _ _ _ _ => none) (fun _ _ _ => none)
    (fun cs _ off h n => optR (nthA cs off) h n) (fun _ _ _ _ _ => none) (fun _ _ _ _ => none) (fun _ _ _ _ => none)
    () (fun _ _ _ _ => ()) v off h n
noncomputable def fdnK (v : AV) (off k : Nat) (h : Heap) (n : Nat) : Res :=
  AV.rec (motive_1 := fun _ => Nat → Nat → Heap → Nat → Res) (motive_2 := fun _ => Unit) (fun _ _ _ _ _ => none) (fun _ _ _ _ _ _ => none) (fun _ _ _ _ _ => none) (fun _ _ _ _ _ _ => none) (fun _ _ _ _ => none) (fun _ _ _ _ _ _ _ _ => none) (fun _ _ _ _ => none) (fun _ _ _ _ _ => none) (fun _ _ _ _ => none) (fun _ _ _ _ _ _ _ _ _ => none) (fun _ _ _ _ => none) (fun _ _ _ _ _ _ _ => none) (fun _ _ _ _ => none)
    (fun cs _ off k h n => aggK (takeA (dropA cs off) k) k h n) (fun _ _ _ _ _ _ => none) (fun _ _ _ _ _ => none) (fun _ _ _ _ _ => none)
    () (fun _ _ _ _ => ()) v off k h n
noncomputable def atK (x : Int) (b o ln k : Nat) (h : Heap) (n : Nat) : Res :=
  Int.rec (motive := fun _ => Nat → Nat → Nat → Nat → Heap → Nat → Res)
    (fun i b o ln k h n => Bool.rec (motive := fun _ => Nat → Nat → Nat → Nat → Heap → Nat → Res) (fun _ _ _ _ _ _ => none) (fun i b o k h n => natK (Nat.add o (Nat.mul i k)) fun o => some (.pt b o, h, n)) (Nat.ble (Nat.succ i) ln) i b o k h n)
    (fun _ _ _ _ _ _ _ => none) x b o ln k h n
theorem atK_eq (x : Int) (b o ln k : Nat) (h : Heap) (n : Nat) : atK x b o ln k h n = match x with | .ofNat i => bif Nat.blt i ln then some (.pt b (o + i * k), h, n) else none | _ => none := by
  cases x with
  | negSucc _ => rfl
  | ofNat i =>
    show Bool.rec (motive := fun _ => Nat → Nat → Nat → Nat → Heap → Nat → Res) (fun _ _ _ _ _ _ => none) (fun i b o k h n => natK (Nat.add o (Nat.mul i k)) fun o => some (.pt b o, h, n)) (Nat.blt i ln) i b o k h n = _
    cases hb : Nat.blt i ln with
    | false => simp [hb]
    | true => simp only [natK_eq, hb, cond_true]; rfl
noncomputable def ixcK (c : Option UInt8) (h : Heap) (n : Nat) : Res := Option.rec (motive := fun _ => Heap → Nat → Res) (fun _ _ => none) (fun c h n => natK c.toNat fun m => some (.nt .u8 (.ofNat m), h, n)) c h n
noncomputable def chK (x : Int) (l : List UInt8) (h : Heap) (n : Nat) : Res :=
  Int.rec (motive := fun _ => List UInt8 → Heap → Nat → Res) (fun i l h n => ixcK (nthS l i) h n) (fun _ _ _ _ => none) x l h n
theorem chK_eq (x : Int) (l : List UInt8) (h : Heap) (n : Nat) : chK x l h n = match x with | .ofNat i => optR ((l[i]?).map fun c => .nt .u8 (.ofNat c.toNat)) h n | _ => none := by
  cases x with
  | negSucc _ => rfl
  | ofNat i =>
    show ixcK (nthS l i) h n = _
    rw [nthS_eq]
    simp only []
    cases l[i]? with
    | none => rfl
    | some c => show (natK c.toNat fun m => some (AV.nt .u8 (.ofNat m), h, n)) = _; rw [natK_eq]; rfl
noncomputable def ia2K (i : AV) (b o ln k : Nat) (h : Heap) (n : Nat) : Res :=
  AV.rec (motive_1 := fun _ => Nat → Nat → Nat → Nat → Heap → Nat → Res) (motive_2 := fun _ => Unit) (fun _ _ _ _ _ _ _ => none)
    (fun _ x b o ln k h n => atK x b o ln k h n) (fun _ _ _ _ _ _ _ => none) (fun _ _ _ _ _ _ _ _ => none) (fun _ _ _ _ _ _ => none) (fun _ _ _ _ _ _ _ _ _ _ => none) (fun _ _ _ _ _ _ => none) (fun _ _ _ _ _ _ _ => none) (fun _ _ _ _ _ _ => none) (fun _ _ _ _ _ _ _ _ _ _ _ => none) (fun _ _ _ _ _ _ => none) (fun _ _ _ _ _ _ _ _ _ => none) (fun _ _ _ _ _ _ => none) (fun _ _ _ _ _ _ _ _ => none) (fun _ _ _ _ _ _ _ _ => none) (fun _ _ _ _ _ _ _ => none) (fun _ _ _ _ _ _ _ => none)
    () (fun _ _ _ _ => ()) i b o ln k h n
noncomputable def iaK (v i : AV) (k : Nat) (h : Heap) (n : Nat) : Res :=
  AV.rec (motive_1 := fun _ => AV → Nat → Heap → Nat → Res) (motive_2 := fun _ => Unit) (fun _ _ _ _ _ => none) (fun _ _ _ _ _ _ => none) (fun _ _ _ _ _ => none) (fun _ _ _ _ _ _ => none) (fun _ _ _ _ => none)
    (fun b o ln _ i k h n => ia2K i b o ln k h n) (fun _ _ _ _ => none) (fun _ _ _ _ _ => none) (fun _ _ _ _ => none) (fun _ _ _ _ _ _ _ _ _ => none) (fun _ _ _ _ => none) (fun _ _ _ _ _ _ _ => none) (fun _ _ _ _ => none) (fun _ _ _ _ _ _ => none) (fun _ _ _ _ _ _ => none) (fun _ _ _ _ _ => none) (fun _ _ _ _ _ => none)
    () (fun _ _ _ _ => ()) v i k h n
noncomputable def iaaK (v i : AV) (ln k : Nat) (h : Heap) (n : Nat) : Res :=
  AV.rec (motive_1 := fun _ => AV → Nat → Nat → Heap → Nat → Res) (motive_2 := fun _ => Unit) (fun _ _ _ _ _ _ => none) (fun _ _ _ _ _ _ _ => none) (fun _ _ _ _ _ _ => none)
    (fun b o i ln k h n => ia2K i b o ln k h n) (fun _ _ _ _ _ => none) (fun _ _ _ _ _ _ _ _ _ => none) (fun _ _ _ _ _ => none) (fun _ _ _ _ _ _ => none) (fun _ _ _ _ _ => none) (fun _ _ _ _ _ _ _ _ _ _ => none) (fun _ _ _ _ _ => none) (fun _ _ _ _ _ _ _ _ => none) (fun _ _ _ _ _ => none) (fun _ _ _ _ _ _ _ => none) (fun _ _ _ _ _ _ _ => none) (fun _ _ _ _ _ _ => none) (fun _ _ _ _ _ _ => none)
    () (fun _ _ _ _ => ()) v i ln k h n
noncomputable def ix2K (i : AV) (l : List UInt8) (h : Heap) (n : Nat) : Res :=
  AV.rec (motive_1 := fun _ => List UInt8 → Heap → Nat → Res) (motive_2 := fun _ => Unit) (fun _ _ _ _ => none)
    (fun _ x l h n => chK x l h n) (fun _ _ _ _ => none) (fun _ _ _ _ _ => none) (fun _ _ _ => none) (fun _ _ _ _ _ _ _ => none) (fun _ _ _ => none) (fun _ _ _ _ => none) (fun _ _ _ => none) (fun _ _ _ _ _ _ _ _ => none) (fun _ _ _ => none) (fun _ _ _ _ _ _ => none) (fun _ _ _ => none) (fun _ _ _ _ _ => none) (fun _ _ _ _ _ => none) (fun _ _ _ _ => none) (fun _ _ _ _ => none)
    () (fun _ _ _ _ => ()) i l h n
noncomputable def ixK (v i : AV) (h : Heap) (n : Nat) : Res :=
  AV.rec (motive_1 := fun _ => AV → Heap → Nat → Res) (motive_2 := fun _ => Unit) (fun _ _ _ _ => none) (fun _ _ _ _ _ => none)
    (fun l i h n => ix2K i l h n) (fun _ _ _ _ _ => none) (fun _ _ _ => none) (fun _ _ _ _ _ _ _ => none) (fun _ _ _ => none) (fun _ _ _ _ => none) (fun _ _ _ => none) (fun _ _ _ _ _ _ _ _ => none) (fun _ _ _ => none) (fun _ _ _ _ _ _ => none) (fun _ _ _ => none) (fun _ _ _ _ _ => none) (fun _ _ _ _ _ => none) (fun _ _ _ _ => none) (fun _ _ _ _ => none)
    () (fun _ _ _ _ => ()) v i h n
noncomputable def lenK (v : AV) (h : Heap) (n : Nat) : Res :=
  AV.rec (motive_1 := fun _ => Heap → Nat → Res) (motive_2 := fun _ => Unit) (fun _ _ _ => none) (fun _ _ _ _ => none)
    (fun l h n => natK (lenS l) fun m => some (.nt .i64 (.ofNat m), h, n)) (fun _ _ _ _ => none) (fun _ _ => none) (fun _ _ _ _ _ _ => none) (fun _ _ => none) (fun _ _ _ => none) (fun _ _ => none) (fun _ _ _ _ _ _ _ => none) (fun _ _ => none) (fun _ _ _ _ _ => none) (fun _ _ => none) (fun _ _ _ _ => none) (fun _ _ _ _ => none) (fun _ _ _ => none) (fun _ _ _ => none)
    () (fun _ _ _ _ => ()) v h n
noncomputable def lnsK (v : AV) (h : Heap) (n : Nat) : Res :=
  AV.rec (motive_1 := fun _ => Heap → Nat → Res) (motive_2 := fun _ => Unit) (fun _ _ _ => none) (fun _ _ _ _ => none) (fun _ _ _ => none) (fun _ _ _ _ => none) (fun _ _ => none)
    (fun _ _ ln _ h n => natK ln fun m => some (.nt .i64 (.ofNat m), h, n))
    (fun h n => some (.nt .i64 (.ofNat 0), h, n)) (fun _ _ _ => none) (fun _ _ => none) (fun _ _ _ _ _ _ _ => none) (fun _ _ => none) (fun _ _ _ _ _ => none) (fun _ _ => none) (fun _ _ _ _ => none) (fun _ _ _ _ => none) (fun _ _ _ => none) (fun _ _ _ => none)
    () (fun _ _ _ _ => ()) v h n
noncomputable def extK (v : AV) (i : Nat) (h : Heap) (n : Nat) : Res :=
  AV.rec (motive_1 := fun _ => Nat → Heap → Nat → Res) (motive_2 := fun _ => Unit) (fun _ _ _ _ => none) (fun _ _ _ _ _ => none) (fun _ _ _ _ => none) (fun _ _ _ _ _ => none) (fun _ _ _ => none) (fun _ _ _ _ _ _ _ => none) (fun _ _ _ => none) (fun _ _ _ _ => none) (fun _ _ _ => none) (fun _ _ _ _ _ _ _ _ => none) (fun _ _ _ => none) (fun _ _ _ _ _ _ => none) (fun _ _ _ => none) (fun _ _ _ _ _ => none)
    (fun vs _ i h n => optR (nthA vs i) h n) (fun _ _ _ _ => none) (fun _ _ _ _ => none)
    () (fun _ _ _ _ => ()) v i h n
noncomputable def pickK (v a b : AV) (h : Heap) (n : Nat) : Res :=
  AV.rec (motive_1 := fun _ => AV → AV → Heap → Nat → Res) (motive_2 := fun _ => Unit)
    (fun x a b h n => Bool.rec (motive := fun _ => AV → AV → Heap → Nat → Res) (fun _ b h n => some (b, h, n)) (fun a _ h n => some (a, h, n)) x a b h n) (fun _ _ _ _ _ _ => none) (fun _ _ _ _ _ => none) (fun _ _ _ _ _ _ => none) (fun _ _ _ _ => none) (fun _ _ _ _ _ _ _ _ => none) (fun _ _ _ _ => none) (fun _ _ _ _ _ => none) (fun _ _ _ _ => none) (fun _ _ _ _ _ _ _ _ _ => none) (fun _ _ _ _ => none) (fun _ _ _ _ _ _ _ => none) (fun _ _ _ _ => none) (fun _ _ _ _ _ _ => none) (fun _ _ _ _ _ _ => none) (fun _ _ _ _ _ => none) (fun _ _ _ _ _ => none)
    () (fun _ _ _ _ => ()) v a b h n
noncomputable def okNil (v : AV) : Bool :=
  AV.rec (motive_1 := fun _ => Bool) (motive_2 := fun _ => Unit)
    (fun x => true)
    (fun k x => true)
    (fun l => true)
    (fun b o => true)
    (false)
    (fun b o ln cap => true)
    (true)
    (fun b => true)
    (true)
    (fun g fs cs ih1 ih2 => true)
    (false)
    (fun t v ih => true)
    (false)
    (fun cs ih => true)
    (fun vs ih => true)
    (fun v => false)
    (fun b => true)
    () (fun _ _ _ _ => ()) v
noncomputable def guardK (v : AV) (b : Bool) : Option Bool :=
  AV.rec (motive_1 := fun _ => Bool → Option Bool) (motive_2 := fun _ => Unit)
    (fun x b => some (Bool.rec (motive := fun _ => Bool → Bool) (fun b => notK b) (fun b => b) x b)) (fun _ _ _ => none) (fun _ _ => none) (fun _ _ _ => none) (fun _ => none) (fun _ _ _ _ _ => none) (fun _ => none) (fun _ _ => none) (fun _ => none) (fun _ _ _ _ _ _ => none) (fun _ => none) (fun _ _ _ _ => none) (fun _ => none) (fun _ _ _ => none)
    (fun _ _ b => some false) (fun _ _ => none) (fun _ _ => none)
    () (fun _ _ _ _ => ()) v b
noncomputable def nilK (v : AV) (h : Heap) (n : Nat) : Res := Bool.rec (motive := fun _ => AV → Heap → Nat → Res) (fun _ _ _ => none) (fun v h n => some (v, h, n)) (okNil v) v h n
noncomputable def boxK (elem : TypeId) (v : AV) (h : Heap) (n : Nat) : Res :=
  Bool.rec (motive := fun _ => TypeId → AV → Heap → Nat → Res) (fun _ _ _ _ => none) (fun elem v h n => some (.pt n 0, PT.set h n (.cells (cellsK v) elem (some (0, 0)) false), Nat.succ n)) (plainK v) elem v h n
noncomputable def genK (P : Program) (C : CallF) (o : Op) (m : List (Tmp × Ref)) (env : List AV) (h : Heap) (n : Nat) : Res :=
  match actO P C (bare o) (evM P.globals.size m env) h n [] with | some (v, h', n', []) => some (v, h', n') | _ => none

/-- The same as 'FO.ev', laid for the kernel. -/
noncomputable def FO.evK (P : Program) (C : CallF) (o : FO) (env : List AV) (h : Heap) (n : Nat) : Res :=
  FO.rec (motive := fun _ => Program → CallF → List AV → Heap → Nat → Res)
    (fun o m P C env h n => genK P C o m env h n)
    (fun x _ _ env h n => some (x.val env, h, n))
    (fun op x y _ _ env h n => binK (x.val env) (y.val env) op h n)
    (fun op x _ _ env h n => unK (x.val env) op h n)
    (fun g args _ C env h n => C (.fn g) (valsR env args) h n)
    (fun f args _ C env h n => callvK (f.val env) C (valsR env args) h n)
    (fun x _ _ env h n => ld1K (x.val env) h n)
    (fun k x _ _ env h n => ldnK (x.val env) k h n)
    (fun k x v _ _ env h n => stK (x.val env) (v.val env) k h n)
    (fun off x _ _ env h n => faK (x.val env) off h n)
    (fun off x _ _ env h n => fd1K (x.val env) off h n)
    (fun off k x _ _ env h n => fdnK (x.val env) off k h n)
    (fun k x i _ _ env h n => iaK (x.val env) (i.val env) k h n)
    (fun ln k x i _ _ env h n => iaaK (x.val env) (i.val env) ln k h n)
    (fun x i _ _ env h n => ixK (x.val env) (i.val env) h n)
    (fun x _ _ env h n => lenK (x.val env) h n)
    (fun x _ _ env h n => lnsK (x.val env) h n)
    (fun x i _ _ env h n => extK (x.val env) i h n)
    (fun c a b _ _ env h n => pickK (c.val env) (a.val env) (b.val env) h n)
    (fun x _ _ env h n => nilK (x.val env) h n)
    (fun elem z _ _ _ h n => some (.pt n 0, PT.set h n (.cells z elem (some (0, 0)) false), Nat.succ n))
    (fun elem x _ _ env h n => boxK elem (x.val env) h n)
    (fun t x _ _ env h n => some (.ifc t (x.val env), h, n)) o P C env h n

theorem FO.evK_eq (P : Program) (C : CallF) (o : FO) (env : List AV) (h : Heap) (n : Nat) : o.evK P C env h n = o.ev P C env h n := by
  cases o
  case gen o m => rfl
  case mv x => rfl
  case bin op x y => exact binK_eq ..
  case un op x => exact unK_eq ..
  case call g args => rfl
  case callv f args =>
    show callvK (f.val env) C (valsR env args) h n = _
    simp only [FO.ev]
    cases f.val env <;> try rfl
    case fu g fs cs => show C (.fn g) (appA fs (appA (valsR env args) cs)) h n = _; rw [appA_eq, appA_eq, ← List.append_assoc]
  case ld1 x => exact ld1K_eq ..
  case ldn k x => exact ldnK_eq ..
  case st k x v => exact stK_eq ..
  case fa off x =>
    show faK (x.val env) off h n = _
    simp only [FO.ev]
    cases x.val env <;> try rfl
    case pt b o => show (natK (Nat.add o off) fun o => some (AV.pt b o, h, n)) = _; rw [natK_eq]; rfl
  case fd1 off x =>
    show fd1K (x.val env) off h n = _
    simp only [FO.ev]
    cases x.val env <;> try rfl
    case agg cs => show optR (nthA cs off) h n = _; rw [nthA_eq]
  case fdn off k x =>
    show fdnK (x.val env) off k h n = _
    simp only [FO.ev]
    cases x.val env <;> try rfl
    case agg cs =>
      show aggK (takeA (dropA cs off) k) k h n = _
      rw [aggK_eq, takeA_eq, dropA_eq]
      simp only []
      split <;> rfl
  case ia k x i =>
    show iaK (x.val env) (i.val env) k h n = _
    simp only [FO.ev]
    cases x.val env <;> try rfl
    case sl b o ln cap =>
      show ia2K (i.val env) b o ln k h n = _
      cases i.val env <;> try rfl
      case nt kk z => show atK z b o ln k h n = _; rw [atK_eq]; cases z <;> rfl
  case iaa ln k x i =>
    show iaaK (x.val env) (i.val env) ln k h n = _
    simp only [FO.ev]
    cases x.val env <;> try rfl
    case pt b o =>
      show ia2K (i.val env) b o ln k h n = _
      cases i.val env <;> try rfl
      case nt kk z => show atK z b o ln k h n = _; rw [atK_eq]; cases z <;> rfl
  case ix x i =>
    show ixK (x.val env) (i.val env) h n = _
    simp only [FO.ev]
    cases x.val env <;> try rfl
    case st l =>
      show ix2K (i.val env) l h n = _
      cases i.val env <;> try rfl
      case nt kk z => show chK z l h n = _; rw [chK_eq]; cases z <;> rfl
  case len x =>
    show lenK (x.val env) h n = _
    simp only [FO.ev]
    cases x.val env <;> try rfl
    case st l => show (natK (lenS l) fun m => some (AV.nt .i64 (.ofNat m), h, n)) = _; rw [natK_eq, lenS_eq]
  case lns x =>
    show lnsK (x.val env) h n = _
    simp only [FO.ev]
    cases x.val env <;> try rfl
    case sl b o ln cap => show (natK ln fun m => some (AV.nt .i64 (.ofNat m), h, n)) = _; rw [natK_eq]
  case ext x i =>
    show extK (x.val env) i h n = _
    simp only [FO.ev]
    cases x.val env <;> try rfl
    case tup vs => show optR (nthA vs i) h n = _; rw [nthA_eq]
  case pick c a b =>
    show pickK (c.val env) (a.val env) (b.val env) h n = _
    simp only [FO.ev]
    cases c.val env <;> try rfl
    case bo x => cases x <;> rfl
  case nilc x =>
    show nilK (x.val env) h n = _
    simp only [FO.ev]
    cases x.val env <;> rfl
  case alloc elem z => rfl
  case box elem x =>
    show boxK elem (x.val env) h n = _
    simp only [FO.ev, boxK, plainK_eq, cellsK_eq]
    cases (x.val env).plain <;> rfl
  case mki t x => rfl

theorem guardK_eq (v : AV) (b : Bool) : guardK v b = (match v with | .bo x => some (x == b) | .tup _ => some false | _ => none) := by
  cases v <;> try rfl
  case bo x => cases x <;> cases b <;> rfl
end Go.AE
