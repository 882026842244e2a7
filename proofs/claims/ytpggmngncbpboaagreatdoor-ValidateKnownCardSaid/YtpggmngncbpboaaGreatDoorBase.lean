/- The engine, part 1: trees keyed by numbers, abstract values, how they stand for the model's values, and the relation between an abstract heap and a world. -/
import Derived.Orders
import Derived.Laws.World
namespace Go.AE

/-! ### trees keyed by numbers -/
inductive PT (α : Type) where
  | lf
  | nd (l : PT α) (v : Option α) (r : PT α)

noncomputable def PT.get {α : Type} (t : PT α) : Nat → Option α :=
  PT.rec (motive := fun _ => Nat → Option α) (fun _ => none)
    (fun _ v _ ihl ihr n => Nat.rec (motive := fun _ => Option α) v
      (fun k _ => Bool.rec (motive := fun _ => Option α) (ihl (Nat.div k 2)) (ihr (Nat.div k 2)) (Nat.beq (Nat.mod k 2) 1)) n) t

noncomputable def PT.mk {α : Type} (v : α) (fuel : Nat) : Nat → PT α :=
  Nat.rec (motive := fun _ => Nat → PT α) (fun _ => .nd .lf (some v) .lf)
    (fun _ ih n => Nat.rec (motive := fun _ => PT α) (.nd .lf (some v) .lf)
      (fun k _ => Bool.rec (motive := fun _ => PT α) (.nd (ih (Nat.div k 2)) none .lf) (.nd .lf none (ih (Nat.div k 2))) (Nat.beq (Nat.mod k 2) 1)) n) fuel

noncomputable def PT.set {α : Type} (t : PT α) (n : Nat) (x : α) : PT α :=
  PT.rec (motive := fun _ => Nat → PT α) (fun n => PT.mk x n n)
    (fun l v r ihl ihr n => Nat.rec (motive := fun _ => PT α) (.nd l (some x) r)
      (fun k _ => Bool.rec (motive := fun _ => PT α) (.nd (ihl (Nat.div k 2)) v r) (.nd l v (ihr (Nat.div k 2))) (Nat.beq (Nat.mod k 2) 1)) n) t n

noncomputable def PT.del {α : Type} (t : PT α) (n : Nat) : PT α :=
  PT.rec (motive := fun _ => Nat → PT α) (fun _ => .lf)
    (fun l v r ihl ihr n => Nat.rec (motive := fun _ => PT α) (.nd l none r)
      (fun k _ => Bool.rec (motive := fun _ => PT α) (.nd (ihl (Nat.div k 2)) v r) (.nd l v (ihr (Nat.div k 2))) (Nat.beq (Nat.mod k 2) 1)) n) t n

namespace PT
variable {α : Type}
theorem get_lf (n : Nat) : (PT.lf : PT α).get n = none := rfl
theorem get_nd_zero (l r : PT α) (v : Option α) : (PT.nd l v r).get 0 = v := rfl
theorem get_nd_succ (l r : PT α) (v : Option α) (k : Nat) : (PT.nd l v r).get (k + 1) = if k % 2 = 1 then r.get (k / 2) else l.get (k / 2) := by
  show Bool.rec (motive := fun _ => Option α) (l.get (k / 2)) (r.get (k / 2)) (Nat.beq (k % 2) 1) = _
  by_cases h : k % 2 = 1
  · have : Nat.beq (k % 2) 1 = true := by rw [h]; rfl
    rw [this, if_pos h]
  · have h0 : k % 2 = 0 := by omega
    have : Nat.beq (k % 2) 1 = false := by rw [h0]; rfl
    rw [this, if_neg h]

theorem mk_succ_zero (x : α) (f : Nat) : PT.mk x (f + 1) 0 = .nd .lf (some x) .lf := rfl
theorem mk_zero (x : α) (n : Nat) : PT.mk x 0 n = .nd .lf (some x) .lf := rfl
theorem mk_succ_succ (x : α) (f k : Nat) : PT.mk x (f + 1) (k + 1) = if k % 2 = 1 then .nd .lf none (PT.mk x f (k / 2)) else .nd (PT.mk x f (k / 2)) none .lf := by
  show Bool.rec (motive := fun _ => PT α) (.nd (PT.mk x f (k / 2)) none .lf) (.nd .lf none (PT.mk x f (k / 2))) (Nat.beq (k % 2) 1) = _
  by_cases h : k % 2 = 1
  · have : Nat.beq (k % 2) 1 = true := by rw [h]; rfl
    rw [this, if_pos h]
  · have h0 : k % 2 = 0 := by omega
    have : Nat.beq (k % 2) 1 = false := by rw [h0]; rfl
    rw [this, if_neg h]
theorem set_lf (n : Nat) (x : α) : (PT.lf : PT α).set n x = PT.mk x n n := rfl
theorem set_nd_zero (l r : PT α) (v : Option α) (x : α) : (PT.nd l v r).set 0 x = .nd l (some x) r := rfl
theorem set_nd_succ (l r : PT α) (v : Option α) (k : Nat) (x : α) :
    (PT.nd l v r).set (k + 1) x = if k % 2 = 1 then .nd l v (r.set (k / 2) x) else .nd (l.set (k / 2) x) v r := by
  show Bool.rec (motive := fun _ => PT α) (.nd (l.set (k / 2) x) v r) (.nd l v (r.set (k / 2) x)) (Nat.beq (k % 2) 1) = _
  by_cases h : k % 2 = 1
  · have : Nat.beq (k % 2) 1 = true := by rw [h]; rfl
    rw [this, if_pos h]
  · have h0 : k % 2 = 0 := by omega
    have : Nat.beq (k % 2) 1 = false := by rw [h0]; rfl
    rw [this, if_neg h]
theorem del_lf (n : Nat) : (PT.lf : PT α).del n = .lf := rfl
theorem del_nd_zero (l r : PT α) (v : Option α) : (PT.nd l v r).del 0 = .nd l none r := rfl
theorem del_nd_succ (l r : PT α) (v : Option α) (k : Nat) :
    (PT.nd l v r).del (k + 1) = if k % 2 = 1 then .nd l v (r.del (k / 2)) else .nd (l.del (k / 2)) v r := by
  show Bool.rec (motive := fun _ => PT α) (.nd (l.del (k / 2)) v r) (.nd l v (r.del (k / 2))) (Nat.beq (k % 2) 1) = _
  by_cases h : k % 2 = 1
  · have : Nat.beq (k % 2) 1 = true := by rw [h]; rfl
    rw [this, if_pos h]
  · have h0 : k % 2 = 0 := by omega
    have : Nat.beq (k % 2) 1 = false := by rw [h0]; rfl
    rw [this, if_neg h]

theorem get_mk (x : α) : ∀ (f n m : Nat), n ≤ f → (PT.mk x f n).get m = if m = n then some x else none := by
  intro f
  induction f with
  | zero =>
    intro n m hn
    obtain rfl : n = 0 := by omega
    rw [mk_zero]
    cases m with
    | zero => rfl
    | succ m => rw [get_nd_succ]; simp [get_lf]
  | succ f ih =>
    intro n m hn
    cases n with
    | zero =>
      rw [mk_succ_zero]
      cases m with
      | zero => rfl
      | succ m => rw [get_nd_succ]; simp [get_lf]
    | succ n =>
      rw [mk_succ_succ]
      have hle : n / 2 ≤ f := by omega
      by_cases h : n % 2 = 1
      · rw [if_pos h]
        cases m with
        | zero => rw [get_nd_zero, if_neg (by omega)]
        | succ m =>
          rw [get_nd_succ]
          by_cases hm : m % 2 = 1
          · rw [if_pos hm, ih _ _ hle]
            by_cases e : m = n
            · rw [if_pos (by omega), if_pos (by omega)]
            · rw [if_neg (by omega), if_neg (by omega)]
          · rw [if_neg hm, get_lf, if_neg (by omega)]
      · rw [if_neg h]
        cases m with
        | zero => rw [get_nd_zero, if_neg (by omega)]
        | succ m =>
          rw [get_nd_succ]
          by_cases hm : m % 2 = 1
          · rw [if_pos hm, get_lf, if_neg (by omega)]
          · rw [if_neg hm, ih _ _ hle]
            by_cases e : m = n
            · rw [if_pos (by omega), if_pos (by omega)]
            · rw [if_neg (by omega), if_neg (by omega)]

theorem get_set (x : α) : ∀ (t : PT α) (n m : Nat), (t.set n x).get m = if m = n then some x else t.get m := by
  intro t
  induction t with
  | lf => intro n m; rw [set_lf, get_mk _ _ _ _ (Nat.le_refl n), get_lf]
  | nd l v r ihl ihr =>
    intro n m
    cases n with
    | zero =>
      rw [set_nd_zero]
      cases m with
      | zero => rfl
      | succ m => rw [get_nd_succ, get_nd_succ, if_neg (by omega : ¬ m + 1 = 0)]
    | succ n =>
      rw [set_nd_succ]
      by_cases h : n % 2 = 1
      · rw [if_pos h]
        cases m with
        | zero => rw [get_nd_zero, get_nd_zero, if_neg (by omega)]
        | succ m =>
          rw [get_nd_succ, get_nd_succ]
          by_cases hm : m % 2 = 1
          · rw [if_pos hm, if_pos hm, ihr]
            by_cases e : m = n
            · rw [if_pos (by omega), if_pos (by omega)]
            · rw [if_neg (by omega), if_neg (by omega)]
          · rw [if_neg hm, if_neg hm, if_neg (by omega)]
      · rw [if_neg h]
        cases m with
        | zero => rw [get_nd_zero, get_nd_zero, if_neg (by omega)]
        | succ m =>
          rw [get_nd_succ, get_nd_succ]
          by_cases hm : m % 2 = 1
          · rw [if_pos hm, if_pos hm, if_neg (by omega)]
          · rw [if_neg hm, if_neg hm, ihl]
            by_cases e : m = n
            · rw [if_pos (by omega), if_pos (by omega)]
            · rw [if_neg (by omega), if_neg (by omega)]

theorem get_del : ∀ (t : PT α) (n m : Nat), (t.del n).get m = if m = n then none else t.get m := by
  intro t
  induction t with
  | lf => intro n m; rw [del_lf, get_lf]; simp
  | nd l v r ihl ihr =>
    intro n m
    cases n with
    | zero =>
      rw [del_nd_zero]
      cases m with
      | zero => rfl
      | succ m => rw [get_nd_succ, get_nd_succ, if_neg (by omega : ¬ m + 1 = 0)]
    | succ n =>
      rw [del_nd_succ]
      by_cases h : n % 2 = 1
      · rw [if_pos h]
        cases m with
        | zero => rw [get_nd_zero, get_nd_zero, if_neg (by omega)]
        | succ m =>
          rw [get_nd_succ, get_nd_succ]
          by_cases hm : m % 2 = 1
          · rw [if_pos hm, if_pos hm, ihr]
            by_cases e : m = n
            · rw [if_pos (by omega), if_pos (by omega)]
            · rw [if_neg (by omega), if_neg (by omega)]
          · rw [if_neg hm, if_neg hm, if_neg (by omega)]
      · rw [if_neg h]
        cases m with
        | zero => rw [get_nd_zero, get_nd_zero, if_neg (by omega)]
        | succ m =>
          rw [get_nd_succ, get_nd_succ]
          by_cases hm : m % 2 = 1
          · rw [if_pos hm, if_pos hm, if_neg (by omega)]
          · rw [if_neg hm, if_neg hm, ihl]
            by_cases e : m = n
            · rw [if_pos (by omega), if_pos (by omega)]
            · rw [if_neg (by omega), if_neg (by omega)]

theorem get_set_same (t : PT α) (n : Nat) (x : α) : (t.set n x).get n = some x := by rw [get_set, if_pos rfl]
theorem get_set_ne (t : PT α) {n m : Nat} (x : α) (h : m ≠ n) : (t.set n x).get m = t.get m := by rw [get_set, if_neg h]
end PT

/-! ### abstract values -/
/-- A slice's capacity: known, or up to the end of its block (elements of so many cells). -/
inductive Cap where
  | kn (c : Nat)
  | te (e : Nat)

inductive AV where
  | bo (x : Bool)
  | nt (k : IntKind) (n : Int)
  | st (l : List UInt8)
  | pt (b o : Nat)
  | pn
  | sl (b o len : Nat) (cap : Cap)
  | sn
  | mp (b : Nat)
  | mn
  | fu (g : FuncId) (first captured : List AV)
  | fn
  | ifc (t : TypeId) (v : AV)
  | ifn
  | agg (cs : List AV)
  | tup (vs : List AV)
  | raw (v : Value)
  /-- the yield of a range over a function -/
  | yl (b : Nat)

/-- What of the record of a range over a function does not change; its jumps, by numbers. -/
structure LoopC where
  fn : FuncId
  tmps : Array Value
  ps : Array Tmp
  assign : Code
  body : Code
  defers : Nat
  jumps : List Code

def LoopC.nil : LoopC := { fn := 0, tmps := #[], ps := #[], assign := .skip, body := .skip, defers := 0, jumps := [] }

/-- Where abstract blocks lie, and how many cells each has. -/
structure Env where
  ρ : Nat → Nat
  σ : Nat → Nat
  lp : Nat → LoopC

def Cap.conc (c : Cap) (size o : Nat) : Nat :=
  match c with
  | .kn c => c
  | .te e => (size - o) / e

mutual
def AV.conc (E : Env) : AV → Value
  | .bo x => .bool x
  | .nt k n => .int k n
  | .st l => .string ⟨l.toArray⟩
  | .pt b o => .pointer (some ⟨E.ρ b, o, none⟩)
  | .pn => .pointer none
  | .sl b o len cap => .slice (some ⟨E.ρ b, o, none⟩) len (cap.conc (E.σ b) o)
  | .sn => .slice none 0 0
  | .mp b => .map (some (E.ρ b))
  | .mn => .map none
  | .fu g fs cs => .func (.func g) (AV.concs E fs).toArray (AV.concs E cs).toArray
  | .fn => .nilFunc
  | .ifc t v => .iface t (AV.conc E v)
  | .ifn => .nilIface
  | .agg cs => .agg (AV.concs E cs).toArray
  | .tup vs => .tuple (AV.concs E vs).toArray
  | .raw v => v
  | .yl b => .func (.yield (E.ρ b)) #[] #[]
def AV.concs (E : Env) : List AV → List Value
  | [] => []
  | v :: l => AV.conc E v :: AV.concs E l
end

mutual
def AV.sc (n : Nat) : AV → Prop
  | .pt b _ => b < n
  | .sl b _ _ _ => b < n
  | .mp b => b < n
  | .yl b => b < n
  | .fu _ fs cs => AV.scs n fs ∧ AV.scs n cs
  | .ifc _ v => AV.sc n v
  | .agg cs => AV.scs n cs
  | .tup vs => AV.scs n vs
  | _ => True
def AV.scs (n : Nat) : List AV → Prop
  | [] => True
  | v :: l => AV.sc n v ∧ AV.scs n l
end

theorem AV.concs_eq (E : Env) (l : List AV) : AV.concs E l = l.map (AV.conc E) := by
  induction l with
  | nil => rfl
  | cons v l ih => simp [AV.concs, ih]
theorem AV.scs_iff (n : Nat) (l : List AV) : AV.scs n l ↔ ∀ v ∈ l, AV.sc n v := by
  induction l with
  | nil => simp [AV.scs]
  | cons v l ih => simp [AV.scs, ih]

mutual
theorem AV.sc_mono {n m : Nat} (h : n ≤ m) : ∀ v : AV, v.sc n → v.sc m
  | .bo _, _ | .nt .., _ | .st _, _ | .pn, _ | .sn, _ | .mn, _ | .fn, _ | .ifn, _ | .raw _, _ => by simp [AV.sc]
  | .pt b _, hv => by simp only [AV.sc] at *; omega
  | .sl b _ _ _, hv => by simp only [AV.sc] at *; omega
  | .mp b, hv => by simp only [AV.sc] at *; omega
  | .yl b, hv => by simp only [AV.sc] at *; omega
  | .fu _ fs cs, hv => by simp only [AV.sc] at *; exact ⟨AV.scs_mono h fs hv.1, AV.scs_mono h cs hv.2⟩
  | .ifc _ v, hv => by simp only [AV.sc] at *; exact AV.sc_mono h v hv
  | .agg cs, hv => by simp only [AV.sc] at *; exact AV.scs_mono h cs hv
  | .tup vs, hv => by simp only [AV.sc] at *; exact AV.scs_mono h vs hv
theorem AV.scs_mono {n m : Nat} (h : n ≤ m) : ∀ l : List AV, AV.scs n l → AV.scs m l
  | [], _ => by simp [AV.scs]
  | v :: l, hv => by simp only [AV.scs] at *; exact ⟨AV.sc_mono h v hv.1, AV.scs_mono h l hv.2⟩
end

def Env.Agree (E E' : Env) (n : Nat) : Prop := ∀ id, id < n → E'.ρ id = E.ρ id ∧ E'.σ id = E.σ id ∧ E'.lp id = E.lp id

mutual
theorem AV.conc_agree {E E' : Env} {n : Nat} (h : E.Agree E' n) : ∀ v : AV, v.sc n → v.conc E' = v.conc E
  | .bo _, _ | .nt .., _ | .st _, _ | .pn, _ | .sn, _ | .mn, _ | .fn, _ | .ifn, _ | .raw _, _ => by simp [AV.conc]
  | .pt b _, hv => by simp only [AV.sc] at hv; simp [AV.conc, (h b hv).1]
  | .sl b _ _ _, hv => by simp only [AV.sc] at hv; simp [AV.conc, (h b hv).1, (h b hv).2.1]
  | .mp b, hv => by simp only [AV.sc] at hv; simp [AV.conc, (h b hv).1]
  | .yl b, hv => by simp only [AV.sc] at hv; simp [AV.conc, (h b hv).1]
  | .fu _ fs cs, hv => by simp only [AV.sc] at hv; simp [AV.conc, AV.concs_agree h fs hv.1, AV.concs_agree h cs hv.2]
  | .ifc _ v, hv => by simp only [AV.sc] at hv; simp [AV.conc, AV.conc_agree h v hv]
  | .agg cs, hv => by simp only [AV.sc] at hv; simp [AV.conc, AV.concs_agree h cs hv]
  | .tup vs, hv => by simp only [AV.sc] at hv; simp [AV.conc, AV.concs_agree h vs hv]
theorem AV.concs_agree {E E' : Env} {n : Nat} (h : E.Agree E' n) : ∀ l : List AV, AV.scs n l → AV.concs E' l = AV.concs E l
  | [], _ => by simp [AV.concs]
  | v :: l, hv => by simp only [AV.scs] at hv; simp [AV.concs, AV.conc_agree h v hv.1, AV.concs_agree h l hv.2]
end

/-! ### blocks -/
/-- How a range over a function stands: ready for a round, in one, or left by a jump. -/
inductive LSt where
  | ready
  | busy
  | done (j : Nat)

def LoopC.at (L : LoopC) (st : LSt) : Loop :=
  { state := match st with | .ready => .ready | .busy => .busy | .done _ => .done
    pending := match st with | .done j => L.jumps[j]? | _ => none
    fn := L.fn, tmps := L.tmps, params := L.ps, assign := L.assign, body := L.body, defers := L.defers }

inductive Blk where
  /-- cells; their element's type; the frozen range (none: frozen cells lie beyond its end alone); may the block have more cells than these? -/
  | cells (vs : List AV) (elem : TypeId) (fz : Option (Nat × Nat)) (grow : Bool)
  | map (es : List (AV × AV × Nat)) (clock : Nat)
  | iter (l : List UInt8) (pos : Nat)
  /-- cells that are only read: nothing else is known of them, and nothing is ever done to them -/
  | ro (vs : List AV)
  /-- the record of a range over a function -/
  | loop (st : LSt)

def Blk.isRo : Blk → Bool
  | .ro _ => true
  | _ => false

def Blk.sc (n : Nat) : Blk → Prop
  | .cells vs _ _ _ => AV.scs n vs
  | .map es _ => ∀ e ∈ es, e.1.sc n ∧ e.2.1.sc n
  | .iter _ _ => True
  | .ro vs => AV.scs n vs
  | .loop _ => True

def entryOf (E : Env) (e : AV × AV × Nat) : MapEntry := { key := e.1.conc E, val := e.2.1.conc E, born := e.2.2 }

def Blk.rel (E : Env) (id : Nat) (w : World) : Blk → Prop
  | .cells vs elem fz grow => ∃ C lo hi, w.heap[E.ρ id]? = some (.cells C elem (lo, hi)) ∧ E.σ id = C.size ∧ vs.length ≤ C.size ∧ (grow = false → C.size = vs.length) ∧
      (∀ j : Nat, (h : j < vs.length) → C[j]? = some (vs[j].conc E)) ∧
      (match fz with
       | some (a, c) => lo ≤ hi ∧ (lo = hi ∨ (a ≤ lo ∧ hi ≤ c))
       | none => lo ≤ hi ∧ ∀ o, o < C.size → ¬ (lo ≤ o ∧ o < hi))
  | .map es clock => w.heap[E.ρ id]? = some (.map (es.map (entryOf E)).toArray clock)
  | .iter l pos => w.heap[E.ρ id]? = some (.stringIter ⟨l.toArray⟩ pos)
  | .ro vs => ∃ C el fr, w.heap[E.ρ id]? = some (.cells C el fr) ∧ vs.length ≤ C.size ∧ (∀ j : Nat, (h : j < vs.length) → C[j]? = some (vs[j].conc E))
  | .loop st => w.heap[E.ρ id]? = some (.loop ((E.lp id).at st))

abbrev Heap := PT Blk

/-- The abstract heap h, whose next number is n, stands for (a part of) the world w; the first G numbers are package-level variables. -/
structure Sim (G : Nat) (E : Env) (h : Heap) (n : Nat) (w : World) : Prop where
  glob : ∀ g, g < G → E.ρ g = g
  gle : G ≤ n
  lt : ∀ id blk, h.get id = some blk → id < n
  sc : ∀ id blk, h.get id = some blk → blk.sc n
  rel : ∀ id blk, h.get id = some blk → blk.rel E id w
  inj : ∀ id jd x y, h.get id = some x → h.get jd = some y → E.ρ id = E.ρ jd → id = jd

/-- What an execution may do: from (E, h, n, w) to (E', h', n', w'). -/
structure Moves (E : Env) (h : Heap) (n : Nat) (w : World) (E' : Env) (h' : Heap) (n' : Nat) (w' : World) : Prop where
  nle : n ≤ n'
  agree : E.Agree E' n
  old : ∀ id x, id < n → h'.get id = some x → x.isRo = false → ∃ y, h.get id = some y ∧ y.isRo = false
  new : ∀ id x, n ≤ id → h'.get id = some x → x.isRo = false → w.heap.size ≤ E'.ρ id ∨ ∃ j y, h.get j = some y ∧ y.isRo = false ∧ E'.ρ id = E.ρ j
  size : w.heap.size ≤ w'.heap.size
  keep : ∀ k, k < w.heap.size → (∀ id y, h.get id = some y → y.isRo = false → E.ρ id ≠ k) → w'.heap[k]? = w.heap[k]?
  os : w'.os = w.os
  out : w'.output = w.output
  tape : w'.tape = w.tape

theorem Moves.refl (E : Env) (h : Heap) (n : Nat) (w : World) : Moves E h n w E h n w where
  nle := Nat.le_refl n
  agree := fun _ _ => ⟨rfl, rfl, rfl⟩
  old := fun _ x _ hx hr => ⟨x, hx, hr⟩
  new := fun id x _ hx hr => .inr ⟨id, x, hx, hr, rfl⟩
  size := Nat.le_refl _
  keep := fun _ _ _ => rfl
  os := rfl
  out := rfl
  tape := rfl

theorem Env.Agree.trans {E E' E'' : Env} {n m : Nat} (h : n ≤ m) (a : E.Agree E' n) (b : E'.Agree E'' m) : E.Agree E'' n :=
  fun id hid => ⟨(b id (by omega)).1.trans (a id hid).1, (b id (by omega)).2.1.trans (a id hid).2.1, (b id (by omega)).2.2.trans (a id hid).2.2⟩

theorem Moves.trans {E E' E'' : Env} {h h' h'' : Heap} {n n' n'' : Nat} {w w' w'' : World} (a : Moves E h n w E' h' n' w') (b : Moves E' h' n' w' E'' h'' n'' w'')
    (inn : ∀ id x, h'.get id = some x → id < n') : Moves E h n w E'' h'' n'' w'' where
  nle := Nat.le_trans a.nle b.nle
  agree := a.agree.trans a.nle b.agree
  old := fun id x hid hx hr => by
    obtain ⟨y, hy, hry⟩ := b.old id x (Nat.lt_of_lt_of_le hid a.nle) hx hr
    exact a.old id y hid hy hry
  new := fun id x hid hx hr => by
    by_cases hlt : id < n'
    · obtain ⟨y, hy, hry⟩ := b.old id x hlt hx hr
      have := a.new id y hid hy hry
      rw [(b.agree id hlt).1]
      exact this
    · rcases b.new id x (by omega) hx hr with hs | ⟨j, y, hj, hrj, he⟩
      · exact .inl (Nat.le_trans a.size hs)
      · have hjn := inn j y hj
        by_cases hjlt : j < n
        · obtain ⟨z, hz, hrz⟩ := a.old j y hjlt hj hrj
          exact .inr ⟨j, z, hz, hrz, he.trans (a.agree j hjlt).1⟩
        · rcases a.new j y (by omega) hj hrj with hs | ⟨j', z, hz, hrz, he'⟩
          · exact .inl (by omega)
          · exact .inr ⟨j', z, hz, hrz, he.trans he'⟩
  size := Nat.le_trans a.size b.size
  keep := fun k hk hno => by
    rw [b.keep k (Nat.lt_of_lt_of_le hk a.size) ?_, a.keep k hk hno]
    intro id y hy hr he
    by_cases hlt : id < n
    · obtain ⟨z, hz, hrz⟩ := a.old id y hlt hy hr
      exact hno id z hz hrz ((a.agree id hlt).1.symm.trans he)
    · rcases a.new id y (by omega) hy hr with hs | ⟨j, z, hz, hrz, he'⟩
      · omega
      · exact hno j z hz hrz (he'.symm.trans he)
  os := b.os.trans a.os
  out := b.out.trans a.out
  tape := b.tape.trans a.tape

end Go.AE
