/- The fast code, part 1d: regions and control, laid for the kernel. -/
import Derived.Test.YtpggmngncbpboaaGreatDoorFcL
import Derived.Test.YtpggmngncbpboaaGreatDoorRegA
namespace Go.AE
set_option linter.unusedSimpArgs false
set_option linter.unusedVariables false

/-- What a region does, step by step: an operation (at a guard's word), a mark of the heap, a value that is asked for again at a marked heap. -/
inductive RI where
  | op (o : FO)
  | gop (c : Ref) (b : Bool) (o : FO)
  | mark
  | chk (o : FO) (r : Ref) (i : Nat)
  | gchk (c : Ref) (b : Bool) (o : FO) (r : Ref) (i : Nat)

abbrev Hs := List (Heap × Nat)

def guardQ (c : AV) (b : Bool) : Option Bool :=
  match c with
  | .bo x => some (x == b)
  | .tup _ => some false
  | _ => none

noncomputable def chkQ (P : Program) (C : CallF) (o : FO) (r : Ref) (i : Nat) (env : List AV) (hs : Hs) : Bool :=
  match hs[i]? with
  | some (h, n) => match o.ev P C env h n with | some (v, _, _) => eqAV v (r.val env) | none => false
  | none => false

abbrev RgK := Program → CallF → (List AV → Heap → Nat → Res) → List AV → Hs → Heap → Nat → Res
abbrev RgF := Program → CallF → (List AV → Heap → Nat → Res) → List AV → Hs → Res

noncomputable def resK (r : Res) (ih : RgK) (P : Program) (C : CallF) (k : List AV → Heap → Nat → Res) (env : List AV) (hs : Hs) : Res :=
  Option.rec (motive := fun _ => RgK → RgF) (fun _ _ _ _ _ _ => none)
    (fun r ih P C k env hs => Prod.rec (motive := fun _ => RgK → RgF)
      (fun v p ih P C k env hs => Prod.rec (motive := fun _ => AV → RgK → RgF) (fun h n v ih P C k env hs => ih P C k (v :: env) hs h n) p v ih P C k env hs) r ih P C k env hs) r ih P C k env hs
theorem resK_eq (r : Res) (ih : RgK) (P : Program) (C : CallF) (k : List AV → Heap → Nat → Res) (env : List AV) (hs : Hs) :
    resK r ih P C k env hs = match r with | some (v, h, n) => ih P C k (v :: env) hs h n | none => none := by
  cases r <;> rfl

/-- A guard's word: yes, no, or nothing. -/
noncomputable def wordK (g : Option Bool) (yes no : Res) : Res :=
  Option.rec (motive := fun _ => Res → Res → Res) (fun _ _ => none) (fun y yes no => Bool.rec (motive := fun _ => Res → Res → Res) (fun _ no => no) (fun yes _ => yes) y yes no) g yes no
theorem wordK_eq (g : Option Bool) (yes no : Res) : wordK g yes no = match g with | some true => yes | some false => no | none => none := by
  cases g with
  | none => rfl
  | some y => cases y <;> rfl
noncomputable def ifK (b : Bool) (x : Res) : Res := Bool.rec (motive := fun _ => Res → Res) (fun _ => none) (fun x => x) b x
theorem ifK_eq (b : Bool) (x : Res) : ifK b x = bif b then x else none := by cases b <;> rfl

noncomputable def rgRun (P : Program) (C : CallF) (l : List RI) (k : List AV → Heap → Nat → Res) (env : List AV) (hs : Hs) (h : Heap) (n : Nat) : Res :=
  List.rec (motive := fun _ => RgK) (fun _ _ k env _ h n => k env h n)
    (fun x _ ih P C k env hs h n => RI.rec (motive := fun _ => RgK → RgK)
      (fun o ih P C k env hs h n => resK (o.evK P C env h n) ih P C k env hs)
      (fun c b o ih P C k env hs h n => wordK (guardK (c.val env) b) (resK (o.evK P C env h n) ih P C k env hs) (ih P C k (.tup [] :: env) hs h n))
      (fun ih P C k env hs h n => ih P C k env ((h, n) :: hs) h n)
      (fun o r i ih P C k env hs h n => ifK (chkQ P C o r i env hs) (ih P C k env hs h n))
      (fun c b o r i ih P C k env hs h n => wordK (guardK (c.val env) b) (ifK (chkQ P C o r i env hs) (ih P C k env hs h n)) (ih P C k env hs h n)) x ih P C k env hs h n) l P C k env hs h n

inductive RR where
  | r (x : Ref)
  | c (x : Ref) (t : TypeId)

noncomputable def resR (P : Program) (H : Heap) (env : List AV) : RR → Option AV
  | .r x => some (x.val env)
  | .c x t => loadO P H t (x.val env)

noncomputable def resultsR (P : Program) (H : Heap) (env : List AV) (l : List RR) : Option (List AV) :=
  List.rec (motive := fun _ => Option (List AV)) (some []) (fun x _ ih => match resR P H env x, ih with | some v, some r => some (v :: r) | _, _ => none) l

inductive FC where
  | fail
  | ret (rs : List RR)
  | rg (l : List RI) (k : FC)
  | br (c : Ref) (a b : FC)
  | jp (rest body : FC)
  | lp (args : List Ref) (body : FC)
  | go (j : Nat) (args : List Ref)
  /-- a range over a function: the function, how many values a round is handed, the assignment and the body of a round, what follows (the jump that was taken is laid in front: 0 for none) -/
  | rf (f : Ref) (m : Nat) (assign body rest : FC)
  /-- which jump was taken -/
  | cs (r : Ref) (j : Nat) (a b : FC)

abbrev Jmp := List AV → Heap → Nat → Res
abbrev Ys := List (Nat × Jmp)
abbrev CallY := Ys → CallF

noncomputable def jget (l : List Jmp) : Nat → Jmp :=
  List.rec (motive := fun _ => Nat → Jmp) (fun _ _ _ _ => none) (fun a _ ih n => Nat.rec (motive := fun _ => Jmp) a (fun m _ => ih m) n) l
noncomputable def lookY (ys : Ys) (b : Nat) : Option Jmp :=
  List.rec (motive := fun _ => Nat → Option Jmp) (fun _ => none) (fun p _ ih b => Bool.rec (motive := fun _ => Option Jmp) (ih b) (some p.2) (Nat.beq p.1 b)) ys b
noncomputable def app1 (f : Option Jmp) (vs : List AV) (h : Heap) (n : Nat) : Res :=
  Option.rec (motive := fun _ => List AV → Heap → Nat → Res) (fun _ _ _ => none) (fun f vs h n => f vs h n) f vs h n

noncomputable def retQ (P : Program) (rs : List RR) (env : List AV) (h : Heap) (n : Nat) : Res :=
  match resultsR P h env rs with
  | some l => some (packO l, h, n)
  | none => none

/-- One result, or some, without cells. -/
noncomputable def ret1K (x : RR) (rs : List RR) (P : Program) (env : List AV) (h : Heap) (n : Nat) : Res :=
  RR.rec (motive := fun _ => List RR → Program → List AV → Heap → Nat → Res)
    (fun x rs P env h n => List.rec (motive := fun _ => Ref → Program → List AV → Heap → Nat → Res) (fun x _ env h n => some (x.val env, h, n)) (fun y l _ x P env h n => retQ P (.r x :: y :: l) env h n) rs x P env h n)
    (fun x t rs P env h n => retQ P (.c x t :: rs) env h n) x rs P env h n
noncomputable def retK (rs : List RR) (P : Program) (env : List AV) (h : Heap) (n : Nat) : Res :=
  List.rec (motive := fun _ => Program → List AV → Heap → Nat → Res) (fun P env h n => retQ P [] env h n) (fun x rs _ P env h n => ret1K x rs P env h n) rs P env h n
theorem retK_eq (rs : List RR) (P : Program) (env : List AV) (h : Heap) (n : Nat) : retK rs P env h n = retQ P rs env h n := by
  cases rs with
  | nil => rfl
  | cons x rs =>
    cases x with
    | c x t => rfl
    | r x => cases rs <;> rfl

abbrev FcK' := Program → CallY → Ys → Nat → List AV → List Jmp → Heap → Nat → Res

noncomputable def brB (x : Bool) (a b : FcK') (P : Program) (C : CallY) (ys : Ys) (fuel : Nat) (env : List AV) (js : List Jmp) (h : Heap) (n : Nat) : Res :=
  Bool.rec (motive := fun _ => FcK' → FcK' → FcK') (fun _ b P C ys fuel env js h n => b P C ys fuel env js h n) (fun a _ P C ys fuel env js h n => a P C ys fuel env js h n) x a b P C ys fuel env js h n
noncomputable def brK (c : AV) (a b : FcK') (P : Program) (C : CallY) (ys : Ys) (fuel : Nat) (env : List AV) (js : List Jmp) (h : Heap) (n : Nat) : Res :=
  AV.rec (motive_1 := fun _ => FcK' → FcK' → FcK') (motive_2 := fun _ => Unit)
    (fun x a b P C ys fuel env js h n => brB x a b P C ys fuel env js h n)
    (fun _ _ _ _ _ _ _ _ _ _ _ _ => none) (fun _ _ _ _ _ _ _ _ _ _ _ => none) (fun _ _ _ _ _ _ _ _ _ _ _ _ => none) (fun _ _ _ _ _ _ _ _ _ _ => none) (fun _ _ _ _ _ _ _ _ _ _ _ _ _ _ => none) (fun _ _ _ _ _ _ _ _ _ _ => none) (fun _ _ _ _ _ _ _ _ _ _ _ => none) (fun _ _ _ _ _ _ _ _ _ _ => none) (fun _ _ _ _ _ _ _ _ _ _ _ _ _ _ _ => none) (fun _ _ _ _ _ _ _ _ _ _ => none) (fun _ _ _ _ _ _ _ _ _ _ _ _ _ => none) (fun _ _ _ _ _ _ _ _ _ _ => none) (fun _ _ _ _ _ _ _ _ _ _ _ _ => none) (fun _ _ _ _ _ _ _ _ _ _ _ _ => none) (fun _ _ _ _ _ _ _ _ _ _ _ => none) (fun _ _ _ _ _ _ _ _ _ _ _ => none) () (fun _ _ _ _ => ()) c a b P C ys fuel env js h n

noncomputable def lpQ (body : List AV → List Jmp → Heap → Nat → Res) (js : List Jmp) (fuel : Nat) : Jmp :=
  Nat.rec (motive := fun _ => Jmp) (fun _ _ _ => none) (fun _ ih as h n => body as (ih :: js) h n) fuel

/-! ### ranges over functions -/
noncomputable def hasBody (P : Program) (g : FuncId) : Bool :=
  match P.funcs[g]? with
  | some fn => (match fn.body with | some _ => !(fn.name == "runtime.NumGoroutine") | none => false)
  | none => false
/-- The round's record, as it stands. -/
noncomputable def lstQ (h : Heap) (b : Nat) : Option LSt := match PT.get h b with | some (.loop st) => some st | _ => none
/-- A round's way out: the record notes it, yield hands back whether there is to be more. -/
noncomputable def outJ (b : Nat) (more : Bool) (st : LSt) : Jmp := fun _ h n =>
  match lstQ h b with
  | some .busy => some (.bo more, PT.set h b (.loop st), n)
  | _ => none
noncomputable def outJs (b : Nat) (k : Nat) : Nat → List Jmp := fun i => Nat.rec (motive := fun _ => Nat → List Jmp) (fun _ => []) (fun _ ih i => outJ b false (.done i) :: ih (i + 1)) k i
/-- The body of a round begins: the record is busy. -/
noncomputable def beginJ (body : List AV → List Jmp → Heap → Nat → Res) (k b : Nat) : Jmp := fun vs h n =>
  match lstQ h b with
  | some .ready => body vs (outJ b true .ready :: outJs b k 0) (PT.set h b (.loop .busy)) n
  | _ => none
/-- What a call of yield does: so many values are laid in front, the assignment is run, then the body, with ways out for its end and for so many jumps. -/
noncomputable def handK (assign body : List AV → List Jmp → Heap → Nat → Res) (m k : Nat) (env : List AV) (b : Nat) : Jmp := fun as h n =>
  match lstQ h b with
  | some .ready => Bool.rec (motive := fun _ => Res) none (assign (appA as env) [beginJ body k b] h n) (Nat.beq (lenA as) m)
  | _ => none
noncomputable def pendQ (h : Heap) (b : Nat) : Option Nat :=
  match lstQ h b with
  | some .ready => some 0
  | some (.done j) => some (j + 1)
  | _ => none
noncomputable def rfQ (P : Program) (C : CallY) (ys : Ys) (f : AV) (hd : Nat → Jmp) (k : List AV → Heap → Nat → Res) (env : List AV) (h : Heap) (n : Nat) : Res :=
  match f with
  | .fu g fs cs =>
    bif hasBody P g then
      match C ((n, hd n) :: ys) (.fn g) (fs ++ [.yl n] ++ cs) (PT.set h n (.loop .ready)) (n + 1) with
      | some (_, h2, n2) => (match pendQ h2 n with | some j => k (.nt .u64 (.ofNat j) :: env) (PT.del h2 n) n2 | none => none)
      | none => none
    else none
  | _ => none
noncomputable def csQ (v : AV) (j : Nat) : Option Bool :=
  match v with
  | .nt _ (.ofNat i) => some (Nat.beq i j)
  | _ => none

noncomputable def FC.run (P : Program) (C : CallY) (ys : Ys) (fuel : Nat) (c : FC) (env : List AV) (js : List Jmp) (h : Heap) (n : Nat) : Res :=
  FC.rec (motive := fun _ => FcK')
    (fun _ _ _ _ _ _ _ _ => none)
    (fun rs P _ _ _ env _ h n => retK rs P env h n)
    (fun l _ k P C ys fuel env js h n => rgRun P (C ys) l (fun env h n => k P C ys fuel env js h n) env [(h, n)] h n)
    (fun c _ _ a b P C ys fuel env js h n => brK (c.val env) a b P C ys fuel env js h n)
    (fun _ _ rest body P C ys fuel env js h n => body P C ys fuel env ((fun as h n => rest P C ys fuel as js h n) :: js) h n)
    (fun args _ body P C ys fuel env js h n => lpQ (fun as js h n => body P C ys fuel as js h n) js fuel (valsR env args) h n)
    (fun j args _ _ _ _ env js h n => jget js j (valsR env args) h n)
    (fun f m _ _ _ assign body rest P C ys fuel env js h n => rfQ P C ys (f.val env) (fun b => handK (fun env js h n => assign P C ys fuel env js h n) (fun env js h n => body P C ys fuel env js h n) m 12 env b) (fun env h n => rest P C ys fuel env js h n) env h n)
    (fun r j _ _ a b P C ys fuel env js h n => match csQ (r.val env) j with | some true => a P C ys fuel env js h n | some false => b P C ys fuel env js h n | none => none) c P C ys fuel env js h n

/-! ### what these say, as equations -/
theorem lget_nil (n : Nat) : lget [] n = .tup [] := rfl
theorem lget_zero (a : AV) (l : List AV) : lget (a :: l) 0 = a := rfl
theorem lget_succ (a : AV) (l : List AV) (n : Nat) : lget (a :: l) (n + 1) = lget l n := rfl
theorem lget_eq (l : List AV) (n : Nat) : lget l n = (l[n]?).getD (.tup []) := by
  induction l generalizing n with
  | nil => rfl
  | cons a l ih => cases n with
    | zero => rfl
    | succ n => rw [lget_succ, ih]; simp
theorem lget_append (l r : List AV) (n : Nat) : lget (l ++ r) (l.length + n) = lget r n := by
  simp [lget_eq, List.getElem?_append_right]

@[simp] theorem val_v (env : List AV) (i : Nat) : (Ref.v i).val env = lget env i := rfl
@[simp] theorem val_k (env : List AV) (a : AV) : (Ref.k a).val env = a := rfl
theorem valsR_eq (env : List AV) (l : List Ref) : valsR env l = l.map (Ref.val env) := by
  induction l with
  | nil => rfl
  | cons r l ih => show r.val env :: valsR env l = _; rw [ih]; rfl

section
variable (P : Program) (C : CallF)
theorem rgRun_nil (k : List AV → Heap → Nat → Res) (env : List AV) (hs : Hs) (h : Heap) (n : Nat) : rgRun P C [] k env hs h n = k env h n := rfl
theorem rgRun_op (o : FO) (l : List RI) (k : List AV → Heap → Nat → Res) (env : List AV) (hs : Hs) (h : Heap) (n : Nat) :
    rgRun P C (.op o :: l) k env hs h n = match o.ev P C env h n with | some (v, h', n') => rgRun P C l k (v :: env) hs h' n' | none => none := by
  show resK (o.evK P C env h n) (fun P C k env hs h n => rgRun P C l k env hs h n) P C k env hs = _
  rw [resK_eq, FO.evK_eq]
theorem rgRun_gop (c : Ref) (b : Bool) (o : FO) (l : List RI) (k : List AV → Heap → Nat → Res) (env : List AV) (hs : Hs) (h : Heap) (n : Nat) :
    rgRun P C (.gop c b o :: l) k env hs h n =
      match guardQ (c.val env) b with
      | some true => (match o.ev P C env h n with | some (v, h', n') => rgRun P C l k (v :: env) hs h' n' | none => none)
      | some false => rgRun P C l k (.tup [] :: env) hs h n
      | none => none := by
  show wordK (guardK (c.val env) b) (resK (o.evK P C env h n) (fun P C k env hs h n => rgRun P C l k env hs h n) P C k env hs) (rgRun P C l k (.tup [] :: env) hs h n) = _
  rw [wordK_eq, resK_eq, FO.evK_eq, guardK_eq]
  rfl
theorem rgRun_mark (l : List RI) (k : List AV → Heap → Nat → Res) (env : List AV) (hs : Hs) (h : Heap) (n : Nat) : rgRun P C (.mark :: l) k env hs h n = rgRun P C l k env ((h, n) :: hs) h n := rfl
theorem rgRun_chk (o : FO) (r : Ref) (i : Nat) (l : List RI) (k : List AV → Heap → Nat → Res) (env : List AV) (hs : Hs) (h : Heap) (n : Nat) :
    rgRun P C (.chk o r i :: l) k env hs h n = bif chkQ P C o r i env hs then rgRun P C l k env hs h n else none := by
  show ifK (chkQ P C o r i env hs) (rgRun P C l k env hs h n) = _
  rw [ifK_eq]
theorem rgRun_gchk (c : Ref) (b : Bool) (o : FO) (r : Ref) (i : Nat) (l : List RI) (k : List AV → Heap → Nat → Res) (env : List AV) (hs : Hs) (h : Heap) (n : Nat) :
    rgRun P C (.gchk c b o r i :: l) k env hs h n =
      match guardQ (c.val env) b with
      | some true => bif chkQ P C o r i env hs then rgRun P C l k env hs h n else none
      | some false => rgRun P C l k env hs h n
      | none => none := by
  show wordK (guardK (c.val env) b) (ifK (chkQ P C o r i env hs) (rgRun P C l k env hs h n)) (rgRun P C l k env hs h n) = _
  rw [wordK_eq, ifK_eq, guardK_eq]
  rfl

end
section
variable (P : Program) (C : CallY) (ys : Ys) (fuel : Nat)
theorem run_fail (env : List AV) (js : List Jmp) (h : Heap) (n : Nat) : FC.run P C ys fuel .fail env js h n = none := rfl
theorem run_ret (rs : List RR) (env : List AV) (js : List Jmp) (h : Heap) (n : Nat) : FC.run P C ys fuel (.ret rs) env js h n = retQ P rs env h n := retK_eq rs P env h n
theorem run_rg (l : List RI) (k : FC) (env : List AV) (js : List Jmp) (h : Heap) (n : Nat) :
    FC.run P C ys fuel (.rg l k) env js h n = rgRun P (C ys) l (fun env h n => k.run P C ys fuel env js h n) env [(h, n)] h n := rfl
theorem run_br (c : Ref) (a b : FC) (env : List AV) (js : List Jmp) (h : Heap) (n : Nat) :
    FC.run P C ys fuel (.br c a b) env js h n = match c.val env with | .bo true => a.run P C ys fuel env js h n | .bo false => b.run P C ys fuel env js h n | _ => none := by
  show brK (c.val env) (fun P C ys fuel env js h n => a.run P C ys fuel env js h n) (fun P C ys fuel env js h n => b.run P C ys fuel env js h n) P C ys fuel env js h n = _
  cases c.val env <;> try rfl
  rename_i x
  cases x <;> rfl
theorem run_jp (rest body : FC) (env : List AV) (js : List Jmp) (h : Heap) (n : Nat) :
    FC.run P C ys fuel (.jp rest body) env js h n = body.run P C ys fuel env ((fun as h n => rest.run P C ys fuel as js h n) :: js) h n := rfl
theorem run_lp (args : List Ref) (body : FC) (env : List AV) (js : List Jmp) (h : Heap) (n : Nat) :
    FC.run P C ys fuel (.lp args body) env js h n = lpQ (body.run P C ys fuel) js fuel (valsR env args) h n := rfl
theorem run_go (j : Nat) (args : List Ref) (env : List AV) (js : List Jmp) (h : Heap) (n : Nat) :
    FC.run P C ys fuel (.go j args) env js h n = jget js j (valsR env args) h n := rfl
theorem run_rf (f : Ref) (m : Nat) (assign body rest : FC) (env : List AV) (js : List Jmp) (h : Heap) (n : Nat) :
    FC.run P C ys fuel (.rf f m assign body rest) env js h n = rfQ P C ys (f.val env) (fun b => handK (assign.run P C ys fuel) (body.run P C ys fuel) m 12 env b) (fun env h n => rest.run P C ys fuel env js h n) env h n := rfl
theorem run_cs (r : Ref) (j : Nat) (a b : FC) (env : List AV) (js : List Jmp) (h : Heap) (n : Nat) :
    FC.run P C ys fuel (.cs r j a b) env js h n = match csQ (r.val env) j with | some true => a.run P C ys fuel env js h n | some false => b.run P C ys fuel env js h n | none => none := rfl
end
theorem jget_eq (js : List Jmp) (j : Nat) : jget js j = (js[j]?).getD (fun _ _ _ => none) := by
  induction js generalizing j with
  | nil => rfl
  | cons a l ih => cases j with
    | zero => rfl
    | succ j => show jget l j = _; rw [ih]; simp
end Go.AE
