/- The fast code, part 1: a small language in which a function's text is laid once: values stand in a list, operations bear what their types say. -/
import Derived.Test.YtpggmngncbpboaaGreatDoorFun
namespace Go.AE
set_option linter.unusedSimpArgs false

/-- Where a value stands: so many places from the front of the list; or itself. -/
inductive Ref where
  | v (i : Nat)
  | k (a : AV)

noncomputable def lget (l : List AV) : Nat → AV :=
  List.rec (motive := fun _ => Nat → AV) (fun _ => .tup []) (fun a _ ih n => Nat.rec (motive := fun _ => AV) a (fun m _ => ih m) n) l

noncomputable def Ref.val (env : List AV) (r : Ref) : AV := Ref.rec (motive := fun _ => List AV → AV) (fun i env => lget env i) (fun a _ => a) r env

noncomputable def valsR (env : List AV) (l : List Ref) : List AV := List.rec (motive := fun _ => List AV) [] (fun r _ ih => r.val env :: ih) l

abbrev Res := Option (AV × Heap × Nat)

inductive FO where
  | gen (o : Op) (m : List (Tmp × Ref))
  | mv (x : Ref)
  | bin (op : BinOp) (x y : Ref)
  | un (op : UnOp) (x : Ref)
  | call (g : FuncId) (args : List Ref)
  | callv (f : Ref) (args : List Ref)
  | ld1 (x : Ref)
  | ldn (k : Nat) (x : Ref)
  | st (k : Nat) (x v : Ref)
  | fa (off : Nat) (x : Ref)
  | fd1 (off : Nat) (x : Ref)
  | fdn (off k : Nat) (x : Ref)
  | ia (k : Nat) (x i : Ref)
  | iaa (len k : Nat) (x i : Ref)
  | ix (x i : Ref)
  | len (x : Ref)
  | lns (x : Ref)
  | ext (x : Ref) (i : Nat)
  | pick (c a b : Ref)
  | nilc (x : Ref)
  | alloc (elem : TypeId) (z : List AV)
  | box (elem : TypeId) (x : Ref)
  | mki (t : TypeId) (x : Ref)

/-- An operation alone. -/
def bare (o : Op) : Oper := { dst := none, op := o, type := 0, pos := "", after := #[], guard := none }

noncomputable def evM (G : Nat) (m : List (Tmp × Ref)) (env : List AV) : Operand → AV
  | .tmp k => List.rec (motive := fun _ => AV) (.tup []) (fun p _ ih => bif Nat.beq p.1 k then p.2.val env else ih) m
  | x => evA G .lf x

/-- A number is computed at once. -/
noncomputable def forceI {β : Type} (x : Int) (f : Int → β) : β :=
  Int.rec (motive := fun _ => (Int → β) → β) (fun n f => Nat.rec (motive := fun _ => β) (f (.ofNat 0)) (fun m _ => f (.ofNat (Nat.succ m))) n)
    (fun n f => Nat.rec (motive := fun _ => β) (f (.negSucc 0)) (fun m _ => f (.negSucc (Nat.succ m))) n) x f

theorem forceI_eq {β : Type} (x : Int) (f : Int → β) : forceI x f = f x := by
  cases x with
  | ofNat n => cases n <;> rfl
  | negSucc n => cases n <;> rfl

noncomputable def forceV (v : AV) (h : Heap) (n : Nat) : Res :=
  (match v with
  | .nt k x => fun h n => forceI x fun x => some (.nt k x, h, n)
  | v => fun h n => some (v, h, n) : Heap → Nat → Res) h n

theorem forceV_eq (v : AV) (h : Heap) (n : Nat) : forceV v h n = some (v, h, n) := by
  cases v <;> simp [forceV, forceI_eq]

noncomputable def optR (r : Option AV) (h : Heap) (n : Nat) : Res := Option.rec (motive := fun _ => Heap → Nat → Res) (fun _ _ => none) (fun v h n => some (v, h, n)) r h n
noncomputable def optF (r : Option AV) (h : Heap) (n : Nat) : Res := Option.rec (motive := fun _ => Heap → Nat → Res) (fun _ _ => none) (fun v h n => forceV v h n) r h n

/-- Two numbers or texts of one type. -/
noncomputable def binQ (op : BinOp) (a b : AV) : Option AV :=
  (match a with
  | .nt k m => fun op b =>
    (match b with
    | .nt k' n => fun op k m => bif Nat.beq (kindNo k) (kindNo k') then intF op k m n else none
    | _ => fun _ _ _ => none : BinOp → IntKind → Int → Option AV) op k m
  | .st l => fun op b => (match b with | .st r => fun op l => strA op l r | _ => fun _ _ => none : BinOp → List UInt8 → Option AV) op l
  | _ => fun _ _ => none : BinOp → AV → Option AV) op b

noncomputable def cellsOf (H : Heap) (b : Nat) : Option (List AV) :=
  match H.get b with
  | some (.cells vs _ _ _) => some vs
  | some (.ro vs) => some vs
  | _ => none

noncomputable def ld1Q (H : Heap) (x : AV) : Option AV :=
  match x with
  | .pt b o => match cellsOf H b with | some vs => vs[o]? | none => none
  | _ => none
noncomputable def ldnQ (H : Heap) (k : Nat) (x : AV) : Option AV :=
  match x with
  | .pt b o => match cellsOf H b with | some vs => (if Nat.beq ((vs.drop o).take k).length k then some (.agg ((vs.drop o).take k)) else none) | none => none
  | _ => none
noncomputable def stQ (H : Heap) (k : Nat) (x v : AV) : Option Heap :=
  match x with
  | .pt b o =>
    match H.get b with
    | some (.cells vs el fz gr) =>
      bif Nat.beq v.cells.length k && hasLen vs (o + k) && unfrozen fz o k && v.cells.all AV.one && v.plain then some (H.set b (.cells (updL vs o v.cells) el fz gr)) else none
    | _ => none
  | _ => none

noncomputable def FO.ev (P : Program) (C : CallF) (o : FO) (env : List AV) (h : Heap) (n : Nat) : Res :=
  (match o with
  | .gen o m => fun P C env h n => match actO P C (bare o) (evM P.globals.size m env) h n [] with | some (v, h', n', []) => some (v, h', n') | _ => none
  | .mv x => fun _ _ env h n => some (x.val env, h, n)
  | .bin op x y => fun _ _ env h n => optF (binQ op (x.val env) (y.val env)) h n
  | .un op x => fun _ _ env h n => optF (unA op (x.val env)) h n
  | .call g args => fun _ C env h n => C (.fn g) (valsR env args) h n
  | .callv f args => fun _ C env h n => match f.val env with | .fu g first cap => C (.fn g) (first ++ valsR env args ++ cap) h n | .yl b => C (.yl b) (valsR env args) h n | _ => none
  | .ld1 x => fun _ _ env h n => optR (ld1Q h (x.val env)) h n
  | .ldn k x => fun _ _ env h n => optR (ldnQ h k (x.val env)) h n
  | .st k x v => fun _ _ env h n => match stQ h k (x.val env) (v.val env) with | some h' => some (.tup [], h', n) | none => none
  | .fa off x => fun _ _ env h n => match x.val env with | .pt b o => some (.pt b (o + off), h, n) | _ => none
  | .fd1 off x => fun _ _ env h n => match x.val env with | .agg cs => optR cs[off]? h n | _ => none
  | .fdn off k x => fun _ _ env h n => match x.val env with | .agg cs => (if Nat.beq ((cs.drop off).take k).length k then some (.agg ((cs.drop off).take k), h, n) else none) | _ => none
  | .ia k x i => fun _ _ env h n => match x.val env, i.val env with | .sl b o ln _, .nt _ (.ofNat i) => bif Nat.blt i ln then some (.pt b (o + i * k), h, n) else none | _, _ => none
  | .iaa ln k x i => fun _ _ env h n => match x.val env, i.val env with | .pt b o, .nt _ (.ofNat i) => bif Nat.blt i ln then some (.pt b (o + i * k), h, n) else none | _, _ => none
  | .ix x i => fun _ _ env h n => match x.val env, i.val env with | .st l, .nt _ (.ofNat i) => optR ((l[i]?).map fun c => .nt .u8 (.ofNat c.toNat)) h n | _, _ => none
  | .len x => fun _ _ env h n => match x.val env with | .st l => some (.nt .i64 (.ofNat l.length), h, n) | _ => none
  | .lns x => fun _ _ env h n => match x.val env with | .sl _ _ k _ => some (.nt .i64 (.ofNat k), h, n) | .sn => some (.nt .i64 0, h, n) | _ => none
  | .ext x i => fun _ _ env h n => match x.val env with | .tup vs => optR vs[i]? h n | _ => none
  | .pick c a b => fun _ _ env h n => match c.val env with | .bo true => some (a.val env, h, n) | .bo false => some (b.val env, h, n) | _ => none
  | .nilc x => fun _ _ env h n => match x.val env with | .pn => none | .ifn => none | .fn => none | .raw _ => none | v => some (v, h, n)
  | .alloc elem z => fun _ _ _ h n => some (.pt n 0, h.set n (.cells z elem (some (0, 0)) false), Nat.succ n)
  | .box elem x => fun _ _ env h n => match (x.val env).plain with | true => some (.pt n 0, h.set n (.cells (x.val env).cells elem (some (0, 0)) false), Nat.succ n) | false => none
  | .mki t x => fun _ _ env h n => some (.ifc t (x.val env), h, n)
  : Program → CallF → List AV → Heap → Nat → Res) P C env h n

end Go.AE
