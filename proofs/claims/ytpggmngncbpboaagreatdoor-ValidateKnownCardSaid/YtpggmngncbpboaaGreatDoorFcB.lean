/- The fast code, part 2: how a function's text is laid in it (what is live where is a hint: a wrong hint gives no fast code, never a false one). -/
import Derived.Test.YtpggmngncbpboaaGreatDoorFcM
namespace Go.AE
set_option linter.unusedSimpArgs false

/-! ### places -/
/-- Where the variables stand: 'v' counts from the end of the list here. -/
abbrev Sg := PT Ref

def Ref.at (len : Nat) : Ref → Ref
  | .v l => .v (len - 1 - l)
  | .k a => .k a

noncomputable def refT (σ : Sg) (len : Nat) (t : Tmp) : Option Ref := (σ.get t).map (Ref.at len)

noncomputable def refO (G : Nat) (σ : Sg) (len : Nat) : Operand → Option Ref
  | .tmp t => refT σ len t
  | .const v => some (.k (AV.ofConst v))
  | .global g => some (.k (bif Nat.blt g G then .pt g 0 else .raw (.pointer (some ⟨g, 0, none⟩))))
  | .func f => some (.k (.fu f [] []))

noncomputable def mapO {α β : Type} (f : α → Option β) (l : List α) : Option (List β) :=
  List.rec (motive := fun _ => Option (List β)) (some []) (fun a _ ih => match f a, ih with | some b, some r => some (b :: r) | _, _ => none) l

noncomputable def genMap (σ : Sg) (len : Nat) (l : List Operand) : Option (List (Tmp × Ref)) :=
  List.rec (motive := fun _ => Option (List (Tmp × Ref))) (some [])
    (fun x _ ih => match x with
      | .tmp t => (match refT σ len t, ih with | some r, some m => some ((t, r) :: m) | _, _ => none)
      | _ => ih) l

noncomputable def genO (σ : Sg) (len : Nat) (o : Oper) : Option FO := (genMap σ len o.op.operands.toList).map fun m => .gen o.op m

def isShift : BinOp → Bool
  | .shl => true | .shr => true | _ => false
def isEq : BinOp → Bool
  | .eql => true | .neq => true | _ => false

/-- The fast form of an operation. -/
noncomputable def foO (P : Program) (σ : Sg) (len : Nat) (o : Oper) : Option FO :=
  match o.op with
  | .defer _ => none
  | .move x => (refO P.globals.size σ len x).map .mv
  | .assign x => (refO P.globals.size σ len x).map .mv
  | .load t a =>
    match refO P.globals.size σ len a, aggO P t with
    | some r, some false => some (.ld1 r)
    | some r, some true => (match sizeO P t with | some k => some (.ldn k r) | none => none)
    | _, _ => none
  | .store t a x =>
    match refO P.globals.size σ len a, refO P.globals.size σ len x, sizeO P t with
    | some r, some y, some k => some (.st k r y)
    | _, _, _ => none
  | .binOp op t x y _ =>
    match refO P.globals.size σ len x, refO P.globals.size σ len y, P.underlying t with
    | some a, some b, some (.int _) => if isShift op then genO σ len o else some (.bin op a b)
    | some a, some b, some .string => some (.bin op a b)
    | _, _, _ => genO σ len o
  | .unOp op _ x => (refO P.globals.size σ len x).map (.un op)
  | .fieldAddr s x f =>
    match refO P.globals.size σ len x, P.underlying s with
    | some r, some (.struct fs) =>
      (match fs[f]? with
       | some fd => (match sizeO P fd.type with | some (_ + 1) => some (.fa fd.offset r) | _ => none)
       | none => none)
    | _, _ => none
  | .field t x f =>
    match refO P.globals.size σ len x, P.underlying t with
    | some r, some (.struct fs) =>
      (match fs[f]? with
       | some fd =>
         (match aggO P fd.type, sizeO P fd.type with
          | some false, _ => some (.fd1 fd.offset r)
          | some true, some k => some (.fdn fd.offset k r)
          | _, _ => none)
       | none => none)
    | _, _ => none
  | .indexAddr t x ix =>
    match refO P.globals.size σ len x, refO P.globals.size σ len ix, P.underlying t with
    | some a, some b, some (.slice e) => (match sizeO P e with | some k => some (.ia k a b) | none => none)
    | some a, some b, some (.array n e) => (match sizeO P e with | some k => some (.iaa n k a b) | none => none)
    | _, _, _ => genO σ len o
  | .index t x ix =>
    match refO P.globals.size σ len x, refO P.globals.size σ len ix, P.underlying t with
    | some a, some b, some .string => some (.ix a b)
    | _, _, _ => genO σ len o
  | .extract t i => (refO P.globals.size σ len t).map fun r => .ext r i
  | .pick c a b =>
    match refO P.globals.size σ len c, refO P.globals.size σ len a, refO P.globals.size σ len b with
    | some c, some a, some b => some (.pick c a b)
    | _, _, _ => none
  | .nilCheck x => (refO P.globals.size σ len x).map .nilc
  | .alloc elem => (zeroO P elem).map fun z => .alloc elem z.cells
  | .box elem x => (refO P.globals.size σ len x).map (.box elem)
  | .makeInterface t x =>
    match refO P.globals.size σ len x, P.underlying t with
    | _, some (.interface _) => none
    | some r, some _ => some (.mki t r)
    | _, _ => none
  | .call { callee := .value f, args, .. } =>
    match refO P.globals.size σ len f, mapO (refO P.globals.size σ len) args.toList with
    | some (.k (.fu g [] [])), some as => some (.call g as)
    | some r, some as => some (.callv r as)
    | _, _ => none
  | .call { callee := .builtin .len, args, argTypes } =>
    match args.toList, argTypes[0]? with
    | [x], some t =>
      (match refO P.globals.size σ len x, P.underlying t with
       | some r, some .string => some (.len r)
       | some r, some (.slice _) => some (.lns r)
       | _, _ => genO σ len o)
    | _, _ => genO σ len o
  | _ => genO σ len o

/-- An operation's guard: none (not served), no guard, or a value and what is wanted. -/
noncomputable def guR (ops : Array Oper) (σ : Sg) (len : Nat) (o : Oper) : Option (Option (Ref × Bool)) :=
  match o.guard with
  | none => some none
  | some (j, want) =>
    match (ops[j]?).bind (·.dst) with
    | none => none
    | some d => match refT σ len d with
      | some r => some (some (r, want))
      | none => none

noncomputable def setD (N : Nat) (σ : Sg) (dst : Option Tmp) (r : Ref) : Option Sg :=
  match dst with
  | none => some σ
  | some d => bif Nat.blt d N then some (σ.set d r) else none

/-- A move that nothing guards costs nothing. -/
noncomputable def alias (σ : Sg) (o : Oper) : Option Ref :=
  match o.guard, o.op with
  | none, .move (.tmp t) => σ.get t
  | none, .assign (.tmp t) => σ.get t
  | none, .move (.const v) => some (.k (AV.ofConst v))
  | none, .assign (.const v) => some (.k (AV.ofConst v))
  | _, _ => none

/-- The step of a region: the items, the places and the length behind it. -/
noncomputable def stepR (P : Program) (N : Nat) (ops : Array Oper) (o : Oper) (σ : Sg) (len : Nat) : Option (List RI × Sg × Nat) :=
  match alias σ o with
  | some r => (match setD N σ o.dst r with | some σ' => some ([], σ', len) | none => none)
  | none =>
    match guR ops σ len o, foO P σ len o, setD N σ o.dst (.v len) with
    | some none, some fo, some σ' => some ([.op fo], σ', Nat.succ len)
    | some (some (c, b)), some fo, some σ' => some ([.gop c b fo], σ', Nat.succ len)
    | _, _, _ => none

/-! ### a region in the order of its text -/
noncomputable def trOps (P : Program) (N : Nat) (ops : Array Oper) (l : List Oper) : Sg → Nat → Option (List RI × Sg × Nat) :=
  List.rec (motive := fun _ => Sg → Nat → Option (List RI × Sg × Nat)) (fun σ len => some ([], σ, len))
    (fun o _ ih σ len =>
      match stepR P N ops o σ len with
      | some (is, σ1, len1) => (match ih σ1 len1 with | some (r, σ2, len2) => some (is ++ r, σ2, len2) | none => none)
      | none => none) l

/-! ### a region that draws its order -/
/-- Operations that never look at the heap, whatever their class says. -/
noncomputable def blind (P : Program) (o : Oper) : Bool :=
  match o.op with
  | .convert s d _ => (match P.underlying s, P.underlying d with | some (.int _), some (.int _) => true | _, _ => false)
  | .call { callee := .builtin .len, argTypes, .. } => (match argTypes[0]? with | some t => (match P.underlying t with | some .string => true | some (.slice _) => true | _ => false) | none => false)
  | .call { callee := .builtin .cap, .. } => true
  | .slice t _ _ _ _ => (match P.underlying t with | some .string => true | _ => false)
  | _ => false

/-- The operations one by one with marks behind those that may turn the heap; the states of the places. -/
noncomputable def trOpsD (P : Program) (N : Nat) (ops : Array Oper) (l : List Oper) : Sg → Nat → Option (List RI × Sg × Nat × List (Sg × Nat)) :=
  List.rec (motive := fun _ => Sg → Nat → Option (List RI × Sg × Nat × List (Sg × Nat))) (fun σ len => some ([], σ, len, []))
    (fun o _ ih σ len =>
      match stepR P N ops o σ len with
      | some (is, σ1, len1) => (match ih σ1 len1 with | some (r, σ2, len2, ss) => some (is ++ .mark :: r, σ2, len2, (σ1, len1) :: ss) | none => none)
      | none => none) l
end Go.AE
