/- The fast code, part 8: how code and functions are laid. -/
import Derived.Test.YtpggmngncbpboaaGreatDoorFcG
import Derived.LoopNIn
import Derived.RangeFuncRecord
namespace Go.AE
set_option linter.unusedSimpArgs false

/-! ### what is live (hints alone) -/
noncomputable def useL (l : List Operand) : Nat :=
  List.rec (motive := fun _ => Nat) 0 (fun x _ ih => match x with | .tmp k => Nat.lor ih (Nat.shiftLeft 1 k) | _ => ih) l
noncomputable def useG (ops : Array Oper) (o : Oper) : Nat :=
  match o.guard with
  | some (j, _) => (match (ops[j]?).bind (·.dst) with | some d => Nat.shiftLeft 1 d | none => 0)
  | none => 0
noncomputable def delB (m : Nat) (d : Option Tmp) : Nat :=
  match d with
  | some d => bif Nat.testBit m d then Nat.sub m (Nat.shiftLeft 1 d) else m
  | none => m
noncomputable def liveOps (ops : Array Oper) (l : List Oper) (aft : Nat) : Nat :=
  List.rec (motive := fun _ => Nat) aft (fun o _ ih => Nat.lor (Nat.lor (delB ih o.dst) (useL o.op.operands.toList)) (useG ops o)) l

abbrev Blks := List (Nat × Nat × List Tmp × Nat)
noncomputable def liveB (bs : List (Nat × Nat)) (id : Nat) : Nat :=
  List.rec (motive := fun _ => Nat) 0 (fun b _ ih => bif Nat.beq b.1 id then b.2 else ih) bs

noncomputable def liveC (rets : Nat) (c : Code) : Nat → List (Nat × Nat) → Nat :=
  Code.rec (motive := fun _ => Nat → List (Nat × Nat) → Nat)
    (fun aft _ => aft)
    (fun _ ops _ aft _ => liveOps ops ops.toList aft)
    (fun _ _ iha ihb aft bs => iha (ihb aft bs) bs)
    (fun c _ _ iha ihb aft bs => Nat.lor (useL [c]) (Nat.lor (iha aft bs) (ihb aft bs)))
    (fun id _ ih aft bs => ih aft ((id, aft) :: bs))
    (fun _ ih _ bs => ih 0 bs)
    (fun f _ _ _ iha ihb aft bs => Nat.lor (useL [f]) (Nat.lor (iha (ihb 0 []) []) (Nat.lor (Nat.lor aft rets) (List.rec (motive := fun _ => Nat) 0 (fun b _ ih => Nat.lor b.2 ih) bs))))
    (fun id _ bs => liveB bs id)
    (fun _ ih aft bs => ih aft bs)
    (fun _ aft _ => aft)
    (fun _ _ _ => 0)
    (fun _ _ => rets)
    (fun _ _ _ => 0) c

noncomputable def falls (c : Code) : Bool :=
  Code.rec (motive := fun _ => Bool) true (fun _ _ _ => true) (fun _ _ a b => a && b) (fun _ _ _ a b => a || b) (fun _ _ _ => true) (fun _ _ => false)
    (fun _ _ _ _ _ _ => false) (fun _ => false) (fun _ a => a) (fun _ => true) (fun _ => false) false (fun _ => false) c

noncomputable def maskL (N m : Nat) : List Tmp :=
  Nat.rec (motive := fun _ => List Tmp) [] (fun k ih => bif Nat.testBit m k then k :: ih else ih) N

/-- The places of what a join is handed. -/
noncomputable def sgL (L : List Tmp) : Sg := List.rec (motive := fun _ => Sg) .lf (fun k l ih => ih.set k (.v l.length)) L

noncomputable def lookJ (bs : Blks) (id : Nat) : Option (Nat × List Tmp) :=
  List.rec (motive := fun _ => Option (Nat × List Tmp)) none (fun b _ ih => bif Nat.beq b.1 id then some (b.2.1, b.2.2.1) else ih) bs

noncomputable def kgo (L : List Tmp) : Sg → Nat → Option FC := fun σ len => (mapO (refT σ len) L).map (.go 0)

noncomputable def resT (σ : Sg) (len : Nat) : ResultVar → Option RR
  | .tmp k => (refT σ len k).map .r
  | .cell a ty => (refT σ len a).map fun r => .c r ty

noncomputable def kret (rs : List ResultVar) : Sg → Nat → Option FC := fun σ len => (mapO (resT σ len) rs).map .ret

noncomputable def masks (bs : Blks) : List (Nat × Nat) := bs.map fun b => (b.1, b.2.2.2)

/-! ### rounds -/
/-- Behind the values that a round is handed, and its record, lie those of the function. -/
noncomputable def sgP (top : Nat) (l : List Tmp) : Nat → Sg → Sg :=
  List.rec (motive := fun _ => Nat → Sg → Sg) (fun _ σ => σ) (fun p _ ih i σ => ih (i + 1) (σ.set p (.v (top - i)))) l
/-- In a round each block around it is left by a jump. -/
noncomputable def bsR (bs : Blks) : Nat → Blks := List.rec (motive := fun _ => Nat → Blks) (fun _ => []) (fun b _ ih i => (b.1, 10 - i, [], 0) :: ih (i + 1)) bs
noncomputable def krR : Nat → Sg → Nat → Option FC := fun jl _ _ => some (.go (jl - 1 - 11) [])
noncomputable def krN : Nat → Sg → Nat → Option FC := fun _ _ _ => none
noncomputable def orFail (x : Option FC) : FC := match x with | some c => c | none => .fail
/-- What follows a range over a function: by the jump that was taken. -/
noncomputable def exitR (σ : Sg) (len jl : Nat) (bs : Blks) (id : Nat) : Option FC :=
  match lookJ bs id with
  | some (lvl, L) => (mapO (refT σ (len + 1)) L).map (.go (jl - 1 - lvl))
  | none => none
noncomputable def exitsR (σ : Sg) (len jl : Nat) (bs0 : Blks) (bs : Blks) : Nat → FC :=
  List.rec (motive := fun _ => Nat → FC) (fun _ => .fail) (fun b _ ih i => .cs (.v 0) (i + 2) (orFail (exitR σ len jl bs0 b.1)) (ih (i + 1))) bs
noncomputable def restR (k : Sg → Nat → Option FC) (kr : Nat → Sg → Nat → Option FC) (σ : Sg) (len jl : Nat) (bs : Blks) : FC :=
  .cs (.v 0) 0 (orFail (k σ (len + 1))) (.cs (.v 0) 1 (orFail (kr jl σ (len + 1))) (exitsR σ len jl bs bs 0))

abbrev TrK := Sg → Nat → Blks → Nat → Nat → (Nat → Sg → Nat → Option FC) → Bool → (Sg → Nat → Option FC) → Option FC

noncomputable def trC (P : Program) (N rets : Nat) (c : Code) : TrK :=
  Code.rec (motive := fun _ => TrK)
    (fun σ len _ _ _ _ _ k => k σ len)
    (fun _ ops draw σ len _ _ _ _ _ k =>
      match (bif draw then trD P N ops σ len else trOps P N ops ops.toList σ len) with
      | some (is, σ', len') => (match k σ' len' with | some fc => some (.rg is fc) | none => none)
      | none => none)
    (fun _ b iha ihb σ len bs jl live kr rd k => iha σ len bs jl (liveC rets b live (masks bs)) kr rd (fun σ' len' => ihb σ' len' bs jl live kr rd k))
    (fun c x y ihx ihy σ len bs jl live kr rd k =>
      match refO P.globals.size σ len c with
      | none => none
      | some r =>
        bif falls x && falls y then
          match k (sgL (maskL N live)) (maskL N live).length, ihx σ len bs (jl + 1) live kr rd (kgo (maskL N live)), ihy σ len bs (jl + 1) live kr rd (kgo (maskL N live)) with
          | some rest, some a, some b => some (.jp rest (.br r a b))
          | _, _, _ => none
        else
          match ihx σ len bs jl live kr rd k, ihy σ len bs jl live kr rd k with
          | some a, some b => some (.br r a b)
          | _, _ => none)
    (fun id _ ih σ len bs jl live kr rd k =>
      match k (sgL (maskL N live)) (maskL N live).length, ih σ len ((id, jl, maskL N live, live) :: bs) (jl + 1) live kr rd (kgo (maskL N live)) with
      | some rest, some a => some (.jp rest a)
      | _, _ => none)
    (fun x ih σ len bs jl _ kr rd _ =>
      match mapO (refT σ len) (maskL N (liveC rets x 0 (masks bs))),
        ih (sgL (maskL N (liveC rets x 0 (masks bs)))) (maskL N (liveC rets x 0 (masks bs))).length bs (jl + 1) (liveC rets x 0 (masks bs)) kr rd (kgo (maskL N (liveC rets x 0 (masks bs)))) with
      | some as, some body => some (.lp as body)
      | _, _ => none)
    (fun f ps _ body iha ihb σ len bs jl _ kr rd k =>
      bif rd || Nat.ble 11 bs.length || !(ps.toList.all fun p => Nat.blt p N) then some .fail
      else
        match refO P.globals.size σ len f,
          iha (sgP (ps.size + len - 1) ps.toList 0 σ) (ps.size + len) [] 1 (liveC 0 body 0 []) krN true (kgo (maskL N (liveC 0 body 0 []))),
          ihb (sgL (maskL N (liveC 0 body 0 []))) (maskL N (liveC 0 body 0 [])).length (bsR bs 0) 13 0 krR true (kgo []) with
        | some r, some x, some y => some (.rf r ps.size x y (restR k kr σ len jl bs))
        | _, _, _ => none)
    (fun id σ len bs jl _ _ _ _ =>
      match lookJ bs id with
      | some (lvl, L) => (mapO (refT σ len) L).map (.go (jl - 1 - lvl))
      | none => none)
    (fun _ ih σ len bs jl live kr rd k => bif rd then some .fail else ih σ len bs jl live kr rd k)
    (fun _ σ len _ _ _ _ _ k => k σ len)
    (fun _ _ _ _ _ _ _ _ _ => some .fail)
    (fun σ len _ jl _ kr _ _ => kr jl σ len)
    (fun _ _ _ _ _ _ _ _ _ => some .fail) c
end Go.AE
