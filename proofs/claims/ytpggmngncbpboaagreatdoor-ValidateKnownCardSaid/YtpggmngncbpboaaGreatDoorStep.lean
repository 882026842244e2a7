/- The engine, part 12: one step inside a region, calls among them, in the abstract state and in the model. -/
import Derived.Test.YtpggmngncbpboaaGreatDoorOpH
import Derived.OrdersIn
import Derived.RangeFuncLeaves
import Derived.OwnWalkIn
namespace Go.AE
set_option linter.unusedSimpArgs false

/-- A deferred call: the function, its arguments, what it has captured. -/
abbrev Def := FuncId × List AV × List AV

structure St where
  t : PT AV
  h : Heap
  n : Nat
  d : List Def

def defConc (E : Env) (x : Def) : Deferred := { target := .fn (.func x.1) (AV.concs E x.2.2).toArray, args := (AV.concs E x.2.1).toArray }

def defSc (n : Nat) (x : Def) : Prop := AV.scs n x.2.1 ∧ AV.scs n x.2.2

noncomputable def evA (G : Nat) (t : PT AV) : Operand → AV
  | .tmp k => (t.get k).getD (.tup [])
  | .const v => AV.ofConst v
  | .global g => bif Nat.blt g G then .pt g 0 else .raw (.pointer (some ⟨g, 0, none⟩))
  | .func f => .fu f [] []

/-- What is called: a function, or the yield of a range over a function. -/
inductive Tgt where
  | fn (g : FuncId)
  | yl (b : Nat)

/-- What the callee and arguments come to: its result, and the heap behind the call. -/
abbrev CallF := Tgt → List AV → Heap → Nat → Option (AV × Heap × Nat)

/-- What is fixed while code runs: places that lay when it began, and the marks among the deferred calls. -/
structure Bs where
  E0 : Env
  n0 : Nat
  ms : List Deferred

/-- A fence that lets all by, in a round or not. -/
def WF (ro : Option Nat) : Fence := { fn := fun _ => True, depth := none, alive := false, round := ro }

noncomputable def guardO (ops : Array Oper) (o : Oper) (t : PT AV) : Option Bool :=
  match o.guard with
  | none => some true
  | some (j, want) =>
    match (ops[j]?).bind (·.dst) with
    | none => some false
    | some d =>
      match t.get d with
      | some (.bo b) => some (b == want)
      | none => some false
      | some (.tup _) => some false
      | _ => none

noncomputable def putO (N : Nat) (t : PT AV) (dst : Option Tmp) (v : AV) : Option (PT AV) :=
  match dst with
  | none => some t
  | some d => bif Nat.blt d N then some (t.set d v) else none

/-- What an operation does: its value, the heap, the next number, the deferred calls. -/
noncomputable def actO (P : Program) (callA : CallF) (o : Oper) (ev : Operand → AV) (h : Heap) (n : Nat) (d : List Def) : Option (AV × Heap × Nat × List Def) :=
  match o.op with
  | .call { callee := .value f, args, .. } =>
    match ev f with
    | .fu g first cap =>
      match callA (.fn g) (first ++ args.toList.map ev ++ cap) h n with
      | some (v, h', n') => some (v, h', n', d)
      | none => none
    | .yl b =>
      match callA (.yl b) (args.toList.map ev) h n with
      | some (v, h', n') => some (v, h', n', d)
      | none => none
    | _ => none
  | .defer { callee := .value f, args, .. } =>
    match ev f with
    | .fu g first cap => some (.tup [], h, n, (g, first ++ args.toList.map ev, cap) :: d)
    | _ => none
  | _ =>
    match aop P o ev h n with
    | some (v, h', n') => some (v, h', n', d)
    | none => none

noncomputable def stepA (P : Program) (callA : CallF) (N : Nat) (ops : Array Oper) (o : Oper) (s : St) : Option St :=
  match guardO ops o s.t with
  | none => none
  | some false =>
    match putO N s.t o.dst (.tup []) with
    | some t => some { s with t }
    | none => none
  | some true =>
    match actO P callA o (evA P.globals.size s.t) s.h s.n s.d with
    | some (v, h, n, d) =>
      match putO N s.t o.dst v with
      | some t => some { t, h, n, d }
      | none => none
    | none => none

/-- The abstract state stands for the model's. -/
structure Rel (X : Bs) (P : Program) (N : Nat) (E : Env) (s : St) (a : Act) (w : World) : Prop where
  sim : Sim P.globals.size E s.h s.n w
  size : N ≤ a.tmps.size
  tmps : ∀ k, a.tmps.getD k undef = ((s.t.get k).getD (.tup [])).conc E
  tsc : ∀ k v, s.t.get k = some v → v.sc s.n
  defs : a.defers = s.d.map (defConc E) ++ X.ms
  dsc : ∀ x ∈ s.d, defSc s.n x
  ag : X.E0.Agree E X.n0
  ng : X.n0 ≤ s.n

def tgtRun (E : Env) (t : Tgt) (args : Array Value) : Sem Next :=
  match t with
  | .fn g => callFunc g args
  | .yl b => Instr.yield (E.ρ b) args
def tgtSc (n : Nat) : Tgt → Prop
  | .fn _ => True
  | .yl b => b < n

/-- What comes of a call: a value, a body, a round. -/
def NextX (P : Program) (nx : Next) (w1 : World) (R : Value → World → Prop) : Prop :=
  (∃ v, nx = .value v ∧ R v w1) ∨ (∃ g args', nx = .enter g args' ∧ Calls P g args' w1 fun e w' => ∃ v, e = .returned v ∧ R v w') ∨
    (∃ l f tmps assign body, nx = .round l f tmps assign body ∧ ∀ m, RoundIn Fence.wide m P l f tmps assign body w1 fun e w' => ∃ v, e = .returned v ∧ R v w')

/-- A call of a function, whether it has a body or not. -/
def CallsX (P : Program) (E : Env) (t : Tgt) (args : Array Value) (w : World) (R : Value → World → Prop) : Prop :=
  ∃ nx w1, (tgtRun E t args).run P w = .ok nx w1 ∧ NextX P nx w1 R

/-- What the calls come to is what the model's calls come to. -/
def CallOk (X : Bs) (P : Program) (callA : CallF) : Prop :=
  ∀ t vs h n r, callA t vs h n = some r → ∀ E w, X.E0.Agree E X.n0 → X.n0 ≤ n → Sim P.globals.size E h n w → AV.scs n vs → tgtSc n t →
    CallsX P E t (AV.concs E vs).toArray w fun v w' => ∃ E', v = r.1.conc E' ∧ Done P.globals.size E h n w r E' w'

section
variable {X : Bs} {P : Program} {N : Nat} {E : Env} {s : St} {a : Act} {w : World} {ro : Option Nat} {fd : Nat}

theorem Rel.ev (hr : Rel X P N E s a w) (x : Operand) : a.eval x = (evA P.globals.size s.t x).conc E := by
  cases x with
  | tmp k => exact hr.tmps k
  | const v => simp [Act.eval, evA, AV.ofConst_conc]
  | global g =>
    simp only [Act.eval, evA]
    cases hg : Nat.blt g P.globals.size with
    | true => simp [AV.conc, hr.sim.glob g (lt_of_blt hg)]
    | false => simp [AV.conc]
  | func f => simp [Act.eval, evA, AV.conc, AV.concs]

theorem Rel.evsc (hr : Rel X P N E s a w) (x : Operand) : (evA P.globals.size s.t x).sc s.n := by
  cases x with
  | tmp k =>
    simp only [evA]
    cases h : s.t.get k with
    | none => simp [AV.sc, AV.scs]
    | some v => exact hr.tsc k v h
  | const v => exact AV.ofConst_sc _ v
  | global g =>
    simp only [evA]
    cases hg : Nat.blt g P.globals.size with
    | true => have := lt_of_blt hg; have := hr.sim.gle; simp only [cond_true, AV.sc]; omega
    | false => simp [AV.sc]
  | func f => simp [evA, AV.sc, AV.scs]

theorem Rel.drew (hr : Rel X P N E s a w) : Rel X P N E s a w.drew := ⟨hr.sim.same rfl, hr.size, hr.tmps, hr.tsc, hr.defs, hr.dsc, hr.ag, hr.ng⟩

theorem guardO_wanted (hr : Rel X P N E s a w) (ops : Array Oper) (o : Oper) (b : Bool) (h : guardO ops o s.t = some b) : Region.wanted o (yielded ops a.tmps) = b := by
  unfold guardO at h
  unfold Region.wanted
  split at h
  · rename_i hg; rw [hg]; cases h; rfl
  · rename_i j want hg
    rw [hg]
    split at h
    · rename_i hd
      cases h
      simp [yielded, hd]
    · rename_i d hd
      have ht := hr.tmps d
      split at h
      · rename_i v hv
        cases h
        rw [hv] at ht
        simp only [Option.getD_some, AV.conc] at ht
        have : a.tmps[d]? = some (.bool v) := by
          rw [Array.getD_eq_getD_getElem?] at ht
          cases hx : a.tmps[d]? with
          | none => rw [hx] at ht; simp [undef] at ht
          | some y => rw [hx] at ht; simp at ht; rw [ht]
        simp [yielded, hd, this]
      · rename_i hv
        cases h
        rw [hv] at ht
        simp only [Option.getD_none, AV.conc, AV.concs] at ht
        have : ∀ y, a.tmps[d]? = some y → y = .tuple #[] := by
          intro y hy
          rw [Array.getD_eq_getD_getElem?, hy] at ht
          simpa using ht
        simp only [yielded, hd, Option.bind_some]
        cases hx : a.tmps[d]? with
        | none => simp
        | some y => rw [this y hx]; simp
      · rename_i l hv
        cases h
        rw [hv] at ht
        simp only [Option.getD_some, AV.conc] at ht
        have : ∀ y, a.tmps[d]? = some y → y = .tuple (AV.concs E l).toArray := by
          intro y hy
          rw [Array.getD_eq_getD_getElem?, hy] at ht
          simpa using ht
        simp only [yielded, hd, Option.bind_some]
        cases hx : a.tmps[d]? with
        | none => simp
        | some y => rw [this y hx]; simp
      · simp at h

theorem putO_rel {E' : Env} {t' : PT AV} {v : AV} {h' : Heap} {n' : Nat} {d' : List Def} {w' : World} (hr : Rel X P N E s a w) (o : Option Tmp) (hp : putO N s.t o v = some t')
    (hs : Sim P.globals.size E' h' n' w') (hm : Moves E s.h s.n w E' h' n' w') (hv : v.sc n') (ds : List Deferred) (hd : ds = d'.map (defConc E') ++ X.ms) (hdsc : ∀ x ∈ d', defSc n' x) :
    Rel X P N E' { t := t', h := h', n := n', d := d' } ({ a with defers := ds }.put o (v.conc E')) w' := by
  have old : ∀ k, a.tmps.getD k undef = ((s.t.get k).getD (.tup [])).conc E' := by
    intro k
    rw [hr.tmps k]
    cases hk : s.t.get k with
    | none => simp [AV.conc, AV.concs]
    | some y => simp only [Option.getD_some]; rw [AV.conc_agree hm.agree y (hr.tsc k y hk)]
  have ag' : X.E0.Agree E' X.n0 := hr.ag.trans hr.ng hm.agree
  have ng' : X.n0 ≤ n' := Nat.le_trans hr.ng hm.nle
  unfold putO at hp
  split at hp
  · cases hp
    exact ⟨hs, hr.size, old, fun k y hk => AV.sc_mono hm.nle _ (hr.tsc k y hk), hd, hdsc, ag', ng'⟩
  · rename_i k0
    cases hl : Nat.blt k0 N with
    | false => rw [hl] at hp; simp at hp
    | true =>
      rw [hl] at hp
      simp only [cond_true, Option.some.injEq] at hp
      subst hp
      have hlt := lt_of_blt hl
      have hsz := hr.size
      refine ⟨hs, by simpa [Act.put] using hsz, fun k => ?_, fun k y hk => ?_, by simpa [Act.put] using hd, hdsc, ag', ng'⟩
      · simp only [Act.put, Array.getD_eq_getD_getElem?]
        by_cases e : k = k0
        · subst e
          rw [PT.get_set_same]
          simp [Array.getElem?_setIfInBounds, show k < a.tmps.size by omega]
        · rw [PT.get_set_ne _ _ e, Array.getElem?_setIfInBounds_ne (fun h => e h.symm), ← Array.getD_eq_getD_getElem?]
          exact old k
      · simp only at hk
        rw [PT.get_set] at hk
        split at hk
        · cases hk; exact hv
        · exact AV.sc_mono hm.nle _ (hr.tsc k y hk)

theorem semAt_wf {ρ : Operand → Value} {o : Oper} (h : ro = none ∨ ∀ c, o.op ≠ .defer c) : o.semAt (WF ro).round ρ = execOp ρ o := by
  rcases h with rfl | h
  · rfl
  · exact Oper.semAt_plain (WF ro) ρ o h

theorem roundIn_wf {m l : Nat} {f : FuncId} {tmps : Array Value} {assign body : Code} {w1 : World} {R : Ending → World → Prop} (h : ∀ m, RoundIn Fence.wide m P l f tmps assign body w1 R) : RoundIn (WF ro) m P l f tmps assign body w1 R := h m
theorem callsIn_wf {m : Nat} {f : FuncId} {args : Array Value} {w1 : World} {R : Ending → World → Prop} (h : Calls P f args w1 R) : CallsIn (WF ro) m P f args w1 R :=
  (callsIn_wide (n := m)).2 h

theorem defConc_agree {E E' : Env} {n : Nat} (h : E.Agree E' n) (x : Def) (hx : defSc n x) : defConc E' x = defConc E x := by
  simp [defConc, AV.concs_agree h _ hx.1, AV.concs_agree h _ hx.2]

theorem defs_agree {E E' : Env} {n : Nat} (h : E.Agree E' n) (l : List Def) (hl : ∀ x ∈ l, defSc n x) : l.map (defConc E) = l.map (defConc E') :=
  List.map_congr_left fun x hx => (defConc_agree h x (hl x hx)).symm

theorem defSc_mono {n m : Nat} (h : n ≤ m) {x : Def} (hx : defSc n x) : defSc m x := ⟨AV.scs_mono h _ hx.1, AV.scs_mono h _ hx.2⟩

/-- An operation that is no call of a function. -/
theorem wp_of_takes {o : Oper} {r : AV × Heap × Nat} {K : Act → World → Prop} {Q : Exit → Act → World → Prop} (hnd : ro = none ∨ ∀ c, o.op ≠ .defer c) (ht : Takes P P.globals.size E s.h s.n w (execOp a.eval o) r)
    (hk : ∀ E' w', Done P.globals.size E s.h s.n w r E' w' → K (a.put o.dst (r.1.conc E')) w') : o.wpIn (WF ro) fd P a w K Q := by
  obtain ⟨E', w', nx, hrun, hnx, hd⟩ := ht
  refine ⟨fun _ _ => trivial, ?_⟩
  rw [semAt_wf hnd, hrun]
  rcases hnx with rfl | ⟨rfl, hu⟩
  · rw [Oper.uponIn_value]; exact hk E' w' hd
  · rw [Oper.uponIn_skip, ← hu]; exact hk E' w' hd

theorem next_sound {o : Oper} {K : Act → World → Prop} {Q : Exit → Act → World → Prop} {nx : Next} {w1 : World} {R : Value → World → Prop} (h : NextX P nx w1 R) (hk : ∀ v w', R v w' → K (a.put o.dst v) w') :
    o.uponIn (WF ro) fd P a K Q (.ok nx w1) := by
  rcases h with ⟨v, rfl, hR⟩ | ⟨g, args', rfl, hcalls⟩ | ⟨l, f, tmps, assign, body, rfl, hround⟩
  · rw [Oper.uponIn_value]; exact hk v w1 hR
  · rw [Oper.uponIn_enter]
    refine ⟨fun h => by simp [WF] at h, (callsIn_wf hcalls).mono ?_⟩
    rintro e w' ⟨v, rfl, hR⟩
    exact hk v w' hR
  · rw [Oper.uponIn_round]
    refine ⟨fun h => by simp [WF] at h, (roundIn_wf hround).mono ?_⟩
    rintro e w' ⟨v, rfl, hR⟩
    exact hk v w' hR

theorem act_sound {callA : CallF} (hc : CallOk X P callA) (hr : Rel X P N E s a w) (o : Oper) (hnd : ro = none ∨ ∀ c, o.op ≠ .defer c) (r : AV × Heap × Nat × List Def) (h : actO P callA o (evA P.globals.size s.t) s.h s.n s.d = some r)
    (K : Act → World → Prop) (Q : Exit → Act → World → Prop)
    (hk : ∀ E' w', Sim P.globals.size E' r.2.1 r.2.2.1 w' → Moves E s.h s.n w E' r.2.1 r.2.2.1 w' → r.1.sc r.2.2.1 → (∀ x ∈ r.2.2.2, defSc r.2.2.1 x) →
      K ({ a with defers := r.2.2.2.map (defConc E') ++ X.ms }.put o.dst (r.1.conc E')) w') : o.wpIn (WF ro) fd P a w K Q := by
  have keep : ∀ E' n', E.Agree E' s.n → s.n ≤ n' → a.defers = s.d.map (defConc E') ++ X.ms ∧ (∀ x ∈ s.d, defSc n' x) := fun E' n' ha hn =>
    ⟨by rw [hr.defs, defs_agree ha s.d hr.dsc], fun x hx => defSc_mono hn (hr.dsc x hx)⟩
  unfold actO at h
  split at h
  · rename_i f args ats ho
    split at h
    · rename_i g first cap hf
      split at h
      · rename_i v h' n' hcall
        cases h
        have hfv : a.eval f = .func (.func g) (AV.concs E first).toArray (AV.concs E cap).toArray := by rw [hr.ev f, hf]; rfl
        have hfsc : AV.scs s.n first ∧ AV.scs s.n cap := by have := hr.evsc f; rw [hf] at this; exact this
        have hargs := map_args (E := E) (evA P.globals.size s.t) a.eval hr.ev args
        have hsc : AV.scs s.n (first ++ args.toList.map (evA P.globals.size s.t) ++ cap) := scs_append (scs_append hfsc.1 (scs_map hr.evsc _)) hfsc.2
        obtain ⟨nx, w1, hrun, hres⟩ := hc (.fn g) _ _ _ _ hcall E w hr.ag hr.ng hr.sim hsc trivial
        have hx : (execOp a.eval o).run P w = .ok nx w1 := by
          rw [← hrun]
          simp only [execOp, ho, resolve, hfv, Deferred.ofValue, hargs, pure_bind, invoke, tgtRun]
          congr 2
          rw [concs_append, concs_append]
          simp
        refine ⟨fun _ _ => trivial, ?_⟩
        rw [semAt_wf hnd, hx]
        exact next_sound hres fun v1 w2 ⟨E', e1, hd⟩ => by
          subst e1
          have k := keep E' n' hd.moves.agree hd.moves.nle
          have := hk E' w2 hd.sim hd.moves hd.sc k.2
          rw [← k.1] at this
          exact this
      · simp at h
    · rename_i b hf
      split at h
      · rename_i v h' n' hcall
        cases h
        have hfv : a.eval f = .func (.yield (E.ρ b)) #[] #[] := by rw [hr.ev f, hf]; rfl
        have hbn : b < s.n := by have := hr.evsc f; rw [hf] at this; exact this
        have hargs := map_args (E := E) (evA P.globals.size s.t) a.eval hr.ev args
        have hsc : AV.scs s.n (args.toList.map (evA P.globals.size s.t)) := scs_map hr.evsc _
        obtain ⟨nx, w1, hrun, hres⟩ := hc (.yl b) _ _ _ _ hcall E w hr.ag hr.ng hr.sim hsc hbn
        have hx : (execOp a.eval o).run P w = .ok nx w1 := by
          rw [← hrun]
          simp only [execOp, ho, resolve, hfv, Deferred.ofValue, hargs, pure_bind, invoke, tgtRun]
          congr 2
          simp
        refine ⟨fun _ _ => trivial, ?_⟩
        rw [semAt_wf hnd, hx]
        exact next_sound hres fun v1 w2 ⟨E', e1, hd⟩ => by
          subst e1
          have k := keep E' n' hd.moves.agree hd.moves.nle
          have := hk E' w2 hd.sim hd.moves hd.sc k.2
          rw [← k.1] at this
          exact this
      · simp at h
    · simp at h
  · rename_i f args ats ho
    split at h
    · rename_i g first cap hf
      cases h
      have hfv : a.eval f = .func (.func g) (AV.concs E first).toArray (AV.concs E cap).toArray := by rw [hr.ev f, hf]; rfl
      have hfsc : AV.scs s.n first ∧ AV.scs s.n cap := by have := hr.evsc f; rw [hf] at this; exact this
      have hargs := map_args (E := E) (evA P.globals.size s.t) a.eval hr.ev args
      have hx : (execOp a.eval o).run P w = .ok (.defer (defConc E (g, first ++ args.toList.map (evA P.globals.size s.t), cap))) w := by
        simp only [execOp, ho, resolve, hfv, Deferred.ofValue, hargs, pure_bind, defConc]
        rw [concs_append]
        simp
      have hro : ro = none := by
        rcases hnd with h | h
        · exact h
        · exact absurd ho (h _)
      refine ⟨fun _ _ => trivial, ?_⟩
      rw [semAt_wf (.inl hro), hx, Oper.uponIn_defer]
      have := hk E w hr.sim (Moves.refl _ _ _ _) (by simp [AV.sc, AV.scs]) (by
        intro x hx
        rcases List.mem_cons.1 hx with rfl | hx
        · exact ⟨scs_append hfsc.1 (scs_map hr.evsc _), hfsc.2⟩
        · exact hr.dsc x hx)
      simp only [List.map_cons, List.cons_append] at this
      rw [← hr.defs] at this
      exact this
    · simp at h
  · split at h
    · rename_i v h' n' hop
      cases h
      refine wp_of_takes (r := (v, h', n')) hnd (aop_sound hr.sim o _ _ hr.ev hr.evsc _ hop) ?_
      intro E' w' hd
      have k := keep E' n' hd.moves.agree hd.moves.nle
      have := hk E' w' hd.sim hd.moves hd.sc k.2
      rw [← k.1] at this
      exact this
    · simp at h

theorem step_sound {callA : CallF} (hc : CallOk X P callA) (hr : Rel X P N E s a w) (ops : Array Oper) (o : Oper) (hnd : ro = none ∨ ∀ c, o.op ≠ .defer c) (s' : St) (h : stepA P callA N ops o s = some s')
    (K : Act → World → Prop) (Q : Exit → Act → World → Prop) (hk : ∀ E' a' w', Rel X P N E' s' a' w' → Moves E s.h s.n w E' s'.h s'.n w' → K a' w') :
    if Region.wanted o (yielded ops a.tmps) then o.wpIn (WF ro) fd P a w K Q else (∀ f, o.about P w a.eval = some f → (WF ro).fn f) ∧ K (a.put o.dst undef) w := by
  unfold stepA at h
  split at h
  · simp at h
  · rename_i hg
    have hw := guardO_wanted hr ops o false hg
    rw [if_neg (by rw [hw]; simp)]
    split at h
    · rename_i t hp
      cases h
      have := putO_rel (d' := s.d) hr o.dst hp hr.sim (Moves.refl _ _ _ _) (by simp [AV.sc, AV.scs]) a.defers hr.defs hr.dsc
      have hu : ((AV.tup []).conc E) = undef := by simp [AV.conc, AV.concs, undef]
      rw [hu] at this
      exact ⟨fun _ _ => trivial, hk E _ w this (Moves.refl _ _ _ _)⟩
    · simp at h
  · rename_i hg
    have hw := guardO_wanted hr ops o true hg
    rw [if_pos hw]
    split at h
    · rename_i v h' n' d' hact
      split at h
      · rename_i t hp
        cases h
        refine act_sound hc hr o hnd _ hact K Q ?_
        intro E' w' e1 e2 e3 e4
        exact hk E' _ w' (putO_rel hr o.dst hp e1 e2 e3 _ rfl e4) e2
      · simp at h
    · simp at h
end
end Go.AE
