/- The engine, part 17: functions: arguments, bodies, deferred calls, results; the calls among them. -/
import Derived.Test.YtpggmngncbpboaaGreatDoorCtl
import Derived.Defers
namespace Go.AE
set_option linter.unusedSimpArgs false

noncomputable def argsT (vs : List AV) : Nat → PT AV → PT AV :=
  List.rec (motive := fun _ => Nat → PT AV → PT AV) (fun _ t => t) (fun v _ ih i t => ih (i + 1) (t.set i v)) vs

theorem argsT_get : ∀ (vs : List AV) (i : Nat) (t : PT AV) (k : Nat), (argsT vs i t).get k = if i ≤ k ∧ k < i + vs.length then vs[k - i]? else t.get k := by
  intro vs
  induction vs with
  | nil => intro i t k; simp only [argsT, List.length_nil]; rw [if_neg (by omega)]
  | cons v vs ih =>
    intro i t k
    have := ih (i + 1) (t.set i v) k
    simp only [argsT] at this ⊢
    rw [this]
    by_cases e : k = i
    · subst e
      rw [if_neg (by omega), if_pos (by simp), PT.get_set_same]; simp
    · by_cases h : i + 1 ≤ k ∧ k < i + 1 + vs.length
      · rw [if_pos h, if_pos (by simp only [List.length_cons]; omega)]
        obtain ⟨m, hm⟩ : ∃ m, k - i = m + 1 := ⟨k - i - 1, by omega⟩
        rw [hm, List.getElem?_cons_succ, show k - (i + 1) = m by omega]
      · rw [if_neg h, if_neg (by simp only [List.length_cons]; omega), PT.get_set_ne _ _ e]

noncomputable def resO (P : Program) (H : Heap) (t : PT AV) : ResultVar → Option AV
  | .tmp k => some ((t.get k).getD (.tup []))
  | .cell a ty => loadO P H ty ((t.get a).getD (.tup []))

noncomputable def resultsO (P : Program) (H : Heap) (t : PT AV) (l : List ResultVar) : Option (List AV) :=
  List.rec (motive := fun _ => Option (List AV)) (some []) (fun x _ ih => match resO P H t x, ih with | some v, some r => some (v :: r) | _, _ => none) l

noncomputable def packO (l : List AV) : AV := match l with | [v] => v | l => .tup l

noncomputable def bodyA (P : Program) (callA : CallF) (fuel : Nat) (fn : Func) (vs : List AV) (h : Heap) (n : Nat) : Option St :=
  match fn.body with
  | none => none
  | some c =>
    bif Nat.ble vs.length fn.ntmps then
      match acode P callA fn.ntmps fuel c ⟨argsT vs 0 .lf, h, n, []⟩ with
      | some (.nm, s) => some s
      | some (.rt, s) => some s
      | _ => none
    else none

/-- A function that defers nothing. -/
noncomputable def plainA (P : Program) (callA : CallF) (fuel : Nat) (fn : Func) (vs : List AV) (h : Heap) (n : Nat) : Option (AV × Heap × Nat) :=
  match bodyA P callA fuel fn vs h n with
  | some s =>
    match s.d with
    | [] => (match resultsO P s.h s.t fn.results.toList with | some l => some (packO l, s.h, s.n) | none => none)
    | _ => none
  | none => none

noncomputable def defsA (P : Program) (ft : Nat → Option Func) (callA : CallF) (fuel : Nat) (l : List Def) : Heap → Nat → Option (Heap × Nat) :=
  List.rec (motive := fun _ => Heap → Nat → Option (Heap × Nat)) (fun h n => some (h, n))
    (fun x _ ih h n =>
      match ft x.1 with
      | none => none
      | some fn =>
        match plainA P callA fuel fn (x.2.1 ++ x.2.2) h n with
        | some (_, h', n') => ih h' n'
        | none => none) l

noncomputable def funA (P : Program) (ft : Nat → Option Func) (callA : CallF) (fuel : Nat) (fn : Func) (vs : List AV) (h : Heap) (n : Nat) : Option (AV × Heap × Nat) :=
  match bodyA P callA fuel fn vs h n with
  | some s =>
    match defsA P ft callA fuel s.d s.h s.n with
    | some (h', n') => (match resultsO P h' s.t fn.results.toList with | some l => some (packO l, h', n') | none => none)
    | none => none
  | none => none

/-- What is known of a function apart from its text: what it comes to. -/
abbrev Known := Nat → Option (List AV → Heap → Nat → Option (AV × Heap × Nat))

noncomputable def knownA (xt : Known) : CallF := fun t vs h n =>
  match t with
  | .fn g => (match xt g with | some f => f vs h n | none => none)
  | .yl _ => none

noncomputable def callsA (P : Program) (ft : Nat → Option Func) (xt : Known) (fuel : Nat) : CallF :=
  Nat.rec (motive := fun _ => CallF) (fun _ _ _ _ => none)
    (fun k ih t vs h n =>
      match t with
      | .fn g =>
        (match ft g with
        | some fn => funA P ft ih k fn vs h n
        | none =>
          match xt g with
          | some f => f vs h n
          | none => none)
      | .yl _ => none) fuel

def FtOk (P : Program) (ft : Nat → Option Func) : Prop := ∀ g fn, ft g = some fn → P.funcs[g]? = some fn ∧ (fn.name == "runtime.NumGoroutine") = false

section
variable {X : Bs} {P : Program} {ft : Nat → Option Func} {callA : CallF} {N : Nat}

def resSem (tmps : Array Value) (x : ResultVar) : Sem Value :=
  match x with
  | .tmp t => pure (tmps.getD t undef)
  | .cell a t => do loadVar t (← asAddr (tmps.getD a undef))

theorem results_eq (fn : Func) (tmps : Array Value) : results fn tmps = (fn.results.mapM (resSem tmps) >>= fun vs => pure (if h : vs.size = 1 then vs[0] else .tuple vs)) := rfl

theorem run_results {E : Env} {H : Heap} {n : Nat} {w : World} (hs : Sim P.globals.size E H n w) (t : PT AV) (tmps : Array Value) (ht : ∀ k, tmps.getD k undef = ((t.get k).getD (.tup [])).conc E)
    (hsc : ∀ k v, t.get k = some v → v.sc n) (fn : Func) (l : List AV) (h : resultsO P H t fn.results.toList = some l) :
    (results fn tmps).run P w = .ok ((packO l).conc E) w ∧ (packO l).sc n := by
  have gsc : ∀ k, ((t.get k).getD (.tup [])).sc n := by
    intro k
    cases hk : t.get k with
    | none => simp [AV.sc, AV.scs]
    | some v => exact hsc k v hk
  have one : ∀ (x : ResultVar) (v : AV), resO P H t x = some v → (resSem tmps x).run P w = .ok (v.conc E) w ∧ v.sc n := by
    intro x v hx
    cases x with
    | tmp k => simp only [resO] at hx; cases hx; exact ⟨by simp only [resSem]; rw [Sem.run_pure, ht k], gsc k⟩
    | cell a ty =>
      simp only [resO] at hx
      obtain ⟨h1, h2⟩ := run_loadO hs ty _ v hx
      refine ⟨?_, h2⟩
      simp only [resSem]
      rw [← h1, ht a]
      cases hv : (t.get a).getD (.tup []) with
      | pt b o => simp only [AV.conc, Instr.loadAt, Instr.sureAddr, asAddr]
      | _ => rw [hv] at hx; simp [loadO] at hx
  have many : ∀ (r : List ResultVar) (l : List AV), resultsO P H t r = some l → (r.mapM (resSem tmps)).run P w = .ok (AV.concs E l) w ∧ AV.scs n l := by
    intro r
    induction r with
    | nil => intro l hl; simp only [resultsO] at hl; cases hl; simp [AV.concs, AV.scs]
    | cons x r ih =>
      intro l hl
      simp only [resultsO] at hl
      split at hl
      · rename_i v l' hv hl'
        cases hl
        obtain ⟨o1, o2⟩ := one x v hv
        obtain ⟨i1, i2⟩ := ih l' hl'
        refine ⟨?_, by simp only [AV.scs]; exact ⟨o2, i2⟩⟩
        simp only [List.mapM_cons, Sem.run_bind, o1, Result.andThen_ok, i1, Sem.run_pure, AV.concs]
      · simp at hl
  obtain ⟨m1, m2⟩ := many _ l h
  have hm : (fn.results.mapM (resSem tmps)).run P w = .ok (AV.concs E l).toArray w := by
    rw [Array.mapM_eq_mapM_toList]
    simp only [Sem.run_map, m1, Result.andThen_ok]
  rw [results_eq, Sem.run_bind, hm]
  simp only [Result.andThen_ok, Sem.run_pure]
  rcases l with _ | ⟨v, _ | ⟨u, l⟩⟩
  · simp [packO, AV.conc, AV.concs, AV.sc, AV.scs]
  · simp only [AV.scs] at m2; simp [packO, AV.concs, m2.1]
  · refine ⟨by simp [packO, AV.conc, AV.concs], ?_⟩
    simp only [packO, AV.sc]; exact m2

theorem start_rel {E : Env} {H : Heap} {n : Nat} {w : World} (hag : X.E0.Agree E X.n0) (hng : X.n0 ≤ n) (hs : Sim P.globals.size E H n w) (vs : List AV) (hsc : AV.scs n vs) (fn : Func) (hl : vs.length ≤ fn.ntmps) :
    Rel ⟨X.E0, X.n0, []⟩ P fn.ntmps E ⟨argsT vs 0 .lf, H, n, []⟩ { tmps := (AV.concs E vs).toArray ++ Array.replicate (fn.ntmps - (AV.concs E vs).toArray.size) undef, defers := [] } w := by
  have hlen : (AV.concs E vs).length = vs.length := by simp [AV.concs_eq]
  have hg : ∀ k, (argsT vs 0 .lf).get k = vs[k]? := by
    intro k
    rw [argsT_get]
    by_cases h : k < vs.length
    · rw [if_pos (by omega)]; simp
    · rw [if_neg (by omega), List.getElem?_eq_none (by omega)]; rfl
  refine ⟨hs, ?_, fun k => ?_, fun k v hk => ?_, rfl, by simp, hag, hng⟩
  · simp only [Array.size_append, List.size_toArray, Array.size_replicate, hlen]; omega
  · simp only [hg]
    rw [Array.getD_eq_getD_getElem?, Array.getElem?_append]
    by_cases h : k < vs.length
    · rw [if_pos (by simpa [hlen] using h)]
      simp [AV.concs_eq, List.getElem?_eq_getElem h]
    · rw [if_neg (by simpa [hlen] using h), List.getElem?_eq_none (by omega), Array.getElem?_replicate]
      simp only [Option.getD_none, AV.conc, AV.concs]
      split <;> simp [undef]
  · simp only [hg] at hk
    exact scs_get hsc hk

theorem bodyA_ok (hc : CallOk X P callA) (hm : P.follows .mixedOrders = true) {fuel : Nat} {fn : Func} {vs : List AV} {H : Heap} {n : Nat} {s : St} (h : bodyA P callA fuel fn vs H n = some s)
    {E : Env} {w : World} (hag : X.E0.Agree E X.n0) (hng : X.n0 ≤ n) (hs : Sim P.globals.size E H n w) (hsc : AV.scs n vs) :
    ∃ c, fn.body = some c ∧ ∀ (Q : Exit → Act → World → Prop),
      (∀ E' a' w', Rel ⟨X.E0, X.n0, []⟩ P fn.ntmps E' s a' w' → Moves E H n w E' s.h s.n w' → Q .normal a' w' ∧ Q .ret a' w') →
      c.wp P Q { tmps := (AV.concs E vs).toArray ++ Array.replicate (fn.ntmps - (AV.concs E vs).toArray.size) undef, defers := [] } w := by
  unfold bodyA at h
  split at h
  · simp at h
  · rename_i c hb
    cases hl : Nat.ble vs.length fn.ntmps with
    | false => rw [hl] at h; simp at h
    | true =>
      rw [hl] at h
      simp only [cond_true] at h
      have hrel := start_rel (X := X) hag hng hs vs hsc fn (Nat.le_of_ble_eq_true hl)
      refine ⟨c, hb, fun Q hq => ?_⟩
      split at h
      · rename_i s' h1
        cases h
        exact acode_ok (X := ⟨X.E0, X.n0, []⟩) hc hm fuel c E _ _ _ _ w Q h1 hrel (fun E' a' w' g1 g2 => (hq E' a' w' g1 g2).1)
      · rename_i s' h1
        cases h
        exact acode_ok (X := ⟨X.E0, X.n0, []⟩) hc hm fuel c E _ _ _ _ w Q h1 hrel (fun E' a' w' g1 g2 => (hq E' a' w' g1 g2).2)
      · simp at h

theorem plainA_ok (hc : CallOk X P callA) (hm : P.follows .mixedOrders = true) {fuel : Nat} {fn : Func} {vs : List AV} {H : Heap} {n : Nat} {r : AV × Heap × Nat} (h : plainA P callA fuel fn vs H n = some r)
    {E : Env} {w : World} (hag : X.E0.Agree E X.n0) (hng : X.n0 ≤ n) (hs : Sim P.globals.size E H n w) (hsc : AV.scs n vs) :
    ∃ c, fn.body = some c ∧ c.wp P (bodyPost P fn fun e w' => ∃ v, e = .returned v ∧ ∃ E', v = r.1.conc E' ∧ Done P.globals.size E H n w r E' w')
      { tmps := (AV.concs E vs).toArray ++ Array.replicate (fn.ntmps - (AV.concs E vs).toArray.size) undef, defers := [] } w := by
  unfold plainA at h
  split at h
  · rename_i s hb
    split at h
    · rename_i hd
      split at h
      · rename_i l hl
        cases h
        obtain ⟨c, h1, h2⟩ := bodyA_ok hc hm hb hag hng hs hsc
        refine ⟨c, h1, h2 _ fun E' a' w' g1 g2 => ?_⟩
        obtain ⟨k1, k2⟩ := run_results g1.sim s.t a'.tmps g1.tmps g1.tsc fn l hl
        have hdef : a'.defers = [] := by rw [g1.defs, hd]; rfl
        have : a'.defers = [] ∧ ∃ v, (results fn a'.tmps).run P w' = .ok v w' ∧ ∃ v0, Ending.returned v = .returned v0 ∧ ∃ E', v0 = (packO l).conc E' ∧ Done P.globals.size E H n w (packO l, s.h, s.n) E' w' :=
          ⟨hdef, _, k1, _, rfl, E', rfl, ⟨g1.sim, g2, k2⟩⟩
        exact ⟨this, this⟩
      · simp at h
    · simp at h
  · simp at h

theorem run_enter {f : FuncId} {fn : Func} {c : Code} (hf : P.funcs[f]? = some fn) (hname : (fn.name == "runtime.NumGoroutine") = false) (hb : fn.body = some c) (args : Array Value) (w : World) :
    (callFunc f args).run P w = .ok (.enter f args) w := by
  have h1 : fn.name ≠ "runtime.NumGoroutine" := by simpa using hname
  simp [callFunc, hf, h1, hb]

theorem leaves_ok (hc : CallOk X P callA) (hft : FtOk P ft) (hm : P.follows .mixedOrders = true) {fuel : Nat} {fn : Func} {tmps : Array Value} {R : Ending → World → Prop} :
    ∀ (d : List Def) (H : Heap) (n : Nat) (H' : Heap) (n' : Nat) (E : Env) (w : World), defsA P ft callA fuel d H n = some (H', n') → X.E0.Agree E X.n0 → X.n0 ≤ n → Sim P.globals.size E H n w → (∀ x ∈ d, defSc n x) →
      (∀ E' w', Sim P.globals.size E' H' n' w' → Moves E H n w E' H' n' w' → ∃ v, (results fn tmps).run P w' = .ok v w' ∧ R (.returned v) w') →
      Leaves P fn tmps R (d.map (defConc E)) .returning w := by
  intro d
  induction d with
  | nil =>
    intro H n H' n' E w h hag hng hs _ hq
    simp only [defsA] at h
    cases h
    exact hq E w hs (Moves.refl _ _ _ _)
  | cons x d ih =>
    intro H n H' n' E w h hag hng hs hsc hq
    simp only [defsA] at h
    split at h
    · simp at h
    · rename_i fnD hfn
      split at h
      · rename_i v1 h1 n1 hpl
        obtain ⟨hf, hname⟩ := hft _ _ hfn
        have hx := hsc x (List.mem_cons_self ..)
        obtain ⟨c, hb, hwp⟩ := plainA_ok hc hm hpl hag hng hs (scs_append hx.1 hx.2)
        rw [List.map_cons]
        refine leaves_cons (f := x.1) (args := (AV.concs E (x.2.1 ++ x.2.2)).toArray) (by simp) ?_ ?_
        · rw [concs_append]
          simp only [invoke]
          rw [run_enter hf hname hb]
          simp
        · refine (callsD_of_wp (u := .returning) hf hb hwp).mono ?_
          rintro e u' w' ⟨rfl, v, rfl, E', rfl, hd⟩
          simp only [settle]
          have hagree := hd.moves.agree
          rw [defs_agree hagree d (fun y hy => hsc y (List.mem_cons_of_mem _ hy))]
          refine ih h1 n1 H' n' E' w' h (hag.trans hng hagree) (Nat.le_trans hng hd.moves.nle) hd.sim (fun y hy => defSc_mono hd.moves.nle (hsc y (List.mem_cons_of_mem _ hy))) ?_
          intro E2 w2 g1 g2
          exact hq E2 w2 g1 (hd.moves.trans g2 (fun id x hx => hd.sim.lt id x hx))
      · simp at h

theorem funA_ok (hc : CallOk X P callA) (hft : FtOk P ft) (hm : P.follows .mixedOrders = true) {fuel : Nat} {g : FuncId} {fn : Func} (hf : P.funcs[g]? = some fn) {vs : List AV} {H : Heap} {n : Nat}
    {r : AV × Heap × Nat} (h : funA P ft callA fuel fn vs H n = some r) {E : Env} {w : World} (hag : X.E0.Agree E X.n0) (hng : X.n0 ≤ n) (hs : Sim P.globals.size E H n w) (hsc : AV.scs n vs) :
    (∃ c, fn.body = some c) ∧ Calls P g (AV.concs E vs).toArray w fun e w' => ∃ v, e = .returned v ∧ ∃ E', v = r.1.conc E' ∧ Done P.globals.size E H n w r E' w' := by
  unfold funA at h
  split at h
  · rename_i s hb
    split at h
    · rename_i h' n' hd
      split at h
      · rename_i l hl
        cases h
        obtain ⟨c, h1, h2⟩ := bodyA_ok hc hm hb hag hng hs hsc
        refine ⟨⟨c, h1⟩, calls_of_wp_defers hf h1 (h2 _ fun E' a' w' g1 g2 => ?_)⟩
        have key : Leaves P fn a'.tmps (fun e w' => ∃ v, e = .returned v ∧ ∃ E', v = (packO l).conc E' ∧ Done P.globals.size E H n w (packO l, h', n') E' w') a'.defers .returning w' := by
          rw [g1.defs, List.append_nil]
          refine leaves_ok hc hft hm s.d s.h s.n h' n' E' w' hd g1.ag g1.ng g1.sim g1.dsc ?_
          intro E2 w2 k1 k2
          have old : ∀ k, a'.tmps.getD k undef = ((s.t.get k).getD (.tup [])).conc E2 := by
            intro k
            rw [g1.tmps k]
            cases hk : s.t.get k with
            | none => simp [AV.conc, AV.concs]
            | some y => simp only [Option.getD_some]; rw [AV.conc_agree k2.agree y (g1.tsc k y hk)]
          obtain ⟨m1, m2⟩ := run_results k1 s.t a'.tmps old (fun k v hk => AV.sc_mono k2.nle _ (g1.tsc k v hk)) fn l hl
          exact ⟨_, m1, _, rfl, E2, rfl, ⟨k1, g2.trans k2 (fun id x hx => g1.sim.lt id x hx), m2⟩⟩
        exact ⟨key, key⟩
      · simp at h
    · simp at h
  · simp at h

theorem callsA_ok {xt : Known} (hx : CallOk X P (knownA xt)) (hft : FtOk P ft) (hm : P.follows .mixedOrders = true) : ∀ fuel, CallOk X P (callsA P ft xt fuel) := by
  intro fuel
  induction fuel with
  | zero => intro g vs h n r hr; simp [callsA] at hr
  | succ k ih =>
    intro t vs h n r hr E w hag hng hs hsc htsc
    cases t with
    | yl b => simp [callsA] at hr
    | fn g =>
      simp only [callsA] at hr
      split at hr
      · rename_i fn hfn
        obtain ⟨hf, hname⟩ := hft g fn hfn
        obtain ⟨⟨c, hb⟩, hcalls⟩ := funA_ok ih hft hm hf hr hag hng hs hsc
        exact ⟨_, w, run_enter hf hname hb _ w, .inr (.inl ⟨_, _, rfl, hcalls⟩)⟩
      · split at hr
        · rename_i f hf
          exact hx (.fn g) vs h n r (by simp only [knownA, hf]; exact hr) E w hag hng hs hsc trivial
        · simp at hr
end
end Go.AE
