/- The fast code, part 9: functions, and the calls among them. -/
import Derived.Test.YtpggmngncbpboaaGreatDoorFcQ
import Derived.Test.YtpggmngncbpboaaGreatDoorExt
namespace Go.AE
set_option linter.unusedSimpArgs false

/-- The places at a function's begin: m arguments, then nothing. -/
noncomputable def sg0 (m N : Nat) : Sg :=
  Nat.rec (motive := fun _ => Sg) .lf (fun k ih => ih.set k (bif Nat.blt k m then .v (m - 1 - k) else .k (.tup []))) N

noncomputable def retsL (l : List ResultVar) : Nat :=
  List.rec (motive := fun _ => Nat) 0 (fun x _ ih => Nat.lor ih (Nat.shiftLeft 1 (match x with | .tmp k => k | .cell a _ => a))) l

noncomputable def trF (P : Program) (fn : Func) : Option (Nat × FC) :=
  match fn.body with
  | some c =>
    (bif Nat.ble (fn.params.size + fn.nfree) fn.ntmps then
      (trC P fn.ntmps (retsL fn.results.toList) c (sg0 (fn.params.size + fn.nfree) fn.ntmps) (fn.params.size + fn.nfree) [] 0 (retsL fn.results.toList) (fun _ => kret fn.results.toList) false (kret fn.results.toList)).map
        fun fc => (fn.params.size + fn.nfree, fc)
    else none)
  | none => none

abbrev FTab := Nat → Option (Nat × FC)

/-- The fast code of a function is run, where there are as many values as it takes. -/
noncomputable def ftK (p : Nat × FC) (ih : CallY) (ys : Ys) (P : Program) (k : Nat) (vs : List AV) (h : Heap) (n : Nat) : Res :=
  Prod.rec (motive := fun _ => CallY → Ys → Program → Nat → List AV → Heap → Nat → Res)
    (fun m fc ih ys P k vs h n => Bool.rec (motive := fun _ => FC → CallY → Ys → Program → Nat → List AV → Heap → Nat → Res) (fun _ _ _ _ _ _ _ _ => none) (fun fc ih ys P k vs h n => fc.run P ih ys k vs [] h n) (Nat.beq (lenA vs) m) fc ih ys P k vs h n) p ih ys P k vs h n
theorem ftK_eq (m : Nat) (fc : FC) (ih : CallY) (ys : Ys) (P : Program) (k : Nat) (vs : List AV) (h : Heap) (n : Nat) : ftK (m, fc) ih ys P k vs h n = bif Nat.beq vs.length m then fc.run P ih ys k vs [] h n else none := by
  show Bool.rec (motive := fun _ => FC → CallY → Ys → Program → Nat → List AV → Heap → Nat → Res) (fun _ _ _ _ _ _ _ _ => none) (fun fc ih ys P k vs h n => fc.run P ih ys k vs [] h n) (Nat.beq (lenA vs) m) fc ih ys P k vs h n = _
  rw [lenA_eq]
  cases Nat.beq vs.length m <;> rfl
/-- A function that defers calls, by its text; or one that is known. -/
noncomputable def xtK (P : Program) (dt : Nat → Option Func) (xt : Known) (ih : CallY) (ys : Ys) (k : Nat) (g : Nat) (vs : List AV) (h : Heap) (n : Nat) : Res :=
  match dt g with
  | some fn => funA P dt (ih ys) k fn vs h n
  | none => (match xt g with | some f => f vs h n | none => none)

noncomputable def callsB (P : Program) (ft : FTab) (dt : Nat → Option Func) (xt : Known) (fuel : Nat) : CallY :=
  Nat.rec (motive := fun _ => CallY) (fun _ _ _ _ _ => none)
    (fun k ih ys t vs h n =>
      Tgt.rec (motive := fun _ => CallY → FTab → Program → (Nat → Option Func) → Known → Nat → Ys → List AV → Heap → Nat → Res)
        (fun g ih ft P dt xt k ys vs h n => Option.rec (motive := fun _ => CallY → Program → (Nat → Option Func) → Known → Nat → Ys → Nat → List AV → Heap → Nat → Res)
          (fun ih P dt xt k ys g vs h n => xtK P dt xt ih ys k g vs h n) (fun p ih P _ _ k ys _ vs h n => ftK p ih ys P k vs h n) (ft g) ih P dt xt k ys g vs h n)
        (fun b _ _ _ _ _ _ ys vs h n => app1 (lookY ys b) vs h n) t ih ft P dt xt k ys vs h n) fuel

def FtabOk (P : Program) (ft : FTab) : Prop := ∀ g p, ft g = some p → ∃ fn, P.funcs[g]? = some fn ∧ (fn.name == "runtime.NumGoroutine") = false ∧ trF P fn = some p

theorem sg0_get (m : Nat) : ∀ N k, (sg0 m N).get k = if k < N then some (if k < m then .v (m - 1 - k) else .k (.tup [])) else none := by
  intro N
  induction N with
  | zero => intro k; show (PT.lf : Sg).get k = _; rw [PT.get_lf, if_neg (by omega)]
  | succ N ih =>
    intro k
    show ((sg0 m N).set N (bif Nat.blt N m then .v (m - 1 - N) else .k (.tup []))).get k = _
    rw [PT.get_set]
    by_cases e : k = N
    · subst e
      rw [if_pos rfl, if_pos (by omega)]
      cases hb : Nat.blt k m with
      | true => rw [if_pos (lt_of_blt hb)]; rfl
      | false =>
        rw [if_neg]
        · rfl
        · intro h; rw [blt_of_lt h] at hb; cases hb
    · rw [if_neg e, ih]
      by_cases h : k < N
      · rw [if_pos h, if_pos (show k < N + 1 by omega)]
      · rw [if_neg h, if_neg (show ¬ k < N + 1 by omega)]

theorem sg0_ok (vs : List AV) (m N : Nat) (h : vs.length = m) : Ag (sg0 m N) m (argsT vs 0 .lf) vs := by
  refine ⟨h, fun k r hk => ?_⟩
  rw [sg0_get] at hk
  rw [argsT_get]
  by_cases hN : k < N
  · rw [if_pos hN] at hk
    by_cases hm : k < m
    · rw [if_pos hm] at hk
      cases hk
      refine ⟨fun l e => (by cases e; omega), ?_⟩
      rw [if_pos (by omega)]
      simp only [Ref.at, val_v, lget_eq]
      rw [show m - 1 - (m - 1 - k) = k by omega, Nat.sub_zero]
    · rw [if_neg hm] at hk
      cases hk
      refine ⟨fun l e => (by cases e), ?_⟩
      rw [if_neg (by omega), PT.get_lf]
      rfl
  · rw [if_neg hN] at hk
    cases hk

theorem kret_ok {P : Program} {CY : CallY} {ys : Ys} {fuel : Nat} {σ : Sg} {len : Nat} {t : PT AV} {env : List AV} (ha : Ag σ len t env) {rs : List ResultVar} {fc : FC} (hk : kret rs σ len = some fc) {js : List Jmp} {h : Heap} {n : Nat} {r : AV × Heap × Nat}
    (hr : fc.run P CY ys fuel env js h n = some r) : ∃ l, resultsO P h t rs = some l ∧ r = (packO l, h, n) := by
  unfold kret at hk
  obtain ⟨l, h1, rfl⟩ := Option.map_eq_some_iff.1 hk
  rw [run_ret] at hr
  unfold retQ at hr
  have key : ∀ (rs : List ResultVar) (l : List RR), mapO (resT σ len) rs = some l → resultsR P h env l = resultsO P h t rs := by
    intro rs
    induction rs with
    | nil => intro l hl; have := mapO_spec hl; simp at this; subst this; rfl
    | cons x rs ih =>
      intro l hl
      rw [mapO_cons] at hl
      split at hl
      · rename_i b l' e1 e2
        cases hl
        show (match resR P h env b, resultsR P h env l' with | some v, some r => some (v :: r) | _, _ => none) = (match resO P h t x, resultsO P h t rs with | some v, some r => some (v :: r) | _, _ => none)
        rw [ih l' e2]
        have : resR P h env b = resO P h t x := by
          cases x with
          | tmp k =>
            simp only [resT] at e1
            obtain ⟨rf, e3, rfl⟩ := Option.map_eq_some_iff.1 e1
            simp only [resR, resO, refT_ok ha e3]
          | cell a ty =>
            simp only [resT] at e1
            obtain ⟨rf, e3, rfl⟩ := Option.map_eq_some_iff.1 e1
            simp only [resR, resO, refT_ok ha e3]
        rw [this]
      · simp at hl
  rw [key rs l h1] at hr
  split at hr
  · rename_i l' hl
    cases hr
    exact ⟨l', hl, rfl⟩
  · simp at hr

/-- A block that nobody knows turns. -/
theorem sim_hidden {G : Nat} {E : Env} {h : Heap} {n : Nat} {w : World} (hs : Sim G E h n w) {D : Nat} (hD : ∀ id blk, h.get id = some blk → E.ρ id ≠ D) (o : Obj) : Sim G E h n (w.putObj D o) :=
  ⟨hs.glob, hs.gle, hs.lt, hs.sc, fun id blk hx => Blk.rel_heap (World.putObj_heap_other (hD id blk hx)) (hs.rel id blk hx), hs.inj⟩

theorem Moves.hidden {E E' : Env} {h h' : Heap} {n n' : Nat} {w w' : World} (hm : Moves E h n w E' h' n' w') {D : Nat} (hD : w.heap.size ≤ D) (o : Obj) : Moves E h n w E' h' n' (w'.putObj D o) where
  nle := hm.nle
  agree := hm.agree
  old := hm.old
  new := hm.new
  size := by simpa using hm.size
  keep := fun k hk hno => by rw [World.putObj_heap_other (by omega), hm.keep k hk hno]
  os := hm.os
  out := hm.out
  tape := hm.tape

/-- The marks are taken up, one by one. -/
theorem leaves_marks {P : Program} {E0 E : Env} {h0 h : Heap} {n0 n : Nat} {fn : Func} {tmps : Array Value} {R : Ending → World → Prop} {w0 : World} :
    ∀ (Ds : List Nat) (w : World), Ds.Nodup → (∀ D ∈ Ds, w0.heap.size ≤ D ∧ w.heap[D]? = some (.deferred (some []))) → Sim P.globals.size E h n w → Moves E0 h0 n0 w0 E h n w →
      (∀ w', Sim P.globals.size E h n w' → Moves E0 h0 n0 w0 E h n w' → ∃ v, (results fn tmps).run P w' = .ok v w' ∧ R (.returned v) w') →
      LeavesInM Fence.wide 0 P fn tmps R (Ds.map fun D => { target := .collected D, args := #[] }) .returning w := by
  intro Ds
  induction Ds with
  | nil => intro w _ _ hs hm hfin; exact hfin w hs hm
  | cons D Ds ih =>
    intro w hnd hall hs hm hfin
    obtain ⟨hD1, hD2⟩ := hall D (List.mem_cons_self ..)
    obtain ⟨hn1, hn2⟩ := List.nodup_cons.1 hnd
    refine ⟨by simp, .inl ⟨D, _, rfl, run_takeDeferred hD2, ?_⟩⟩
    refine ih _ hn2 (fun D' hD' => ?_) (sim_hidden hs (fun id blk hx e => not_dfr (hs.rel id blk hx) (by rw [e]; exact hD2)) _) (hm.hidden hD1 _) hfin
    have hne : D' ≠ D := by rintro rfl; exact hn1 hD'
    exact ⟨(hall D' (List.mem_cons_of_mem _ hD')).1, by rw [World.putObj_heap_other hne]; exact (hall D' (List.mem_cons_of_mem _ hD')).2⟩

section
variable {P : Program} {ft : FTab} {dt : Nat → Option Func} {xt : Known}

/-- A function, by its fast code. -/
theorem fc_calls {CY : CallY} {k : Nat} (hcY : CYOk P CY) (hm : P.follows .mixedOrders = true) {X : Bs} {ys : Ys} (hys : YsOk X P ys) {g : FuncId} {fn : Func} (hf : P.funcs[g]? = some fn) {m : Nat} {fc : FC} (ht : trF P fn = some (m, fc))
    {vs : List AV} (hl : vs.length = m) {h : Heap} {n : Nat} {r : AV × Heap × Nat} (hr : fc.run P CY ys k vs [] h n = some r) {E : Env} {w : World} (hag : X.E0.Agree E X.n0) (hng : X.n0 ≤ n) (hs : Sim P.globals.size E h n w) (hsc : AV.scs n vs) :
    (∃ c, fn.body = some c) ∧ Calls P g (AV.concs E vs).toArray w fun e w' => ∃ v, e = .returned v ∧ ∃ E', v = r.1.conc E' ∧ Done P.globals.size E h n w r E' w' := by
  unfold trF at ht
  split at ht
  · rename_i c hb
    cases hle : Nat.ble (fn.params.size + fn.nfree) fn.ntmps with
    | false => rw [hle] at ht; simp at ht
    | true =>
      rw [hle] at ht
      simp only [cond_true] at ht
      obtain ⟨fc', h1, h2⟩ := Option.map_eq_some_iff.1 ht
      cases h2
      have hle' : vs.length ≤ fn.ntmps := by rw [hl]; exact Nat.le_of_ble_eq_true hle
      have hrel := start_rel (X := X) hag hng hs vs hsc fn hle'
      have hfs : FS ⟨X.E0, X.n0, []⟩ w.heap.size P fn.ntmps (sg0 (fn.params.size + fn.nfree) fn.ntmps) (fn.params.size + fn.nfree) vs E _ h n w := FS.ofRel hrel rfl (sg0_ok vs _ fn.ntmps hl) ⟨[], rfl, by simp, by simp⟩ (Nat.le_refl _)
      refine ⟨⟨c, hb⟩, (callsIn_wide (n := 0)).1 (callsIn_of_wp_marks (F := Fence.wide) hf hb trivial ?_)⟩
      have fin : ∀ ms σ len fcR env E' a' h' n' w' (js : List Jmp), kret fn.results.toList σ len = some fcR → FS ⟨X.E0, X.n0, ms⟩ w.heap.size P fn.ntmps σ len env E' a' h' n' w' → Moves E h n w E' h' n' w' → fcR.run P CY ys k env js h' n' = some r →
          LeavesInM Fence.wide 0 P fn a'.tmps (fun e w' => ∃ v, e = .returned v ∧ ∃ E', v = r.1.conc E' ∧ Done P.globals.size E h n w r E' w') a'.defers .returning w' := by
        intro ms σ len fcR env E' a' h' n' w' js g1 g2 g3 g4
        obtain ⟨t, t1, t2⟩ := g2.toRel
        obtain ⟨l, l1, l2⟩ := kret_ok t2 g1 g4
        obtain ⟨Ds, m1, m2, m3⟩ := g2.marks
        rw [g2.defs]
        simp only at m1
        rw [m1]
        refine leaves_marks Ds w' m2 m3 g2.sim g3 fun w2 s1 s2 => ?_
        obtain ⟨k1, k2⟩ := run_results s1 t a'.tmps t1.tmps t1.tsc fn l l1
        subst l2
        exact ⟨_, k1, _, rfl, E', rfl, ⟨s1, s2, k2⟩⟩
      exact trC_ok hcY hm c h1 (ro := none) (fd := 0) (fun _ => rfl) (fun id lvl L hx => by simp [lookJ] at hx) (show YsOk ⟨X.E0, X.n0, []⟩ P ys from hys) hfs rfl hr _
        ⟨fun ms σ len fcR env E' a' h' n' w' g1 g2 g3 g4 => fin ms σ len fcR env E' a' h' n' w' _ g1 g2 g3 g4, fun ms id lvl L E' a' h' n' w' vs' hx => by simp [lookJ] at hx,
          fun ms pre σ len fcR env E' a' h' n' w' g1 g2 g3 g4 => fin ms σ len fcR env E' a' h' n' w' _ g1 g2 g3 g4⟩
  · simp at ht

theorem callsB_ok (hx : ∀ X, CallOk X P (knownA xt)) (hft : FtabOk P ft) (hdt : FtOk P dt) (hm : P.follows .mixedOrders = true) : ∀ fuel, CYOk P (callsB P ft dt xt fuel) := by
  intro fuel
  induction fuel with
  | zero => intro X ys hys t vs h n r hr; simp [callsB] at hr
  | succ k ih =>
    intro X ys hys t vs h n r hr E w hag hng hs hsc htsc
    cases t with
    | yl b =>
      have hr : app1 (lookY ys b) vs h n = some r := hr
      cases hb : lookY ys b with
      | none => rw [hb] at hr; simp [app1] at hr
      | some hd =>
        rw [hb] at hr
        exact (hys b hd hb).2 vs h n r hr E w hag hng hs hsc
    | fn g =>
      have hr : Option.rec (motive := fun _ => CallY → Program → (Nat → Option Func) → Known → Nat → Ys → Nat → List AV → Heap → Nat → Res)
          (fun ih P dt xt k ys g vs h n => xtK P dt xt ih ys k g vs h n) (fun p ih P _ _ k ys _ vs h n => ftK p ih ys P k vs h n) (ft g) (callsB P ft dt xt k) P dt xt k ys g vs h n = some r := hr
      cases hg : ft g with
      | some p =>
        rw [hg] at hr
        obtain ⟨m, fc⟩ := p
        simp only at hr
        rw [ftK_eq] at hr
        cases hb : Nat.beq vs.length m with
        | false => rw [hb] at hr; simp at hr
        | true =>
          rw [hb] at hr
          simp only [cond_true] at hr
          obtain ⟨fn, hf, hname, ht⟩ := hft g _ hg
          obtain ⟨⟨c, hbd⟩, hcalls⟩ := fc_calls ih hm hys hf ht (Nat.eq_of_beq_eq_true hb) hr hag hng hs hsc
          exact ⟨_, w, run_enter hf hname hbd _ w, .inr (.inl ⟨_, _, rfl, hcalls⟩)⟩
      | none =>
        rw [hg] at hr
        simp only [xtK] at hr
        split at hr
        · rename_i fn hfn
          obtain ⟨hf, hname⟩ := hdt g fn hfn
          obtain ⟨⟨c, hbd⟩, hcalls⟩ := funA_ok (ih X ys hys) hdt hm hf hr hag hng hs hsc
          exact ⟨_, w, run_enter hf hname hbd _ w, .inr (.inl ⟨_, _, rfl, hcalls⟩)⟩
        · split at hr
          · rename_i f hf
            exact hx X (.fn g) vs h n r (by simp only [knownA, hf]; exact hr) E w hag hng hs hsc trivial
          · simp at hr

theorem ysOk_nil {X : Bs} : YsOk X P [] := fun b hd h => by simp [lookY] at h

/-- A call of a function with a body, out of the evaluator's answer. -/
theorem callsB_calls (hx : ∀ X, CallOk X P (knownA xt)) (hft : FtabOk P ft) (hdt : FtOk P dt) (hm : P.follows .mixedOrders = true) {g : FuncId} {p : Nat × FC} (hg : ft g = some p)
    {fuel : Nat} {vs : List AV} {H : Heap} {n : Nat} {r : AV × Heap × Nat} (hr : callsB P ft dt xt fuel [] (.fn g) vs H n = some r) {E : Env} {w : World} (hs : Sim P.globals.size E H n w) (hsc : AV.scs n vs) :
    Calls P g (AV.concs E vs).toArray w fun e w' => ∃ E', e = .returned (r.1.conc E') ∧ Done P.globals.size E H n w r E' w' := by
  cases fuel with
  | zero => simp [callsB] at hr
  | succ k =>
    have hr : Option.rec (motive := fun _ => CallY → Program → (Nat → Option Func) → Known → Nat → Ys → Nat → List AV → Heap → Nat → Res)
        (fun ih P dt xt k ys g vs h n => xtK P dt xt ih ys k g vs h n) (fun p ih P _ _ k ys _ vs h n => ftK p ih ys P k vs h n) (ft g) (callsB P ft dt xt k) P dt xt k [] g vs H n = some r := hr
    rw [hg] at hr
    obtain ⟨m, fc⟩ := p
    simp only at hr
    rw [ftK_eq] at hr
    cases hb : Nat.beq vs.length m with
    | false => rw [hb] at hr; simp at hr
    | true =>
      rw [hb] at hr
      simp only [cond_true] at hr
      obtain ⟨fn, hf, hname, ht⟩ := hft g _ hg
      refine (fc_calls (X := ⟨E, 0, []⟩) (callsB_ok hx hft hdt hm k) hm ysOk_nil hf ht (Nat.eq_of_beq_eq_true hb) hr (fun _ h => absurd h (Nat.not_lt_zero _)) (Nat.zero_le _) hs hsc).2.mono ?_
      rintro e w' ⟨v, rfl, E', rfl, hd⟩
      exact ⟨E', rfl, hd⟩
end
end Go.AE
