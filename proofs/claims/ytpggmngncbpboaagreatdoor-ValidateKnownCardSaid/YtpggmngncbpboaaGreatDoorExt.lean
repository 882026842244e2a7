/- The engine, part 18: functions without a body, and tables of known functions. -/
import Derived.Test.YtpggmngncbpboaaGreatDoorFun
import Derived.Lib.Bytealg
import Derived.Below
import Derived.ChangeSame
section
namespace Go.AE
set_option linter.unusedSimpArgs false

/-- A table of known functions. -/
noncomputable def knownOf (t : PT (List AV → Heap → Nat → Option (AV × Heap × Nat))) : Known := fun g => t.get g

noncomputable def xIndexByte (vs : List AV) (h : Heap) (n : Nat) : Option (AV × Heap × Nat) :=
  match vs with
  | [.st l, .nt .u8 c] => some (.nt .i64 (Lib.indexByte l c.toNat.toUInt8), h, n)
  | _ => none
noncomputable def xCount (vs : List AV) (h : Heap) (n : Nat) : Option (AV × Heap × Nat) :=
  match vs with
  | [.st l, .nt .u8 c] => some (.nt .i64 (Lib.countByte l c.toNat.toUInt8 : Nat), h, n)
  | _ => none
noncomputable def xSame (vs : List AV) (h : Heap) (n : Nat) : Option (AV × Heap × Nat) :=
  match vs with
  | [x] => some (x, h, n)
  | _ => none

/-- One function is known: what its summary says is so. -/
def FnOk (P : Program) (g : FuncId) (f : List AV → Heap → Nat → Option (AV × Heap × Nat)) : Prop :=
  ∀ vs h n r, f vs h n = some r → ∀ E w, Sim P.globals.size E h n w → AV.scs n vs →
    CallsX P E (.fn g) (AV.concs E vs).toArray w fun v w' => ∃ E', v = r.1.conc E' ∧ Done P.globals.size E h n w r E' w'

theorem callOk_of {X : Bs} {P : Program} {xt : Known} (h : ∀ g f, xt g = some f → FnOk P g f) : CallOk X P (knownA xt) := by
  intro t vs h0 n r hr E w _ _ hs hsc _
  cases t with
  | yl b => simp [knownA] at hr
  | fn g =>
    simp only [knownA] at hr
    split at hr
    · rename_i f hf
      exact h g f hf vs h0 n r hr E w hs hsc
    · simp at hr

section
variable {P : Program} {g : FuncId} {fn : Func} {e : Array Value → Sem Value}

theorem callsX_extern (hf : P.funcs[g]? = some fn) (hname : (fn.name == "runtime.NumGoroutine") = false) (hb : fn.body.isNone = true) (hn : Extern.findNext fn = none) (he : Extern.find fn = some e)
    {E : Env} {args : Array Value} {w w' : World} {v : Value} {R : Value → World → Prop} (h : (e args).run P w = .ok v w') (hR : R v w') : CallsX P E (.fn g) args w R :=
  ⟨.value v, w', by show (callFunc g args).run P w = _; rw [run_callFunc_extern hf hname hb hn he, h]; rfl, .inl ⟨v, rfl, hR⟩⟩

theorem fnOk_indexByte (hf : P.funcs[g]? = some fn) (hname : (fn.name == "runtime.NumGoroutine") = false) (hb : fn.body.isNone = true) (hn : Extern.findNext fn = none)
    (he : Extern.find fn = some Extern.BytealgIndexByte.indexByte) : FnOk P g xIndexByte := by
  intro vs h n r hr E w hs hsc
  unfold xIndexByte at hr
  split at hr
  · rename_i l c
    cases hr
    refine callsX_extern hf hname hb hn he (w' := w) (v := .int .i64 (Lib.indexByte l c.toNat.toUInt8)) ?_ ⟨E, by simp [AV.conc], hs, Moves.refl _ _ _ _, by simp [AV.sc]⟩
    simp only [AV.concs, AV.conc]
    exact Lib.run_indexByteString _ c w
  · simp at hr

theorem fnOk_count (hf : P.funcs[g]? = some fn) (hname : (fn.name == "runtime.NumGoroutine") = false) (hb : fn.body.isNone = true) (hn : Extern.findNext fn = none)
    (he : Extern.find fn = some Extern.BytealgCount.count) : FnOk P g xCount := by
  intro vs h n r hr E w hs hsc
  unfold xCount at hr
  split at hr
  · rename_i l c
    cases hr
    refine callsX_extern hf hname hb hn he (w' := w) (v := .int .i64 (Lib.countByte l c.toNat.toUInt8 : Nat)) ?_ ⟨E, by simp [AV.conc], hs, Moves.refl _ _ _ _, by simp [AV.sc]⟩
    simp only [AV.concs, AV.conc]
    exact Lib.run_countString _ c w
  · simp at hr

theorem fnOk_same (hf : P.funcs[g]? = some fn) (hname : (fn.name == "runtime.NumGoroutine") = false) (hb : fn.body.isNone = true) (hn : Extern.findNext fn = none)
    (he : Extern.find fn = some Extern.AbiNoEscape.same) : FnOk P g xSame := by
  intro vs h n r hr E w hs hsc
  unfold xSame at hr
  split at hr
  · rename_i x
    cases hr
    simp only [AV.scs] at hsc
    refine callsX_extern hf hname hb hn he (w' := w) (v := x.conc E) ?_ ⟨E, rfl, hs, Moves.refl _ _ _ _, hsc.1⟩
    simp only [AV.concs]
    rfl
  · simp at hr
end
end Go.AE
end

section
namespace Go.AE
open Go.ChangeShapes Go.WideShapes Go.RowKit
set_option linter.unusedSimpArgs false

/-- All blocks are read only. -/
def AllRo (h : Heap) : Prop := ∀ id y, h.get id = some y → y.isRo = true

theorem below_of_done {G : Nat} {E : Env} {H : Heap} {n : Nat} {w : World} {r : AV × Heap × Nat} {E' : Env} {w' : World} (hro : AllRo H) (h : Done G E H n w r E' w') : Below w.heap.size w w' :=
  ⟨h.moves.os, h.moves.tape, h.moves.out, h.moves.size, fun k hk => h.moves.keep k hk (fun id y hy hr => by have := hro id y hy; rw [hr] at this; cases this)⟩

/-- A call of a function with a body, out of the evaluator's answer, in a world that holds the heap's (read-only) blocks. -/
theorem calls_closed {P : Program} {ft : Nat → Option Func} {xt : Known} (hx : ∀ X, CallOk X P (knownA xt)) (hft : FtOk P ft) (hm : P.follows .mixedOrders = true) {g : FuncId} {fn : Func} (hg : ft g = some fn)
    {fuel : Nat} {vs : List AV} {H : Heap} {n : Nat} {r : AV × Heap × Nat} (hr : callsA P ft xt fuel (.fn g) vs H n = some r) {E : Env} {w : World} (hs : Sim P.globals.size E H n w) (hro : AllRo H) (hsc : AV.scs n vs) :
    Calls P g (AV.concs E vs).toArray w fun e w' => ∃ E', e = .returned (r.1.conc E') ∧ Done P.globals.size E H n w r E' w' ∧ Below w.heap.size w w' := by
  cases fuel with
  | zero => simp [callsA] at hr
  | succ k =>
    simp only [callsA, hg] at hr
    obtain ⟨hf, _⟩ := hft g fn hg
    refine (funA_ok (callsA_ok (hx ⟨E, 0, []⟩) hft hm k) hft hm hf hr (fun _ h => absurd h (Nat.not_lt_zero _)) (Nat.zero_le _) hs hsc).2.mono ?_
    rintro e w' ⟨v, rfl, E', rfl, hd⟩
    exact ⟨E', rfl, hd, below_of_done hro hd⟩

/-- The row's end, where no old block has turned (new ones may be frozen). -/
theorem post_of_below {P : Program} {H : Type} {enc : TypeId × Value → H} {f : Func} {s : ChangeSpec} {apart fresh handsOn again : Bool} {W W' : World} {args : Array Value} {v : Value} {ds gs : List (DataW H)} {before pa pv : List MemPlace}
    (hW : DataW.Whole enc P f.params.toList s.vars apart W args.toList ds gs before)
    (hres : ∀ (b : Nat) (sp : Nat → Bool) (hd : Bool), DataW.TrodAll enc P W' b sp hd f.resultTypes.toList (v.resultList f.resultTypes.size) (s.fn H (ds ++ gs)).results [])
    (hargs : ∀ sp : Nat → Bool, (∀ p ∈ before, sp p.block = true) → DataW.TrodAll enc P W' 0 sp true f.params.toList args.toList (s.fn H (ds ++ gs)).args pa)
    (hvars : ∀ sp : Nat → Bool, (∀ p ∈ before, sp p.block = true) → DataW.TrodVars enc P W' sp s.vars (s.fn H (ds ++ gs)).vars pv)
    (hps : before = pa ++ pv) (hb : Below W.heap.size W W')
    (hok : ∀ (j : Nat) (t : TypeId) (r : Value), f.resultTypes[j]? = some t → (v.resultList f.resultTypes.size)[j]? = some r → Value.okWide P W' .any 0 t r) :
    s.post enc P f apart fresh handsOn again W args v W' := by
  have hold : ∀ p ∈ before, (fun b => decide (b < W.heap.size)) p.block = true := fun p hp => by simpa using hW.lt p hp
  refine ⟨ds, gs, before, [], pa, pv, hW, hres _ _ _, hargs _ hold, hvars _ hold, World.keptBut_mono (fun p hp => ⟨hp, ?_⟩) (hb.frame (· ∈ before)), fun _ => ?_⟩
  · rw [hps, List.mem_append] at hp
    exact Or.inr hp
  · have hlt := hW.lt
    obtain ⟨_, _, _, _, _, hz, hn⟩ := hW
    refine ⟨hok, _, _, ([] ++ pa) ++ pv, ⟨[] ++ pa, pv, trodAll_append (hargs _ (fun _ _ => rfl)) (hres _ _ _), hvars _ (fun _ _ => rfl), rfl, ?_, ?_⟩, ?_⟩
    · intro b off hp
      have hp' : MemPlace.cell b off ∈ before := by rw [hps]; simpa using hp
      have : b < W.heap.size := hlt _ hp'
      rw [hb.frozen this]
      exact hz b off hp'
    · intro ha
      have := hn ha
      rw [hps] at this
      simpa using this
    · intro p hp _
      rw [hps]
      simpa using hp
end Go.AE
end

section
namespace Go.AE
set_option linter.unusedSimpArgs false

noncomputable def roHeap (l : List (Nat × List AV)) : Heap :=
  List.rec (motive := fun _ => Heap) .lf (fun x _ ih => ih.set x.1 (.ro x.2)) l

theorem roHeap_get : ∀ (l : List (Nat × List AV)) (id : Nat) (blk : Blk), (roHeap l).get id = some blk → ∃ vs, (id, vs) ∈ l ∧ blk = .ro vs := by
  intro l
  induction l with
  | nil => intro id blk h; simp only [roHeap] at h; rw [PT.get_lf] at h; cases h
  | cons x l ih =>
    intro id blk h
    simp only [roHeap] at h
    rw [PT.get_set] at h
    split at h
    · rename_i e
      cases h
      subst e
      exact ⟨x.2, List.mem_cons_self .., rfl⟩
    · obtain ⟨vs, h1, h2⟩ := ih id blk h
      exact ⟨vs, List.mem_cons_of_mem _ h1, h2⟩

theorem roHeap_ro (l : List (Nat × List AV)) : AllRo (roHeap l) := by
  intro id y h
  obtain ⟨vs, _, rfl⟩ := roHeap_get l id y h
  rfl

/-- Every package-level variable under its own number. -/
def E0 : Env := { ρ := fun id => id, σ := fun _ => 0, lp := fun _ => LoopC.nil }

theorem cells_of_cell {W : World} {b : Nat} {v : Value} (h : W.cell? ⟨b, 0, none⟩ = some v) : ∃ C el fr, W.heap[b]? = some (.cells C el fr) := by
  unfold World.cell? at h
  cases hb : W.heap[b]? with
  | none => rw [hb] at h; simp at h
  | some o =>
    cases o with
    | cells C el fr => exact ⟨C, el, fr, rfl⟩
    | _ => rw [hb] at h; simp at h

theorem sim_start {G : Nat} {W : World} (l : List (Nat × List AV)) (hl : ∀ x ∈ l, x.1 < G ∧ x.2 ≠ [] ∧ AV.scs G x.2 ∧ ∀ j v, x.2[j]? = some v → W.cell? ⟨x.1, j, none⟩ = some (v.conc E0)) :
    Sim G E0 (roHeap l) G W := by
  refine ⟨fun g _ => rfl, Nat.le_refl G, ?_, ?_, ?_, fun id jd x y _ _ he => he⟩
  · intro id blk h
    obtain ⟨vs, hm, _⟩ := roHeap_get l id blk h
    exact (hl _ hm).1
  · intro id blk h
    obtain ⟨vs, hm, rfl⟩ := roHeap_get l id blk h
    exact (hl _ hm).2.2.1
  · intro id blk h
    obtain ⟨vs, hm, rfl⟩ := roHeap_get l id blk h
    obtain ⟨_, hne, _, hc⟩ := hl _ hm
    obtain ⟨v, vs', rfl⟩ : ∃ v vs', vs = v :: vs' := by
      cases vs with
      | nil => exact absurd rfl hne
      | cons v vs' => exact ⟨v, vs', rfl⟩
    obtain ⟨C, el, fr, hC⟩ := cells_of_cell (hc 0 v rfl)
    have hget : ∀ j (hj : j < (v :: vs').length), C[j]? = some ((v :: vs')[j].conc E0) := by
      intro j hj
      have := hc j _ (List.getElem?_eq_getElem hj)
      simp only [World.cell?, hC] at this
      simpa using this
    refine ⟨C, el, fr, hC, ?_, hget⟩
    have hlast := hget ((v :: vs').length - 1) (by simp)
    have := (Array.getElem?_eq_some_iff.1 hlast).1
    simp only [List.length_cons] at this ⊢
    omega
end Go.AE
end
