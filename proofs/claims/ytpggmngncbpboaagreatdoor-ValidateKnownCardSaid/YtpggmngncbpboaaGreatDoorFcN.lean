/- The fast code, part 8b: the state of fast code against the model's, and how it moves. -/
import Derived.Test.YtpggmngncbpboaaGreatDoorFcH
section
namespace Go.AE
set_option linter.unusedSimpArgs false

/-! ### trees with given answers -/
theorem PT.support {α : Type} : ∀ t : PT α, ∃ M, ∀ k x, t.get k = some x → k < M := by
  intro t
  induction t with
  | lf => exact ⟨0, fun k x h => by rw [PT.get_lf] at h; cases h⟩
  | nd l v r ihl ihr =>
    obtain ⟨Ml, hl⟩ := ihl
    obtain ⟨Mr, hr⟩ := ihr
    refine ⟨2 * Ml + 2 * Mr + 3, fun k x h => ?_⟩
    cases k with
    | zero => omega
    | succ k =>
      rw [PT.get_nd_succ] at h
      split at h
      · have := hr _ _ h; omega
      · have := hl _ _ h; omega

theorem PT.build {α : Type} (f : Nat → Option α) : ∀ M, ∃ t : PT α, ∀ k, t.get k = if k < M then f k else none := by
  intro M
  induction M with
  | zero => exact ⟨.lf, fun k => by rw [PT.get_lf, if_neg (by omega)]⟩
  | succ M ih =>
    obtain ⟨t, ht⟩ := ih
    cases hf : f M with
    | none =>
      refine ⟨t, fun k => ?_⟩
      rw [ht]
      by_cases e : k = M
      · subst e; rw [if_neg (by omega), if_pos (by omega), hf]
      · by_cases hlt : k < M
        · rw [if_pos hlt, if_pos (by omega)]
        · rw [if_neg hlt, if_neg (by omega)]
    | some x =>
      refine ⟨t.set M x, fun k => ?_⟩
      rw [PT.get_set, ht]
      by_cases e : k = M
      · subst e; rw [if_pos rfl, if_pos (by omega), hf]
      · rw [if_neg e]
        by_cases hlt : k < M
        · rw [if_pos hlt, if_pos (by omega)]
        · rw [if_neg hlt, if_neg (by omega)]

/-- The marks that ranges over functions have left among the deferred calls. -/
def Marks (lo : Nat) (w : World) (ms : List Deferred) : Prop :=
  ∃ Ds : List Nat, ms = Ds.map (fun D => { target := .collected D, args := #[] }) ∧ Ds.Nodup ∧ ∀ D ∈ Ds, lo ≤ D ∧ w.heap[D]? = some (.deferred (some []))

/-- The fast code's values stand for the frame's. -/
structure FS (X : Bs) (lo : Nat) (P : Program) (N : Nat) (σ : Sg) (len : Nat) (env : List AV) (E : Env) (a : Act) (h : Heap) (n : Nat) (w : World) : Prop where
  sim : Sim P.globals.size E h n w
  size : N ≤ a.tmps.size
  ln : env.length = len
  get : ∀ k r, σ.get k = some r → (∀ l, r = .v l → l < len) ∧ a.tmps.getD k undef = ((r.at len).val env).conc E ∧ ((r.at len).val env).sc n
  defs : a.defers = X.ms
  marks : Marks lo w X.ms
  lole : lo ≤ w.heap.size
  ag : X.E0.Agree E X.n0
  ng : X.n0 ≤ n

theorem not_dfr {E : Env} {id : Nat} {w : World} {blk : Blk} (h : blk.rel E id w) {x : Option (List Deferred)} : w.heap[E.ρ id]? ≠ some (.deferred x) := by
  cases blk with
  | cells vs elem fz grow => obtain ⟨C, lo, hi, a, _⟩ := h; rw [a]; simp
  | map es clock => rw [show w.heap[E.ρ id]? = _ from h]; simp
  | iter l pos => rw [show w.heap[E.ρ id]? = _ from h]; simp
  | ro vs => obtain ⟨C, el, fr, a, _⟩ := h; rw [a]; simp
  | loop st => rw [show w.heap[E.ρ id]? = _ from h]; simp

theorem Marks.moves {G lo : Nat} {E E' : Env} {h h' : Heap} {n n' : Nat} {w w' : World} {ms : List Deferred} (hm : Marks lo w ms) (hs : Sim G E h n w) (hv : Moves E h n w E' h' n' w') : Marks lo w' ms := by
  obtain ⟨Ds, e1, e2, e3⟩ := hm
  refine ⟨Ds, e1, e2, fun D hD => ⟨(e3 D hD).1, ?_⟩⟩
  have hd := (e3 D hD).2
  have hlt : D < w.heap.size := (Array.getElem?_eq_some_iff.1 hd).1
  rw [hv.keep D hlt ?_, hd]
  intro id y hy hr e
  exact not_dfr (hs.rel id y hy) (by rw [e]; exact hd)

section
variable {X : Bs} {lo : Nat} {P : Program} {N : Nat} {σ : Sg} {len : Nat} {env : List AV} {E : Env} {a : Act} {h : Heap} {n : Nat} {w : World}

theorem FS.toRel (hf : FS X lo P N σ len env E a h n w) : ∃ t, Rel X P N E ⟨t, h, n, []⟩ a w ∧ Ag σ len t env := by
  obtain ⟨M, hM⟩ := PT.support σ
  obtain ⟨t, ht⟩ := PT.build (fun k => match σ.get k with | some r => some ((r.at len).val env) | none => some (.raw (a.tmps.getD k undef))) (max M a.tmps.size)
  refine ⟨t, ⟨hf.sim, hf.size, fun k => ?_, fun k v hk => ?_, by simp [hf.defs], by simp, hf.ag, hf.ng⟩, hf.ln, fun k r hk => ?_⟩
  · show a.tmps.getD k undef = ((t.get k).getD (.tup [])).conc E
    rw [ht]
    by_cases hlt : k < max M a.tmps.size
    · rw [if_pos hlt]
      cases hs : σ.get k with
      | some r => exact (hf.get k r hs).2.1
      | none => rfl
    · rw [if_neg hlt]
      have : ¬ k < a.tmps.size := by omega
      rw [Array.getD_eq_getD_getElem?, Array.getElem?_eq_none (by omega)]
      simp [AV.conc, AV.concs, undef]
  · simp only at hk
    rw [ht] at hk
    split at hk
    · split at hk
      · rename_i r hs; cases hk; exact (hf.get k r hs).2.2
      · cases hk; trivial
    · cases hk
  · obtain ⟨g1, _, _⟩ := hf.get k r hk
    refine ⟨g1, ?_⟩
    have := hM k r hk
    rw [ht, if_pos (by omega), hk]
    rfl

theorem FS.ofRel {s : St} (hr : Rel X P N E s a w) (hd : s.d = []) (ha : Ag σ len s.t env) (hm : Marks lo w X.ms) (hl : lo ≤ w.heap.size) : FS X lo P N σ len env E a s.h s.n w := by
  refine ⟨hr.sim, hr.size, ha.ln, fun k r hk => ?_, by rw [hr.defs, hd]; rfl, hm, hl, hr.ag, hr.ng⟩
  obtain ⟨g1, g2⟩ := ha.get k r hk
  refine ⟨g1, by rw [← g2]; exact hr.tmps k, ?_⟩
  rw [← g2]
  cases hk : s.t.get k with
  | none => simp [AV.sc, AV.scs]
  | some v => exact hr.tsc k v hk

/-- A value that is named. -/
theorem FS.ref (hf : FS X lo P N σ len env E a h n w) {x : Operand} {r : Ref} (hr : refO P.globals.size σ len x = some r) : a.eval x = (r.val env).conc E ∧ (r.val env).sc n := by
  obtain ⟨t, h1, h2⟩ := hf.toRel
  have e := refO_ok h2 hr
  refine ⟨by rw [← e]; exact h1.ev x, ?_⟩
  rw [← e]
  exact h1.evsc x

theorem FS.moves (hf : FS X lo P N σ len env E a h n w) {E' : Env} {h' : Heap} {n' : Nat} {w' : World} (hs : Sim P.globals.size E' h' n' w') (hv : Moves E h n w E' h' n' w') : FS X lo P N σ len env E' a h' n' w' := by
  refine ⟨hs, hf.size, hf.ln, fun k r hk => ?_, hf.defs, hf.marks.moves hf.sim hv, Nat.le_trans hf.lole hv.size, hf.ag.trans hf.ng hv.agree, Nat.le_trans hf.ng hv.nle⟩
  obtain ⟨g1, g2, g3⟩ := hf.get k r hk
  exact ⟨g1, by rw [g2, AV.conc_agree hv.agree _ g3], AV.sc_mono hv.nle _ g3⟩

/-- A value more in front. -/
theorem FS.push (hf : FS X lo P N σ len env E a h n w) (v : AV) : FS X lo P N σ (len + 1) (v :: env) E a h n w := by
  refine ⟨hf.sim, hf.size, by simp [hf.ln], fun k r hk => ?_, hf.defs, hf.marks, hf.lole, hf.ag, hf.ng⟩
  obtain ⟨g1, g2, g3⟩ := hf.get k r hk
  have : (r.at (len + 1)).val (v :: env) = (r.at len).val env := by
    cases r with
    | k a => rfl
    | v l =>
      have := g1 l rfl
      simp only [Ref.at, val_v]
      rw [show len + 1 - 1 - l = (len - 1 - l) + 1 by omega, lget_succ]
  rw [this]
  exact ⟨fun l e => by have := g1 l e; omega, g2, g3⟩

/-- What a join is handed. -/
theorem FS.join (hf : FS X lo P N σ len env E a h n w) {L : List Tmp} {rs : List Ref} (hr : mapO (refT σ len) L = some rs) : FS X lo P N (sgL L) L.length (valsR env rs) E a h n w := by
  have key : ∀ (L : List Tmp) (rs : List Ref), mapO (refT σ len) L = some rs → (valsR env rs).length = L.length ∧
      ∀ k r, (sgL L).get k = some r → (∀ l, r = .v l → l < L.length) ∧ a.tmps.getD k undef = ((r.at L.length).val (valsR env rs)).conc E ∧ ((r.at L.length).val (valsR env rs)).sc n := by
    intro L
    induction L with
    | nil =>
      intro rs hr
      have := mapO_spec hr
      simp at this
      subst this
      exact ⟨rfl, fun k r hk => by simp only [sgL] at hk; rw [PT.get_lf] at hk; cases hk⟩
    | cons x L ih =>
      intro rs hr
      rw [mapO_cons] at hr
      split at hr
      · rename_i b r' h1 h2
        cases hr
        obtain ⟨i1, i2⟩ := ih r' h2
        have hval : valsR env (b :: r') = b.val env :: valsR env r' := rfl
        refine ⟨by rw [hval]; simp [i1], fun k r hk => ?_⟩
        have hk : ((sgL L).set x (.v L.length)).get k = some r := hk
        rw [PT.get_set] at hk
        rw [hval]
        by_cases e : k = x
        · rw [if_pos e] at hk
          cases hk
          subst e
          unfold refT at h1
          obtain ⟨q, hq, rfl⟩ := Option.map_eq_some_iff.1 h1
          obtain ⟨_, g2, g3⟩ := hf.get k q hq
          refine ⟨fun l h => by cases h; simp, ?_⟩
          simp only [Ref.at, List.length_cons, val_v, show L.length + 1 - 1 - L.length = 0 by omega, lget_zero]
          exact ⟨g2, g3⟩
        · rw [if_neg e] at hk
          obtain ⟨g1, g2, g3⟩ := i2 k r hk
          have : (r.at (L.length + 1)).val (b.val env :: valsR env r') = (r.at L.length).val (valsR env r') := by
            cases r with
            | k a => rfl
            | v l =>
              have := g1 l rfl
              simp only [Ref.at, val_v]
              rw [show L.length + 1 - 1 - l = (L.length - 1 - l) + 1 by omega, lget_succ]
          refine ⟨fun l e => by have := g1 l e; simp; omega, ?_⟩
          simp only [List.length_cons]
          rw [this]
          exact ⟨g2, g3⟩
      · simp at hr
  obtain ⟨k1, k2⟩ := key L rs hr
  exact ⟨hf.sim, hf.size, k1, k2, hf.defs, hf.marks, hf.lole, hf.ag, hf.ng⟩
end

/-! ### what is asked behind a piece of code -/
section
variable (P : Program) (CY : CallY) (ys : Ys) (fuel N lo : Nat) (X : Bs) (r : AV × Heap × Nat) (E : Env) (h : Heap) (n : Nat) (w : World)

def PK (js : List Jmp) (k : Sg → Nat → Option FC) (Q : Act → World → Prop) : Prop :=
  ∀ ms σ len fc env E' a' h' n' w', k σ len = some fc → FS ⟨X.E0, X.n0, ms⟩ lo P N σ len env E' a' h' n' w' → Moves E h n w E' h' n' w' → fc.run P CY ys fuel env js h' n' = some r → Q a' w'
def PB (bs : Blks) (jl : Nat) (js : List Jmp) (Q : Nat → Act → World → Prop) : Prop :=
  ∀ ms id lvl L E' a' h' n' w' vs, lookJ bs id = some (lvl, L) → FS ⟨X.E0, X.n0, ms⟩ lo P N (sgL L) L.length vs E' a' h' n' w' → Moves E h n w E' h' n' w' → jget js (jl - 1 - lvl) vs h' n' = some r → Q id a' w'
def PR (kr : Nat → Sg → Nat → Option FC) (jl : Nat) (js : List Jmp) (Q : Act → World → Prop) : Prop :=
  ∀ ms (pre : List Jmp) σ len fc env E' a' h' n' w', kr (pre.length + jl) σ len = some fc → FS ⟨X.E0, X.n0, ms⟩ lo P N σ len env E' a' h' n' w' → Moves E h n w E' h' n' w' → fc.run P CY ys fuel env (pre ++ js) h' n' = some r → Q a' w'
end

section
variable {P : Program} {CY : CallY} {ys : Ys} {fuel N lo : Nat} {X : Bs} {r : AV × Heap × Nat} {E E1 : Env} {h h1 : Heap} {n n1 : Nat} {w w1 : World} {ms : List Deferred}

theorem PK.later {js : List Jmp} {k : Sg → Nat → Option FC} {Q : Act → World → Prop} (hk : PK P CY ys fuel N lo X r E h n w js k Q) (hm : Moves E h n w E1 h1 n1 w1) (hin : ∀ id x, h1.get id = some x → id < n1) :
    PK P CY ys fuel N lo ⟨X.E0, X.n0, ms⟩ r E1 h1 n1 w1 js k Q :=
  fun ms' σ len fc env E' a' h' n' w' g1 g2 g3 g4 => hk ms' σ len fc env E' a' h' n' w' g1 g2 (hm.trans g3 hin) g4
theorem PB.later {bs : Blks} {jl : Nat} {js : List Jmp} {Q : Nat → Act → World → Prop} (hk : PB P N lo X r E h n w bs jl js Q) (hm : Moves E h n w E1 h1 n1 w1) (hin : ∀ id x, h1.get id = some x → id < n1) :
    PB P N lo ⟨X.E0, X.n0, ms⟩ r E1 h1 n1 w1 bs jl js Q :=
  fun ms' id lvl L E' a' h' n' w' vs g1 g2 g3 g4 => hk ms' id lvl L E' a' h' n' w' vs g1 g2 (hm.trans g3 hin) g4
theorem PR.later {kr : Nat → Sg → Nat → Option FC} {jl : Nat} {js : List Jmp} {Q : Act → World → Prop} (hk : PR P CY ys fuel N lo X r E h n w kr jl js Q) (hm : Moves E h n w E1 h1 n1 w1) (hin : ∀ id x, h1.get id = some x → id < n1) :
    PR P CY ys fuel N lo ⟨X.E0, X.n0, ms⟩ r E1 h1 n1 w1 kr jl js Q :=
  fun ms' pre σ len fc env E' a' h' n' w' g1 g2 g3 g4 => hk ms' pre σ len fc env E' a' h' n' w' g1 g2 (hm.trans g3 hin) g4

def BlOk (bs : Blks) (jl : Nat) : Prop := ∀ id lvl L, lookJ bs id = some (lvl, L) → lvl < jl
theorem lookJ_cons (b : Nat × Nat × List Tmp × Nat) (bs : Blks) (id : Nat) : lookJ (b :: bs) id = bif Nat.beq b.1 id then some (b.2.1, b.2.2.1) else lookJ bs id := rfl

theorem PB.under {bs : Blks} {jl : Nat} {js : List Jmp} {Q : Nat → Act → World → Prop} (hb : BlOk bs jl) (hk : PB P N lo X r E h n w bs jl js Q) (J : Jmp) :
    PB P N lo X r E h n w bs (jl + 1) (J :: js) Q := by
  intro ms' id lvl L E' a' h' n' w' vs g1 g2 g3 g4
  have := hb id lvl L g1
  rw [show jl + 1 - 1 - lvl = (jl - 1 - lvl) + 1 by omega] at g4
  exact hk ms' id lvl L E' a' h' n' w' vs g1 g2 g3 g4
theorem PR.under {kr : Nat → Sg → Nat → Option FC} {jl : Nat} {js : List Jmp} {Q : Act → World → Prop} (hk : PR P CY ys fuel N lo X r E h n w kr jl js Q) (J : Jmp) :
    PR P CY ys fuel N lo X r E h n w kr (jl + 1) (J :: js) Q := by
  intro ms' pre σ len fc env E' a' h' n' w' g1 g2 g3 g4
  refine hk ms' (pre ++ [J]) σ len fc env E' a' h' n' w' ?_ g2 g3 ?_
  · rw [show (pre ++ [J]).length + jl = pre.length + (jl + 1) by simp; omega]; exact g1
  · rw [List.append_assoc]; exact g4

/-- A join: whatever comes to it goes on behind it. -/
theorem PK.join {js : List Jmp} {k : Sg → Nat → Option FC} {Q : Act → World → Prop} (hk : PK P CY ys fuel N lo X r E h n w js k Q) {L : List Tmp} {rest : FC} (hrest : k (sgL L) L.length = some rest) :
    PK P CY ys fuel N lo X r E h n w ((fun as h n => rest.run P CY ys fuel as js h n) :: js) (kgo L) Q := by
  intro ms' σ len fc env E' a' h' n' w' g1 g2 g3 g4
  unfold kgo at g1
  obtain ⟨rs, e1, rfl⟩ := Option.map_eq_some_iff.1 g1
  rw [run_go] at g4
  exact hk ms' _ _ _ _ E' a' h' n' w' hrest (g2.join e1) g3 g4
end
end Go.AE
end

section
namespace Go.AE
set_option linter.unusedSimpArgs false

/-! ### no defer statements -/
section
variable {P : Program} {N : Nat} {ops : Array Oper}
theorem foO_nodef {σ : Sg} {len : Nat} {o : Oper} {fo : FO} (h : foO P σ len o = some fo) : ∀ c, o.op ≠ .defer c := by
  intro c hc
  unfold foO at h
  rw [hc] at h
  simp at h
theorem stepR_nodef {σ : Sg} {len : Nat} {o : Oper} {x : List RI × Sg × Nat} (h : stepR P N ops o σ len = some x) : ∀ c, o.op ≠ .defer c := by
  intro c hc
  unfold stepR at h
  have hal : alias σ o = none := by unfold alias; rw [hc]; cases o.guard <;> rfl
  rw [hal] at h
  simp only [] at h
  split at h
  · rename_i h2 _; exact foO_nodef h2 c hc
  · rename_i h2 _; exact foO_nodef h2 c hc
  · simp at h
theorem trOps_nodef : ∀ (l : List Oper) {σ : Sg} {len : Nat} {x : List RI × Sg × Nat}, trOps P N ops l σ len = some x → ∀ o ∈ l, ∀ c, o.op ≠ .defer c := by
  intro l
  induction l with
  | nil => intro _ _ _ _ o ho; cases ho
  | cons o l ih =>
    intro σ len x h o' ho
    have h : (match stepR P N ops o σ len with
      | some (is, σ1, len1) => (match trOps P N ops l σ1 len1 with | some (r, σ2, len2) => some (is ++ r, σ2, len2) | none => none)
      | none => none) = some x := h
    split at h
    · rename_i is1 σ1 len1 h1
      split at h
      · rename_i r2 σ2 len2 h2
        rcases List.mem_cons.1 ho with rfl | ho
        · exact stepR_nodef h1
        · exact ih h2 o' ho
      · simp at h
    · simp at h
theorem trOpsD_nodef : ∀ (l : List Oper) {σ : Sg} {len : Nat} {x : List RI × Sg × Nat × List (Sg × Nat)}, trOpsD P N ops l σ len = some x → ∀ o ∈ l, ∀ c, o.op ≠ .defer c := by
  intro l
  induction l with
  | nil => intro _ _ _ _ o ho; cases ho
  | cons o l ih =>
    intro σ len x h o' ho
    have h : (match stepR P N ops o σ len with
      | some (is, σ1, len1) => (match trOpsD P N ops l σ1 len1 with | some (r, σ2, len2, ss) => some (is ++ .mark :: r, σ2, len2, (σ1, len1) :: ss) | none => none)
      | none => none) = some x := h
    split at h
    · rename_i is1 σ1 len1 h1
      split at h
      · rename_i r2 σ2 len2 ss h2
        rcases List.mem_cons.1 ho with rfl | ho
        · exact stepR_nodef h1
        · exact ih h2 o' ho
      · simp at h
    · simp at h
theorem trD_nodef {σ : Sg} {len : Nat} {x : List RI × Sg × Nat} (h : trD P N ops σ len = some x) : ∀ o ∈ ops.toList, ∀ c, o.op ≠ .defer c := by
  unfold trD at h
  split at h
  · rename_i h1; exact trOpsD_nodef _ h1
  · simp at h
end

/-! ### the heap -/
theorem sim_invis {G : Nat} {E : Env} {h : Heap} {n : Nat} {w : World} (hs : Sim G E h n w) (o : Obj) : Sim G E h n (w.alloc o) ∧ Moves E h n w E h n (w.alloc o) := by
  refine ⟨⟨hs.glob, hs.gle, hs.lt, hs.sc, fun id x hx => ?_, hs.inj⟩, ⟨Nat.le_refl n, fun _ _ => ⟨rfl, rfl, rfl⟩, fun id x _ hx hr => ⟨x, hx, hr⟩, fun id x _ hx hr => .inr ⟨id, x, hx, hr, rfl⟩, by simp, ?_, rfl, rfl, rfl⟩⟩
  · have h1 := hs.rel id x hx
    exact Blk.rel_heap (heap_alloc_old w o _ (Blk.rel_lt h1)) h1
  · intro k hk _
    exact heap_alloc_old w o k hk

/-- Where the record of a range over a function lies, and what it bears. -/
def Env.putL (E : Env) (n r : Nat) (L : LoopC) : Env := { ρ := fun i => if i = n then r else E.ρ i, σ := E.σ, lp := fun i => if i = n then L else E.lp i }
theorem Env.putL_agree (E : Env) (n r : Nat) (L : LoopC) : E.Agree (E.putL n r L) n := fun id hid => by simp [Env.putL, Nat.ne_of_lt hid]
theorem Env.putL_ρ (E : Env) (n r : Nat) (L : LoopC) : (E.putL n r L).ρ n = r := by simp [Env.putL]
theorem Env.putL_lp (E : Env) (n r : Nat) (L : LoopC) : (E.putL n r L).lp n = L := by simp [Env.putL]

theorem sim_allocL {G : Nat} {E : Env} {h : Heap} {n : Nat} {w : World} (hs : Sim G E h n w) (L : LoopC) :
    Sim G (E.putL n w.heap.size L) (h.set n (.loop .ready)) (n + 1) (w.alloc (.loop (L.at .ready))) ∧ Moves E h n w (E.putL n w.heap.size L) (h.set n (.loop .ready)) (n + 1) (w.alloc (.loop (L.at .ready))) := by
  have hag := Env.putL_agree E n w.heap.size L
  constructor
  · refine ⟨fun g hg => ?_, by have := hs.gle; omega, ?_, ?_, ?_, ?_⟩
    · rw [(hag g (Nat.lt_of_lt_of_le hg hs.gle)).1]; exact hs.glob g hg
    · intro id x hx
      rw [PT.get_set] at hx
      split at hx
      · omega
      · have := hs.lt id x hx; omega
    · intro id x hx
      rw [PT.get_set] at hx
      split at hx
      · cases hx; trivial
      · have h1 := hs.sc id x hx
        cases x with
        | cells vs _ _ _ => exact AV.scs_mono (Nat.le_succ n) _ h1
        | map es _ => exact fun e he => ⟨AV.sc_mono (Nat.le_succ n) _ (h1 e he).1, AV.sc_mono (Nat.le_succ n) _ (h1 e he).2⟩
        | iter _ _ => trivial
        | ro vs => exact AV.scs_mono (Nat.le_succ n) _ h1
        | loop _ => trivial
    · intro id x hx
      rw [PT.get_set] at hx
      split at hx
      · rename_i e
        subst e
        cases hx
        show (w.alloc (.loop (L.at .ready))).heap[(E.putL id w.heap.size L).ρ id]? = _
        rw [Env.putL_ρ, Env.putL_lp]
        exact World.alloc_heap_new w _
      · have h1 := hs.rel id x hx
        have h2 := hs.lt id x hx
        have h3 := Blk.rel_agree hag h2 (hs.sc id x hx) h1
        refine Blk.rel_heap ?_ h3
        exact heap_alloc_old w _ _ (Blk.rel_lt h3)
    · intro id jd x y hx hy he
      rw [PT.get_set] at hx hy
      split at hx <;> split at hy
      · omega
      · rename_i e e'
        subst e
        have h2 := hs.lt jd y hy
        rw [Env.putL_ρ, (hag jd h2).1] at he
        have := Blk.rel_lt (hs.rel jd y hy)
        omega
      · rename_i e e'
        subst e'
        have h2 := hs.lt id x hx
        rw [Env.putL_ρ, (hag id h2).1] at he
        have := Blk.rel_lt (hs.rel id x hx)
        omega
      · have h2 := hs.lt id x hx
        have h3 := hs.lt jd y hy
        rw [(hag id h2).1, (hag jd h3).1] at he
        exact hs.inj id jd x y hx hy he
  · refine ⟨Nat.le_succ n, hag, ?_, ?_, by simp, fun k hk _ => heap_alloc_old w _ k hk, rfl, rfl, rfl⟩
    · intro id x hid hx hr
      rw [PT.get_set, if_neg (Nat.ne_of_lt hid)] at hx
      exact ⟨x, hx, hr⟩
    · intro id x hid hx hr
      rw [PT.get_set] at hx
      split at hx
      · rename_i e; subst e; exact .inl (by rw [Env.putL_ρ]; exact Nat.le_refl _)
      · have := hs.lt id x hx; omega

/-- The record of a range over a function turns, or is let go. -/
theorem sim_putL {G : Nat} {E : Env} {h : Heap} {n : Nat} {w : World} (hs : Sim G E h n w) {b : Nat} {st : LSt} (hb : h.get b = some (.loop st)) (o : Obj) (h' : Heap)
    (hh : (∃ st', o = .loop ((E.lp b).at st') ∧ h' = h.set b (.loop st')) ∨ h' = h.del b) :
    Sim G E h' n (w.putObj (E.ρ b) o) ∧ Moves E h n w E h' n (w.putObj (E.ρ b) o) := by
  have hlt : E.ρ b < w.heap.size := Blk.rel_lt (hs.rel b _ hb)
  have old : ∀ id x, h'.get id = some x → id ≠ b → h.get id = some x := by
    intro id x hx hne
    rcases hh with ⟨st', _, rfl⟩ | rfl
    · rwa [PT.get_set, if_neg hne] at hx
    · rwa [PT.get_del, if_neg hne] at hx
  have at_b : ∀ x, h'.get b = some x → ∃ st', o = .loop ((E.lp b).at st') ∧ x = .loop st' := by
    intro x hx
    rcases hh with ⟨st', e, rfl⟩ | rfl
    · rw [PT.get_set, if_pos rfl] at hx; cases hx; exact ⟨st', e, rfl⟩
    · rw [PT.get_del, if_pos rfl] at hx; cases hx
  have inh : ∀ id x, h'.get id = some x → ∃ y, h.get id = some y ∧ (x.isRo = false → y.isRo = false) := by
    intro id x hx
    by_cases e : id = b
    · subst e; exact ⟨_, hb, fun _ => rfl⟩
    · exact ⟨x, old id x hx e, fun h => h⟩
  constructor
  · refine ⟨hs.glob, hs.gle, fun id x hx => ?_, fun id x hx => ?_, fun id x hx => ?_, fun id jd x y hx hy he => ?_⟩
    · obtain ⟨y, hy, _⟩ := inh id x hx; exact hs.lt id y hy
    · by_cases e : id = b
      · subst e; obtain ⟨st', _, rfl⟩ := at_b x hx; trivial
      · exact hs.sc id x (old id x hx e)
    · by_cases e : id = b
      · subst e
        obtain ⟨st', rfl, rfl⟩ := at_b x hx
        show (w.putObj (E.ρ id) _).heap[E.ρ id]? = _
        exact World.putObj_heap_same hlt
      · have h1 := hs.rel id x (old id x hx e)
        refine Blk.rel_heap ?_ h1
        refine World.putObj_heap_other ?_
        intro he
        exact e (hs.inj id b x _ (old id x hx e) hb he)
    · obtain ⟨x', hx', _⟩ := inh id x hx
      obtain ⟨y', hy', _⟩ := inh jd y hy
      exact hs.inj id jd x' y' hx' hy' he
  · refine ⟨Nat.le_refl n, fun _ _ => ⟨rfl, rfl, rfl⟩, fun id x _ hx hr => ?_, fun id x _ hx hr => ?_, by simp, fun k hk hno => ?_, rfl, rfl, rfl⟩
    · obtain ⟨y, hy, hyr⟩ := inh id x hx; exact ⟨y, hy, hyr hr⟩
    · obtain ⟨y, hy, hyr⟩ := inh id x hx; exact .inr ⟨id, y, hy, hyr hr, rfl⟩
    · refine World.putObj_heap_other ?_
      intro e
      exact hno b _ hb rfl e.symm

theorem lstQ_some {h : Heap} {b : Nat} {st : LSt} (e : lstQ h b = some st) : h.get b = some (.loop st) := by
  unfold lstQ at e
  split at e
  · rename_i st' hst; cases e; exact hst
  · simp at e

/-! ### what a round is handed -/
section
variable {X : Bs} {lo : Nat} {P : Program} {N : Nat} {σ : Sg} {len : Nat} {env : List AV} {E : Env} {a : Act} {h : Heap} {n : Nat} {w : World}

theorem FS.pushs (hf : FS X lo P N σ len env E a h n w) : ∀ vs : List AV, FS X lo P N σ (vs.length + len) (vs ++ env) E a h n w := by
  intro vs
  induction vs with
  | nil => simpa using hf
  | cons v vs ih =>
    have := ih.push v
    rw [show (v :: vs).length + len = vs.length + len + 1 by simp; omega]
    exact this

theorem FS.setP (hf : FS X lo P N σ len env E a h n w) {p : Tmp} (hp : p < N) {l : Nat} (hl : l < len) {v : AV} (hv : lget env (len - 1 - l) = v) (hsc : v.sc n) :
    FS X lo P N (σ.set p (.v l)) len env E { a with tmps := a.tmps.setIfInBounds p (v.conc E) } h n w := by
  refine ⟨hf.sim, by simpa using hf.size, hf.ln, fun k r hk => ?_, hf.defs, hf.marks, hf.lole, hf.ag, hf.ng⟩
  rw [PT.get_set] at hk
  by_cases e : k = p
  · rw [if_pos e] at hk
    cases hk
    subst e
    have hsz : k < a.tmps.size := Nat.lt_of_lt_of_le hp hf.size
    refine ⟨fun l' e => by cases e; exact hl, ?_, by simp only [Ref.at, val_v, hv]; exact hsc⟩
    simp only [Ref.at, val_v, hv]
    simp [Array.getD_eq_getD_getElem?, Array.getElem?_setIfInBounds, hsz]
  · rw [if_neg e] at hk
    obtain ⟨g1, g2, g3⟩ := hf.get k r hk
    refine ⟨g1, ?_, g3⟩
    rw [← g2]
    simp [Array.getD_eq_getD_getElem?, Array.getElem?_setIfInBounds_ne (fun h => e h.symm)]

/-- The values that a round is handed lie in front, and in their variables. -/
theorem FS.hands {as : List AV} : ∀ (ps : List Tmp) (pre vs : List AV) {σ : Sg} {a : Act}, as = pre ++ vs → vs.length = ps.length → (∀ p ∈ ps, p < N) → AV.scs n as →
    FS X lo P N σ (as.length + len) (as ++ env) E a h n w →
    FS X lo P N (sgP (as.length + len - 1) ps pre.length σ) (as.length + len) (as ++ env) E { a with tmps := (ps.zip (AV.concs E vs)).foldl (fun t (p, v) => t.setIfInBounds p v) a.tmps } h n w := by
  intro ps
  induction ps with
  | nil =>
    intro pre vs σ a he hl _ _ hf
    cases vs with
    | nil => exact hf
    | cons v vs => simp at hl
  | cons p ps ih =>
    intro pre vs σ a he hl hN hsc hf
    cases vs with
    | nil => simp at hl
    | cons v vs =>
      have hlen : as.length = pre.length + vs.length + 1 := by rw [he]; simp; omega
      have hv : lget (as ++ env) (as.length + len - 1 - (as.length + len - 1 - pre.length)) = v := by
        rw [show as.length + len - 1 - (as.length + len - 1 - pre.length) = pre.length + 0 by omega, he, List.append_assoc, lget_append]
        rfl
      have hvs : v.sc n := (AV.scs_iff n as).1 hsc v (by rw [he]; simp)
      have h1 := hf.setP (hN p (List.mem_cons_self ..)) (l := as.length + len - 1 - pre.length) (by omega) hv hvs
      have := ih (pre ++ [v]) vs (by rw [he]; simp) (by simpa using hl) (fun q hq => hN q (List.mem_cons_of_mem _ hq)) hsc h1
      rw [show (pre ++ [v]).length = pre.length + 1 by simp] at this
      exact this
end
end Go.AE
end
