/- The engine, part 14: a region, its operations in the order of the text or in any order that its edges leave open. -/
import Derived.Test.YtpggmngncbpboaaGreatDoorRegA
import Derived.Test.YtpggmngncbpboaaGreatDoorFast
import Derived.Orders
namespace Go.AE
set_option linter.unusedSimpArgs false

noncomputable def outO (P : Program) (callA : CallF) (ops : Array Oper) (o : Oper) (t : PT AV) (h : Heap) (n : Nat) (d : List Def) : Option (AV × Heap × Nat × List Def) :=
  match guardO ops o t with
  | none => none
  | some false => some (.tup [], h, n, d)
  | some true => actO P callA o (evA P.globals.size t) h n d

noncomputable def thenPut (N : Nat) (t : PT AV) (dst : Option Tmp) (r : AV × Heap × Nat × List Def) : Option St :=
  match putO N t dst r.1 with
  | some t' => some ⟨t', r.2.1, r.2.2.1, r.2.2.2⟩
  | none => none

theorem stepA_eq (P : Program) (callA : CallF) (N : Nat) (ops : Array Oper) (o : Oper) (s : St) :
    stepA P callA N ops o s = (outO P callA ops o s.t s.h s.n s.d).bind (thenPut N s.t o.dst) := by
  unfold stepA outO thenPut
  cases guardO ops o s.t with
  | none => rfl
  | some b =>
    cases b with
    | false => simp only [Option.bind_some]; cases putO N s.t o.dst (.tup []) <;> rfl
    | true =>
      simp only []
      cases actO P callA o (evA P.globals.size s.t) s.h s.n s.d with
      | none => rfl
      | some r => obtain ⟨v, h, n, d⟩ := r; simp only [Option.bind_some]; cases putO N s.t o.dst v <;> rfl

theorem outO_congr (P : Program) (callA : CallF) (ops : Array Oper) (o : Oper) (t t' : PT AV) (h : Heap) (n : Nat) (d : List Def) (ha : ∀ x ∈ o.looksAt ops, t.get x = t'.get x) :
    outO P callA ops o t h n d = outO P callA ops o t' h n d := by
  have hg : guardO ops o t = guardO ops o t' := by
    unfold guardO
    cases hgu : o.guard with
    | none => rfl
    | some gw =>
      obtain ⟨j, want⟩ := gw
      simp only []
      cases hd : (ops[j]?).bind (·.dst) with
      | none => rfl
      | some x =>
        have := ha x (by simp [Oper.looksAt, hgu, hd])
        simp only [this]
  have he : ∀ x ∈ o.op.operands.toList, evA P.globals.size t x = evA P.globals.size t' x := by
    intro x hx
    cases x with
    | tmp k =>
      have := ha k (List.mem_append_left _ (List.mem_filterMap.2 ⟨.tmp k, hx, rfl⟩))
      simp only [evA, this]
    | const v => rfl
    | global g => rfl
    | func f => rfl
  unfold outO
  rw [hg, actO_congr P callA o _ _ h n d he]

theorem outO_quiet {P : Program} {callA : CallF} {ops : Array Oper} {o : Oper} {t : PT AV} {h : Heap} {n : Nat} {d : List Def} {r : AV × Heap × Nat × List Def}
    (hc : cls P o < 2) (ho : outO P callA ops o t h n d = some r) : r = (r.1, h, n, d) := by
  unfold outO at ho
  split at ho
  · simp at ho
  · cases ho; rfl
  · obtain ⟨v, H', n', d'⟩ := r
    obtain ⟨rfl, rfl, rfl⟩ := actO_quiet hc ho
    rfl

theorem outO_pure {P : Program} {callA : CallF} {ops : Array Oper} {o : Oper} {t : PT AV} {h : Heap} {n : Nat} {d : List Def} {r : AV × Heap × Nat × List Def}
    (hc : cls P o = 0) (ho : outO P callA ops o t h n d = some r) (h2 : Heap) (n2 : Nat) : outO P callA ops o t h2 n2 d = some (r.1, h2, n2, d) := by
  unfold outO at ho ⊢
  split at ho
  · simp at ho
  · cases ho; rfl
  · obtain ⟨v, H', n', d'⟩ := r
    exact actO_pure hc ho h2 n2

theorem outO_defs {P : Program} {callA : CallF} {ops : Array Oper} {o : Oper} {t : PT AV} {h : Heap} {n : Nat} {d : List Def} {r : AV × Heap × Nat × List Def}
    (hc : cls P o ≤ 2) (ho : outO P callA ops o t h n d = some r) : r.2.2.2 = d := by
  unfold outO at ho
  split at ho
  · simp at ho
  · cases ho; rfl
  · unfold actO at ho
    split at ho
    · split at ho
      · split at ho
        · cases ho; rfl
        · simp at ho
      · split at ho
        · cases ho; rfl
        · simp at ho
      · simp at ho
    · rename_i hop; unfold cls at hc; rw [hop] at hc; simp at hc
    · split at ho
      · cases ho; rfl
      · simp at ho

theorem thenPut_get {N : Nat} {t : PT AV} {dst : Option Tmp} {r : AV × Heap × Nat × List Def} {s : St} (h : thenPut N t dst r = some s) :
    (∀ x, dst ≠ some x → s.t.get x = t.get x) ∧ (∀ x, dst = some x → s.t.get x = some r.1) ∧ s.h = r.2.1 ∧ s.n = r.2.2.1 ∧ s.d = r.2.2.2 := by
  unfold thenPut putO at h
  cases dst with
  | none => simp only [Option.some.injEq] at h; subst h; exact ⟨fun _ _ => rfl, by simp, rfl, rfl, rfl⟩
  | some k =>
    simp only [] at h
    cases hl : Nat.blt k N with
    | false => rw [hl] at h; simp at h
    | true =>
      rw [hl] at h
      simp only [cond_true, Option.some.injEq] at h
      subst h
      refine ⟨fun x hx => ?_, fun x hx => ?_, rfl, rfl, rfl⟩
      · simp only; exact PT.get_set_ne _ _ (fun e => hx (by rw [e]))
      · cases hx; simp only; exact PT.get_set_same ..

theorem thenPut_ok {N : Nat} {t t' : PT AV} {dst : Option Tmp} {r r' : AV × Heap × Nat × List Def} {s : St} (h : thenPut N t dst r = some s) :
    ∃ s', thenPut N t' dst r' = some s' := by
  unfold thenPut putO at *
  cases dst with
  | none => exact ⟨_, rfl⟩
  | some k =>
    simp only [] at h ⊢
    cases hl : Nat.blt k N with
    | false => rw [hl] at h; simp at h
    | true => exact ⟨_, rfl⟩

/-! ### the order of the text -/
noncomputable def runOps (P : Program) (callA : CallF) (N : Nat) (ops : Array Oper) (l : List Oper) : St → Option St :=
  List.rec (motive := fun _ => St → Option St) (fun s => some s) (fun o _ ih s => match stepF P callA N ops o s with | some s' => ih s' | none => none) l

section
variable {X : Bs} {ro : Option Nat} {fd : Nat} {P : Program} {callA : CallF} {N : Nat} {ops : Array Oper} {Q : Exit → Act → World → Prop}

theorem runOps_sound (hnd : ro = none ∨ ∀ o ∈ ops.toList, ∀ c, o.op ≠ .defer c) (hc : CallOk X P callA) : ∀ (l pre : List Oper) (E : Env) (s s' : St) (a : Act) (w : World), ops.toList = pre ++ l → runOps P callA N ops l s = some s' → Rel X P N E s a w →
    (∀ E' a' w', Rel X P N E' s' a' w' → Moves E s.h s.n w E' s'.h s'.n w' → Q .normal a' w') → wpOpsIn (WF ro) fd P ops Q (List.range' pre.length l.length) a w := by
  intro l
  induction l with
  | nil =>
    intro pre E s s' a w _ h hr hq
    simp only [runOps] at h
    cases h
    exact hq E a w hr (Moves.refl _ _ _ _)
  | cons o l ih =>
    intro pre E s s' a w hp h hr hq
    have h : (match stepA P callA N ops o s with | some s1 => runOps P callA N ops l s1 | none => none) = some s' := by rw [← stepF_eq]; exact h
    have hi : ops[pre.length]? = some o := by
      rw [← Array.getElem?_toList, hp, List.getElem?_append_right (Nat.le_refl _)]; simp
    simp only [List.length_cons, List.range'_succ]
    rw [wpOpsIn_cons]
    unfold wpOpIn
    rw [hi]
    simp only []
    split at h
    · rename_i s1 hs1
      refine step_sound hc hr ops o (hnd.imp id fun h => h o (by rw [hp]; simp)) s1 hs1 _ Q ?_
      intro E1 a1 w1 hr1 hm1
      have := ih (pre ++ [o]) E1 s1 s' a1 w1 (by rw [hp]; simp) h hr1 (fun E' a' w' h1 h2 => hq E' a' w' h1 (hm1.trans h2 (fun id x hx => hr1.sim.lt id x hx)))
      simpa using this
    · simp at h

theorem region_sound (hnd : ro = none ∨ ∀ o ∈ ops.toList, ∀ c, o.op ≠ .defer c) (hc : CallOk X P callA) {E : Env} {s s' : St} {a : Act} {w : World} (id : Nat) (h : runOps P callA N ops ops.toList s = some s') (hr : Rel X P N E s a w)
    (hq : ∀ E' a' w', Rel X P N E' s' a' w' → Moves E s.h s.n w E' s'.h s'.n w' → Q .normal a' w') : (Code.region id ops false).wpIn (WF ro) fd P Q a w := by
  refine wpIn_region ?_
  have := runOps_sound (fd := fd) (ro := ro) hnd hc ops.toList [] E s s' a w (by simp) h hr hq
  simpa [List.range_eq_range'] using this

/-! ### any order -/
theorem last_before (p : Nat → Prop) [DecidablePred p] : ∀ i, (∀ j, j < i → ¬ p j) ∨ ∃ j, j < i ∧ p j ∧ ∀ j', j < j' → j' < i → ¬ p j' := by
  intro i
  induction i with
  | zero => exact .inl fun j hj => by omega
  | succ i ih =>
    by_cases h : p i
    · exact .inr ⟨i, by omega, h, fun j' h1 h2 => by omega⟩
    · rcases ih with ih | ⟨j, h1, h2, h3⟩
      · exact .inl fun j hj => by
          by_cases e : j = i
          · subst e; exact h
          · exact ih j (by omega)
      · exact .inr ⟨j, by omega, h2, fun j' h4 h5 => by
          by_cases e : j' = i
          · subst e; exact h
          · exact h3 j' h4 (by omega)⟩

/-- Operation j writes x. -/
def Wr (ops : Array Oper) (x : Tmp) (j : Nat) : Prop := ∃ o, ops[j]? = some o ∧ o.dst = some x
instance (ops : Array Oper) (x : Tmp) : DecidablePred (Wr ops x) := fun j => by
  unfold Wr
  cases h : ops[j]? with
  | none => exact .isFalse (by rintro ⟨o, ho, _⟩; cases ho)
  | some o =>
    by_cases hd : o.dst = some x
    · exact .isTrue ⟨o, rfl, hd⟩
    · exact .isFalse (by rintro ⟨o', ho, h'⟩; cases ho; exact hd h')

/-- Operation j may turn the heap. -/
def Ef (P : Program) (ops : Array Oper) (j : Nat) : Prop := ∃ o, ops[j]? = some o ∧ cls P o = 2

/-- What is checked of the region's text: 'M i j' says that i comes before j in every order. -/
structure Stat (P : Program) (ops : Array Oper) (M : Nat → Nat → Prop) : Prop where
  mdef : ∀ i j : Nat, M i j → ∃ o, ops[j]? = some o ∧ ∃ e ∈ o.after, Region.binds .any e = true ∧ (i = e.on ∨ M i e.on)
  lt : ∀ (j : Nat) o, ops[j]? = some o → ∀ e ∈ o.after, Region.binds .any e = true → e.on < j
  cl : ∀ (j : Nat) o, ops[j]? = some o → cls P o ≤ 2
  pairs : ∀ (i j : Nat) oi oj, i < j → ops[i]? = some oi → ops[j]? = some oj → M i j ∨ (oi.apart ops oj = true ∧ ¬ (cls P oi = 2 ∧ cls P oj = 2))

/-- What is checked of the run in the order of the text. -/
structure Dyn (P : Program) (callA : CallF) (N : Nat) (ops : Array Oper) (M : Nat → Nat → Prop) (S : Nat → St) : Prop where
  step : ∀ (j : Nat) o, ops[j]? = some o → stepA P callA N ops o (S j) = some (S (j + 1))
  reads : ∀ (j : Nat) o, ops[j]? = some o → cls P o = 1 → ∀ k, (k = 0 ∨ ∃ e, Ef P ops e ∧ k = e + 1) → (∀ e, Ef P ops e → (M e j → e < k) ∧ (M j e → k ≤ e)) →
    ∀ r, outO P callA ops o (S j).t (S j).h (S j).n (S j).d = some r → ∃ r', outO P callA ops o (S j).t (S k).h (S k).n (S k).d = some r' ∧ r'.1 = r.1

variable {M : Nat → Nat → Prop} {S : Nat → St}

theorem Dyn.get (hd : Dyn P callA N ops M S) {x : Tmp} {a : Nat} : ∀ b, a ≤ b → b ≤ ops.size → (∀ j, a ≤ j → j < b → ¬ Wr ops x j) → (S b).t.get x = (S a).t.get x := by
  intro b
  induction b with
  | zero => intro h _ _; obtain rfl : a = 0 := by omega
            rfl
  | succ b ih =>
    intro h1 h2 h3
    by_cases e : a = b + 1
    · rw [e]
    · have hb : b < ops.size := by omega
      have hs := hd.step b ops[b] (Array.getElem?_eq_getElem hb)
      rw [stepA_eq] at hs
      obtain ⟨r, _, hp⟩ := Option.bind_eq_some_iff.1 hs
      have := (thenPut_get hp).1 x (fun hx => h3 b (by omega) (by omega) ⟨_, Array.getElem?_eq_getElem hb, hx⟩)
      rw [this]
      exact ih (by omega) (by omega) (fun j h4 h5 => h3 j h4 (by omega))

theorem steps_heap (hstep : ∀ (j : Nat) o, ops[j]? = some o → stepA P callA N ops o (S j) = some (S (j + 1))) (hs : Stat P ops M) {a : Nat} : ∀ b, a ≤ b → b ≤ ops.size → (∀ j, a ≤ j → j < b → ¬ Ef P ops j) → (S b).h = (S a).h ∧ (S b).n = (S a).n ∧ (S b).d = (S a).d := by
  intro b
  induction b with
  | zero => intro h _ _; obtain rfl : a = 0 := by omega
            exact ⟨rfl, rfl, rfl⟩
  | succ b ih =>
    intro h1 h2 h3
    by_cases e : a = b + 1
    · rw [e]; exact ⟨rfl, rfl, rfl⟩
    · have hb : b < ops.size := by omega
      have hst := hstep b ops[b] (Array.getElem?_eq_getElem hb)
      rw [stepA_eq] at hst
      obtain ⟨r, hr, hp⟩ := Option.bind_eq_some_iff.1 hst
      have hcl : cls P ops[b] < 2 := by
        have h4 := hs.cl b _ (Array.getElem?_eq_getElem hb)
        have h5 : cls P ops[b] ≠ 2 := fun h => h3 b (by omega) (by omega) ⟨_, Array.getElem?_eq_getElem hb, h⟩
        omega
      have hq := outO_quiet hcl hr
      obtain ⟨_, _, g1, g2, g3⟩ := thenPut_get hp
      rw [hq] at g1 g2 g3
      obtain ⟨i1, i2, i3⟩ := ih (by omega) (by omega) (fun j h4 h5 => h3 j h4 (by omega))
      exact ⟨g1.trans i1, g2.trans i2, g3.trans i3⟩

theorem Dyn.defs (hd : Dyn P callA N ops M S) (hs : Stat P ops M) : ∀ b, b ≤ ops.size → (S b).d = (S 0).d := by
  intro b
  induction b with
  | zero => intro _; rfl
  | succ b ih =>
    intro h
    have hb : b < ops.size := by omega
    have hst := hd.step b ops[b] (Array.getElem?_eq_getElem hb)
    rw [stepA_eq] at hst
    obtain ⟨r, hr, hp⟩ := Option.bind_eq_some_iff.1 hst
    rw [(thenPut_get hp).2.2.2.2, outO_defs (hs.cl b _ (Array.getElem?_eq_getElem hb)) hr]
    exact ih (by omega)

structure Inv (P : Program) (ops : Array Oper) (S : Nat → St) (L : Nat → Prop) (s : St) (k : Nat) : Prop where
  closed : ∀ (j : Nat) o, ops[j]? = some o → L j → ∀ e ∈ o.after, Region.binds .any e = true → L e.on
  tnone : ∀ x, (∀ j, L j → ¬ Wr ops x j) → s.t.get x = (S 0).t.get x
  tsome : ∀ j x, L j → Wr ops x j → (∀ j', j < j' → L j' → ¬ Wr ops x j') → s.t.get x = (S (j + 1)).t.get x
  ph : k = 0 ∨ ∃ e, Ef P ops e ∧ L e ∧ k = e + 1
  ph2 : ∀ e, Ef P ops e → (L e ↔ e < k)
  heap : s.h = (S k).h ∧ s.n = (S k).n ∧ s.d = (S k).d

theorem Inv.below {L : Nat → Prop} {s : St} {k : Nat} (hi : Inv P ops S L s k) (hs : Stat P ops M) : ∀ j i, M i j → L j → L i := by
  intro j
  induction j using Nat.strongRecOn with
  | _ j ih =>
    intro i hm hl
    obtain ⟨o, ho, e, he, hb, hor⟩ := hs.mdef i j hm
    have hle := hi.closed j o ho hl e he hb
    rcases hor with rfl | hm'
    · exact hle
    · exact ih e.on (hs.lt j o ho e he hb) i hm' hle

theorem Inv.below_ready {L : Nat → Prop} {s : St} {k : Nat} (hi : Inv P ops S L s k) (hs : Stat P ops M) {j : Nat} {o : Oper} (ho : ops[j]? = some o)
    (hr : ∀ e ∈ o.after, Region.binds .any e = true → L e.on) (i : Nat) (hm : M i j) : L i := by
  obtain ⟨o', ho', e, he, hb, hor⟩ := hs.mdef i j hm
  rw [ho] at ho'
  cases ho'
  rcases hor with rfl | hm'
  · exact hr e he hb
  · exact hi.below hs e.on i hm' (hr e he hb)

theorem ef_lt {e : Nat} (h : Ef P ops e) : e < ops.size := by
  obtain ⟨o, ho, _⟩ := h
  exact (Array.getElem?_eq_some_iff.1 ho).1
theorem wr_lt {x : Tmp} {e : Nat} (h : Wr ops x e) : e < ops.size := by
  obtain ⟨o, ho, _⟩ := h
  exact (Array.getElem?_eq_some_iff.1 ho).1

/-- The temporaries, once the writers of x that have run are those before i. -/
theorem Inv.get {L : Nat → Prop} {s : St} {k : Nat} (hi : Inv P ops S L s k) (hd : Dyn P callA N ops M S) {i : Nat} (him : i ≤ ops.size) {x : Tmp}
    (h : ∀ j, Wr ops x j → (L j ↔ j < i)) : s.t.get x = (S i).t.get x := by
  rcases last_before (Wr ops x) i with h1 | ⟨j, hj, hw, h1⟩
  · rw [hi.tnone x (fun j hl hw => h1 j ((h j hw).1 hl) hw)]
    exact (hd.get i (Nat.zero_le _) him (fun j _ hj => h1 j hj)).symm
  · rw [hi.tsome j x ((h j hw).2 hj) hw (fun j' h2 hl hw' => h1 j' h2 ((h j' hw').1 hl) hw')]
    exact (hd.get i (by omega) him (fun j' h2 h3 => h1 j' (by omega) h3)).symm

theorem Inv.next {L : Nat → Prop} {s : St} {k : Nat} (hi : Inv P ops S L s k) (hs : Stat P ops M) (hd : Dyn P callA N ops M S) {i : Nat} {o : Oper} (ho : ops[i]? = some o)
    (hr : ∀ e ∈ o.after, Region.binds .any e = true → L e.on) (hn : ¬ L i) :
    ∃ s' k', stepA P callA N ops o s = some s' ∧ Inv P ops S (fun j => L j ∨ j = i) s' k' := by
  have him : i < ops.size := (Array.getElem?_eq_some_iff.1 ho).1
  have below := hi.below_ready hs ho hr
  have above : ∀ j, M i j → ¬ L j := fun j hm hl => hn (hi.below hs j i hm hl)
  -- writers of what it names
  have names : ∀ x, (x ∈ o.looksAt ops ∨ o.dst = some x) → ∀ j, j ≠ i → Wr ops x j → (L j ↔ j < i) := by
    intro x hx j hne ⟨oj, hoj, hdj⟩
    rcases Nat.lt_or_gt_of_ne hne with hlt | hgt
    · refine ⟨fun _ => hlt, fun _ => ?_⟩
      rcases hs.pairs j i oj o hlt hoj ho with hm | ⟨hap, _⟩
      · exact below j hm
      · obtain ⟨h1, h2, h3⟩ := Oper.apart_spec hap
        rcases hx with hx | hx
        · exact absurd hx (h1 x hdj)
        · exact absurd hx (h2 x hdj)
    · refine ⟨fun hl => ?_, fun h => by omega⟩
      rcases hs.pairs i j o oj hgt ho hoj with hm | ⟨hap, _⟩
      · exact absurd hl (above j hm)
      · obtain ⟨h1, h2, h3⟩ := Oper.apart_spec hap
        rcases hx with hx | hx
        · exact absurd hx (h3 x hdj)
        · exact absurd hdj (h2 x hx)
  have looks : ∀ x ∈ o.looksAt ops, s.t.get x = (S i).t.get x := by
    intro x hx
    refine hi.get hd (Nat.le_of_lt him) (fun j hw => ?_)
    by_cases e : j = i
    · subst e; exact ⟨fun h => absurd h hn, fun h => by omega⟩
    · exact names x (.inl hx) j e hw
  have hst := hd.step i o ho
  rw [stepA_eq] at hst
  obtain ⟨r, hout, hp⟩ := Option.bind_eq_some_iff.1 hst
  have hp' := thenPut_get hp
  obtain ⟨hh, hnn, hdd⟩ := hi.heap
  -- the temporaries behind the step
  have temps : ∀ (r' : AV × Heap × Nat × List Def) (s' : St), r'.1 = r.1 → thenPut N s.t o.dst r' = some s' →
      (∀ x, (∀ j, (L j ∨ j = i) → ¬ Wr ops x j) → s'.t.get x = (S 0).t.get x) ∧
      (∀ j x, (L j ∨ j = i) → Wr ops x j → (∀ j', j < j' → (L j' ∨ j' = i) → ¬ Wr ops x j') → s'.t.get x = (S (j + 1)).t.get x) := by
    intro r' s' hv hput
    have hg := thenPut_get hput
    refine ⟨fun x hx => ?_, fun j x hl hw hlast => ?_⟩
    · rw [hg.1 x (fun e => hx i (.inr rfl) ⟨o, ho, e⟩)]
      exact hi.tnone x (fun j hl => hx j (.inl hl))
    · by_cases e : j = i
      · subst e
        obtain ⟨o', ho', hdst⟩ := hw
        rw [ho] at ho'
        cases ho'
        rw [hg.2.1 x hdst, hp'.2.1 x hdst, hv]
      · have hlj : L j := hl.resolve_right e
        have hno : o.dst ≠ some x := by
          intro hdst
          have := (names x (.inr hdst) j e hw).1 hlj
          exact hlast i this (.inr rfl) ⟨o, ho, hdst⟩
        rw [hg.1 x hno]
        exact hi.tsome j x hlj hw (fun j' h1 h2 => hlast j' h1 (.inl h2))
  have closed' : ∀ (j : Nat) oj, ops[j]? = some oj → (L j ∨ j = i) → ∀ e ∈ oj.after, Region.binds .any e = true → (L e.on ∨ e.on = i) := by
    intro j oj hoj hl e he hb
    rcases hl with hl | rfl
    · exact .inl (hi.closed j oj hoj hl e he hb)
    · rw [ho] at hoj; cases hoj
      exact .inl (hr e he hb)
  by_cases h2 : cls P o = 2
  · -- it may turn the heap
    have hef : Ef P ops i := ⟨o, ho, h2⟩
    have others : ∀ e, Ef P ops e → e ≠ i → (L e ↔ e < i) := by
      intro e ⟨oe, hoe, hce⟩ hne
      rcases Nat.lt_or_gt_of_ne hne with hlt | hgt
      · refine ⟨fun _ => hlt, fun _ => ?_⟩
        rcases hs.pairs e i oe o hlt hoe ho with hm | ⟨_, hx⟩
        · exact below e hm
        · exact absurd ⟨hce, h2⟩ hx
      · refine ⟨fun hl => ?_, fun h => by omega⟩
        rcases hs.pairs i e o oe hgt ho hoe with hm | ⟨_, hx⟩
        · exact absurd hl (above e hm)
        · exact absurd ⟨h2, hce⟩ hx
    have hki : k ≤ i := by
      rcases hi.ph with rfl | ⟨e, he, hl, rfl⟩
      · omega
      · have hne : e ≠ i := by rintro rfl; exact hn hl
        have := (others e he hne).1 hl
        omega
    have hheap := steps_heap hd.step hs i hki (Nat.le_of_lt him) (fun j h3 h4 he => by
      have := (others j he (by omega)).2 h4
      have := (hi.ph2 j he).1 this
      omega)
    have hout' : outO P callA ops o s.t s.h s.n s.d = some r := by
      rw [outO_congr P callA ops o s.t (S i).t s.h s.n s.d looks, hh, hnn, hdd, ← hheap.1, ← hheap.2.1, ← hheap.2.2]
      exact hout
    obtain ⟨s', hs'⟩ := thenPut_ok (t' := s.t) (r' := r) hp
    obtain ⟨t1, t2⟩ := temps r s' rfl hs'
    refine ⟨s', i + 1, by rw [stepA_eq, hout']; exact hs', closed', t1, t2, .inr ⟨i, hef, .inr rfl, rfl⟩, fun e he => ?_, ?_⟩
    · by_cases hne : e = i
      · subst hne; exact ⟨fun _ => by omega, fun _ => .inr rfl⟩
      · have := others e he hne
        constructor
        · rintro (h | h)
          · have := this.1 h; omega
          · exact absurd h hne
        · intro h; exact .inl (this.2 (by omega))
    · have hg := thenPut_get hs'
      exact ⟨hg.2.2.1.trans hp'.2.2.1.symm, hg.2.2.2.1.trans hp'.2.2.2.1.symm, hg.2.2.2.2.trans hp'.2.2.2.2.symm⟩
  · -- it leaves the heap alone
    have hcl : cls P o < 2 := by have := hs.cl i o ho; omega
    have hq := outO_quiet hcl hout
    have hkm : k ≤ ops.size := by
      rcases hi.ph with rfl | ⟨e, he, _, rfl⟩
      · omega
      · exact ef_lt he
    have hdk : (S k).d = (S i).d := (hd.defs hs k hkm).trans (hd.defs hs i (Nat.le_of_lt him)).symm
    have hout' : ∃ r', outO P callA ops o s.t s.h s.n s.d = some r' ∧ r'.1 = r.1 := by
      rw [outO_congr P callA ops o s.t (S i).t s.h s.n s.d looks, hh, hnn, hdd]
      by_cases h1 : cls P o = 1
      · refine hd.reads i o ho h1 k ?_ ?_ r hout
        · rcases hi.ph with h | ⟨e, he, _, h⟩
          · exact .inl h
          · exact .inr ⟨e, he, h⟩
        · intro e he
          refine ⟨fun hm => (hi.ph2 e he).1 (below e hm), fun hm => ?_⟩
          have := above e hm
          have h3 := hi.ph2 e he
          exact Nat.le_of_not_lt fun h => this (h3.2 h)
      · rw [hdk]; exact ⟨_, outO_pure (by omega) hout _ _, rfl⟩
    obtain ⟨r', hr', hv⟩ := hout'
    obtain ⟨s', hs'⟩ := thenPut_ok (t' := s.t) (r' := r') hp
    obtain ⟨t1, t2⟩ := temps r' s' hv hs'
    have hq' := outO_quiet hcl hr'
    refine ⟨s', k, by rw [stepA_eq, hr']; exact hs', closed', t1, t2, ?_, fun e he => ?_, ?_⟩
    · rcases hi.ph with h | ⟨e, he, hl, h⟩
      · exact .inl h
      · exact .inr ⟨e, he, .inl hl, h⟩
    · have hne : e ≠ i := by
        rintro rfl
        obtain ⟨oe, hoe, hce⟩ := he
        rw [ho] at hoe; cases hoe
        exact h2 hce
      rw [← hi.ph2 e he]
      simp [hne]
    · have hg := thenPut_get hs'
      rw [hq'] at hg
      exact ⟨hg.2.2.1.trans hh, hg.2.2.2.1.trans hnn, hg.2.2.2.2.trans hdd⟩
end
end Go.AE
