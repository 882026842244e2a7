/- The engine, part 15: what is checked of a region that draws its order, and what the check gives. -/
import Derived.Test.YtpggmngncbpboaaGreatDoorRegB
namespace Go.AE
set_option linter.unusedSimpArgs false

noncomputable def edgeMask (ms : List Nat) (o : Oper) : Nat :=
  List.rec (motive := fun _ => Nat) 0 (fun e _ ih => bif Region.binds .any e then Nat.lor (Nat.lor ih (Nat.shiftLeft 1 e.on)) (ms.getD e.on 0) else ih) o.after.toList

noncomputable def masksGo (l : List Oper) : List Nat → List Nat :=
  List.rec (motive := fun _ => List Nat → List Nat) (fun ms => ms) (fun o _ ih ms => ih (ms ++ [edgeMask ms o])) l

noncomputable def pairOk (P : Program) (ops : Array Oper) (m : Nat) (o : Oper) (x : Nat × Oper) : Bool :=
  Nat.testBit m x.1 || (x.2.apart ops o && !(Nat.beq (cls P x.2) 2 && Nat.beq (cls P o) 2))

noncomputable def statGo (P : Program) (ops : Array Oper) (ms : List Nat) (l : List Oper) : Nat → List (Nat × Oper) → Bool :=
  List.rec (motive := fun _ => Nat → List (Nat × Oper) → Bool) (fun _ _ => true)
    (fun o _ ih j prev => o.after.toList.all (fun e => !Region.binds .any e || Nat.blt e.on j) && Nat.beq (edgeMask ms o) (ms.getD j 0) && Nat.ble (cls P o) 2 &&
      prev.all (pairOk P ops (ms.getD j 0) o) && ih (j + 1) ((j, o) :: prev)) l

noncomputable def statOk (P : Program) (ops : Array Oper) : Bool := statGo P ops (masksGo ops.toList []) ops.toList 0 []

/-- i comes before j. -/
def Bel (ops : Array Oper) (i j : Nat) : Prop := j < ops.size ∧ Nat.testBit ((masksGo ops.toList []).getD j 0) i = true

theorem blt_of_lt {a b : Nat} (h : a < b) : Nat.blt a b = true := by simp [Nat.blt]; omega

theorem testBit_one_shl (k i : Nat) : Nat.testBit (Nat.shiftLeft 1 k) i = true → i = k := by
  intro h
  have : Nat.shiftLeft 1 k = 2 ^ k := by show 1 <<< k = 2 ^ k; simp [Nat.shiftLeft_eq]
  rw [this, Nat.testBit_two_pow] at h
  simpa using (of_decide_eq_true h).symm

theorem edgeMask_spec (ms : List Nat) (o : Oper) (i : Nat) (h : Nat.testBit (edgeMask ms o) i = true) :
    ∃ e ∈ o.after, Region.binds .any e = true ∧ (i = e.on ∨ Nat.testBit (ms.getD e.on 0) i = true) := by
  have key : ∀ l : List Edge, Nat.testBit (List.rec (motive := fun _ => Nat) 0 (fun e _ ih => bif Region.binds .any e then Nat.lor (Nat.lor ih (Nat.shiftLeft 1 e.on)) (ms.getD e.on 0) else ih) l) i = true →
      ∃ e ∈ l, Region.binds .any e = true ∧ (i = e.on ∨ Nat.testBit (ms.getD e.on 0) i = true) := by
    intro l
    induction l with
    | nil => intro h; simp at h
    | cons e l ih =>
      intro h
      simp only at h
      cases hb : Region.binds .any e with
      | false =>
        rw [hb] at h
        obtain ⟨e', h1, h2⟩ := ih h
        exact ⟨e', List.mem_cons_of_mem _ h1, h2⟩
      | true =>
        rw [hb] at h
        simp only [cond_true] at h
        have h' := h
        rw [show ∀ a b : Nat, Nat.lor a b = a ||| b from fun _ _ => rfl, show ∀ a b : Nat, Nat.lor a b = a ||| b from fun _ _ => rfl, Nat.testBit_or, Nat.testBit_or, Bool.or_eq_true, Bool.or_eq_true] at h'
        rcases h' with (h1 | h1) | h1
        · obtain ⟨e', h2, h3⟩ := ih h1
          exact ⟨e', List.mem_cons_of_mem _ h2, h3⟩
        · exact ⟨e, List.mem_cons_self .., hb, .inl (testBit_one_shl _ _ h1)⟩
        · exact ⟨e, List.mem_cons_self .., hb, .inr h1⟩
  obtain ⟨e, h1, h2⟩ := key o.after.toList h
  exact ⟨e, by simpa using h1, h2⟩

theorem statGo_spec {P : Program} {ops : Array Oper} {ms : List Nat} : ∀ (rest done : List Oper) (prev : List (Nat × Oper)), ops.toList = done ++ rest → (∀ (i : Nat) oi, done[i]? = some oi → (i, oi) ∈ prev) →
    statGo P ops ms rest done.length prev = true → ∀ (j : Nat) o, done.length ≤ j → ops[j]? = some o →
      (∀ e ∈ o.after, Region.binds .any e = true → e.on < j) ∧ edgeMask ms o = ms.getD j 0 ∧ cls P o ≤ 2 ∧
      ∀ (i : Nat) oi, i < j → ops[i]? = some oi → Nat.testBit (ms.getD j 0) i = true ∨ (oi.apart ops o = true ∧ ¬ (cls P oi = 2 ∧ cls P o = 2)) := by
  intro rest
  induction rest with
  | nil =>
    intro done prev hl _ _ j o hj ho
    rw [← Array.getElem?_toList, hl, List.append_nil, List.getElem?_eq_none hj] at ho
    cases ho
  | cons x rest ih =>
    intro done prev hl hp h j o hj ho
    simp only [statGo, Bool.and_eq_true] at h
    obtain ⟨⟨⟨⟨h1, h2⟩, h3⟩, h4⟩, h5⟩ := h
    by_cases e : j = done.length
    · subst e
      have hx : ops[done.length]? = some x := by rw [← Array.getElem?_toList, hl, List.getElem?_append_right (Nat.le_refl _)]; simp
      rw [hx] at ho
      cases ho
      refine ⟨fun e he hb => ?_, Nat.eq_of_beq_eq_true h2, Nat.le_of_ble_eq_true h3, fun i oi hi hoi => ?_⟩
      · have := List.all_eq_true.1 h1 e (by simpa using he)
        rw [hb] at this
        exact lt_of_blt (by simpa using this)
      · have hd : done[i]? = some oi := by
          rw [← Array.getElem?_toList, hl, List.getElem?_append_left hi] at hoi
          exact hoi
        have := List.all_eq_true.1 h4 _ (hp i oi hd)
        unfold pairOk at this
        simp only [Bool.or_eq_true, Bool.and_eq_true, Bool.not_eq_true'] at this
        rcases this with h | ⟨ha, hb⟩
        · exact .inl h
        · refine .inr ⟨ha, ?_⟩
          rintro ⟨e1, e2⟩
          rw [e1, e2] at hb
          simp at hb
    · refine ih (done ++ [x]) ((done.length, x) :: prev) (by rw [hl]; simp) ?_ (by simp only [List.length_append, List.length_cons, List.length_nil]; exact h5) j o (by simp; omega) ho
      intro i oi hi
      by_cases hlt : i < done.length
      · rw [List.getElem?_append_left hlt] at hi
        exact List.mem_cons_of_mem _ (hp i oi hi)
      · rw [List.getElem?_append_right (by omega)] at hi
        by_cases e0 : i = done.length
        · subst e0; simp at hi; subst hi; exact List.mem_cons_self ..
        · rw [List.getElem?_eq_none (by simp; omega)] at hi; cases hi

theorem stat_of_ok {P : Program} {ops : Array Oper} (h : statOk P ops = true) : Stat P ops (Bel ops) := by
  have hsp := fun j o ho => statGo_spec (P := P) (ops := ops) ops.toList [] [] (by simp) (by simp) h j o (Nat.zero_le _) ho
  refine ⟨fun i j hb => ?_, fun j o ho => (hsp j o ho).1, fun j o ho => (hsp j o ho).2.2.1, fun i j oi oj hij hi hj => ?_⟩
  · obtain ⟨hj, hbit⟩ := hb
    have ho := Array.getElem?_eq_getElem hj
    obtain ⟨h1, h2, _, _⟩ := hsp j _ ho
    rw [← h2] at hbit
    obtain ⟨e, he, hbe, hor⟩ := edgeMask_spec _ _ _ hbit
    refine ⟨_, ho, e, he, hbe, ?_⟩
    rcases hor with h | h
    · exact .inl h
    · exact .inr ⟨Nat.lt_trans (h1 e he hbe) hj, h⟩
  · rcases (hsp j oj hj).2.2.2 i oi hij hi with h | h
    · exact .inl ⟨(Array.getElem?_eq_some_iff.1 hj).1, h⟩
    · exact .inr h

/-! ### the run in the order of the text -/
noncomputable def traceA (P : Program) (callA : CallF) (N : Nat) (ops : Array Oper) (l : List Oper) : St → Option (List St) :=
  List.rec (motive := fun _ => St → Option (List St)) (fun s => some [s])
    (fun o _ ih s => match stepF P callA N ops o s with
      | some s' => (match ih s' with | some tr => some (s :: tr) | none => none)
      | none => none) l

theorem traceA_spec {P : Program} {callA : CallF} {N : Nat} {ops : Array Oper} {d : St} : ∀ (l : List Oper) (s : St) (tr : List St), traceA P callA N ops l s = some tr →
    tr.getD 0 d = s ∧ ∀ (j : Nat) o, l[j]? = some o → stepA P callA N ops o (tr.getD j d) = some (tr.getD (j + 1) d) := by
  intro l
  induction l with
  | nil => intro s tr h; simp only [traceA] at h; cases h; simp
  | cons o l ih =>
    intro s tr h
    have h : (match stepA P callA N ops o s with
      | some s' => (match traceA P callA N ops l s' with | some tr => some (s :: tr) | none => none)
      | none => none) = some tr := by rw [← stepF_eq]; exact h
    split at h
    · rename_i s' hs'
      split at h
      · rename_i tr' htr'
        cases h
        obtain ⟨h1, h2⟩ := ih s' tr' htr'
        refine ⟨by simp, fun j oj hj => ?_⟩
        cases j with
        | zero => simp at hj; subst hj; show stepA P callA N ops o s = some (tr'.getD 0 d); rw [h1]; exact hs'
        | succ j => simpa using h2 j oj (by simpa using hj)
      · simp at h
    · simp at h

/-- Where the operations that may turn the heap stand. -/
noncomputable def effs (P : Program) (l : List Oper) : Nat → List Nat :=
  List.rec (motive := fun _ => Nat → List Nat) (fun _ => []) (fun o _ ih j => bif Nat.beq (cls P o) 2 then j :: ih (j + 1) else ih (j + 1)) l

theorem mem_effs {P : Program} : ∀ (l : List Oper) (j e : Nat), e ∈ effs P l j ↔ j ≤ e ∧ ∃ o, l[e - j]? = some o ∧ cls P o = 2 := by
  intro l
  induction l with
  | nil => intro j e; simp [effs]
  | cons o l ih =>
    intro j e
    have hrest : (j + 1 ≤ e ∧ ∃ o, l[e - (j + 1)]? = some o ∧ cls P o = 2) ↔ (j < e ∧ ∃ o', (o :: l)[e - j]? = some o' ∧ cls P o' = 2) := by
      constructor
      · rintro ⟨h1, h2⟩
        refine ⟨h1, ?_⟩
        obtain ⟨m, hm⟩ : ∃ m, e - j = m + 1 := ⟨e - j - 1, by omega⟩
        rw [hm, List.getElem?_cons_succ, show m = e - (j + 1) by omega]; exact h2
      · rintro ⟨h1, h2⟩
        refine ⟨h1, ?_⟩
        obtain ⟨m, hm⟩ : ∃ m, e - j = m + 1 := ⟨e - j - 1, by omega⟩
        rw [hm, List.getElem?_cons_succ, show m = e - (j + 1) by omega] at h2; exact h2
    simp only [effs]
    have ih' := ih (j + 1) e
    simp only [effs] at ih'
    cases hb : Nat.beq (cls P o) 2 with
    | true =>
      simp only [cond_true, List.mem_cons]
      rw [ih', hrest]
      constructor
      · rintro (rfl | ⟨h1, h2⟩)
        · exact ⟨Nat.le_refl _, o, by simp, Nat.eq_of_beq_eq_true hb⟩
        · exact ⟨Nat.le_of_lt h1, h2⟩
      · rintro ⟨h1, h2⟩
        by_cases e0 : e = j
        · exact .inl e0
        · exact .inr ⟨by omega, h2⟩
    | false =>
      simp only [cond_false]
      rw [ih', hrest]
      constructor
      · rintro ⟨h1, h2⟩; exact ⟨Nat.le_of_lt h1, h2⟩
      · rintro ⟨h1, o', h2, h3⟩
        by_cases e0 : e = j
        · subst e0
          simp at h2
          subst h2
          rw [h3] at hb
          simp at hb
        · exact ⟨by omega, o', h2, h3⟩

theorem ef_effs {P : Program} {ops : Array Oper} (e : Nat) : Ef P ops e ↔ e ∈ effs P ops.toList 0 := by
  rw [mem_effs]
  simp [Ef]

/-- May operation j run behind k? -/
noncomputable def mayBe (ms es : List Nat) (j k : Nat) : Bool :=
  es.all fun e => (!Nat.testBit (ms.getD j 0) e || Nat.blt e k) && (!Nat.testBit (ms.getD e 0) j || Nat.ble k e)

noncomputable def sameAt (es : List Nat) (j k : Nat) : Bool := es.all fun e => Nat.blt e k == Nat.blt e j

noncomputable def readAt (P : Program) (callA : CallF) (ops : Array Oper) (o : Oper) (s s2 : St) : Bool :=
  match outO P callA ops o s.t s.h s.n s.d, outO P callA ops o s.t s2.h s2.n s2.d with
  | some r, some r' => eqAV r'.1 r.1
  | _, _ => false

noncomputable def readsGo (P : Program) (callA : CallF) (ops : Array Oper) (ms es ks : List Nat) (tr : List St) (d : St) (l : List Oper) : Nat → Bool :=
  List.rec (motive := fun _ => Nat → Bool) (fun _ => true)
    (fun o _ ih j => (!Nat.beq (cls P o) 1 || ks.all (fun k => sameAt es j k || !mayBe ms es j k || readAt P callA ops o (tr.getD j d) (tr.getD k d))) && ih (j + 1)) l

theorem readsGo_spec {P : Program} {callA : CallF} {ops : Array Oper} {ms es ks : List Nat} {tr : List St} {d : St} : ∀ (l : List Oper) (j0 : Nat), readsGo P callA ops ms es ks tr d l j0 = true →
    ∀ (j : Nat) o, l[j]? = some o → cls P o = 1 → ∀ k ∈ ks, sameAt es (j0 + j) k = true ∨ mayBe ms es (j0 + j) k = false ∨ readAt P callA ops o (tr.getD (j0 + j) d) (tr.getD k d) = true := by
  intro l
  induction l with
  | nil => intro j0 _ j o ho; simp at ho
  | cons x l ih =>
    intro j0 h j o ho hc k hk
    simp only [readsGo, Bool.and_eq_true] at h
    cases j with
    | zero =>
      simp at ho
      subst ho
      have h1 := h.1
      rw [hc] at h1
      simp only [show Nat.beq 1 1 = true from rfl, Bool.not_true, Bool.false_or] at h1
      have := List.all_eq_true.1 h1 k hk
      simp only [Bool.or_eq_true, Bool.not_eq_true', or_assoc] at this
      simpa using this
    | succ j =>
      have := ih (j0 + 1) h.2 j o (by simpa using ho) hc k hk
      rw [show j0 + 1 + j = j0 + (j + 1) by omega] at this
      exact this

noncomputable def regD (P : Program) (callA : CallF) (N : Nat) (ops : Array Oper) (s : St) : Option St :=
  match traceA P callA N ops ops.toList s with
  | none => none
  | some tr =>
    let es := effs P ops.toList 0
    bif statOk P ops && readsGo P callA ops (masksGo ops.toList []) es (0 :: es.map (· + 1)) tr s ops.toList 0 then some (tr.getD ops.toList.length s) else none

section
variable {X : Bs} {ro : Option Nat} {fd : Nat} {P : Program} {callA : CallF} {N : Nat} {ops : Array Oper} {Q : Exit → Act → World → Prop} {M : Nat → Nat → Prop} {S : Nat → St}

theorem dyn_of_ok {tr : List St} {s : St} (ht : traceA P callA N ops ops.toList s = some tr) (hs : Stat P ops (Bel ops))
    (hr : readsGo P callA ops (masksGo ops.toList []) (effs P ops.toList 0) (0 :: (effs P ops.toList 0).map (· + 1)) tr s ops.toList 0 = true) :
    Dyn P callA N ops (Bel ops) (fun j => tr.getD j s) := by
  obtain ⟨h0, hst⟩ := traceA_spec (d := s) _ _ _ ht
  have hstep : ∀ (j : Nat) o, ops[j]? = some o → stepA P callA N ops o (tr.getD j s) = some (tr.getD (j + 1) s) := fun j o ho => hst j o (by simpa using ho)
  have hd0 : Dyn P callA N ops (fun _ _ => True) (fun j => tr.getD j s) ∨ True := .inr trivial
  refine ⟨hstep, ?_⟩
  intro j o ho hc k hk hmay r hout
  have hks : k ∈ 0 :: (effs P ops.toList 0).map (· + 1) := by
    rcases hk with rfl | ⟨e, he, rfl⟩
    · exact List.mem_cons_self ..
    · exact List.mem_cons_of_mem _ (List.mem_map.2 ⟨e, (ef_effs e).1 he, rfl⟩)
  have hjs : j < ops.size := (Array.getElem?_eq_some_iff.1 ho).1
  have hks' : k ≤ ops.size := by
    rcases hk with rfl | ⟨e, he, rfl⟩
    · omega
    · exact ef_lt he
  have := readsGo_spec ops.toList 0 hr j o (by simpa using ho) hc k hks
  rw [Nat.zero_add] at this
  rcases this with h | h | h
  · -- the heap is the same
    have hsame : ∀ e, Ef P ops e → (e < k ↔ e < j) := by
      intro e he
      have := List.all_eq_true.1 h e ((ef_effs e).1 he)
      simp only [beq_iff_eq] at this
      constructor
      · intro h1
        have : Nat.blt e j = true := by rw [← this]; exact blt_of_lt h1
        exact lt_of_blt this
      · intro h1
        have : Nat.blt e k = true := by rw [this]; exact blt_of_lt h1
        exact lt_of_blt this
    have hh : (tr.getD j s).h = (tr.getD k s).h ∧ (tr.getD j s).n = (tr.getD k s).n ∧ (tr.getD j s).d = (tr.getD k s).d := by
      rcases Nat.le_total j k with hle | hle
      · have := steps_heap hstep hs k hle hks' (fun i h1 h2 he => by have := (hsame i he).1 h2; omega)
        exact ⟨this.1.symm, this.2.1.symm, this.2.2.symm⟩
      · exact steps_heap hstep hs j hle (Nat.le_of_lt hjs) (fun i h1 h2 he => by have := (hsame i he).2 h2; omega)
    rw [← hh.1, ← hh.2.1, ← hh.2.2]
    exact ⟨r, hout, rfl⟩
  · exfalso
    have : mayBe (masksGo ops.toList []) (effs P ops.toList 0) j k = true := by
      unfold mayBe
      rw [List.all_eq_true]
      intro e he
      have hef := (ef_effs e).2 he
      obtain ⟨m1, m2⟩ := hmay e hef
      simp only [Bool.and_eq_true, Bool.or_eq_true, Bool.not_eq_true']
      constructor
      · cases hb : Nat.testBit ((masksGo ops.toList []).getD j 0) e with
        | false => exact .inl rfl
        | true => exact .inr (blt_of_lt (m1 ⟨hjs, hb⟩))
      · cases hb : Nat.testBit ((masksGo ops.toList []).getD e 0) j with
        | false => exact .inl rfl
        | true => exact .inr (Nat.ble_eq_true_of_le (m2 ⟨ef_lt hef, hb⟩))
    rw [this] at h
    cases h
  · unfold readAt at h
    rw [hout] at h
    split at h
    · rename_i r1 r' h1 h2
      cases h1
      exact ⟨r', h2, eqAV_eq _ _ h⟩
    · simp at h

theorem Rel.ext {E : Env} {s s' : St} {a : Act} {w : World} (hr : Rel X P N E s a w) (ht : ∀ x, s'.t.get x = s.t.get x) (hh : s'.h = s.h) (hn : s'.n = s.n) (hd : s'.d = s.d) : Rel X P N E s' a w :=
  ⟨by rw [hh, hn]; exact hr.sim, hr.size, fun k => by rw [ht]; exact hr.tmps k, fun k v hk => by rw [hn]; exact hr.tsc k v (by rw [← ht]; exact hk), by rw [hd]; exact hr.defs,
    fun x hx => by rw [hn]; exact hr.dsc x (by rw [← hd]; exact hx), hr.ag, by rw [hn]; exact hr.ng⟩

theorem countP_set_lt (m i : Nat) (l : Array Bool) (hi : i < m) (hl : l.getD i true = false) :
    ((List.range m).countP fun j => !(l.setIfInBounds i true).getD j true) < (List.range m).countP fun j => !l.getD j true := by
  have hsz : i < l.size := by
    rcases Nat.lt_or_ge i l.size with h | h
    · exact h
    · simp [Array.getElem?_eq_none h] at hl
  have key : ∀ (r : List Nat), ((r.countP fun j => !(l.setIfInBounds i true).getD j true) ≤ r.countP fun j => !l.getD j true) ∧
      (i ∈ r → (r.countP fun j => !(l.setIfInBounds i true).getD j true) < r.countP fun j => !l.getD j true) := by
    intro r
    induction r with
    | nil => simp
    | cons x r ih =>
      simp only [List.countP_cons]
      by_cases e : x = i
      · subst e
        have e1 : (l.setIfInBounds x true).getD x true = true := by simp [hsz]
        rw [e1, hl]
        simp only [Bool.not_true, Bool.not_false, if_true, Bool.false_eq_true, if_false]
        exact ⟨by omega, fun _ => by omega⟩
      · rw [getD_set_ne true (fun h => e h.symm)]
        refine ⟨by split <;> omega, fun h => ?_⟩
        have := ih.2 (by rcases List.mem_cons.1 h with h | h; exact absurd h.symm e; exact h)
        split <;> omega
  exact (key _).2 (List.mem_range.2 hi)

theorem wpAny_of_inv (hnd : ro = none ∨ ∀ o ∈ ops.toList, ∀ c, o.op ≠ .defer c) (hc : CallOk X P callA) (hs : Stat P ops M) (hd : Dyn P callA N ops M S) : ∀ (fuel : Nat) (listed : Array Bool) (s : St) (k : Nat) (E : Env) (a : Act) (w : World),
    listed.size = ops.size → Inv P ops S (fun j => listed.getD j false = true) s k → Rel X P N E s a w → ((List.range ops.size).countP fun j => !listed.getD j true) ≤ fuel →
    (∀ E' a' w', Rel X P N E' (S ops.size) a' w' → Moves E s.h s.n w E' (S ops.size).h (S ops.size).n w' → Q .normal a' w') → wpAnyIn (WF ro) fd P .any ops Q fuel listed a w := by
  have swap : ∀ (listed : Array Bool) (j : Nat), listed.size = ops.size → j < ops.size → listed.getD j true = listed.getD j false := by
    intro listed j h1 h2
    simp [show j < listed.size by omega]
  have finish : ∀ (listed : Array Bool) (s : St) (k : Nat) (E : Env) (a : Act) (w : World), listed.size = ops.size → Inv P ops S (fun j => listed.getD j false = true) s k → Rel X P N E s a w →
      (∀ E' a' w', Rel X P N E' (S ops.size) a' w' → Moves E s.h s.n w E' (S ops.size).h (S ops.size).n w' → Q .normal a' w') → Region.ready .any ops listed = [] → Q .normal a w := by
    intro listed s k E a w hsz hi hr hq hnil
    have all : ∀ j, j < ops.size → listed.getD j false = true := by
      intro j
      induction j using Nat.strongRecOn with
      | _ j ih =>
        intro hj
        cases hb : listed.getD j false with
        | true => rfl
        | false =>
          exfalso
          have : j ∈ Region.ready .any ops listed := by
            rw [mem_ready]
            refine ⟨by rw [swap listed j hsz hj]; exact hb, ops[j], Array.getElem?_eq_getElem hj, fun e he hbe => ?_⟩
            have hlt := hs.lt j _ (Array.getElem?_eq_getElem hj) e he hbe
            exact ih e.on hlt (by omega)
          rw [hnil] at this
          cases this
    have hkm : k ≤ ops.size := by
      rcases hi.ph with rfl | ⟨e, he, _, rfl⟩
      · omega
      · exact ef_lt he
    have hheap := steps_heap hd.step hs ops.size hkm (Nat.le_refl _) (fun j h1 h2 he => by
      have := (hi.ph2 j he).1 (all j h2); omega)
    obtain ⟨g1, g2, g3⟩ := hi.heap
    have hrel : Rel X P N E (S ops.size) a w := hr.ext (fun x => (hi.get hd (Nat.le_refl _) (fun j hw => ⟨fun _ => wr_lt hw, fun h => all j h⟩)).symm)
      (hheap.1.trans g1.symm) (hheap.2.1.trans g2.symm) (hheap.2.2.trans g3.symm)
    refine hq E a w hrel ?_
    rw [g1, g2, ← hheap.1, ← hheap.2.1]
    exact Moves.refl _ _ _ _
  intro fuel
  induction fuel with
  | zero =>
    intro listed s k E a w hsz hi hr hcnt hq
    have hnil : Region.ready .any ops listed = [] := by
      apply List.eq_nil_iff_forall_not_mem.2
      intro j hj
      obtain ⟨h1, o, ho, _⟩ := mem_ready.1 hj
      have := countP_set_lt ops.size j listed (Array.getElem?_eq_some_iff.1 ho).1 h1
      omega
    exact ⟨hnil, finish listed s k E a w hsz hi hr hq hnil⟩
  | succ fuel ih =>
    intro listed s k E a w hsz hi hr hcnt hq
    refine ⟨finish listed s k E a w hsz hi hr hq, fun i hri => ?_⟩
    obtain ⟨h1, o, ho, hready⟩ := mem_ready.1 hri
    have him := (Array.getElem?_eq_some_iff.1 ho).1
    have hn : ¬ listed.getD i false = true := by rw [← swap listed i hsz him, h1]; simp
    obtain ⟨s', k', hst, hinv⟩ := hi.next hs hd ho hready hn
    unfold wpOpIn
    rw [ho]
    simp only []
    refine step_sound hc hr ops o (hnd.imp id fun h => h o (by rw [← Array.getElem?_toList] at ho; exact List.mem_of_getElem? ho)) s' hst _ Q ?_
    intro E1 a1 w1 hr1 hm1
    have hL : ∀ j, (listed.setIfInBounds i true).getD j false = true ↔ (listed.getD j false = true ∨ j = i) := by
      intro j
      by_cases e : j = i
      · subst e; simp [show j < listed.size by omega]
      · rw [getD_set_ne false (fun h => e h.symm)]; simp [e]
    refine ih (listed.setIfInBounds i true) s' k' E1 a1 w1 (by simpa using hsz) ?_ hr1 ?_ (fun E' a' w' g1 g2 => hq E' a' w' g1 (hm1.trans g2 (fun id x hx => hr1.sim.lt id x hx)))
    · have : (fun j => (listed.setIfInBounds i true).getD j false = true) = fun j => listed.getD j false = true ∨ j = i := funext fun j => propext (hL j)
      rw [this]
      exact hinv
    · have := countP_set_lt ops.size i listed him h1
      omega

theorem Moves.drew_left {E E' : Env} {h h' : Heap} {n n' : Nat} {w w' : World} (hm : Moves E h n w.drew E' h' n' w') : Moves E h n w E' h' n' w' where
  nle := hm.nle
  agree := hm.agree
  old := hm.old
  new := hm.new
  size := hm.size
  keep := hm.keep
  os := hm.os
  out := hm.out
  tape := hm.tape

theorem regionD_sound (hnd : ro = none ∨ ∀ o ∈ ops.toList, ∀ c, o.op ≠ .defer c) (hc : CallOk X P callA) (hm : P.follows .mixedOrders = true) {E : Env} {s s' : St} {a : Act} {w : World} (id : Nat) (h : regD P callA N ops s = some s') (hr : Rel X P N E s a w)
    (hq : ∀ E' a' w', Rel X P N E' s' a' w' → Moves E s.h s.n w E' s'.h s'.n w' → Q .normal a' w') : (Code.region id ops true).wpIn (WF ro) fd P Q a w := by
  unfold regD at h
  split at h
  · simp at h
  · rename_i tr htr
    simp only [] at h
    cases hb : statOk P ops && readsGo P callA ops (masksGo ops.toList []) (effs P ops.toList 0) (0 :: (effs P ops.toList 0).map (· + 1)) tr s ops.toList 0 with
    | false => rw [hb] at h; simp at h
    | true =>
      rw [hb] at h
      simp only [cond_true, Option.some.injEq] at h
      rw [Bool.and_eq_true] at hb
      have hst := stat_of_ok hb.1
      have hdy := dyn_of_ok htr hst hb.2
      have h0 := (traceA_spec (d := s) _ _ _ htr).1
      refine wpIn_region_any hm (wpAny_of_inv hnd hc hst hdy ops.size _ s 0 E a w.drew (by simp) ?_ hr.drew ?_ ?_)
      · have hno : ∀ j, ¬ (Array.replicate ops.size false).getD j false = true := by
          intro j
          rw [Array.getD_eq_getD_getElem?, Array.getElem?_replicate]
          split <;> simp
        refine ⟨fun j o _ hl => absurd hl (hno j), fun x _ => by show _ = (tr.getD 0 s).t.get x; rw [h0], fun j x hl => absurd hl (hno j), .inl rfl, fun e _ => ⟨fun hl => absurd hl (hno e), fun h => by omega⟩, by show _ = (tr.getD 0 s).h ∧ _ = (tr.getD 0 s).n ∧ _ = (tr.getD 0 s).d; rw [h0]; exact ⟨rfl, rfl, rfl⟩⟩
      · exact Nat.le_trans List.countP_le_length (by simp)
      · intro E' a' w' g1 g2
        have hlast : tr.getD ops.size s = s' := by rw [← h]; simp
        rw [hlast] at g1 g2
        exact hq E' a' w' g1 g2.drew_left
end
end Go.AE
