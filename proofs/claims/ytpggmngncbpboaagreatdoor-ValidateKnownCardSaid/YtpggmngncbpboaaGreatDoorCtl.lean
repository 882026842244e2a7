/- The engine, part 16: the code of a body: sequences, branches, blocks, loops. -/
import Derived.Test.YtpggmngncbpboaaGreatDoorRegC
import Derived.Scope
namespace Go.AE
set_option linter.unusedSimpArgs false

/-- How a piece of code is left. -/
inductive Lv where
  | nm | rt
  | ex (id : Nat)

def Lv.exit : Lv → Exit
  | .nm => .normal
  | .rt => .ret
  | .ex id => .exit id

abbrev CodeF := St → Option (Lv × St)

noncomputable def seqA (x y : CodeF) : CodeF := fun s =>
  match x s with
  | some (.nm, s') => y s'
  | r => r

noncomputable def blockA (id : Nat) (x : CodeF) : CodeF := fun s =>
  match x s with
  | some (.ex i, s') => bif Nat.beq i id then some (.nm, s') else some (.ex i, s')
  | r => r

noncomputable def loopA (x : CodeF) (fuel : Nat) : CodeF :=
  Nat.rec (motive := fun _ => CodeF) (fun _ => none) (fun _ k s => match x s with | some (.nm, s') => k s' | r => r) fuel

noncomputable def regA (P : Program) (callA : CallF) (N : Nat) (ops : Array Oper) (draw : Bool) : CodeF := fun s =>
  match (bif draw then regD P callA N ops s else runOps P callA N ops ops.toList s) with
  | some s' => some (.nm, s')
  | none => none

noncomputable def condA (P : Program) (c : Operand) (x y : CodeF) : CodeF := fun s =>
  match evA P.globals.size s.t c with
  | .bo true => x s
  | .bo false => y s
  | _ => none

noncomputable def acode (P : Program) (callA : CallF) (N fuel : Nat) (c : Code) : CodeF :=
  Code.rec (motive := fun _ => CodeF)
    (fun s => some (.nm, s))
    (fun _ ops draw => regA P callA N ops draw)
    (fun _ _ x y => seqA x y)
    (fun c _ _ x y => condA P c x y)
    (fun id _ x => blockA id x)
    (fun _ x => loopA x fuel)
    (fun _ _ _ _ _ _ _ => none)
    (fun id s => some (.ex id, s))
    (fun _ x => x)
    (fun _ s => some (.nm, s))
    (fun _ _ => none)
    (fun s => some (.rt, s))
    (fun _ _ => none) c

section
variable {X : Bs} {P : Program} {callA : CallF} {N : Nat}

/-- What a piece of the evaluator says of a piece of code. -/
def CodeOk (X : Bs) (P : Program) (N : Nat) (c : Code) (x : CodeF) : Prop :=
  ∀ (E : Env) (s : St) (l : Lv) (s' : St) (a : Act) (w : World) (Q : Exit → Act → World → Prop), x s = some (l, s') → Rel X P N E s a w →
    (∀ E' a' w', Rel X P N E' s' a' w' → Moves E s.h s.n w E' s'.h s'.n w' → Q l.exit a' w') → c.wp P Q a w

/-- The rest of a loop, at the head of its body. -/
def LoopWp (P : Program) (c : Code) (Q : Exit → Act → World → Prop) (a : Act) (w : World) : Prop :=
  ∀ (b : Frame) (k : List Item) (cs : List Frame), ∃ e a' w', Q e a' w' ∧ Arrives P (lone (b.at a (.code c :: .inLoop c :: k)) cs w) b k cs e a' w'

theorem LoopWp.wp {c : Code} {Q : Exit → Act → World → Prop} {a : Act} {w : World} (h : LoopWp P c Q a w) : (Code.loop c).wp P Q a w :=
  fun b k cs => let ⟨e, a', w', hq, harr⟩ := h b k cs; ⟨e, a', w', hq, .of_steps (.one step_loop) harr⟩

theorem LoopWp.unroll {c : Code} {Q : Exit → Act → World → Prop} {a : Act} {w : World} (h : c.wp P (Exit.then (LoopWp P c Q) Q) a w) : LoopWp P c Q a w := by
  intro b k cs
  obtain ⟨e, a₁, w₁, hq, harr⟩ := h b (.inLoop c :: k) cs
  cases e with
  | normal =>
    obtain ⟨e₂, a₂, w₂, hq₂, harr₂⟩ := hq b k cs
    exact ⟨e₂, a₂, w₂, hq₂, .of_steps (Steps.trans harr (.one step_inLoop)) harr₂⟩
  | exit id => exact ⟨_, a₁, w₁, hq, .pass (x := .inLoop c) rfl (fun _ _ => .inl (by simp)) harr⟩
  | goto l => exact ⟨_, a₁, w₁, hq, .pass (x := .inLoop c) rfl (fun _ _ => .inl (by simp)) harr⟩
  | ret => exact ⟨_, a₁, w₁, hq, .pass (x := .inLoop c) rfl (fun _ _ => .inl (by simp)) harr⟩
  | panic ch => exact ⟨_, a₁, w₁, hq, .pass (x := .inLoop c) rfl (fun _ _ => .inl (by simp)) harr⟩
  | outgrown => exact ⟨_, a₁, w₁, hq, .pass (x := .inLoop c) rfl (fun _ _ => .inl (by simp)) harr⟩

theorem seqA_ok {c c' : Code} {x y : CodeF} (hx : CodeOk X P N c x) (hy : CodeOk X P N c' y) : CodeOk X P N (.seq c c') (seqA x y) := by
  intro E s l s' a w Q h hr hq
  refine wp_seq ?_
  unfold seqA at h
  split at h
  · rename_i s1 h1
    refine hx E s _ s1 a w _ h1 hr ?_
    intro E1 a1 w1 hr1 hm1
    exact hy E1 s1 l s' a1 w1 Q h hr1 (fun E' a' w' g1 g2 => hq E' a' w' g1 (hm1.trans g2 (fun id x hx => hr1.sim.lt id x hx)))
  · rename_i r hno
    refine hx E s l s' a w _ h hr ?_
    intro E' a' w' g1 g2
    have := hq E' a' w' g1 g2
    cases l with
    | nm => exact absurd h (hno s')
    | rt => exact this
    | ex id => exact this

theorem blockA_ok {c : Code} {x : CodeF} (id : Nat) (hx : CodeOk X P N c x) : CodeOk X P N (.block id c) (blockA id x) := by
  intro E s l s' a w Q h hr hq
  refine wp_block ?_
  unfold blockA at h
  split at h
  · rename_i i s1 h1
    refine hx E s _ s1 a w _ h1 hr ?_
    intro E' a' w' g1 g2
    cases hb : Nat.beq i id with
    | true =>
      rw [hb] at h
      cases h
      have := Nat.eq_of_beq_eq_true hb
      subst this
      simp only [Lv.exit, Exit.inBlock, if_true]
      exact hq E' a' w' g1 g2
    | false =>
      rw [hb] at h
      cases h
      have hne : i ≠ id := by rintro rfl; simp at hb
      simp only [Lv.exit, Exit.inBlock, if_neg hne]
      exact hq E' a' w' g1 g2
  · rename_i r hno
    refine hx E s l s' a w _ h hr ?_
    intro E' a' w' g1 g2
    have := hq E' a' w' g1 g2
    cases l with
    | nm => exact this
    | rt => exact this
    | ex i => exact absurd h (hno i s')

theorem loopA_ok {c : Code} {x : CodeF} (hx : CodeOk X P N c x) (fuel : Nat) : CodeOk X P N (.loop c) (loopA x fuel) := by
  have key : ∀ (fuel : Nat) (E : Env) (s : St) (l : Lv) (s' : St) (a : Act) (w : World) (Q : Exit → Act → World → Prop), loopA x fuel s = some (l, s') → Rel X P N E s a w →
      (∀ E' a' w', Rel X P N E' s' a' w' → Moves E s.h s.n w E' s'.h s'.n w' → Q l.exit a' w') → LoopWp P c Q a w := by
    intro fuel
    induction fuel with
    | zero => intro E s l s' a w Q h; simp [loopA] at h
    | succ fuel ih =>
      intro E s l s' a w Q h hr hq
      simp only [loopA] at h
      refine LoopWp.unroll ?_
      split at h
      · rename_i s1 h1
        refine hx E s _ s1 a w _ h1 hr ?_
        intro E1 a1 w1 hr1 hm1
        exact ih E1 s1 l s' a1 w1 Q h hr1 (fun E' a' w' g1 g2 => hq E' a' w' g1 (hm1.trans g2 (fun id x hx => hr1.sim.lt id x hx)))
      · rename_i r hno
        refine hx E s l s' a w _ h hr ?_
        intro E' a' w' g1 g2
        have := hq E' a' w' g1 g2
        cases l with
        | nm => exact absurd h (hno s')
        | rt => exact this
        | ex id => exact this
  intro E s l s' a w Q h hr hq
  exact (key fuel E s l s' a w Q h hr hq).wp

theorem condA_ok {c c' : Code} {x y : CodeF} (v : Operand) (hx : CodeOk X P N c x) (hy : CodeOk X P N c' y) : CodeOk X P N (.cond v c c') (condA P v x y) := by
  intro E s l s' a w Q h hr hq
  unfold condA at h
  have hv := hr.ev v
  split at h
  · rename_i he
    rw [he] at hv
    exact wp_cond_true hv (hx E s l s' a w Q h hr hq)
  · rename_i he
    rw [he] at hv
    exact wp_cond_false hv (hy E s l s' a w Q h hr hq)
  · simp at h

theorem regA_ok (hc : CallOk X P callA) (hm : P.follows .mixedOrders = true) (id : Nat) (ops : Array Oper) (draw : Bool) : CodeOk X P N (.region id ops draw) (regA P callA N ops draw) := by
  intro E s l s' a w Q h hr hq
  unfold regA at h
  cases draw with
  | true =>
    simp only [cond_true] at h
    split at h
    · rename_i s1 h1
      cases h
      exact (wpIn_wide (n := 0)).1 (regionD_sound (ro := none) (fd := 0) (.inl rfl) hc hm id h1 hr hq)
    · simp at h
  | false =>
    simp only [cond_false] at h
    split at h
    · rename_i s1 h1
      cases h
      exact (wpIn_wide (n := 0)).1 (region_sound (ro := none) (fd := 0) (.inl rfl) hc id h1 hr hq)
    · simp at h

theorem acode_ok (hc : CallOk X P callA) (hm : P.follows .mixedOrders = true) (fuel : Nat) (c : Code) : CodeOk X P N c (acode P callA N fuel c) := by
  induction c with
  | skip => intro E s l s' a w Q h hr hq; simp only [acode] at h; cases h; exact wp_skip (hq E a w hr (Moves.refl _ _ _ _))
  | region id ops draw => exact regA_ok hc hm id ops draw
  | seq x y hx hy => exact seqA_ok hx hy
  | cond v x y hx hy => exact condA_ok v hx hy
  | block id x hx => exact blockA_ok id hx
  | loop x hx => exact loopA_ok hx fuel
  | rangeFunc f ps x y hx hy => intro E s l s' a w Q h; simp [acode] at h
  | exit id => intro E s l s' a w Q h hr hq; simp only [acode] at h; cases h; exact wp_exit (hq E a w hr (Moves.refl _ _ _ _))
  | scope x hx =>
    intro E s l s' a w Q h hr hq
    refine wp_scope_straight (hx E s l s' a w _ h hr ?_)
    intro E' a' w' g1 g2
    have := hq E' a' w' g1 g2
    cases l <;> exact this
  | label l0 => intro E s l s' a w Q h hr hq; simp only [acode] at h; cases h; exact wp_label (hq E a w hr (Moves.refl _ _ _ _))
  | goto l0 => intro E s l s' a w Q h; simp [acode] at h
  | ret => intro E s l s' a w Q h hr hq; simp only [acode] at h; cases h; exact wp_ret (hq E a w hr (Moves.refl _ _ _ _))
  | refuse y => intro E s l s' a w Q h; simp [acode] at h
end
end Go.AE
