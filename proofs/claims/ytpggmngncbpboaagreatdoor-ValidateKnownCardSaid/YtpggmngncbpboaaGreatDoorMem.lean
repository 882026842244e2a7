/- The engine, part 2: loads, stores and new blocks: what they do to an abstract heap, and that the model does the same to the world that it stands for. -/
import Derived.Test.YtpggmngncbpboaaGreatDoorBase
import Derived.Laws.Sem
import Derived.Laws.Cells
import Derived.Laws.Rows
namespace Go.AE

def AV.one : AV → Bool
  | .agg _ | .tup _ => false
  | .raw v => v.oneCell'
  | _ => true

theorem AV.one_conc {E : Env} : ∀ {v : AV}, v.one = true → (v.conc E).oneCell' = true
  | .bo _, _ | .nt .., _ | .st _, _ | .pt .., _ | .pn, _ | .sl .., _ | .sn, _ | .mp _, _ | .mn, _ | .fu .., _ | .fn, _ | .ifc .., _ | .ifn, _ | .yl _, _ => by simp [AV.conc, Value.oneCell']
  | .raw v, h => by simpa [AV.conc, AV.one] using h
  | .agg _, h | .tup _, h => by simp [AV.one] at h

/-- The cells of a value. -/
def AV.cells : AV → List AV
  | .agg cs => cs
  | v => [v]

/-- Overwrites cells from a place on. -/
def updL : List AV → Nat → List AV → List AV
  | [], _, _ => []
  | c :: r, o + 1, vs => c :: updL r o vs
  | cs, 0, [] => cs
  | _ :: r, 0, v :: l => v :: updL r 0 l

theorem updL_length : ∀ (cs : List AV) (o : Nat) (vs : List AV), (updL cs o vs).length = cs.length
  | [], _, _ => by simp [updL]
  | _ :: r, _ + 1, vs => by simp [updL, updL_length r _ vs]
  | _ :: _, 0, [] => by simp [updL]
  | _ :: r, 0, _ :: l => by simp [updL, updL_length r 0 l]

theorem updL_get : ∀ (cs : List AV) (o : Nat) (vs : List AV) (j : Nat), j < cs.length → (updL cs o vs)[j]? = if o ≤ j ∧ j < o + vs.length then vs[j - o]? else cs[j]?
  | [], _, _, j, h => by simp at h
  | c :: r, o + 1, vs, j, h => by
    cases j with
    | zero => simp [updL]
    | succ j =>
      have := updL_get r o vs j (by simpa using h)
      simp only [updL, List.getElem?_cons_succ, this]
      by_cases e : o ≤ j ∧ j < o + vs.length
      · rw [if_pos e, if_pos (by omega)]; congr 1; omega
      · rw [if_neg e, if_neg (by omega)]
  | c :: r, 0, [], j, h => by simp [updL]
  | c :: r, 0, v :: l, j, h => by
    cases j with
    | zero => simp [updL]
    | succ j =>
      have := updL_get r 0 l j (by simpa using h)
      simp only [updL, List.getElem?_cons_succ, this]
      by_cases e : j < l.length
      · rw [if_pos (by omega), if_pos (by simp; omega)]; simp
      · rw [if_neg (by omega), if_neg (by simp; omega)]

theorem updL_sc {n : Nat} : ∀ (cs : List AV) (o : Nat) (vs : List AV), AV.scs n cs → AV.scs n vs → AV.scs n (updL cs o vs)
  | [], _, _, _, _ => by simp [updL, AV.scs]
  | c :: r, o + 1, vs, h, hv => by simp only [updL, AV.scs] at *; exact ⟨h.1, updL_sc r o vs h.2 hv⟩
  | _ :: _, 0, [], h, _ => by simpa [updL] using h
  | c :: r, 0, v :: l, h, hv => by simp only [updL, AV.scs] at *; exact ⟨hv.1, updL_sc r 0 l h.2 hv.2⟩

theorem scs_get {n : Nat} {l : List AV} (h : AV.scs n l) {j : Nat} {v : AV} (hj : l[j]? = some v) : v.sc n :=
  (AV.scs_iff n l).1 h v (List.mem_of_getElem? hj)

theorem scs_append {n : Nat} {l r : List AV} (h : AV.scs n l) (hr : AV.scs n r) : AV.scs n (l ++ r) := by
  rw [AV.scs_iff] at *
  intro v hv
  rcases List.mem_append.1 hv with h1 | h1
  · exact h v h1
  · exact hr v h1
theorem scs_take {n : Nat} {l : List AV} (k : Nat) (h : AV.scs n l) : AV.scs n (l.take k) := by
  rw [AV.scs_iff] at *; exact fun v hv => h v (List.mem_of_mem_take hv)
theorem scs_drop {n : Nat} {l : List AV} (k : Nat) (h : AV.scs n l) : AV.scs n (l.drop k) := by
  rw [AV.scs_iff] at *; exact fun v hv => h v (List.mem_of_mem_drop hv)

/-! ### what does not touch the heap -/
theorem Blk.rel_heap {E : Env} {id : Nat} {w w' : World} {blk : Blk} (he : w'.heap[E.ρ id]? = w.heap[E.ρ id]?) (h : blk.rel E id w) : blk.rel E id w' := by
  cases blk <;> simp only [Blk.rel] at * <;> rw [he] <;> exact h

theorem Blk.rel_agree {E E' : Env} {n id : Nat} {w : World} {blk : Blk} (ha : E.Agree E' n) (hid : id < n) (hs : blk.sc n) (h : blk.rel E id w) : blk.rel E' id w := by
  have h1 := (ha id hid).1
  have h2 := (ha id hid).2.1
  have h4 := (ha id hid).2.2
  cases blk with
  | cells vs elem fz grow =>
    obtain ⟨C, lo, hi, a, b, c, d, e, f⟩ := h
    refine ⟨C, lo, hi, by rw [h1]; exact a, by rw [h2]; exact b, c, d, fun j hj => ?_, f⟩
    rw [e j hj, AV.conc_agree ha _ ((AV.scs_iff n vs).1 hs _ (List.getElem_mem hj))]
  | map es clock =>
    simp only [Blk.rel] at *
    rw [h1, h]
    congr 2
    refine congrArg List.toArray (List.map_congr_left fun e he => ?_)
    have := hs e he
    simp [entryOf, AV.conc_agree ha _ this.1, AV.conc_agree ha _ this.2]
  | iter l pos => simp only [Blk.rel] at *; rw [h1]; exact h
  | ro vs =>
    obtain ⟨C, el, fr, a, b, c⟩ := h
    refine ⟨C, el, fr, by rw [h1]; exact a, b, fun j hj => ?_⟩
    rw [c j hj, AV.conc_agree ha _ ((AV.scs_iff n vs).1 hs _ (List.getElem_mem hj))]
  | loop st => simp only [Blk.rel] at *; rw [h1, h4]; exact h

theorem Sim.same {G : Nat} {E : Env} {h : Heap} {n : Nat} {w w' : World} (hs : Sim G E h n w) (he : w'.heap = w.heap) : Sim G E h n w' where
  glob := hs.glob
  gle := hs.gle
  lt := hs.lt
  sc := hs.sc
  rel := fun id blk hg => Blk.rel_heap (by rw [he]) (hs.rel id blk hg)
  inj := hs.inj

theorem Moves.drew {E E' : Env} {h h' : Heap} {n n' : Nat} {w w' : World} (hm : Moves E h n w E' h' n' w') : Moves E h n w E' h' n' w'.drew where
  nle := hm.nle
  agree := hm.agree
  old := hm.old
  new := hm.new
  size := hm.size
  keep := hm.keep
  os := hm.os
  out := hm.out
  tape := hm.tape

/-- Forgetting blocks. -/
theorem Sim.sub {G : Nat} {E : Env} {h h' : Heap} {n : Nat} {w : World} (hs : Sim G E h n w) (hsub : ∀ id x, h'.get id = some x → h.get id = some x) : Sim G E h' n w where
  glob := hs.glob
  gle := hs.gle
  lt := fun id x hx => hs.lt id x (hsub id x hx)
  sc := fun id x hx => hs.sc id x (hsub id x hx)
  rel := fun id x hx => hs.rel id x (hsub id x hx)
  inj := fun id jd x y hx hy => hs.inj id jd x y (hsub id x hx) (hsub jd y hy)

/-! ### a new block -/
def Env.put (E : Env) (n r s : Nat) : Env := { ρ := fun i => if i = n then r else E.ρ i, σ := fun i => if i = n then s else E.σ i, lp := E.lp }
theorem Env.put_agree (E : Env) (n r s : Nat) : E.Agree (E.put n r s) n := fun id hid => by simp [Env.put, Nat.ne_of_lt hid]
theorem Env.put_ρ (E : Env) (n r s : Nat) : (E.put n r s).ρ n = r := by simp [Env.put]
theorem Env.put_σ (E : Env) (n r s : Nat) : (E.put n r s).σ n = s := by simp [Env.put]

theorem heap_lt {w : World} {r : Nat} {o : Obj} (h : w.heap[r]? = some o) : r < w.heap.size := by
  rcases Nat.lt_or_ge r w.heap.size with h1 | h1
  · exact h1
  · rw [Array.getElem?_eq_none h1] at h; exact absurd h (by simp)

theorem Blk.rel_lt {E : Env} {id : Nat} {w : World} {blk : Blk} (h : blk.rel E id w) : E.ρ id < w.heap.size := by
  cases blk with
  | cells vs elem fz grow => obtain ⟨C, lo, hi, a, _⟩ := h; exact heap_lt a
  | map es clock => exact heap_lt h
  | iter l pos => exact heap_lt h
  | ro vs => obtain ⟨C, el, fr, a, _⟩ := h; exact heap_lt a
  | loop st => exact heap_lt h

theorem sim_alloc {G : Nat} {E : Env} {h : Heap} {n : Nat} {w : World} (hs : Sim G E h n w) (o : Obj) (s : Nat) (blk : Blk) (hb : blk.sc (n + 1))
    (hr : blk.rel (E.put n w.heap.size s) n (w.alloc o)) :
    Sim G (E.put n w.heap.size s) (h.set n blk) (n + 1) (w.alloc o) ∧ Moves E h n w (E.put n w.heap.size s) (h.set n blk) (n + 1) (w.alloc o) := by
  have hag := Env.put_agree E n w.heap.size s
  constructor
  · refine ⟨fun g hg => ?_, by have := hs.gle; omega, ?_, ?_, ?_, ?_⟩
    · rw [(hag g (Nat.lt_of_lt_of_le hg hs.gle)).1]; exact hs.glob g hg
    · intro id x hx
      rw [PT.get_set] at hx
      split at hx
      · omega
      · have := hs.lt id x hx; omega
    · intro id x hx
      rw [PT.get_set] at hx
      split at hx
      · cases hx; exact hb
      · have h1 := hs.sc id x hx
        cases x with
        | cells vs _ _ _ => exact AV.scs_mono (Nat.le_succ n) _ h1
        | map es _ => exact fun e he => ⟨AV.sc_mono (Nat.le_succ n) _ (h1 e he).1, AV.sc_mono (Nat.le_succ n) _ (h1 e he).2⟩
        | iter _ _ => trivial
        | ro vs => exact AV.scs_mono (Nat.le_succ n) _ h1
        | loop _ => trivial
    · intro id x hx
      rw [PT.get_set] at hx
      split at hx
      · rename_i e; subst e; cases hx; exact hr
      · have h1 := hs.rel id x hx
        have h2 := hs.lt id x hx
        have h3 := Blk.rel_agree hag h2 (hs.sc id x hx) h1
        refine Blk.rel_heap ?_ h3
        exact heap_alloc_old w o _ (Blk.rel_lt h3)
    · intro id jd x y hx hy he
      rw [PT.get_set] at hx hy
      split at hx <;> split at hy
      · omega
      · rename_i e e'
        subst e
        have h2 := hs.lt jd y hy
        rw [Env.put_ρ, (hag jd h2).1] at he
        have := Blk.rel_lt (hs.rel jd y hy)
        omega
      · rename_i e e'
        subst e'
        have h2 := hs.lt id x hx
        rw [Env.put_ρ, (hag id h2).1] at he
        have := Blk.rel_lt (hs.rel id x hx)
        omega
      · have h2 := hs.lt id x hx
        have h3 := hs.lt jd y hy
        rw [(hag id h2).1, (hag jd h3).1] at he
        exact hs.inj id jd x y hx hy he
  · refine ⟨Nat.le_succ n, hag, ?_, ?_, by simp, ?_, rfl, rfl, rfl⟩
    · intro id x hid hx hr
      rw [PT.get_set_ne _ _ (by omega)] at hx
      exact ⟨x, hx, hr⟩
    · intro id x hid hx _
      by_cases e : id = n
      · subst e; rw [Env.put_ρ]; exact .inl (Nat.le_refl _)
      · rw [PT.get_set_ne _ _ e] at hx
        have := hs.lt id x hx
        omega
    · intro k hk _
      exact heap_alloc_old w o k hk

/-- A new block of cells. -/
theorem sim_newRow {G : Nat} {E : Env} {h : Heap} {n : Nat} {w : World} (hs : Sim G E h n w) (vs : List AV) (elem : TypeId) (hv : AV.scs n vs) (C : Array Value)
    (hC : C = (AV.concs E vs).toArray) :
    Sim G (E.put n w.heap.size vs.length) (h.set n (.cells vs elem (some (0, 0)) false)) (n + 1) (w.alloc (.cells C elem)) ∧
      Moves E h n w (E.put n w.heap.size vs.length) (h.set n (.cells vs elem (some (0, 0)) false)) (n + 1) (w.alloc (.cells C elem)) := by
  subst hC
  refine sim_alloc hs _ _ _ (AV.scs_mono (Nat.le_succ n) _ hv) ?_
  have hag := Env.put_agree E n w.heap.size vs.length
  refine ⟨(AV.concs E vs).toArray, 0, 0, ?_, ?_, ?_, ?_, ?_, Nat.le_refl _, .inl rfl⟩
  · rw [Env.put_ρ]; exact heap_alloc_new w _
  · rw [Env.put_σ]; simp [AV.concs_eq]
  · simp [AV.concs_eq]
  · intro _; simp [AV.concs_eq]
  · intro j hj
    simp only [AV.concs_eq, List.getElem?_toArray, List.getElem?_map]
    rw [List.getElem?_eq_getElem hj, Option.map_some, AV.conc_agree hag _ ((AV.scs_iff n vs).1 hv _ (List.getElem_mem hj))]

/-! ### loads -/
/-- The block holds these cells. -/
def Holds (h : Heap) (b : Nat) (vs : List AV) : Prop := (∃ el fz gr, h.get b = some (.cells vs el fz gr)) ∨ h.get b = some (.ro vs)

theorem holds_sc {G : Nat} {E : Env} {h : Heap} {n : Nat} {w : World} (hs : Sim G E h n w) {b : Nat} {vs : List AV} (hg : Holds h b vs) : AV.scs n vs := by
  rcases hg with ⟨el, fz, gr, hg⟩ | hg
  · have := hs.sc b _ hg; exact this
  · have := hs.sc b _ hg; exact this

theorem sim_cellR {G : Nat} {E : Env} {h : Heap} {n : Nat} {w : World} (hs : Sim G E h n w) {b o : Nat} {vs : List AV}
    (hg : Holds h b vs) {v : AV} (hv : vs[o]? = some v) : w.cell? ⟨E.ρ b, o, none⟩ = some (v.conc E) := by
  have hlt : o < vs.length := by
    rcases Nat.lt_or_ge o vs.length with h1 | h1
    · exact h1
    · rw [List.getElem?_eq_none h1] at hv; exact absurd hv (by simp)
  have key : ∃ C el fr, w.heap[E.ρ b]? = some (.cells C el fr) ∧ C[o]? = some (vs[o].conc E) := by
    rcases hg with ⟨el, fz, gr, hg⟩ | hg
    · obtain ⟨C, lo, hi, hC, _, _, _, he, _⟩ := hs.rel b _ hg
      exact ⟨C, _, _, hC, he o hlt⟩
    · obtain ⟨C, el, fr, hC, _, he⟩ := hs.rel b _ hg
      exact ⟨C, _, _, hC, he o hlt⟩
  obtain ⟨C, el, fr, hC, this⟩ := key
  rw [List.getElem?_eq_getElem hlt] at hv
  cases hv
  simp [World.cell?, hC, this]

theorem sim_cell {G : Nat} {E : Env} {h : Heap} {n : Nat} {w : World} (hs : Sim G E h n w) {b o : Nat} {vs : List AV} {elem : TypeId} {fz : Option (Nat × Nat)} {grow : Bool}
    (hg : h.get b = some (.cells vs elem fz grow)) {v : AV} (hv : vs[o]? = some v) : w.cell? ⟨E.ρ b, o, none⟩ = some (v.conc E) :=
  sim_cellR hs (.inl ⟨_, _, _, hg⟩) hv

theorem addr_add (r o j : Nat) : (⟨r, o, none⟩ : Addr).add j = ⟨r, o + j, none⟩ := by
  unfold Addr.add
  split
  · rename_i h; subst h; rfl
  · rfl

theorem sim_loadCellsR {G : Nat} {E : Env} {h : Heap} {n : Nat} {w : World} (P : Program) (hs : Sim G E h n w) {b o k : Nat} {vs : List AV}
    (hg : Holds h b vs) (hk : o + k ≤ vs.length) :
    (loadCells ⟨E.ρ b, o, none⟩ k).run P w = .ok (AV.concs E ((vs.drop o).take k)).toArray w := by
  have hl : (AV.concs E ((vs.drop o).take k)).length = k := by simp [AV.concs_eq]; omega
  have := run_loadCells_list (P := P) (w := w) ⟨E.ρ b, o, none⟩ (AV.concs E ((vs.drop o).take k)) (by
    intro j v hj
    rw [addr_add]
    simp only [AV.concs_eq, List.getElem?_map] at hj
    cases hx : ((vs.drop o).take k)[j]? with
    | none => rw [hx] at hj; simp at hj
    | some x =>
      rw [hx] at hj
      simp only [Option.map_some, Option.some.injEq] at hj
      subst hj
      refine sim_cellR hs hg ?_
      rw [List.getElem?_take] at hx
      split at hx
      · rw [List.getElem?_drop] at hx; exact hx
      · simp at hx)
  rw [hl] at this
  exact this

/-! ### stores -/
theorem sim_loadCells {G : Nat} {E : Env} {h : Heap} {n : Nat} {w : World} (P : Program) (hs : Sim G E h n w) {b o k : Nat} {vs : List AV} {elem : TypeId} {fz : Option (Nat × Nat)} {grow : Bool}
    (hg : h.get b = some (.cells vs elem fz grow)) (hk : o + k ≤ vs.length) :
    (loadCells ⟨E.ρ b, o, none⟩ k).run P w = .ok (AV.concs E ((vs.drop o).take k)).toArray w :=
  sim_loadCellsR P hs (.inl ⟨_, _, _, hg⟩) hk

theorem run_storeCells_block (P : Program) (r : Nat) (elem : TypeId) (lo hi o : Nat) : ∀ (vs : List Value) (i : Nat) (C : Array Value) (w : World),
    w.heap[r]? = some (.cells C elem (lo, hi)) → o + i + vs.length ≤ C.size → (∀ j, j < vs.length → ¬ (lo ≤ o + i + j ∧ o + i + j < hi)) → (∀ v ∈ vs, v.oneCell' = true) →
    ∃ w' C', (storeCells ⟨r, o, none⟩ vs i).run P w = .ok () w' ∧ w'.heap[r]? = some (.cells C' elem (lo, hi)) ∧ C'.size = C.size ∧
      (∀ j : Nat, C'[j]? = if o + i ≤ j ∧ j < o + i + vs.length then vs[j - (o + i)]? else C[j]?) ∧ (∀ k : Nat, k ≠ r → w'.heap[k]? = w.heap[k]?) ∧ w'.heap.size = w.heap.size ∧
      w'.os = w.os ∧ w'.output = w.output ∧ w'.tape = w.tape := by
  intro vs
  induction vs with
  | nil =>
    intro i C w hC _ _ _
    exact ⟨w, C, rfl, hC, rfl, fun j => by simp; omega, fun _ _ => rfl, rfl, rfl, rfl, rfl⟩
  | cons v l ih =>
    intro i C w hC hlen hfz hone
    have hlt : o + i < C.size := by simp at hlen; omega
    have hcell : w.cell? ⟨r, o + i, none⟩ = some C[o + i] := by simp [World.cell?, hC, Array.getElem?_eq_getElem hlt]
    have hfr : w.frozen? ⟨r, o + i, none⟩ = false := by
      have := hfz 0 (by simp)
      simp only [World.frozen?, hC]
      simp only [Nat.add_zero] at this
      simp only [Bool.and_eq_false_iff, decide_eq_false_iff_not]
      omega
    have hst : (store ⟨r, o + i, none⟩ v).run P w = .ok () (w.setCell ⟨r, o + i, none⟩ v) := by
      rw [run_store P w _ v _ (hone v (by simp)), hcell]
      simp [hfr]
    have hrl : r < w.heap.size := heap_lt hC
    have hC1 : (w.setCell ⟨r, o + i, none⟩ v).heap[r]? = some (.cells (C.setIfInBounds (o + i) v) elem (lo, hi)) := by
      simp only [World.setCell, Array.getElem?_modify, if_true]
      rw [hC]; simp
    obtain ⟨w', C', hrun, hC', hsz, hget, hoth, hws, h1, h2, h3⟩ := ih (i + 1) (C.setIfInBounds (o + i) v) (w.setCell ⟨r, o + i, none⟩ v) hC1
      (by simp at hlen ⊢; omega) (fun j hj => by have := hfz (j + 1) (by simp; omega); rw [show o + (i + 1) + j = o + i + (j + 1) by omega]; exact this) (fun x hx => hone x (by simp [hx]))
    refine ⟨w', C', ?_, hC', by simpa using hsz, ?_, ?_, by simpa using hws, h1, h2, h3⟩
    · simp only [storeCells, Sem.run_bind, addr_add, hst, Result.andThen_ok]
      exact hrun
    · intro j
      rw [hget j]
      by_cases e : o + (i + 1) ≤ j ∧ j < o + (i + 1) + l.length
      · rw [if_pos e, if_pos (by simp; omega)]
        rw [show j - (o + i) = (j - (o + (i + 1))) + 1 by omega, List.getElem?_cons_succ]
      · rw [if_neg e]
        by_cases e2 : j = o + i
        · subst e2
          rw [if_pos (by simp)]
          simp [hlt]
        · rw [if_neg (by simp; omega), Array.getElem?_setIfInBounds_ne (by omega)]
    · intro k hk
      rw [hoth k hk, heap_setCell_other _ _ _ _ hk]

/-- Does a store of k cells at o meet frozen cells? -/
def unfrozen (fz : Option (Nat × Nat)) (o k : Nat) : Bool :=
  match fz with
  | none => true
  | some (a, c) => Nat.ble c o || Nat.ble (o + k) a || Nat.ble c a

theorem sim_storeCells {G : Nat} {E : Env} {h : Heap} {n : Nat} {w : World} (P : Program) (hs : Sim G E h n w) {b o : Nat} {cs : List AV} {elem : TypeId} {fz : Option (Nat × Nat)} {grow : Bool}
    (hg : h.get b = some (.cells cs elem fz grow)) (vs : List AV) (hlen : o + vs.length ≤ cs.length) (hfz : unfrozen fz o vs.length = true) (hone : vs.all AV.one = true) (hsc : AV.scs n vs) :
    ∃ w', (storeCells ⟨E.ρ b, o, none⟩ (AV.concs E vs)).run P w = .ok () w' ∧ Sim G E (h.set b (.cells (updL cs o vs) elem fz grow)) n w' ∧
      Moves E h n w E (h.set b (.cells (updL cs o vs) elem fz grow)) n w' := by
  obtain ⟨C, lo, hi, hC, hσ, hle, hgr, he, hf⟩ := hs.rel b _ hg
  have hL : (AV.concs E vs).length = vs.length := by simp [AV.concs_eq]
  obtain ⟨w', C', hrun, hC', hsz, hget, hoth, hws, h1, h2, h3⟩ := run_storeCells_block P (E.ρ b) elem lo hi o (AV.concs E vs) 0 C w hC (by rw [hL]; omega)
    (fun j hj => by
      rw [hL] at hj
      cases fz with
      | none => exact hf.2 _ (by omega)
      | some ac =>
        obtain ⟨a, c⟩ := ac
        simp only at hf
        simp only [unfrozen, Bool.or_eq_true, Nat.ble_eq] at hfz
        omega)
    (fun v hv => by
      rw [AV.concs_eq] at hv
      obtain ⟨x, hx, rfl⟩ := List.mem_map.1 hv
      exact AV.one_conc (List.all_eq_true.1 hone x hx))
  have hbn := hs.lt b _ hg
  refine ⟨w', hrun, ⟨hs.glob, hs.gle, ?_, ?_, ?_, ?_⟩, ⟨Nat.le_refl n, fun _ _ => ⟨rfl, rfl, rfl⟩, ?_, ?_, by omega, ?_, h1, h2, h3⟩⟩
  · intro id x hx
    rw [PT.get_set] at hx
    split at hx
    · omega
    · exact hs.lt id x hx
  · intro id x hx
    rw [PT.get_set] at hx
    split at hx
    · cases hx; exact updL_sc _ _ _ (hs.sc b _ hg) hsc
    · exact hs.sc id x hx
  · intro id x hx
    rw [PT.get_set] at hx
    split at hx
    · rename_i e
      subst e
      cases hx
      refine ⟨C', lo, hi, hC', by rw [hsz]; exact hσ, by rw [updL_length]; omega, fun hgf => by rw [hsz, updL_length]; exact hgr hgf, fun j hj => ?_, ?_⟩
      · have hj' : j < cs.length := by rwa [updL_length] at hj
        have hu := updL_get cs o vs j hj'
        rw [List.getElem?_eq_getElem hj] at hu
        rw [hget j]
        simp only [Nat.add_zero, hL]
        by_cases e : o ≤ j ∧ j < o + vs.length
        · rw [if_pos e]
          rw [if_pos e] at hu
          rw [AV.concs_eq, List.getElem?_map, ← hu]
          rfl
        · rw [if_neg e]
          rw [if_neg e, List.getElem?_eq_getElem hj'] at hu
          rw [he j hj']
          simp only [Option.some.injEq] at hu ⊢
          rw [hu]
      · cases fz with
        | none => exact ⟨hf.1, fun p hp => hf.2 p (by omega)⟩
        | some ac => exact hf
    · rename_i e
      refine Blk.rel_heap (hoth _ fun e2 => e (hs.inj id b x _ hx hg e2)) (hs.rel id x hx)
  · intro id jd x y hx hy he2
    have hx' : ∃ x', h.get id = some x' := by
      rw [PT.get_set] at hx
      split at hx
      · rename_i e; subst e; exact ⟨_, hg⟩
      · exact ⟨x, hx⟩
    have hy' : ∃ y', h.get jd = some y' := by
      rw [PT.get_set] at hy
      split at hy
      · rename_i e; subst e; exact ⟨_, hg⟩
      · exact ⟨y, hy⟩
    obtain ⟨x', hx'⟩ := hx'
    obtain ⟨y', hy'⟩ := hy'
    exact hs.inj id jd x' y' hx' hy' he2
  · intro id x _ hx hr
    rw [PT.get_set] at hx
    split at hx
    · rename_i e; subst e; exact ⟨_, hg, rfl⟩
    · exact ⟨x, hx, hr⟩
  · intro id x hid hx _
    rw [PT.get_set] at hx
    split at hx
    · omega
    · have := hs.lt id x hx; omega
  · intro k _ hno
    exact hoth k fun e => hno b _ hg rfl e.symm

theorem sim_setObj {G : Nat} {E : Env} {H : Heap} {n : Nat} {w : World} (hs : Sim G E H n w) (b : Nat) (x blk : Blk) (o : Obj) (hg : H.get b = some x) (hsc : blk.sc n)
    (hr : ∀ w', w'.heap[E.ρ b]? = some o → blk.rel E b w') (hro : x.isRo = false := by rfl) :
    Sim G E (H.set b blk) n { w with heap := w.heap.setIfInBounds (E.ρ b) o } ∧ Moves E H n w E (H.set b blk) n { w with heap := w.heap.setIfInBounds (E.ρ b) o } := by
  have hlt := Blk.rel_lt (hs.rel b x hg)
  have hbn := hs.lt b x hg
  have hin : ∀ id y, (H.set b blk).get id = some y → ∃ y', H.get id = some y' := by
    intro id y hy
    rw [PT.get_set] at hy
    split at hy
    · rename_i e; subst e; exact ⟨_, hg⟩
    · exact ⟨y, hy⟩
  constructor
  · refine ⟨hs.glob, hs.gle, ?_, ?_, ?_, ?_⟩
    · intro id y hy
      obtain ⟨y', hy'⟩ := hin id y hy
      exact hs.lt id y' hy'
    · intro id y hy
      rw [PT.get_set] at hy
      split at hy
      · cases hy; exact hsc
      · exact hs.sc id y hy
    · intro id y hy
      rw [PT.get_set] at hy
      split at hy
      · rename_i e
        subst e
        cases hy
        exact hr _ (by simp [hlt])
      · rename_i e
        refine Blk.rel_heap ?_ (hs.rel id y hy)
        simp only
        rw [Array.getElem?_setIfInBounds_ne]
        exact fun e2 => e (hs.inj b id x y hg hy e2).symm
    · intro id jd y z hy hz he
      obtain ⟨y', hy'⟩ := hin id y hy
      obtain ⟨z', hz'⟩ := hin jd z hz
      exact hs.inj id jd y' z' hy' hz' he
  · have hin2 : ∀ id y, (H.set b blk).get id = some y → y.isRo = false → ∃ y', H.get id = some y' ∧ y'.isRo = false := by
      intro id y hy hry
      rw [PT.get_set] at hy
      split at hy
      · rename_i e; subst e; exact ⟨_, hg, hro⟩
      · exact ⟨y, hy, hry⟩
    refine ⟨Nat.le_refl n, fun _ _ => ⟨rfl, rfl, rfl⟩, fun id y _ hy hry => hin2 id y hy hry, ?_, by simp, ?_, rfl, rfl, rfl⟩
    · intro id y hid hy hry
      obtain ⟨y', hy', hr'⟩ := hin2 id y hy hry
      exact .inr ⟨id, y', hy', hr', rfl⟩
    · intro k _ hno
      simp only
      rw [Array.getElem?_setIfInBounds_ne]
      exact fun e => hno b x hg hro e


/-- Freezing cells of a block: the world's heap with the block set anew. -/
theorem freeze_eq {w : World} {r : Nat} {C : Array Value} {el : TypeId} {lo hi : Nat} (h : w.heap[r]? = some (.cells C el (lo, hi))) (o k : Nat) (hk : k ≠ 0) :
    w.freeze ⟨r, o, none⟩ k = { w with heap := w.heap.setIfInBounds r (.cells C el (if lo == hi then (o, o + k) else (min lo o, max hi (o + k)))) } := by
  unfold World.freeze
  rw [if_neg hk]
  congr 1
  apply Array.ext_getElem?
  intro i
  rw [Array.getElem?_modify, Array.getElem?_setIfInBounds]
  by_cases e : r = i
  · subst e
    have hlt : r < w.heap.size := (Array.getElem?_eq_some_iff.1 h).1
    rw [if_pos rfl, if_pos rfl, h]
    simp [hlt]
  · rw [if_neg e, if_neg e]

end Go.AE
