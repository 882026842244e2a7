/- The engine, part 21: what a listed package-level variable's data says of its cells: data of numbers and texts, nested in arrays and structs whose cells lie one behind the other. -/
import Derived.Test.YtpggmngncbpboaaGreatDoorExt
import Derived.Lib.LaidTab
namespace Go.AE
set_option linter.unusedSimpArgs false

def litV : Lit → Value
  | .bool b => .bool b
  | .int k n => .int k n
  | .string l => .string ⟨l.toArray⟩
  | _ => .nilIface

mutual
def flatD {H : Type} : DataW H → List Value
  | .lit l => [litV l]
  | .agg ds => flatDs ds
  | _ => []
def flatDs {H : Type} : List (DataW H) → List Value
  | [] => []
  | d :: ds => flatD d ++ flatDs ds
end

def offsAt (P : Program) : List Field → Nat → Option Nat
  | [], o => some o
  | f :: fs, o => bif Nat.beq f.offset o then offsAt P fs (o + P.cellsOf f.type) else none

def tileB (P : Program) : Nat → TypeId → Bool
  | 0, _ => false
  | f + 1, t =>
    match P.underlying t with
    | some (.int _) => Nat.beq (P.cellsOf t) 1
    | some .string => Nat.beq (P.cellsOf t) 1
    | some (.array n e) => tileB P f e && Nat.beq (P.cellsOf t) (n * P.cellsOf e)
    | some (.struct fs) => (match offsAt P fs.toList 0 with | some o => Nat.beq o (P.cellsOf t) | none => false) && fs.toList.all fun x => tileB P f x.type
    | _ => false

theorem flatDs_map {H : Type} (xs : List (DataW H × List MemPlace)) : flatDs (xs.map (·.1)) = xs.flatMap fun x => flatD x.1 := by
  induction xs with
  | nil => rfl
  | cons x xs ih => simp [flatDs, ih]

theorem pieces_array (cs : List Value) (k : Nat) : ∀ n, cs.length = n * k → ((List.range n).flatMap fun i => (cs.drop (i * k)).take k) = cs := by
  intro n
  induction n generalizing cs with
  | zero => intro h; simp at h; subst h; rfl
  | succ n ih =>
    intro h
    rw [List.range_succ_eq_map, List.flatMap_cons, List.flatMap_map]
    have h2 := ih (cs.drop k) (by rw [List.length_drop, h, Nat.succ_mul]; omega)
    have : (List.range n).flatMap (fun i => (cs.drop ((i + 1) * k)).take k) = cs.drop k := by
      rw [← h2]
      simp only [List.drop_drop]
      congr 1
      funext i
      rw [Nat.succ_mul, Nat.add_comm]
    simp only [Nat.zero_mul, List.drop_zero]
    rw [this, List.take_append_drop]

theorem mapM_flat {H : Type} {α : Type} {f : α → Option (DataW H × List MemPlace)} {g : α → List Value} : ∀ {l : List α} {xs : List (DataW H × List MemPlace)}, l.mapM f = some xs →
    (∀ a ∈ l, ∀ y, f a = some y → g a = flatD y.1) → l.flatMap g = xs.flatMap fun x => flatD x.1 := by
  intro l
  induction l with
  | nil => intro xs h _; simp at h; subst h; rfl
  | cons a l ih =>
    intro xs h hg
    simp only [List.mapM_cons, Option.bind_eq_bind, Option.bind_eq_some_iff, Option.pure_def, Option.some.injEq] at h
    obtain ⟨b, hb, r, hr, rfl⟩ := h
    rw [List.flatMap_cons, List.flatMap_cons, hg a (List.mem_cons_self ..) b hb, ih hr (fun a' ha => hg a' (List.mem_cons_of_mem _ ha))]

theorem pieces_struct (P : Program) (cs : List Value) : ∀ (fs : List Field) (o m : Nat), offsAt P fs o = some m → cs.length = m →
    (fs.flatMap fun f => (cs.drop f.offset).take (P.cellsOf f.type)) = cs.drop o := by
  intro fs
  induction fs with
  | nil => intro o m h hl; simp only [offsAt] at h; cases h; rw [List.drop_of_length_le (by omega)]; rfl
  | cons f fs ih =>
    intro o m h hl
    simp only [offsAt] at h
    cases hb : Nat.beq f.offset o with
    | false => rw [hb] at h; simp at h
    | true =>
      rw [hb] at h
      simp only [cond_true] at h
      rw [List.flatMap_cons, ih _ _ h hl, Nat.eq_of_beq_eq_true hb, ← List.drop_drop, List.take_append_drop]

theorem cells_of_trod {H : Type} {enc : TypeId × Value → H} {P : Program} {w : World} {base : Nat} {sp : Nat → Bool} {held : Bool} : ∀ (f : Nat) {fuel : Nat} {t : TypeId} {cs : List Value} {d : DataW H} {p : List MemPlace},
    tileB P f t = true → DataW.trod enc P w base sp held fuel t cs = some (d, p) → cs = flatD d := by
  intro f
  induction f with
  | zero => intro fuel t cs d p h; simp [tileB] at h
  | succ f ih =>
    intro fuel t cs d p ht h
    cases fuel with
    | zero => simp [DataW.trod] at h
    | succ fuel =>
      simp only [tileB] at ht
      split at ht
      · rename_i k hu
        obtain ⟨z, hc, hd, _⟩ := DataW.trod_int hu h
        cases hd
        rw [hc]; rfl
      · rename_i hu
        simp only [DataW.trod, hu] at h
        split at h <;> first | (simp_all; done) | skip
        all_goals
          split at h
          · cases h; simp [flatD, litV]
          · simp at h
      · rename_i n e hu
        simp only [Bool.and_eq_true] at ht
        simp only [DataW.trod, hu] at h
        split at h
        · rename_i hl
          obtain ⟨xs, hm, hx⟩ := Option.map_eq_some_iff.1 h
          cases hx
          simp only [flatD]
          rw [flatDs_map, ← mapM_flat (g := fun i => (cs.drop (i * P.cellsOf e)).take (P.cellsOf e)) hm (fun a _ y hy => ih ht.1 hy), pieces_array]
          rw [hl, Nat.eq_of_beq_eq_true ht.2]
        · simp at h
      · rename_i fs hu
        simp only [Bool.and_eq_true] at ht
        simp only [DataW.trod, hu] at h
        split at h
        · rename_i hl
          obtain ⟨xs, hm, hx⟩ := Option.map_eq_some_iff.1 h
          cases hx
          simp only [flatD]
          obtain ⟨h1, h2⟩ := ht
          split at h1
          · rename_i o ho
            rw [flatDs_map, ← mapM_flat (g := fun x : Field => (cs.drop x.offset).take (P.cellsOf x.type)) hm (fun a ha y hy => ih (List.all_eq_true.1 h2 a ha) hy),
              pieces_struct P cs _ 0 o ho (by rw [hl, Nat.eq_of_beq_eq_true h1])]
            simp
          · simp at h1
        · simp at h
      · simp at ht

/-- A listed variable's cells, one by one. -/
theorem laidVars_cell {P : Program} {w : World} : ∀ {laid : List (String × DataW Unit)} {ps : List MemPlace}, DataW.LaidVars P w laid ps → ∀ {name : String} {d : DataW Unit}, (name, d) ∈ laid →
    ∀ {g f : Nat} {t : TypeId}, P.globalNamed name = some g → (P.globals[g]?).map (·.type) = some t → tileB P f t = true → ∀ (j : Nat) (v : Value), (flatD d)[j]? = some v → w.cell? ⟨g, j, none⟩ = some v := by
  intro laid
  induction laid with
  | nil => intro ps _ name d hm; cases hm
  | cons x r ih =>
    intro ps h name d hm g f t hg ht hti j v hv
    obtain ⟨n, d'⟩ := x
    obtain ⟨g', t', cs, fuel, p, q, hg', ht', hvar, hd, hr, _⟩ := h
    rcases List.mem_cons.1 hm with e | hm
    · cases e
      obtain rfl := Option.some.inj (hg.symm.trans hg')
      obtain rfl := Option.some.inj (ht.symm.trans ht')
      have := cells_of_trod f hti hd
      rw [World.var?_cell hg hvar j, ← Array.getElem?_toList, this]
      exact hv
    · exact ih hr hm hg ht hti j v hv

theorem laidMet_cell {P : Program} {w : World} {laid : List (String × DataW Unit)} (h : laidMet P laid w) {name : String} {d : DataW Unit} (hm : (name, d) ∈ laid)
    {g f : Nat} {t : TypeId} (hg : P.globalNamed name = some g) (ht : (P.globals[g]?).map (·.type) = some t) (hti : tileB P f t = true) (j : Nat) (v : Value) (hv : (flatD d)[j]? = some v) :
    w.cell? ⟨g, j, none⟩ = some v := by
  obtain ⟨ps, hl, _⟩ := h
  exact laidVars_cell hl hm hg ht hti j v hv

/-- What 'sim_start' asks of one listed variable. -/
theorem start_of_laid {P : Program} {w : World} {laid : List (String × DataW Unit)} (h : laidMet P laid w) {name : String} {d : DataW Unit} (hm : (name, d) ∈ laid)
    {g f G : Nat} {t : TypeId} (hg : P.globalNamed name = some g) (ht : (P.globals[g]?).map (·.type) = some t) (hti : tileB P f t = true) (vs : List AV) (hfl : flatD d = AV.concs E0 vs)
    (hlt : g < G) (hne : vs ≠ []) (hsc : AV.scs G vs) : g < G ∧ vs ≠ [] ∧ AV.scs G vs ∧ ∀ (j : Nat) v, vs[j]? = some v → w.cell? ⟨g, j, none⟩ = some (v.conc E0) := by
  refine ⟨hlt, hne, hsc, fun j v hv => laidMet_cell h hm hg ht hti j _ ?_⟩
  rw [hfl, AV.concs_eq, List.getElem?_map, hv]
  rfl
end Go.AE
