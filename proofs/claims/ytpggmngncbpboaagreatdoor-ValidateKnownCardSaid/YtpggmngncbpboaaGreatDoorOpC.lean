/- The engine, part 5: structs, arrays and slices that are built; places in them; parts of slices and strings. -/
import Derived.Test.YtpggmngncbpboaaGreatDoorOpB
namespace Go.AE
set_option linter.unusedSimpArgs false

/-! ### filling cells -/
def fillA (place : Nat → Option (Nat × Nat)) : List AV → List (Nat × AV) → Option (List AV)
  | cells, [] => some cells
  | cells, (i, v) :: rest =>
    match place i with
    | none => none
    | some (off, size) =>
      bif Nat.beq v.cells.length size && Nat.ble (off + v.cells.length) cells.length && v.plain then fillA place (updL cells off v.cells) rest
      else none

theorem foldl_set : ∀ (vals : List Value) (k off : Nat) (C : Array Value),
    ((vals.zipIdx k).foldl (fun (cs : Array Value) p => cs.setIfInBounds (off + p.2) p.1) C).size = C.size ∧
    ∀ j : Nat, j < C.size → ((vals.zipIdx k).foldl (fun (cs : Array Value) p => cs.setIfInBounds (off + p.2) p.1) C)[j]? =
      if off + k ≤ j ∧ j < off + k + vals.length then vals[j - (off + k)]? else C[j]? := by
  intro vals
  induction vals with
  | nil => intro k off C; exact ⟨rfl, fun j _ => by simp; omega⟩
  | cons v l ih =>
    intro k off C
    obtain ⟨h1, h2⟩ := ih (k + 1) off (C.setIfInBounds (off + k) v)
    simp only [List.zipIdx_cons, List.foldl_cons]
    refine ⟨by rw [h1]; simp, fun j hj => ?_⟩
    rw [h2 j (by simpa using hj)]
    by_cases e : off + (k + 1) ≤ j ∧ j < off + (k + 1) + l.length
    · rw [if_pos e, if_pos (by simp; omega)]
      rw [show j - (off + k) = (j - (off + (k + 1))) + 1 by omega, List.getElem?_cons_succ]
    · rw [if_neg e]
      by_cases e2 : j = off + k
      · subst e2; rw [if_pos (by simp)]; simp [hj]
      · rw [if_neg (by simp; omega), Array.getElem?_setIfInBounds_ne (by omega)]

theorem fold_updL (E : Env) (cells : List AV) (off : Nat) (vs : List AV) :
    ((AV.concs E vs).toArray.zipIdx.foldl (fun (cs : Array Value) (c, j) => cs.setIfInBounds (off + j) c) (AV.concs E cells).toArray) = (AV.concs E (updL cells off vs)).toArray := by
  rw [← Array.foldl_toList, Array.toList_zipIdx]
  obtain ⟨h1, h2⟩ := foldl_set (AV.concs E vs) 0 off (AV.concs E cells).toArray
  apply Array.ext_getElem?
  intro j
  by_cases hj : j < cells.length
  · rw [h2 j (by simpa [AV.concs_eq] using hj)]
    simp only [AV.concs_eq, List.length_map, Nat.add_zero, List.getElem?_toArray, List.getElem?_map, updL_get cells off vs j hj]
    split <;> rfl
  · rw [Array.getElem?_eq_none (by rw [h1]; simp [AV.concs_eq]; omega), Array.getElem?_eq_none (by simp [AV.concs_eq, updL_length]; omega)]

theorem run_fillA (E : Env) (place : Nat → Option (Nat × Nat)) : ∀ (parts : List (Nat × AV)) (cells r : List AV), fillA place cells parts = some r →
    Instr.fill place (AV.concs E cells).toArray (parts.map fun p => (p.1, p.2.conc E)) = some (AV.concs E r).toArray := by
  intro parts
  induction parts with
  | nil => intro cells r h; simp [fillA] at h; subst h; simp [Instr.fill]
  | cons p rest ih =>
    obtain ⟨i, v⟩ := p
    intro cells r h
    simp only [fillA] at h
    split at h
    · simp at h
    · rename_i off size hp
      cases hc : (Nat.beq v.cells.length size && Nat.ble (off + v.cells.length) cells.length && v.plain) with
      | false => rw [hc] at h; simp at h
      | true =>
        rw [hc] at h
        simp only [cond_true] at h
        simp only [Bool.and_eq_true] at hc
        obtain ⟨⟨h1, h2⟩, h3⟩ := hc
        have e1 := Nat.eq_of_beq_eq_true h1
        have e2 := Nat.le_of_ble_eq_true h2
        have e3 := AV.cells_conc' E v h3
        have e4 : (v.conc E).cells.size = v.cells.length := by rw [e3]; simp [AV.concs_eq]
        simp only [List.map_cons, Instr.fill, hp]
        rw [e4, if_neg (by simp [AV.concs_eq]; omega), e3, fold_updL]
        exact ih _ _ h

theorem fillA_sc {n : Nat} {place : Nat → Option (Nat × Nat)} : ∀ {parts : List (Nat × AV)} {cells r : List AV}, fillA place cells parts = some r → AV.scs n cells → (∀ p ∈ parts, p.2.sc n) → AV.scs n r
  | [], cells, r, h, hs, _ => by simp [fillA] at h; subst h; exact hs
  | (i, v) :: rest, cells, r, h, hs, hp => by
    simp only [fillA] at h
    split at h
    · simp at h
    · cases hc : (Nat.beq v.cells.length _ && Nat.ble (_ + v.cells.length) cells.length && v.plain) with
      | false => rw [hc] at h; simp at h
      | true =>
        rw [hc] at h
        simp only [cond_true] at h
        exact fillA_sc h (updL_sc _ _ _ hs (AV.cells_sc (hp (i, v) (by simp)))) (fun p hm => hp p (by simp [hm]))

/-! ### zero cells -/
def zerosA (z : List AV) (n : Nat) : List AV := (List.range n).map fun i => z.getD (i % z.length) (.tup [])

theorem zerosA_conc (E : Env) (z : List AV) (n : Nat) (hz : z ≠ [] ∨ n = 0) (f : Nat → Value)
    (hf : ∀ i, i < n → f i = ((AV.concs E z).toArray)[i % ((AV.concs E z).toArray).size]!) : (Array.range n).map f = (AV.concs E (zerosA z n)).toArray := by
  apply Array.ext_getElem?
  intro j
  simp only [zerosA, AV.concs_eq, List.map_map, List.getElem?_toArray, List.getElem?_map, Array.getElem?_map, Array.getElem?_range, List.getElem?_range']
  by_cases hj : j < n
  · rw [List.getElem?_range hj]
    simp only [hj, if_true, Option.map_some, Function.comp]
    rw [hf j hj]
    have hz' : z ≠ [] := by rcases hz with h | h; exact h; omega
    have hl : 0 < z.length := List.length_pos_iff.2 hz'
    have hm : j % z.length < z.length := Nat.mod_lt _ hl
    congr 1
    simp only [AV.concs_eq, List.size_toArray, List.length_map]
    rw [getElem!_pos _ _ (by simpa using hm)]
    simp [List.getD_eq_getElem?_getD, List.getElem?_eq_getElem hm]
  · rw [List.getElem?_eq_none (by simp; omega)]
    simp [hj]

theorem zerosA_sc {z : List AV} {n m : Nat} (h : AV.scs n z) : AV.scs n (zerosA z m) := by
  rw [AV.scs_iff]
  intro v hv
  obtain ⟨i, _, rfl⟩ := List.mem_map.1 hv
  rw [List.getD_eq_getElem?_getD]
  cases hx : z[i % z.length]? with
  | none => simp [AV.sc, AV.scs]
  | some x => exact scs_get h hx

/-! ### builds -/
noncomputable def placesO (P : Program) : List Field → Option (List (Nat × Nat))
  | [] => some []
  | f :: fs =>
    match sizeO P f.type, placesO P fs with
    | some k, some l => some ((f.offset, k) :: l)
    | _, _ => none

theorem run_places {P : Program} (w : World) : ∀ (fs : List Field) (l : List (Nat × Nat)), placesO P fs = some l →
    (fs.mapM (fun f => do pure (f.offset, ← sizeOf f.type) : Field → Sem (Nat × Nat))).run P w = .ok l w := by
  intro fs
  induction fs with
  | nil => intro l h; simp [placesO] at h; subst h; simp
  | cons f fs ih =>
    intro l h
    simp only [placesO] at h
    split at h
    · rename_i k l' hk hl'
      cases h
      simp only [List.mapM_cons, Sem.run_bind, run_sizeO w hk, Result.andThen_ok, Sem.run_pure, ih _ hl']
    · simp at h

noncomputable def buildO (P : Program) (t : TypeId) (parts : List (Nat × AV)) : Option AV :=
  match zeroO P t, P.underlying t with
  | some z, some (.struct fs) =>
    match placesO P fs.toList with
    | some pl => (fillA (fun i => pl[i]?) z.cells parts).map .agg
    | none => none
  | some z, some (.array _ elem) =>
    match sizeO P elem with
    | some k => (fillA (fun i => some (i * k, k)) z.cells parts).map .agg
    | none => none
  | _, _ => none

theorem run_buildO {P : Program} (E : Env) (w : World) (t : TypeId) (parts : List (Nat × AV)) (r : AV) (h : buildO P t parts = some r) :
    (Instr.build t (parts.map fun p => (p.1, p.2.conc E)).toArray).run P w = .ok (r.conc E) w := by
  unfold buildO at h
  split at h
  · rename_i z fs hz hu
    split at h
    · rename_i pl hpl
      simp only [Option.map_eq_some_iff] at h
      obtain ⟨c, hc, rfl⟩ := h
      have hz2 := AV.cells_conc' E z (zeroO_plain hz)
      have hpl' : (fs.mapM (fun f => do pure (f.offset, ← sizeOf f.type) : Field → Sem (Nat × Nat))).run P w = .ok pl.toArray w := by
        rw [Array.mapM_eq_mapM_toList]
        simp only [Sem.run_map, run_places w _ _ hpl, Result.andThen_ok]
      have hf := run_fillA E (fun i => pl[i]?) parts z.cells c hc
      simp only [Instr.build, Sem.run_bind, run_zeroO w E hz, Result.andThen_ok, run_underlying hu, hpl', hz2, List.toList_toArray, List.getElem?_toArray, hf, Sem.run_pure, AV.conc]
    · simp at h
  · rename_i z len elem hz hu
    split at h
    · rename_i k hk
      simp only [Option.map_eq_some_iff] at h
      obtain ⟨c, hc, rfl⟩ := h
      have hz2 := AV.cells_conc' E z (zeroO_plain hz)
      have hf := run_fillA E (fun i => some (i * k, k)) parts z.cells c hc
      simp only [Instr.build, Sem.run_bind, run_zeroO w E hz, Result.andThen_ok, run_underlying hu, run_sizeO w hk, hz2, hf, Sem.run_pure, AV.conc]
    · simp at h
  · simp at h

theorem buildO_sc {P : Program} {t : TypeId} {parts : List (Nat × AV)} {r : AV} {n : Nat} (h : buildO P t parts = some r) (hp : ∀ p ∈ parts, p.2.sc n) : r.sc n := by
  unfold buildO at h
  split at h
  · rename_i z fs hz hu
    split at h
    · simp only [Option.map_eq_some_iff] at h
      obtain ⟨c, hc, rfl⟩ := h
      exact fillA_sc hc (AV.cells_sc (zeroO_sc n hz)) hp
    · simp at h
  · rename_i z len elem hz hu
    split at h
    · simp only [Option.map_eq_some_iff] at h
      obtain ⟨c, hc, rfl⟩ := h
      exact fillA_sc hc (AV.cells_sc (zeroO_sc n hz)) hp
    · simp at h
  · simp at h

/-- The cells of a slice that is built. -/
noncomputable def buildSliceO (P : Program) (t : TypeId) (len : Nat) (parts : List (Nat × AV)) : Option (TypeId × List AV) :=
  match P.underlying t with
  | some (.slice elem) =>
    match sizeO P elem with
    | some k =>
      bif Nat.ble (len * k) 16777216 then
        bif Nat.beq (len * k) 0 then (fillA (fun i => some (i * k, k)) [] parts).map fun c => (elem, c)
        else
          match zeroO P elem with
          | some z => bif z.cells.isEmpty then none else (fillA (fun i => some (i * k, k)) (zerosA z.cells (len * k)) parts).map fun c => (elem, c)
          | none => none
      else none
    | none => none
  | _ => none

theorem run_buildSliceO {P : Program} (E : Env) (w : World) (t : TypeId) (len : Nat) (parts : List (Nat × AV)) (elem : TypeId) (c : List AV) (h : buildSliceO P t len parts = some (elem, c)) :
    (Instr.buildSlice t len (parts.map fun p => (p.1, p.2.conc E)).toArray).run P w =
      .ok (.slice (some ⟨w.heap.size, 0, none⟩) len len) (w.alloc (.cells (AV.concs E c).toArray elem)) := by
  unfold buildSliceO at h
  split at h
  · rename_i el hu
    split at h
    · rename_i k hk
      cases hb : Nat.ble (len * k) 16777216 with
      | false => rw [hb] at h; simp at h
      | true =>
        rw [hb] at h
        have hb' := Nat.le_of_ble_eq_true hb
        simp only [cond_true] at h
        cases h0 : Nat.beq (len * k) 0 with
        | true =>
          rw [h0] at h
          have h0' := Nat.eq_of_beq_eq_true h0
          simp only [cond_true, Option.map_eq_some_iff, Prod.mk.injEq] at h
          obtain ⟨c', hc, rfl, rfl⟩ := h
          have hf := run_fillA E (fun i => some (i * k, k)) parts [] c' hc
          simp only [Instr.buildSlice, Sem.run_bind, run_underlying hu, Result.andThen_ok, run_sizeO w hk, h0', List.toList_toArray]
          simp only [show ¬ (0 > 2 ^ 24) by omega, if_false, if_true, Sem.run_pure, Result.andThen_ok, Array.range_zero', Array.map_empty]
          rw [show (AV.concs E []).toArray = #[] by simp [AV.concs]] at hf
          simp [hf, newRow]
        | false =>
          rw [h0] at h
          have h0' : len * k ≠ 0 := fun e => by rw [e] at h0; simp at h0
          simp only [cond_false] at h
          split at h
          · rename_i z hz
            cases he : z.cells.isEmpty with
            | true => rw [he] at h; simp at h
            | false =>
              rw [he] at h
              simp only [cond_false, Option.map_eq_some_iff, Prod.mk.injEq] at h
              obtain ⟨c', hc, rfl, rfl⟩ := h
              have hf := run_fillA E (fun i => some (i * k, k)) parts _ c' hc
              have hz2 := AV.cells_conc' E z (zeroO_plain hz)
              have hne : z.cells ≠ [] := by intro e; rw [e] at he; simp at he
              have hzz := zerosA_conc E z.cells (len * k) (.inl hne) _ (fun i _ => rfl)
              simp only [Instr.buildSlice, Sem.run_bind, run_underlying hu, Result.andThen_ok, run_sizeO w hk, List.toList_toArray]
              rw [if_neg (by omega : ¬ len * k > 2 ^ 24), if_neg h0']
              simp only [Sem.run_pure, Result.andThen_ok, Sem.run_bind, run_zeroO w E hz, hz2, hzz, hf]
              simp [newRow]
          · simp at h
    · simp at h
  · simp at h

theorem buildSliceO_sc {P : Program} {t : TypeId} {len : Nat} {parts : List (Nat × AV)} {elem : TypeId} {c : List AV} {n : Nat} (h : buildSliceO P t len parts = some (elem, c))
    (hp : ∀ p ∈ parts, p.2.sc n) : AV.scs n c := by
  unfold buildSliceO at h
  split at h
  · split at h
    · rename_i k hk
      cases hb : Nat.ble (len * k) 16777216 with
      | false => rw [hb] at h; simp at h
      | true =>
        rw [hb] at h
        simp only [cond_true] at h
        cases h0 : Nat.beq (len * k) 0 with
        | true =>
          rw [h0] at h
          simp only [cond_true, Option.map_eq_some_iff, Prod.mk.injEq] at h
          obtain ⟨c', hc, rfl, rfl⟩ := h
          exact fillA_sc hc (by simp [AV.scs]) hp
        | false =>
          rw [h0] at h
          simp only [cond_false] at h
          split at h
          · rename_i z hz
            cases he : z.cells.isEmpty with
            | true => rw [he] at h; simp at h
            | false =>
              rw [he] at h
              simp only [cond_false, Option.map_eq_some_iff, Prod.mk.injEq] at h
              obtain ⟨c', hc, rfl, rfl⟩ := h
              exact fillA_sc hc (zerosA_sc (AV.cells_sc (zeroO_sc n hz))) hp
          · simp at h
    · simp at h
  · simp at h

/-! ### places -/
noncomputable def fieldAtO (P : Program) (s : TypeId) (x : AV) (field : Nat) : Option AV :=
  match P.underlying s with
  | some (.struct fs) =>
    match fs[field]?, x with
    | some f, .pt b o =>
      match sizeO P f.type with
      | some (_ + 1) => some (.pt b (o + f.offset))
      | _ => none
    | _, _ => none
  | _ => none

theorem run_fieldAtO {P : Program} (E : Env) (w : World) (s : TypeId) (x : AV) (field : Nat) (r : AV) (h : fieldAtO P s x field = some r) :
    (Instr.fieldAt s (x.conc E) field).run P w = .ok (r.conc E) w := by
  unfold fieldAtO at h
  split at h
  · rename_i fs hu
    split at h
    · rename_i f b o hf
      split at h
      · rename_i m hm
        cases h
        simp only [Instr.fieldAt, Sem.run_bind, run_underlying hu, Result.andThen_ok, hf, AV.conc, Instr.sureAddr, Sem.run_pure, fieldPlace, run_sizeO w hm, Sem.run_ite]
        rw [if_neg (Nat.succ_ne_zero m)]
        simp only [Result.andThen_ok, addr_add]
      · simp at h
    · simp at h
  · simp at h

theorem fieldAtO_sc {P : Program} {s : TypeId} {x : AV} {field n : Nat} {r : AV} (h : fieldAtO P s x field = some r) (hx : x.sc n) : r.sc n := by
  unfold fieldAtO at h
  split at h
  · split at h
    · split at h
      · cases h; exact hx
      · simp at h
    · simp at h
  · simp at h

noncomputable def fieldO (P : Program) (t : TypeId) (x : AV) (field : Nat) : Option AV :=
  match P.underlying t, x with
  | some (.struct fs), .agg cs =>
    match fs[field]? with
    | some f => partO P f.type cs f.offset
    | none => none
  | _, _ => none

theorem run_fieldO {P : Program} (E : Env) (w : World) (t : TypeId) (x : AV) (field : Nat) (r : AV) (h : fieldO P t x field = some r) :
    (Instr.field t (x.conc E) field).run P w = .ok (r.conc E) w := by
  unfold fieldO at h
  split at h
  · rename_i fs cs hu
    split at h
    · rename_i f hf
      simp only [Instr.field, Sem.run_bind, run_underlying hu, Result.andThen_ok, hf, AV.conc, asAgg, Sem.run_pure]
      exact run_partO E w h
    · simp at h
  · simp at h

theorem fieldO_sc {P : Program} {t : TypeId} {x : AV} {field n : Nat} {r : AV} (h : fieldO P t x field = some r) (hx : x.sc n) : r.sc n := by
  unfold fieldO at h
  split at h
  · split at h
    · exact partO_sc hx h
    · simp at h
  · simp at h

noncomputable def indexAtO (P : Program) (t : TypeId) (x ix : AV) : Option AV :=
  match P.underlying t, x, ix with
  | some (.array len elem), .pt b o, .nt _ (.ofNat i) =>
    match sizeO P elem with
    | some k => bif Nat.blt i len then some (.pt b (o + i * k)) else none
    | none => none
  | some (.slice elem), .sl b o len _, .nt _ (.ofNat i) =>
    match sizeO P elem with
    | some k => bif Nat.blt i len then some (.pt b (o + i * k)) else none
    | none => none
  | _, _, _ => none

theorem run_indexAtO {P : Program} (E : Env) (w : World) (t : TypeId) (x ix r : AV) (h : indexAtO P t x ix = some r) :
    (Instr.indexAt t (x.conc E) (ix.conc E)).run P w = .ok (r.conc E) w := by
  unfold indexAtO at h
  split at h
  · rename_i len elem b o k' i hu
    split at h
    · rename_i k hk
      cases hl : Nat.blt i len with
      | false => rw [hl] at h; simp at h
      | true =>
        rw [hl] at h
        have hlt := lt_of_blt hl
        simp only [cond_true, Option.some.injEq] at h
        subst h
        simp only [Instr.indexAt, AV.conc, asIntOf, Sem.run_bind, Sem.run_pure, Result.andThen_ok, run_underlying hu, Instr.sureAddr]
        simp only [Sem.run_ite]
        rw [if_pos ⟨Int.natCast_nonneg i, by show (i : Int) < len; omega⟩]
        simp only [Sem.run_bind, run_sizeO w hk, Result.andThen_ok, Sem.run_pure, addr_add]
        rfl
    · simp at h
  · rename_i elem b o len c k' i hu
    split at h
    · rename_i k hk
      cases hl : Nat.blt i len with
      | false => rw [hl] at h; simp at h
      | true =>
        rw [hl] at h
        have hlt := lt_of_blt hl
        simp only [cond_true, Option.some.injEq] at h
        subst h
        simp only [Instr.indexAt, AV.conc, asIntOf, Sem.run_bind, Sem.run_pure, Result.andThen_ok, run_underlying hu, Instr.sureAddr]
        simp only [Sem.run_ite]
        rw [if_pos ⟨Int.natCast_nonneg i, by show (i : Int) < len; omega⟩]
        simp only [Sem.run_bind, run_sizeO w hk, Result.andThen_ok, Sem.run_pure, addr_add]
        rfl
    · simp at h
  · simp at h

theorem indexAtO_sc {P : Program} {t : TypeId} {x ix r : AV} {n : Nat} (h : indexAtO P t x ix = some r) (hx : x.sc n) : r.sc n := by
  unfold indexAtO at h
  split at h
  · split at h
    · cases hl : Nat.blt _ _ with
      | false => rw [hl] at h; simp at h
      | true => rw [hl] at h; simp only [cond_true, Option.some.injEq] at h; subst h; exact hx
    · simp at h
  · split at h
    · cases hl : Nat.blt _ _ with
      | false => rw [hl] at h; simp at h
      | true => rw [hl] at h; simp only [cond_true, Option.some.injEq] at h; subst h; exact hx
    · simp at h
  · simp at h

noncomputable def indexO (P : Program) (t : TypeId) (x ix : AV) : Option AV :=
  match P.underlying t, x, ix with
  | some (.array len elem), .agg cs, .nt _ (.ofNat i) =>
    match sizeO P elem with
    | some k => bif Nat.blt i len then partO P elem cs (i * k) else none
    | none => none
  | some .string, .st l, .nt _ (.ofNat i) => (l[i]?).map fun c => .nt .u8 (.ofNat c.toNat)
  | _, _, _ => none

theorem run_indexO {P : Program} (E : Env) (w : World) (t : TypeId) (x ix r : AV) (h : indexO P t x ix = some r) :
    (Instr.index t (x.conc E) (ix.conc E)).run P w = .ok (r.conc E) w := by
  unfold indexO at h
  split at h
  · rename_i len elem cs k' i hu
    split at h
    · rename_i k hk
      cases hl : Nat.blt i len with
      | false => rw [hl] at h; simp at h
      | true =>
        rw [hl] at h
        have hlt := lt_of_blt hl
        simp only [cond_true] at h
        simp only [Instr.index, AV.conc, asIntOf, Sem.run_bind, Sem.run_pure, Result.andThen_ok, run_underlying hu]
        simp only [Sem.run_ite]
        rw [if_pos ⟨Int.natCast_nonneg i, by show (i : Int) < len; omega⟩]
        simp only [Sem.run_bind, run_sizeO w hk, Result.andThen_ok]
        exact run_partO E w h
    · simp at h
  · rename_i l k' i hu
    simp only [Option.map_eq_some_iff] at h
    obtain ⟨c, hc, rfl⟩ := h
    have hlt : i < l.length := by
      rcases Nat.lt_or_ge i l.length with h1 | h1
      · exact h1
      · rw [List.getElem?_eq_none h1] at hc; simp at hc
    have hcc : ((⟨l.toArray⟩ : ByteArray)[(Int.ofNat i).toNat]?) = some c := by
      show ((⟨l.toArray⟩ : ByteArray)[i]?) = some c
      rw [getElem?_pos (⟨l.toArray⟩ : ByteArray) i (by simpa [ByteArray.size] using hlt)]
      rw [List.getElem?_eq_getElem hlt] at hc
      cases hc
      rfl
    simp only [Instr.index, AV.conc, asIntOf, Sem.run_bind, Sem.run_pure, Result.andThen_ok, run_underlying hu]
    rw [if_pos (show 0 ≤ Int.ofNat i from Int.natCast_nonneg i), hcc]
    rfl
  · simp at h

theorem indexO_sc {P : Program} {t : TypeId} {x ix r : AV} {n : Nat} (h : indexO P t x ix = some r) (hx : x.sc n) : r.sc n := by
  unfold indexO at h
  split at h
  · split at h
    · cases hl : Nat.blt _ _ with
      | false => rw [hl] at h; simp at h
      | true => rw [hl] at h; simp only [cond_true] at h; exact partO_sc hx h
    · simp at h
  · simp only [Option.map_eq_some_iff] at h
    obtain ⟨c, _, rfl⟩ := h
    simp [AV.sc]
  · simp at h

end Go.AE
