/- The engine, part 9: maps, ranges over strings, bytes seen as a string. -/
import Derived.Test.YtpggmngncbpboaaGreatDoorOpF
namespace Go.AE
set_option linter.unusedSimpArgs false

/-! ### maps whose keys are strings, whole numbers or bools -/
def keyEqA : AV → AV → Option Bool
  | .st a, .st b => some (a == b)
  | .nt k a, .nt k' b => if k = k' then some (a == b) else none
  | .bo a, .bo b => some (a == b)
  | _, _ => none

def findA (k : AV) : List (AV × AV × Nat) → Nat → Option (Option (Nat × AV))
  | [], _ => some none
  | e :: es, i =>
    match keyEqA k e.1 with
    | some true => some (some (i, e.2.1))
    | some false => findA k es (i + 1)
    | none => none

/-- Is it a key of a plain kind, of a key type of that kind? -/
noncomputable def keyOkA (P : Program) (t : TypeId) (k : AV) : Bool :=
  match P.underlying t, k with
  | some .string, .st _ => true
  | some (.int _), .nt _ _ => true
  | some .bool, .bo _ => true
  | _, _ => false

theorem beq_bytes (a b : List UInt8) : ((⟨a.toArray⟩ : ByteArray) == ⟨b.toArray⟩) = (a == b) := by rw [beq_toListBytes, bytes_toList, bytes_toList]

theorem run_keyOk' {P : Program} (E : Env) (w : World) (empty : Bool) (d : Nat) (t : TypeId) (k : AV) (h : keyOkA P t k = true) : (Instr.checkKey empty (d + 1) t (k.conc E)).run P w = .ok () w := by
  unfold keyOkA at h
  split at h
  · rename_i hu; simp [Instr.checkKey, run_underlying hu, AV.conc]
  · rename_i hu; simp [Instr.checkKey, run_underlying hu, AV.conc]
  · rename_i hu; simp [Instr.checkKey, run_underlying hu, AV.conc]
  · simp at h

theorem run_keyOk {P : Program} (E : Env) (w : World) (empty : Bool) (t : TypeId) (k : AV) (h : keyOkA P t k = true) : (Instr.checkKey empty 10000 t (k.conc E)).run P w = .ok () w :=
  run_keyOk' E w empty 9999 t k h

theorem sameNow_keyEq {P : Program} (E : Env) (t : TypeId) (d : TypeDesc) (hu : P.underlying t = some d) (k x : AV) (hk : keyOkA P t k = true) (r : Bool) (h : keyEqA k x = some r) :
    Instr.sameNow d (k.conc E) (x.conc E) = some r := by
  unfold keyOkA at hk
  rw [hu] at hk
  split at hk
  · rename_i e; cases e
    cases x <;> simp [keyEqA] at h
    subst h
    simp only [AV.conc, Instr.sameNow, beq_bytes]
  · rename_i e; cases e
    cases x <;> simp [keyEqA] at h
    obtain ⟨rfl, rfl⟩ := h
    simp [AV.conc, Instr.sameNow]
  · rename_i e; cases e
    cases x <;> simp [keyEqA] at h
    subst h
    simp [AV.conc, Instr.sameNow]
  · simp at hk

theorem run_findA {P : Program} (E : Env) (t : TypeId) (d : TypeDesc) (hu : P.underlying t = some d) (k : AV) (hk : keyOkA P t k = true) : ∀ (es : List (AV × AV × Nat)) (i : Nat) (r : Option (Nat × AV)),
    findA k es i = some r → Instr.findNow d (k.conc E) (es.map (entryOf E)) i = some (r.map fun p => (p.1, p.2.conc E)) := by
  intro es
  induction es with
  | nil => intro i r h; simp [findA] at h; subst h; simp [Instr.findNow]
  | cons e es ih =>
    intro i r h
    simp only [findA] at h
    split at h
    · rename_i he
      cases h
      have := sameNow_keyEq E t d hu k e.1 hk true he
      simp [Instr.findNow, entryOf, this]
    · rename_i he
      have := sameNow_keyEq E t d hu k e.1 hk false he
      simp only [List.map_cons, Instr.findNow, entryOf, this]
      exact ih _ _ h
    · simp at h

theorem run_findKey {P : Program} (E : Env) (w : World) (t : TypeId) (k : AV) (hk : keyOkA P t k = true) (es : List (AV × AV × Nat)) (r : Option (Nat × AV)) (h : findA k es 0 = some r) :
    (Instr.findKey t (k.conc E) (es.map (entryOf E))).run P w = .ok (r.map fun p => (p.1, p.2.conc E)) w := by
  have hu : ∃ d, P.underlying t = some d := by
    unfold keyOkA at hk
    cases hu : P.underlying t with
    | none => rw [hu] at hk; simp at hk
    | some d => exact ⟨d, rfl⟩
  obtain ⟨d, hu⟩ := hu
  simp only [Instr.findKey, Sem.run_bind, run_underlying hu, Result.andThen_ok, run_findA E t d hu k hk es 0 r h, Sem.run_pure]

noncomputable def lookupO (P : Program) (H : Heap) (t : TypeId) (x ix : AV) (ok : Bool) : Option AV :=
  match P.underlying t with
  | some (.map key elem) =>
    bif keyOkA P key ix then
      match (match x with
        | .mn => some []
        | .mp b => match H.get b with | some (.map es _) => some es | _ => none
        | _ => none) with
      | some es =>
        match findA ix es 0 with
        | some (some (_, v)) => some (bif ok then .tup [v, .bo true] else v)
        | some none =>
          match zeroO P elem with
          | some z => some (bif ok then .tup [z, .bo false] else z)
          | none => none
        | none => none
      | none => none
    else none
  | _ => none

theorem run_lookupO {P : Program} {G : Nat} {E : Env} {H : Heap} {n : Nat} {w : World} (hs : Sim G E H n w) (t : TypeId) (x ix : AV) (ok : Bool) (r : AV) (h : lookupO P H t x ix ok = some r) :
    (Instr.lookup t (x.conc E) (ix.conc E) ok).run P w = .ok (r.conc E) w := by
  unfold lookupO at h
  split at h
  · rename_i key elem hu
    cases hk : keyOkA P key ix with
    | false => rw [hk] at h; simp at h
    | true =>
      rw [hk] at h
      simp only [cond_true] at h
      split at h
      · rename_i es hes
        have main : ∀ (empty : Bool), ((do
            Instr.checkKey empty 10000 key (ix.conc E)
            let (v, o) ← match ← Instr.findKey key (ix.conc E) (es.map (entryOf E)) with
              | some (_, v) => pure (v, true)
              | none => pure (← zeroValue elem, false)
            pure (if ok then .tuple #[v, .bool o] else v)) : Sem Value).run P w = .ok (r.conc E) w := by
          intro empty
          split at h
          · rename_i i v hf
            cases h
            simp only [Sem.run_bind, run_keyOk E w empty key ix hk, Result.andThen_ok, run_findKey E w key ix hk es _ hf, Option.map_some, Sem.run_pure]
            cases ok <;> simp [AV.conc, AV.concs]
          · rename_i hf
            split at h
            · rename_i z hz
              cases h
              simp only [Sem.run_bind, run_keyOk E w empty key ix hk, Result.andThen_ok, run_findKey E w key ix hk es _ hf, Option.map_none, Sem.run_pure, run_zeroO w E hz]
              cases ok <;> simp [AV.conc, AV.concs]
            · simp at h
          · simp at h
        split at hes
        · cases hes
          have := main true
          simp only [List.map_nil] at this
          simp only [Instr.lookup, Sem.run_bind, run_underlying hu, Result.andThen_ok, AV.conc, Sem.run_pure] at this ⊢
          exact this
        · rename_i b
          split at hes
          · rename_i es' clock hg
            cases hes
            have hrel : w.heap[E.ρ b]? = some (.map (es.map (entryOf E)).toArray clock) := hs.rel b _ hg
            have hgo : (getObj (E.ρ b)).run P w = .ok (.map (es.map (entryOf E)).toArray clock) w := by simp [getObj, Sem.run, hrel]
            have := main ((es.map (entryOf E)).toArray.isEmpty)
            simp only [Instr.lookup, Sem.run_bind, run_underlying hu, Result.andThen_ok, AV.conc, Sem.run_pure, hgo] at this ⊢
            exact this
          · simp at hes
        · simp at hes
      · simp at h
  · simp at h

theorem findA_sc {n : Nat} {k : AV} : ∀ {es : List (AV × AV × Nat)} {i : Nat} {j : Nat} {v : AV}, findA k es i = some (some (j, v)) → (∀ e ∈ es, e.1.sc n ∧ e.2.1.sc n) → v.sc n
  | [], _, _, _, h, _ => by simp [findA] at h
  | e :: es, i, j, v, h, hs => by
    simp only [findA] at h
    split at h
    · simp only [Option.some.injEq, Prod.mk.injEq] at h
      obtain ⟨_, rfl⟩ := h
      exact (hs e (by simp)).2
    · exact findA_sc h fun x hx => hs x (by simp [hx])
    · simp at h

theorem lookupO_sc {P : Program} {G : Nat} {E : Env} {H : Heap} {n : Nat} {w : World} (hs : Sim G E H n w) {t : TypeId} {x ix : AV} {ok : Bool} {r : AV} (h : lookupO P H t x ix ok = some r) : r.sc n := by
  unfold lookupO at h
  split at h
  · rename_i key elem hu
    cases hk : keyOkA P key ix with
    | false => rw [hk] at h; simp at h
    | true =>
      rw [hk] at h
      simp only [cond_true] at h
      split at h
      · rename_i es hes
        have hsc : ∀ e ∈ es, e.1.sc n ∧ e.2.1.sc n := by
          split at hes
          · cases hes; simp
          · rename_i b
            split at hes
            · rename_i es' clock hg; cases hes; exact hs.sc b _ hg
            · simp at hes
          · simp at hes
        split at h
        · rename_i i v hf
          cases h
          have := findA_sc hf hsc
          cases ok <;> simp [AV.sc, AV.scs, this]
        · split at h
          · rename_i z hz
            cases h
            have := zeroO_sc n hz
            cases ok <;> simp [AV.sc, AV.scs, this]
          · simp at h
        · simp at h
      · simp at h
  · simp at h

def putA (k v : AV) : List (AV × AV × Nat) → Nat → List (AV × AV × Nat)
  | [], _ => []
  | e :: es, 0 => (k, v, e.2.2) :: es
  | e :: es, i + 1 => e :: putA k v es i

theorem putA_map (E : Env) (k v : AV) : ∀ (es : List (AV × AV × Nat)) (i : Nat),
    ((putA k v es i).map (entryOf E)).toArray = ((es.map (entryOf E)).toArray).modify i fun e => { e with key := k.conc E, val := v.conc E } := by
  intro es i
  apply Array.ext'
  rw [Array.toList_modify]
  simp only [List.toList_toArray]
  induction es generalizing i with
  | nil => simp [putA]
  | cons e es ih =>
    cases i with
    | zero => simp [putA, entryOf]
    | succ i => simp [putA, ih]

noncomputable def mapPutO (P : Program) (H : Heap) (t : TypeId) (m k v : AV) : Option Heap :=
  match P.underlying t, m with
  | some (.map key _), .mp b =>
    bif keyOkA P key k then
      match H.get b with
      | some (.map es clock) =>
        match findA k es 0 with
        | some (some (i, _)) => some (H.set b (.map (putA k v es i) clock))
        | some none => some (H.set b (.map (es ++ [(k, v, clock)]) (clock + 1)))
        | none => none
      | _ => none
    else none
  | _, _ => none

theorem findA_lt {k : AV} : ∀ {es : List (AV × AV × Nat)} {i j : Nat} {v : AV}, findA k es i = some (some (j, v)) → i ≤ j ∧ ∃ e, es[j - i]? = some e ∧ keyEqA k e.1 = some true
  | [], _, _, _, h => by simp [findA] at h
  | e :: es, i, j, v, h => by
    simp only [findA] at h
    split at h
    · rename_i he
      simp only [Option.some.injEq, Prod.mk.injEq] at h
      obtain ⟨rfl, rfl⟩ := h
      exact ⟨Nat.le_refl _, e, by simp, he⟩
    · obtain ⟨h1, e', h2, h3⟩ := findA_lt h
      refine ⟨by omega, e', ?_, h3⟩
      rw [show j - i = (j - (i + 1)) + 1 by omega, List.getElem?_cons_succ]
      exact h2
    · simp at h

theorem run_mapPutO {P : Program} {G : Nat} {E : Env} {H : Heap} {n : Nat} {w : World} (hs : Sim G E H n w) (t : TypeId) (m k v : AV) (H' : Heap) (hk : k.sc n) (hv : v.sc n) (h : mapPutO P H t m k v = some H') :
    ∃ w', (Instr.mapUpdate t (m.conc E) (k.conc E) (v.conc E)).run P w = .ok () w' ∧ Sim G E H' n w' ∧ Moves E H n w E H' n w' := by
  unfold mapPutO at h
  split at h
  · rename_i key elem b hu
    cases hkey : keyOkA P key k with
    | false => rw [hkey] at h; simp at h
    | true =>
      rw [hkey] at h
      simp only [cond_true] at h
      split at h
      · rename_i es clock hg
        have hrel : w.heap[E.ρ b]? = some (.map (es.map (entryOf E)).toArray clock) := hs.rel b _ hg
        have hgo : (getObj (E.ρ b)).run P w = .ok (.map (es.map (entryOf E)).toArray clock) w := by simp [getObj, Sem.run, hrel]
        have hso : ∀ o, (setObj (E.ρ b) o).run P w = .ok () { w with heap := w.heap.setIfInBounds (E.ρ b) o } := by intro o; simp [setObj, Sem.run, hrel]
        have hes := hs.sc b _ hg
        split at h
        · rename_i i v0 hf
          cases h
          obtain ⟨_, e, he, hke⟩ := findA_lt hf
          have he' : ((es.map (entryOf E)).toArray)[i]? = some (entryOf E e) := by simp only [List.getElem?_toArray, List.getElem?_map]; simp only [Nat.sub_zero] at he; rw [he]; rfl
          have hsb : Instr.sameBits 10000 (e.1.conc E) (k.conc E) = true := by
            unfold keyOkA at hkey
            cases k <;> cases he1 : e.1 <;> rw [he1] at hke <;> simp [keyEqA] at hke <;> simp_all [AV.conc, Instr.sameBits, beq_bytes]
          obtain ⟨k1, k2⟩ := sim_setObj hs b _ (.map (putA k v es i) clock) (.map (((es.map (entryOf E)).toArray).modify i fun e => { e with key := k.conc E, val := v.conc E }) clock) hg (by
            intro q hq
            have : ∀ (es : List (AV × AV × Nat)) (i : Nat), (∀ e ∈ es, e.1.sc n ∧ e.2.1.sc n) → ∀ e ∈ putA k v es i, e.1.sc n ∧ e.2.1.sc n := by
              intro es
              induction es with
              | nil => intro i _ e he; simp [putA] at he
              | cons x es ih =>
                intro i hx e he
                cases i with
                | zero =>
                  simp only [putA, List.mem_cons] at he
                  rcases he with rfl | he
                  · exact ⟨hk, hv⟩
                  · exact hx e (by simp [he])
                | succ i =>
                  simp only [putA, List.mem_cons] at he
                  rcases he with rfl | he
                  · exact hx _ (by simp)
                  · exact ih i (fun y hy => hx y (by simp [hy])) e he
            exact this es i hes q hq) (by
            intro w' hw'
            simp only [Blk.rel, putA_map]
            exact hw')
          refine ⟨_, ?_, k1, k2⟩
          simp only [Instr.mapUpdate, Sem.run_bind, run_underlying hu, Result.andThen_ok, AV.conc, hgo, run_keyOk E w false key k hkey, run_findKey E w key k hkey es _ hf, Option.map_some, he', Option.map_some, Option.getD_some]
          simp only [Instr.keyThatStays, entryOf, hsb, if_true, Sem.run_pure, Result.andThen_ok, hso]
        · rename_i hf
          cases h
          obtain ⟨k1, k2⟩ := sim_setObj hs b _ (.map (es ++ [(k, v, clock)]) (clock + 1)) (.map (((es.map (entryOf E)).toArray).push { key := k.conc E, val := v.conc E, born := clock }) (clock + 1)) hg (by
            intro q hq
            rcases List.mem_append.1 hq with hq | hq
            · exact hes q hq
            · simp only [List.mem_singleton] at hq; subst hq; exact ⟨hk, hv⟩) (by
            intro w' hw'
            simp only [Blk.rel]
            rw [hw']
            simp [entryOf])
          refine ⟨_, ?_, k1, k2⟩
          simp only [Instr.mapUpdate, Sem.run_bind, run_underlying hu, Result.andThen_ok, AV.conc, hgo, run_keyOk E w false key k hkey, run_findKey E w key k hkey es _ hf, Option.map_none, hso]
        · simp at h
      · simp at h
  · simp at h

/-! ### ranges over strings -/
noncomputable def nextO (H : Heap) (x : AV) : Option (AV × Heap) :=
  match x with
  | .pt b 0 =>
    match H.get b with
    | some (.iter l pos) =>
      bif Nat.blt pos l.length then
        some (.tup [.bo true, .nt .i64 (.ofNat pos), .nt .i32 (.ofNat (Utf8.decode ⟨l.toArray⟩ pos).1)], H.set b (.iter l (pos + (Utf8.decode ⟨l.toArray⟩ pos).2)))
      else some (.tup [.bo false], H)
    | _ => none
  | _ => none

theorem run_nextO {P : Program} {G : Nat} {E : Env} {H : Heap} {n : Nat} {w : World} (hs : Sim G E H n w) (x : AV) (ty : TypeId) (r : AV) (H' : Heap) (h : nextO H x = some (r, H')) :
    ∃ w', (Instr.next (x.conc E) true ty).run P w = .ok (r.conc E) w' ∧ Sim G E H' n w' ∧ Moves E H n w E H' n w' ∧ r.sc n := by
  unfold nextO at h
  split at h
  · rename_i b
    split at h
    · rename_i l pos hg
      have hrel : w.heap[E.ρ b]? = some (.stringIter ⟨l.toArray⟩ pos) := hs.rel b _ hg
      have hgo : (getObj (E.ρ b)).run P w = .ok (.stringIter ⟨l.toArray⟩ pos) w := by simp [getObj, Sem.run, hrel]
      have hso : ∀ o, (setObj (E.ρ b) o).run P w = .ok () { w with heap := w.heap.setIfInBounds (E.ρ b) o } := by intro o; simp [setObj, Sem.run, hrel]
      have hsz : (⟨l.toArray⟩ : ByteArray).size = l.length := by simp [ByteArray.size]
      cases hl : Nat.blt pos l.length with
      | true =>
        rw [hl] at h
        have hl' := lt_of_blt hl
        simp only [cond_true, Option.some.injEq, Prod.mk.injEq] at h
        obtain ⟨rfl, rfl⟩ := h
        obtain ⟨k1, k2⟩ := sim_setObj hs b _ (.iter l (pos + (Utf8.decode ⟨l.toArray⟩ pos).2)) (.stringIter ⟨l.toArray⟩ (pos + (Utf8.decode ⟨l.toArray⟩ pos).2)) hg trivial (fun w' hw' => hw')
        refine ⟨_, ?_, k1, k2, by simp [AV.sc, AV.scs]⟩
        simp only [Instr.next, AV.conc, Sem.run_bind, hgo, Result.andThen_ok, hsz, hl', if_true, hso, Sem.run_pure, goInt]
        simp [AV.concs, AV.conc]
      | false =>
        rw [hl] at h
        have hl' : ¬ pos < l.length := fun e => by
          have : Nat.blt pos l.length = true := Nat.ble_eq_true_of_le e
          rw [this] at hl; simp at hl
        simp only [cond_false, Option.some.injEq, Prod.mk.injEq] at h
        obtain ⟨rfl, rfl⟩ := h
        refine ⟨w, ?_, hs, Moves.refl E H n w, by simp [AV.sc, AV.scs]⟩
        simp only [Instr.next, AV.conc, Sem.run_bind, hgo, Result.andThen_ok, hsz, hl', if_false, Sem.run_pure]
        simp [AV.concs, AV.conc]
    · simp at h
  · simp at h

end Go.AE
