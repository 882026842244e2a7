/- The engine, part 3: the operations that only compute: constants, numbers, strings, comparisons, conversions of numbers. -/
import Derived.Test.YtpggmngncbpboaaGreatDoorMem
import Derived.Laws.StructEq
import Derived.Laws.Strings
namespace Go.AE

/-! ### constants -/
def AV.ofScalar : Value → AV
  | .bool b => .bo b
  | .int k n => .nt k n
  | .string s => .st s.data.toList
  | .pointer none => .pn
  | .slice none 0 0 => .sn
  | .map none => .mn
  | .func (.func g) ⟨[]⟩ ⟨[]⟩ => .fu g [] []
  | .nilFunc => .fn
  | .nilIface => .ifn
  | v => .raw v

def AV.ofConst : Value → AV
  | .agg cs => .agg (cs.toList.map AV.ofScalar)
  | .tuple vs => .tup (vs.toList.map AV.ofScalar)
  | v => AV.ofScalar v

theorem AV.ofScalar_conc (E : Env) (v : Value) : (AV.ofScalar v).conc E = v := by
  unfold AV.ofScalar
  split <;> simp [AV.conc, AV.concs]

theorem AV.ofScalar_sc (n : Nat) (v : Value) : (AV.ofScalar v).sc n := by
  unfold AV.ofScalar
  split <;> simp [AV.sc, AV.scs]

theorem AV.ofConst_conc (E : Env) (v : Value) : (AV.ofConst v).conc E = v := by
  unfold AV.ofConst
  split
  · simp only [AV.conc, AV.concs_eq, List.map_map]
    congr 1
    rename_i cs
    rw [show (AV.conc E ∘ AV.ofScalar) = id from funext fun x => AV.ofScalar_conc E x]; simp
  · simp only [AV.conc, AV.concs_eq, List.map_map]
    congr 1
    rw [show (AV.conc E ∘ AV.ofScalar) = id from funext fun x => AV.ofScalar_conc E x]; simp
  · exact AV.ofScalar_conc E v

theorem AV.ofConst_sc (n : Nat) (v : Value) : (AV.ofConst v).sc n := by
  unfold AV.ofConst
  split
  · simp only [AV.sc, AV.scs_iff]
    intro x hx
    obtain ⟨y, _, rfl⟩ := List.mem_map.1 hx
    exact AV.ofScalar_sc n y
  · simp only [AV.sc, AV.scs_iff]
    intro x hx
    obtain ⟨y, _, rfl⟩ := List.mem_map.1 hx
    exact AV.ofScalar_sc n y
  · exact AV.ofScalar_sc n v

theorem AV.cells_conc (E : Env) (v : AV) (h : ∀ w, v = .raw w → ∀ cs, w ≠ .agg cs) : (v.conc E).cells = (AV.concs E v.cells).toArray := by
  cases v with
  | agg cs => simp [AV.conc, AV.cells, Value.cells]
  | raw w =>
    have := h w rfl
    cases w <;> simp [AV.conc, AV.concs, AV.cells, Value.cells] at *
  | _ => simp [AV.conc, AV.concs, AV.cells, Value.cells]

/-- No aggregate is hidden in a raw value. -/
def AV.plain : AV → Bool
  | .raw (.agg _) => false
  | _ => true

theorem AV.cells_conc' (E : Env) (v : AV) (h : v.plain = true) : (v.conc E).cells = (AV.concs E v.cells).toArray :=
  AV.cells_conc E v fun w hw cs hc => by subst hw; subst hc; simp [AV.plain] at h

theorem AV.cells_sc {n : Nat} {v : AV} (h : v.sc n) : AV.scs n v.cells := by
  cases v <;> simp_all [AV.sc, AV.cells, AV.scs]

/-! ### types -/
noncomputable def sizeO (P : Program) (t : TypeId) : Option Nat := (P.info? t).map (·.size)
noncomputable def aggO (P : Program) (t : TypeId) : Option Bool :=
  (P.underlying t).map fun
    | .struct _ => true
    | .array _ _ => true
    | _ => false
noncomputable def zeroO (P : Program) (t : TypeId) : Option AV := (P.info? t).bind fun i => i.zero.map AV.ofConst

section
variable {P : Program} {t : TypeId} (w : World)
theorem run_sizeO {k : Nat} (h : sizeO P t = some k) : (sizeOf t).run P w = .ok k w := by
  unfold sizeO at h
  cases hi : P.info? t with
  | none => rw [hi] at h; simp at h
  | some i => rw [hi] at h; simp at h; simp [sizeOf, typeInfo, hi, h]
theorem run_aggO {b : Bool} (h : aggO P t = some b) : (isAgg t).run P w = .ok b w := by
  unfold aggO at h
  cases hu : P.underlying t with
  | none => rw [hu] at h; simp at h
  | some d =>
    rw [hu] at h
    simp only [Option.map_some, Option.some.injEq] at h
    subst h
    simp only [isAgg, Sem.run_bind, run_underlying hu, Result.andThen_ok]
    cases d <;> rfl
theorem run_zeroO {v : AV} (E : Env) (h : zeroO P t = some v) : (zeroValue t).run P w = .ok (v.conc E) w := by
  unfold zeroO at h
  cases hi : P.info? t with
  | none => rw [hi] at h; simp at h
  | some i =>
    rw [hi] at h
    simp only [Option.bind_some, Option.map_eq_some_iff] at h
    obtain ⟨z, hz, rfl⟩ := h
    simp [zeroValue, typeInfo, hi, hz, AV.ofConst_conc]
end

theorem ofScalar_plain (v : Value) (h : ∀ cs, v ≠ .agg cs) : (AV.ofScalar v).plain = true := by
  unfold AV.plain
  split
  · rename_i x cs hx
    have h2 := AV.ofScalar_conc ⟨id, id, fun _ => LoopC.nil⟩ v
    rw [hx] at h2
    exact absurd h2.symm (h cs)
  · rfl

theorem ofConst_plain (v : Value) : (AV.ofConst v).plain = true := by
  unfold AV.ofConst
  split
  · rfl
  · rfl
  · rename_i h1 h2
    exact ofScalar_plain v h1

theorem zeroO_plain {P : Program} {t : TypeId} {v : AV} (h : zeroO P t = some v) : v.plain = true := by
  unfold zeroO at h
  cases hi : P.info? t with
  | none => rw [hi] at h; simp at h
  | some i =>
    rw [hi] at h
    simp only [Option.bind_some, Option.map_eq_some_iff] at h
    obtain ⟨z, hz, rfl⟩ := h
    exact ofConst_plain z

theorem zeroO_sc {P : Program} {t : TypeId} {v : AV} (n : Nat) (h : zeroO P t = some v) : v.sc n := by
  unfold zeroO at h
  cases hi : P.info? t with
  | none => rw [hi] at h; simp at h
  | some i =>
    rw [hi] at h
    simp only [Option.bind_some, Option.map_eq_some_iff] at h
    obtain ⟨z, hz, rfl⟩ := h
    exact AV.ofConst_sc n z

/-- A part of an aggregate's cells. -/
noncomputable def partO (P : Program) (t : TypeId) (cs : List AV) (off : Nat) : Option AV :=
  match aggO P t with
  | some true =>
    match sizeO P t with
    | some k => if Nat.beq ((cs.drop off).take k).length k then some (.agg ((cs.drop off).take k)) else none
    | none => none
  | some false => cs[off]?
  | none => none

theorem extract_conc (E : Env) (cs : List AV) (off k : Nat) : ((AV.concs E cs).toArray).extract off (off + k) = (AV.concs E ((cs.drop off).take k)).toArray := by
  simp [AV.concs_eq, List.map_take, List.map_drop]

theorem run_partO {P : Program} {t : TypeId} {cs : List AV} {off : Nat} {v : AV} (E : Env) (w : World) (h : partO P t cs off = some v) :
    (part t (AV.concs E cs).toArray off).run P w = .ok (v.conc E) w := by
  unfold partO at h
  split at h
  · rename_i ha
    split at h
    · rename_i k hk
      split at h
      · cases h
        simp only [part, Sem.run_bind, run_aggO w ha, Result.andThen_ok, if_true, run_sizeO w hk, Sem.run_pure, AV.conc, extract_conc]
      · simp at h
    · simp at h
  · rename_i ha
    simp only [part, Sem.run_bind, run_aggO w ha, Result.andThen_ok, Bool.false_eq_true, if_false]
    simp only [AV.concs_eq, List.getElem?_toArray, List.getElem?_map, h, Option.map_some, Sem.run_pure]
  · simp at h

theorem partO_sc {P : Program} {t : TypeId} {cs : List AV} {off n : Nat} {v : AV} (hs : AV.scs n cs) (h : partO P t cs off = some v) : v.sc n := by
  unfold partO at h
  split at h
  · split at h
    · split at h
      · cases h; simp only [AV.sc]; exact scs_take _ (scs_drop _ hs)
      · simp at h
    · simp at h
  · exact scs_get hs h
  · simp at h

/-! ### equality -/
/-- Equality of the fields of two structs, and of the elements of two arrays. -/
noncomputable def eqFieldsO (P : Program) (eq : TypeId → AV → AV → Option Bool) (xs ys : List AV) : List Field → Option Bool
  | [] => some true
  | f :: fs =>
    if f.name ≠ "_" then
      match partO P f.type xs f.offset, partO P f.type ys f.offset with
      | some a, some b =>
        match eq f.type a b with
        | some true => eqFieldsO P eq xs ys fs
        | some false => some false
        | none => none
      | _, _ => none
    else eqFieldsO P eq xs ys fs

noncomputable def eqElemsO (P : Program) (eq : AV → AV → Option Bool) (elem : TypeId) (k : Nat) (xs ys : List AV) : (left i : Nat) → Option Bool
  | 0, _ => some true
  | left + 1, i =>
    match partO P elem xs (i * k), partO P elem ys (i * k) with
    | some a, some b =>
      match eq a b with
      | some true => eqElemsO P eq elem k xs ys left (i + 1)
      | some false => some false
      | none => none
    | _, _ => none

noncomputable def eqO (P : Program) : Nat → TypeId → AV → AV → Option Bool
  | 0, _, _, _ => none
  | d + 1, t, x, y =>
    match P.underlying t, x, y with
    | some .bool, .bo a, .bo b => some (a == b)
    | some (.int _), .nt k a, .nt k' b => if k = k' then some (a == b) else none
    | some .string, .st a, .st b => some (a == b)
    | some (.pointer _), .pn, .pn => some true
    | some (.pointer _), .pn, .pt _ _ => some false
    | some (.pointer _), .pt _ _, .pn => some false
    | some (.pointer e), .pt b o, .pt b' o' =>
      match sizeO P e with
      | some (_ + 1) => if Nat.beq b b' then some (Nat.beq o o') else none
      | _ => none
    | some (.interface _), .ifn, .ifn => some true
    | some (.interface _), .ifn, .ifc _ _ => some false
    | some (.interface _), .ifc _ _, .ifn => some false
    | some (.interface _), .ifc t v, .ifc t' v' =>
      if t ≠ t' then some false else
      match P.info? t with
      | some i => if i.comparable then eqO P d t v v' else none
      | none => none
    | some (.struct fs), .agg xs, .agg ys => if P.stoodInHeld t then none else eqFieldsO P (eqO P d) xs ys fs.toList
    | some (.array len elem), .agg xs, .agg ys =>
      match sizeO P elem with
      | some k => eqElemsO P (eqO P d elem) elem k xs ys len 0
      | none => none
    | some (.slice _), .sn, .sn => some true
    | some (.slice _), .sn, .sl _ _ _ _ => some false
    | some (.slice _), .sl _ _ _ _, .sn => some false
    | some (.map _ _), .mn, .mn => some true
    | some (.map _ _), .mn, .mp _ => some false
    | some (.map _ _), .mp _, .mn => some false
    | some (.func _ _ _), .fn, .fn => some true
    | some (.func _ _ _), .fn, .fu _ _ _ => some false
    | some (.func _ _ _), .fu _ _ _, .fn => some false
    | _, _, _ => none

theorem run_eqFields {P : Program} (E : Env) (w : World) (d : Nat) (eq : TypeId → AV → AV → Option Bool) (xs ys : List AV)
    (ih : ∀ t a b r, eq t a b = some r → (Op.equalIn d t (a.conc E) (b.conc E)).run P w = .ok r w) :
    ∀ (fs : List Field) (r : Bool), eqFieldsO P eq xs ys fs = some r → (Op.eqFields d (AV.concs E xs).toArray (AV.concs E ys).toArray fs).run P w = .ok r w := by
  intro fs
  induction fs with
  | nil => intro r h; simp [eqFieldsO] at h; subst h; simp [Op.eqFields]
  | cons f fs ihf =>
    intro r h
    simp only [eqFieldsO] at h
    by_cases hn : f.name ≠ "_"
    · rw [if_pos hn] at h
      split at h
      · rename_i a b ha hb
        split at h
        · rename_i he
          simp only [Op.eqFields, if_pos hn, Sem.run_bind, run_partO E w ha, run_partO E w hb, Result.andThen_ok, ih _ _ _ _ he, Bool.not_true, Bool.false_eq_true, if_false]
          exact ihf r h
        · rename_i he
          cases h
          simp only [Op.eqFields, if_pos hn, Sem.run_bind, run_partO E w ha, run_partO E w hb, Result.andThen_ok, ih _ _ _ _ he, Bool.not_false, if_true, Sem.run_pure]
        · simp at h
      · simp at h
    · rw [if_neg hn] at h
      simp only [Op.eqFields, if_neg hn]
      exact ihf r h

theorem run_eqElems {P : Program} (E : Env) (w : World) (d : Nat) (eq : AV → AV → Option Bool) (elem : TypeId) (k : Nat) (xs ys : List AV)
    (ih : ∀ a b r, eq a b = some r → (Op.equalIn d elem (a.conc E) (b.conc E)).run P w = .ok r w) :
    ∀ (left i : Nat) (r : Bool), eqElemsO P eq elem k xs ys left i = some r →
    (forIn (List.range' i left 1) ((none : Option Bool), ()) (fun j _ => do
        let a ← part elem (AV.concs E xs).toArray (j * k)
        let b ← part elem (AV.concs E ys).toArray (j * k)
        let r ← Op.equalIn d elem a b
        if (!r) = true then pure (ForInStep.done (some false, ())) else pure (ForInStep.yield (none, ()))) : Sem (Option Bool × Unit)).run P w
      = .ok (if r then none else some false, ()) w := by
  intro left
  induction left with
  | zero => intro i r h; simp [eqElemsO] at h; subst h; simp
  | succ left ihl =>
    intro i r h
    simp only [eqElemsO] at h
    split at h
    · rename_i a b ha hb
      split at h
      · rename_i he
        simp only [List.range'_succ, List.forIn_cons, Sem.run_bind, run_partO E w ha, run_partO E w hb, Result.andThen_ok, ih _ _ _ he, Bool.not_true, Bool.false_eq_true, if_false, Sem.run_pure]
        exact ihl (i + 1) r h
      · rename_i he
        cases h
        simp only [List.range'_succ, List.forIn_cons, Sem.run_bind, run_partO E w ha, run_partO E w hb, Result.andThen_ok, ih _ _ _ he, Bool.not_false, if_true, Sem.run_pure, Bool.false_eq_true, if_false]
      · simp at h
    · simp at h

theorem run_sameBlock (P : Program) (w : World) (r o o' : Nat) : (sameAddr ⟨r, o, none⟩ ⟨r, o', none⟩).run P w = .ok (Nat.beq o o') w := by
  have : ((⟨r, o, none⟩ : Addr) == ⟨r, o', none⟩) = Nat.beq o o' := by
    rw [Bool.eq_iff_iff, beq_iff_eq, Nat.beq_eq]
    simp
  simp [sameAddr, this]

set_option maxHeartbeats 2000000 in
theorem run_eqO {P : Program} (E : Env) (w : World) : ∀ (d : Nat) (t : TypeId) (x y : AV) (r : Bool), eqO P d t x y = some r → (Op.equalIn d t (x.conc E) (y.conc E)).run P w = .ok r w := by
  intro d
  induction d with
  | zero => intro t x y r h; simp [eqO] at h
  | succ d ih =>
    intro t x y r h
    simp only [eqO] at h
    split at h
    case h_1 hu => cases h; simp [AV.conc, Op.equalIn, run_underlying hu]
    case h_2 hu =>
      split at h
      · rename_i hk; cases h; simp [AV.conc, Op.equalIn, run_underlying hu, hk]
      · simp at h
    case h_3 hu =>
      cases h
      simp only [AV.conc, Op.equalIn, Sem.run_bind, run_underlying hu, Result.andThen_ok, Sem.run_pure, beq_toListBytes, ByteArray.toList_eq]
    case h_4 hu => cases h; simp [AV.conc, Op.equalIn, run_underlying hu]
    case h_5 hu => cases h; simp [AV.conc, Op.equalIn, run_underlying hu]
    case h_6 hu => cases h; simp [AV.conc, Op.equalIn, run_underlying hu]
    case h_7 e b o b' o' hu =>
      split at h
      · rename_i m hm
        split at h
        · rename_i hb
          have hb' : b = b' := Nat.eq_of_beq_eq_true hb
          subst hb'
          cases h
          simp only [AV.conc, Op.equalIn, Sem.run_bind, run_underlying hu, Result.andThen_ok, run_sizeO w hm, Sem.run_ite]
          rw [if_pos (Nat.succ_ne_zero m)]
          exact run_sameBlock P w _ o o'
        · simp at h
      · simp at h
    case h_8 hu => cases h; simp [AV.conc, Op.equalIn, run_underlying hu]
    case h_9 hu => cases h; simp [AV.conc, Op.equalIn, run_underlying hu]
    case h_10 hu => cases h; simp [AV.conc, Op.equalIn, run_underlying hu]
    case h_11 t1 v1 t2 v2 hu =>
      split at h
      · rename_i hne; cases h; simp [AV.conc, Op.equalIn, run_underlying hu, hne]
      · rename_i hne
        have hne' : t1 = t2 := by simpa using hne
        subst hne'
        split at h
        · rename_i i hi
          split at h
          · rename_i hc
            simp only [AV.conc, Op.equalIn, Sem.run_bind, run_underlying hu, Result.andThen_ok, ne_eq, not_true_eq_false, if_false, typeInfo, run_program, hi, Sem.run_pure, hc, Bool.not_true, Bool.false_eq_true]
            exact ih _ _ _ _ h
          · simp at h
        · simp at h
    case h_12 fs xs ys hu =>
      split at h
      · simp at h
      · rename_i hp
        have hp' : P.stoodInHeld t = false := by simpa using hp
        have hf : P.fieldsOf t = fs := by simp [Program.fieldsOf, hu]
        simp only [AV.conc]
        rw [run_equalIn_struct w d t _ _ (by rw [hf]; exact hu) hp', hf]
        exact run_eqFields E w d _ _ _ (fun _ _ _ _ he => ih _ _ _ _ he) _ _ h
    case h_13 len elem xs ys hu =>
      split at h
      · rename_i k hk
        have := run_eqElems E w d (eqO P d elem) elem k xs ys (fun _ _ _ he => ih _ _ _ _ he) len 0 r h
        simp only [AV.conc, Op.equalIn, Sem.run_bind, run_underlying hu, Result.andThen_ok, run_sizeO w hk]
        simp only [Std.Legacy.Range.forIn_eq_forIn_range', Std.Legacy.Range.size]
        rw [show (len - 0 + 1 - 1) / 1 = len by simp]
        simp only [this, Result.andThen_ok]
        cases r <;> simp
      · simp at h
    case h_14 hu => cases h; simp [AV.conc, Op.equalIn, run_underlying hu]
    case h_15 hu => cases h; simp [AV.conc, Op.equalIn, run_underlying hu]
    case h_16 hu => cases h; simp [AV.conc, Op.equalIn, run_underlying hu]
    case h_17 hu => cases h; simp [AV.conc, Op.equalIn, run_underlying hu]
    case h_18 hu => cases h; simp [AV.conc, Op.equalIn, run_underlying hu]
    case h_19 hu => cases h; simp [AV.conc, Op.equalIn, run_underlying hu]
    case h_20 hu => cases h; simp [AV.conc, Op.equalIn, run_underlying hu]
    case h_21 hu => cases h; simp [AV.conc, Op.equalIn, run_underlying hu]
    case h_22 hu => cases h; simp [AV.conc, Op.equalIn, run_underlying hu]
    case h_23 => simp at h

end Go.AE
