/- The engine, part 8: copy, conversions, made slices, maps, ranges over strings. -/
import Derived.Test.YtpggmngncbpboaaGreatDoorOpE
namespace Go.AE
set_option linter.unusedSimpArgs false

/-! ### copy -/
noncomputable def copyO (P : Program) (H : Heap) (n : Nat) (t : TypeId) (dst src : AV) : Option (AV × Heap × Nat) :=
  match P.underlying t with
  | some (.slice elem) =>
    match sizeO P elem with
    | some k =>
      match srcA H k src, dst with
      | some (_, _), .sn => some (.nt .i64 0, H, n)
      | some (cnt, cs), .sl b o len _ =>
        match H.get b with
        | some (.cells vs el fz gr) =>
          let m := Nat.min cnt len
          let new := cs.take (m * k)
          bif Nat.beq new.length (m * k) && hasLen vs (o + m * k) && unfrozen fz o (m * k) && new.all AV.one then
            some (.nt .i64 (.ofNat m), H.set b (.cells (updL vs o new) el fz gr), n)
          else none
        | _ => none
      | _, _ => none
    | none => none
  | _ => none

theorem srcA_first {P : Program} {G : Nat} {E : Env} {H : Heap} {n : Nat} {w : World} (hs : Sim G E H n w) {k : Nat} {x : AV} {cnt : Nat} {cs : List AV} (h : srcA H k x = some (cnt, cs)) (m : Nat) (hm : m ≤ cnt) :
    (Builtin.firstCells k m (x.conc E)).run P w = .ok (AV.concs E (cs.take (m * k))).toArray w := by
  unfold srcA at h
  split at h
  · cases h
    obtain rfl : m = 0 := by omega
    simp [AV.conc, Builtin.firstCells, AV.concs]
  · rename_i l
    cases hk : Nat.beq k 1 with
    | false => rw [hk] at h; simp at h
    | true =>
      rw [hk] at h
      have hk' := Nat.eq_of_beq_eq_true hk
      subst hk'
      simp only [cond_true, Option.some.injEq, Prod.mk.injEq] at h
      obtain ⟨rfl, rfl⟩ := h
      simp only [AV.conc, Builtin.firstCells, Sem.run_pure]
      congr 1
      rw [ByteArray.data_extract]
      apply Array.ext'
      simp [AV.concs_eq, AV.conc, List.map_take]
      rfl
  · rename_i b o len c
    split at h
    · rename_i vs el fz gr hg
      cases hk : Nat.beq ((vs.drop o).take (len * k)).length (len * k) with
      | false => rw [hk] at h; simp at h
      | true =>
        rw [hk] at h
        have hk' := Nat.eq_of_beq_eq_true hk
        simp only [cond_true, Option.some.injEq, Prod.mk.injEq] at h
        obtain ⟨rfl, rfl⟩ := h
        have hmk : m * k ≤ len * k := Nat.mul_le_mul_right _ hm
        rw [List.take_take, Nat.min_eq_left hmk]
        exact run_firstOld (cap := c.conc (E.σ b) o) hs hg (by rw [List.length_take, List.length_drop] at hk' ⊢; omega)
    · simp at h
  · simp at h

theorem run_copyO {P : Program} {G : Nat} {E : Env} {H : Heap} {n : Nat} {w : World} (hs : Sim G E H n w) (ts : Array TypeId) (t ty : TypeId) (dst src : AV) (r : AV × Heap × Nat)
    (ht : ts[0]? = some t) (_hd : dst.sc n) (hx : src.sc n) (h : copyO P H n t dst src = some r) :
    ∃ E' w', (Builtin.copy_ ts ty #[dst.conc E, src.conc E]).run P w = .ok (r.1.conc E') w' ∧ Done G E H n w r E' w' := by
  unfold copyO at h
  split at h
  · rename_i elem hu
    split at h
    · rename_i k hk
      split at h
      · rename_i cnt cs hsrc
        cases h
        obtain ⟨_, hlenOf, _, _⟩ := srcA_spec (P := P) hs hsrc
        have hf := srcA_first (P := P) hs hsrc 0 (Nat.zero_le _)
        refine ⟨E, w, ?_, hs, Moves.refl E H n w, by simp [AV.sc]⟩
        simp [Builtin.copy_, ht, AV.conc, run_underlying hu, hlenOf, run_sizeO w hk, hf, goInt]
      · rename_i cnt cs b o len cap hsrc
        split at h
        · rename_i vs el fz gr hg
          simp only [] at h
          cases hc : (Nat.beq (cs.take (Nat.min cnt len * k)).length (Nat.min cnt len * k) && hasLen vs (o + Nat.min cnt len * k) && unfrozen fz o (Nat.min cnt len * k) && (cs.take (Nat.min cnt len * k)).all AV.one) with
          | false => rw [hc] at h; simp at h
          | true =>
            rw [hc] at h
            simp only [cond_true, Option.some.injEq] at h
            subst h
            simp only [Bool.and_eq_true] at hc
            obtain ⟨⟨⟨c1, c2⟩, c3⟩, c4⟩ := hc
            have c1 := Nat.eq_of_beq_eq_true c1
            have c2 := hasLen_le c2
            obtain ⟨_, hlenOf, _, hnsc⟩ := srcA_spec (P := P) hs hsrc
            have hf := srcA_first (P := P) hs hsrc (Nat.min cnt len) (Nat.min_le_left _ _)
            obtain ⟨w', e1, e2, e3⟩ := sim_storeCells P hs hg (cs.take (Nat.min cnt len * k)) (by rw [c1]; omega) (by rw [c1]; exact c3) c4 (scs_take _ (hnsc hx))
            refine ⟨E, w', ?_, e2, e3, by simp [AV.sc]⟩
            simp only [Builtin.copy_, ht, AV.conc, List.getElem?_toArray, List.getElem?_cons_zero, List.getElem?_cons_succ, Sem.run_bind, run_underlying hu, Result.andThen_ok, hlenOf, run_sizeO w hk, hf, e1, Sem.run_pure, goInt]
            rfl
        · simp at h
      · simp at h
    · simp at h
  · simp at h

/-! ### made slices -/
noncomputable def makeSliceO (P : Program) (t : TypeId) (len cap : AV) : Option (TypeId × Nat × Nat × List AV) :=
  match P.underlying t, len.nat, cap.nat with
  | some (.slice elem), some l, some c =>
    match P.info? elem, zeroO P elem with
    | some i, some z =>
      bif Nat.ble l c && Nat.ble (i.bytes * c) 281474976710656 && Nat.ble c 281474976710656 && !z.cells.isEmpty then some (elem, l, c, zerosA z.cells (c * i.size)) else none
    | _, _ => none
  | _, _, _ => none

theorem run_makeSliceO {P : Program} (E : Env) (w : World) (t : TypeId) (len cap : AV) (elem : TypeId) (l c : Nat) (cs : List AV) (h : makeSliceO P t len cap = some (elem, l, c, cs)) :
    (Instr.makeSlice t (len.conc E) (cap.conc E)).run P w = .ok (.slice (some ⟨w.heap.size, 0, none⟩) l c) (w.alloc (.cells (AV.concs E cs).toArray elem)) := by
  unfold makeSliceO at h
  split at h
  · rename_i elt l' c' hu hl hc
    split at h
    · rename_i i z hi hz
      cases hb : (Nat.ble l' c' && Nat.ble (i.bytes * c') 281474976710656 && Nat.ble c' 281474976710656 && !z.cells.isEmpty) with
      | false => rw [hb] at h; simp at h
      | true =>
        rw [hb] at h
        simp only [cond_true, Option.some.injEq, Prod.mk.injEq] at h
        obtain ⟨rfl, rfl, rfl, rfl⟩ := h
        simp only [Bool.and_eq_true, Bool.not_eq_true'] at hb
        obtain ⟨⟨⟨b1, b2⟩, b3⟩, b4⟩ := hb
        have b1 := Nat.le_of_ble_eq_true b1
        have b2 := Nat.le_of_ble_eq_true b2
        have b3 := Nat.le_of_ble_eq_true b3
        obtain ⟨kl, ell⟩ := AV.nat_conc E hl
        obtain ⟨kc, ec⟩ := AV.nat_conc E hc
        have hne : z.cells ≠ [] := by intro e; rw [e] at b4; simp at b4
        have hz2 := AV.cells_conc' E z (zeroO_plain hz)
        have hzz := zerosA_conc E z.cells (c' * i.size) (.inl hne) _ (fun i _ => rfl)
        have wl : IntKind.i64.wrap (l' : Int) = l' := by simp only [IntKind.wrap, IntKind.bits, IntKind.signed]; simp; omega
        have wc : IntKind.i64.wrap (c' : Int) = c' := by simp only [IntKind.wrap, IntKind.bits, IntKind.signed]; simp; omega
        have ht1 : ((i.bytes : Int) * (c' : Int) > 2 ^ 48) = False := by
          rw [eq_iff_iff]; simp only [iff_false]
          have : ((i.bytes * c' : Nat) : Int) = (i.bytes : Int) * (c' : Int) := by push_cast; rfl
          rw [← this]; omega
        have hsz : (sizeOf elt).run P (w) = .ok i.size w := by simp [sizeOf, typeInfo, hi]
        have hzv := run_zeroO (P := P) w E hz
        rw [ell, ec]
        simp only [Instr.makeSlice, Sem.run_bind, run_underlying hu, Result.andThen_ok, asInt, asIntOf, Sem.run_pure, typeInfo, run_program, hi, wl, wc]
        rw [if_neg (by
          simp only [ht1, Bool.or_eq_true, decide_eq_true_eq]
          simp
          omega)]
        simp only [Sem.run_pure, Result.andThen_ok, Sem.run_bind, run_askRoom, Int.toNat_natCast, hsz]
        by_cases h0 : c' * i.size = 0
        · rw [if_pos h0]
          rw [h0] at hzz ⊢
          simp [newRow, zerosA, AV.concs, Array.range_zero']
        · rw [if_neg h0]
          simp only [Sem.run_bind, hzv, Result.andThen_ok, Sem.run_pure, hz2, hzz]
          simp [newRow]
    · simp at h
  · simp at h

theorem makeSliceO_sc {P : Program} {t : TypeId} {len cap : AV} {elem : TypeId} {l c n : Nat} {cs : List AV} (h : makeSliceO P t len cap = some (elem, l, c, cs)) : AV.scs n cs := by
  unfold makeSliceO at h
  split at h
  · split at h
    · rename_i i z hi hz
      cases hb : (Nat.ble _ _ && Nat.ble (i.bytes * _) 281474976710656 && Nat.ble _ 281474976710656 && !z.cells.isEmpty) with
      | false => rw [hb] at h; simp at h
      | true =>
        rw [hb] at h
        simp only [cond_true, Option.some.injEq, Prod.mk.injEq] at h
        obtain ⟨rfl, rfl, rfl, rfl⟩ := h
        exact zerosA_sc (AV.cells_sc (zeroO_sc n hz))
    · simp at h
  · simp at h

/-! ### conversions -/
/-- The bytes that cells hold. -/
def bytesA : List AV → Option (List UInt8)
  | [] => some []
  | .nt .u8 (.ofNat m) :: l =>
    match Nat.blt m 256, bytesA l with
    | true, some r => some (UInt8.ofNat m :: r)
    | _, _ => none
  | _ => none

theorem bytesA_length : ∀ (l : List AV) (r : List UInt8), bytesA l = some r → r.length = l.length := by
  intro l
  induction l with
  | nil => intro r h; simp [bytesA] at h; subst h; rfl
  | cons v l ih =>
    intro r h
    unfold bytesA at h
    split at h
    · rename_i e; simp at e
    · rename_i m l' e
      simp only [List.cons.injEq] at e
      obtain ⟨rfl, rfl⟩ := e
      split at h
      · rename_i r' _ hr'; cases h; simp [ih r' hr']
      · simp at h
    · simp at h

theorem bytesA_get : ∀ (l : List AV) (r : List UInt8), bytesA l = some r → ∀ (j : Nat) (x : UInt8), r[j]? = some x → l[j]? = some (.nt .u8 x.toNat) := by
  intro l
  induction l with
  | nil => intro r h j x hx; simp [bytesA] at h; subst h; simp at hx
  | cons v l ih =>
    intro r h j x hx
    unfold bytesA at h
    split at h
    · rename_i e; simp at e
    · rename_i m l' e
      simp only [List.cons.injEq] at e
      obtain ⟨rfl, rfl⟩ := e
      split at h
      · rename_i r' hm hr'
        cases h
        cases j with
        | zero =>
          simp only [List.getElem?_cons_zero, Option.some.injEq] at hx ⊢
          subst hx
          have := lt_of_blt hm
          rw [show (UInt8.ofNat m).toNat = m from by rw [UInt8.toNat_ofNat']; exact Nat.mod_eq_of_lt (by omega)]
          rfl
        | succ j => simpa using ih r' hr' j x (by simpa using hx)
      · simp at h
    · simp at h

noncomputable def convO (P : Program) (H : Heap) (n : Nat) (src dst : TypeId) (x : AV) : Option (AV × Heap × Nat) :=
  match P.underlying src, P.underlying dst, x with
  | some _, some (.int k), .nt _ m => some (.nt k (wrapA k m), H, n)
  | some _, some .string, .st l => some (.st l, H, n)
  | some _, some (.slice e), .st l =>
    match P.underlying e with
    | some (.int .u8) => some (.sl n 0 l.length (.te 1), H.set n (.cells (l.map fun c => .nt .u8 (.ofNat c.toNat)) e none true), n + 1)
    | _ => none
  | some (.slice e), some .string, .sn =>
    match P.underlying e with
    | some (.int .u8) => some (.st [], H, n)
    | _ => none
  | some (.slice e), some .string, .sl b o len _ =>
    match P.underlying e with
    | some (.int .u8) =>
      match H.get b with
      | some (.cells vs _ _ _) =>
        match bytesA ((vs.drop o).take len) with
        | some r => bif Nat.beq r.length len then some (.st r, H, n) else none
        | none => none
      | _ => none
    | _ => none
  | some (.slice _), some (.slice e), .sl b o len c =>
    match Nat.beq src dst, P.underlying e, H.get b with
    | true, some (.int .u8), some (.cells vs el fz gr) =>
      bif (match fz with | some (a, c') => Nat.ble c' a | none => true) then some (.sl b o len c, H.set b (.cells vs el none gr), n) else none
    | _, _, _ => none
  | some (.pointer _), some .unsafePointer, .pn => some (.pn, H, n)
  | some .unsafePointer, some (.pointer _), .pn => some (.pn, H, n)
  | some (.pointer t), some .unsafePointer, .pt b o =>
    match sizeO P t, H.get b with
    | some (_ + 1), some (.cells vs _ _ _) => bif Nat.blt o vs.length then some (.pt b o, H, n) else none
    | _, _ => none
  | some .unsafePointer, some (.pointer u), .pt b o =>
    match sizeO P u, H.get b with
    | some (_ + 1), some (.cells vs el _ false) => bif liesAt P P.depth el (vs.length / P.cellsOf el) o u 1 then some (.pt b o, H, n) else none
    | _, _ => none
  | _, _, _ => none

theorem run_bytesA {P : Program} (E : Env) (w : World) : ∀ (l : List AV) (r acc : List UInt8), bytesA l = some r →
    (forIn (AV.concs E l) (⟨acc.toArray⟩ : ByteArray) (fun c s => match c with
      | Value.int IntKind.u8 n => (Pure.pure (ForInStep.yield (s.push (UInt8.ofNat n.toNat))) : Sem (ForInStep ByteArray))
      | _ => do
        stuck "bytesToString: byte expected"
        Pure.pure (ForInStep.yield s)) : Sem ByteArray).run P w = .ok ⟨(acc ++ r).toArray⟩ w := by
  intro l
  induction l with
  | nil => intro r acc h; simp [bytesA] at h; subst h; simp [AV.concs]
  | cons v l ih =>
    intro r acc h
    unfold bytesA at h
    split at h
    · rename_i e; simp at e
    · rename_i m l' e
      simp only [List.cons.injEq] at e
      obtain ⟨rfl, rfl⟩ := e
      split at h
      · rename_i r' hm hr'
        cases h
        have := ih r' (acc ++ [UInt8.ofNat m]) hr'
        simp only [AV.concs, AV.conc, List.forIn_cons, Sem.run_bind, Sem.run_pure, Result.andThen_ok]
        rw [show (⟨acc.toArray⟩ : ByteArray).push (UInt8.ofNat (Int.ofNat m).toNat) = ⟨(acc ++ [UInt8.ofNat m]).toArray⟩ by
          simp [ByteArray.push]]
        rw [this]
        simp
      · simp at h
    · simp at h

theorem run_toText {P : Program} {G : Nat} {E : Env} {H : Heap} {n : Nat} {w : World} (hs : Sim G E H n w) {b o len cap : Nat} {vs : List AV} {el : TypeId} {fz : Option (Nat × Nat)} {gr : Bool}
    (hg : H.get b = some (.cells vs el fz gr)) (r : List UInt8) (hr : bytesA ((vs.drop o).take len) = some r) (hlen : r.length = len) :
    (Conv.bytesToString (.slice (some ⟨E.ρ b, o, none⟩) len cap)).run P w = .ok (.string ⟨r.toArray⟩) w := by
  have hl := bytesA_length
  have h2 : ((vs.drop o).take len).length = len := by rw [← hl _ _ hr]; exact hlen
  have hload : (loadCells ⟨E.ρ b, o, none⟩ len).run P w = .ok (AV.concs E ((vs.drop o).take len)).toArray w := by
    by_cases hz : len = 0
    · subst hz; simp [loadCells, loadCellsFrom, AV.concs]
    · refine sim_loadCells P hs hg ?_
      rw [List.length_take, List.length_drop] at h2
      omega
  have h3 := run_bytesA (P := P) E w _ r [] hr
  simp only [Conv.bytesToString, Sem.run_bind, hload, Result.andThen_ok]
  rw [← Array.forIn_toList]
  have e0 : (⟨([] : List UInt8).toArray⟩ : ByteArray) = ByteArray.empty := rfl
  rw [e0, List.nil_append] at h3
  simp only [Sem.run_pure]
  exact congrArg (fun x : Result ByteArray => x.andThen fun a w' => Result.ok (Value.string a) w') h3

theorem cells_shape {w : World} {r : Nat} {C : Array Value} {el : TypeId} {fz : Nat × Nat} (h : w.heap[r]? = some (.cells C el fz)) : w.shape? r = some (el, C.size) := by simp [World.shape?, h]

theorem run_seenAt {P : Program} {w : World} {r o : Nat} {C : Array Value} {el : TypeId} {fz : Nat × Nat} (h : w.heap[r]? = some (.cells C el fz)) :
    (Conv.seenAt ⟨r, o, none⟩).run P w = .ok ⟨r, o, none⟩ w := by
  simp [Conv.seenAt, viewAt, cells_shape h]

theorem run_mark_new {P : Program} (w : World) (C : Array Value) (e : TypeId) :
    (markStringish ⟨w.heap.size, 0, none⟩).run P (w.alloc (.cells C e)) = .ok () (w.alloc (.cells C e (C.size, C.size + 1))) := by
  have h1 : (w.alloc (.cells C e)).shape? w.heap.size = some (e, C.size) := cells_shape (heap_alloc_new w _)
  simp only [markStringish, Sem.run_bind, run_shape, h1, Result.andThen_ok, run_freeze]
  congr 1
  simp only [World.freeze, Nat.one_ne_zero, if_false, World.alloc]
  congr 1
  apply Array.ext_getElem?
  intro i
  simp only [Array.getElem?_modify, Array.getElem?_push]
  by_cases hi : i = w.heap.size
  · simp [hi]
  · have : ¬ w.heap.size = i := fun h => hi h.symm
    simp [hi, this]

theorem run_toBytes {P : Program} (w : World) (e : TypeId) (s : ByteArray) (c : Nat) (hc : (Question.appendCap s.size 0 e).cut (w.tape w.drawn (.appendCap s.size 0 e)) = c) (hle : s.size ≤ c) :
    (Conv.stringToBytes e s).run P w = .ok (.slice (some ⟨w.heap.size, 0, none⟩) s.size c)
      (w.drew.alloc (.cells ((s.data.map fun b => Value.int .u8 b.toNat) ++ Array.replicate (c - s.size) (.int .u8 0)) e (c, c + 1))) := by
  have hm := run_mark_new (P := P) w.drew ((s.data.map fun b => Value.int .u8 b.toNat) ++ Array.replicate (c - s.size) (.int .u8 0)) e
  have hsz : ((s.data.map fun b => Value.int .u8 b.toNat) ++ Array.replicate (c - s.size) (.int .u8 0) : Array Value).size = c := by
    have : s.data.size = s.size := rfl
    simp [this]; omega
  rw [hsz] at hm
  simp only [World.size_drew] at hm
  simp [Conv.stringToBytes, Question.forced, hc, newRow, hm]

theorem run_convO {P : Program} {G : Nat} {E : Env} {H : Heap} {n : Nat} {w : World} (hs : Sim G E H n w) (src dst : TypeId) (x : AV) (r : AV × Heap × Nat)
    (hx : x.sc n) (h : convO P H n src dst x = some r) :
    ∃ E' w', (convert src dst (x.conc E)).run P w = .ok (r.1.conc E') w' ∧ Done G E H n w r E' w' := by
  unfold convO at h
  split at h
  · rename_i d k k' m hu hv
    cases h
    refine ⟨E, w, ?_, hs, Moves.refl E H n w, by simp [AV.sc]⟩
    simp only [convert, Sem.run_bind, run_underlying hu, run_underlying hv, Result.andThen_ok, AV.conc]
    simp [Conv.intToInt, wrapA_eq]
  · rename_i d l hu hv
    cases h
    refine ⟨E, w, ?_, hs, Moves.refl E H n w, by simp [AV.sc]⟩
    simp only [convert, Sem.run_bind, run_underlying hu, run_underlying hv, Result.andThen_ok, AV.conc]
    simp
  · rename_i d e l hu hv
    split at h
    · rename_i he
      cases h
      have hcap : l.length ≤ (Question.appendCap l.length 0 e).cut (w.tape w.drawn (.appendCap l.length 0 e)) := by simp [Question.cut]
      generalize hcc : (Question.appendCap l.length 0 e).cut (w.tape w.drawn (.appendCap l.length 0 e)) = c at hcap
      have hel : ((⟨l.toArray⟩ : ByteArray).data.map fun b => Value.int .u8 b.toNat) = (AV.concs E (l.map fun c => AV.nt .u8 (.ofNat c.toNat))).toArray := by
        apply Array.ext'
        simp [AV.concs_eq, AV.conc]
      have hsc : AV.scs n (l.map fun c => AV.nt .u8 (.ofNat c.toNat)) := by
        rw [AV.scs_iff]; intro v hv; obtain ⟨c, _, rfl⟩ := List.mem_map.1 hv; simp [AV.sc]
      have hs' : Sim G E H n w.drew := hs.same rfl
      let C : Array Value := (AV.concs E (l.map fun c => AV.nt .u8 (.ofNat c.toNat))).toArray ++ Array.replicate (c - l.length) (.int .u8 0)
      have hC : C.size = c := by simp [C, AV.concs_eq]; omega
      have hag := Env.put_agree E n w.heap.size C.size
      obtain ⟨k1, k2⟩ := sim_alloc (w := w.drew) hs' (.cells C e (C.size, C.size + 1)) C.size (.cells (l.map fun c => .nt .u8 (.ofNat c.toNat)) e none true) (AV.scs_mono (Nat.le_succ n) _ hsc) (by
        refine ⟨C, C.size, C.size + 1, ?_, ?_, ?_, fun q => by simp at q, fun j hj => ?_, by omega, fun o ho => by omega⟩
        · rw [Env.put_ρ]; exact heap_alloc_new w.drew _
        · rw [Env.put_σ]
        · rw [hC]; simpa using hcap
        · have hj' : j < l.length := by simpa using hj
          rw [Array.getElem?_append_left (by simp [AV.concs_eq]; exact hj')]
          simp only [AV.concs_eq, List.getElem?_toArray, List.getElem?_map, List.getElem_map]
          rw [List.getElem?_eq_getElem hj']
          simp [AV.conc])
      have k2' : Moves E H n w (E.put n w.heap.size C.size) (H.set n (.cells (l.map fun c => .nt .u8 (.ofNat c.toNat)) e none true)) (n + 1) (w.drew.alloc (.cells C e (C.size, C.size + 1))) :=
        ⟨k2.nle, k2.agree, k2.old, k2.new, k2.size, k2.keep, k2.os, k2.out, k2.tape⟩
      refine ⟨_, _, ?_, k1, k2', by simp only [AV.sc]; omega⟩
      have hsz : (⟨l.toArray⟩ : ByteArray).size = l.length := by simp [ByteArray.size]
      simp only [AV.conc, Cap.conc, Env.put_ρ, Env.put_σ, Nat.sub_zero, Nat.div_one, hC]
      have hb := run_toBytes (P := P) w e ⟨l.toArray⟩ c (by rw [hsz]; exact hcc) (by rw [hsz]; exact hcap)
      rw [hsz, hel] at hb
      simp only [convert, Sem.run_bind, run_underlying hu, run_underlying hv, run_underlying he, Result.andThen_ok]
      simp only [C, hC] at hb ⊢
      simpa [C] using hb
    · simp at h
  · rename_i e hu hv
    split at h
    · rename_i he
      cases h
      refine ⟨E, w, ?_, hs, Moves.refl E H n w, by simp [AV.sc]⟩
      simp only [convert, Sem.run_bind, run_underlying hu, run_underlying hv, run_underlying he, Result.andThen_ok, AV.conc]
      simp [Conv.bytesToString, run_underlying he, ByteArray.empty, ByteArray.emptyWithCapacity]
      rfl
    · simp at h
  · rename_i e b o len cap hu hv
    split at h
    · rename_i he
      split at h
      · rename_i vs el fz gr hg
        split at h
        · rename_i r' hr'
          cases hl : Nat.beq r'.length len with
          | false => rw [hl] at h; simp at h
          | true =>
            rw [hl] at h
            simp only [cond_true, Option.some.injEq] at h
            subst h
            have := run_toText (P := P) (cap := cap.conc (E.σ b) o) hs hg r' hr' (Nat.eq_of_beq_eq_true hl)
            refine ⟨E, w, ?_, hs, Moves.refl E H n w, by simp [AV.sc]⟩
            simp only [convert, Sem.run_bind, run_underlying hu, run_underlying hv, run_underlying he, Result.andThen_ok, AV.conc]
            exact this
        · simp at h
      · simp at h
    · simp at h
  · rename_i e0 e b o len cap hu hv
    split at h
    · rename_i vs el fz gr hbeq he hg
      cases hfz : (match fz with | some (a, c') => Nat.ble c' a | none => true) with
      | false => rw [hfz] at h; simp at h
      | true =>
        rw [hfz] at h
        simp only [cond_true, Option.some.injEq] at h
        subst h
        have hsd : src = dst := Nat.eq_of_beq_eq_true hbeq
        subst hsd
        have hee : e0 = e := by rw [hu] at hv; cases hv; rfl
        subst hee
        obtain ⟨C, lo, hi, hC, hσ, hle, hgr, hcell, hf⟩ := hs.rel b _ hg
        rcases hp : (if lo == hi then (C.size, C.size + 1) else (min lo C.size, max hi (C.size + 1))) with ⟨lo', hi'⟩
        have hno : lo' ≤ hi' ∧ ∀ q, q < C.size → ¬ (lo' ≤ q ∧ q < hi') := by
          by_cases hlh : lo = hi
          · have : (lo == hi) = true := by simpa using hlh
            rw [if_pos this] at hp; cases hp; exact ⟨by omega, fun q hq => by omega⟩
          · have : ¬ ((lo == hi) = true) := by simpa using hlh
            rw [if_neg this] at hp
            cases hp
            cases fz with
            | none =>
              have hlt : lo < hi := by have := hf.1; omega
              have hlo : C.size ≤ lo := Nat.le_of_not_lt fun hlt2 => hf.2 lo hlt2 ⟨Nat.le_refl _, hlt⟩
              exact ⟨by omega, fun q hq => by omega⟩
            | some ac =>
              obtain ⟨a, c'⟩ := ac
              simp only at hf hfz
              have := Nat.le_of_ble_eq_true hfz
              omega
        have hbsc : (Blk.cells vs el none gr).sc n := by have := hs.sc b _ hg; exact this
        obtain ⟨k1, k2⟩ := sim_setObj hs b _ (.cells vs el none gr) (.cells C el (lo', hi')) hg hbsc (fun w' hw' => ⟨C, lo', hi', hw', hσ, hle, hgr, hcell, hno⟩)
        refine ⟨E, _, ?_, k1, k2, hx⟩
        simp only [convert, Sem.run_bind, run_underlying hu, Result.andThen_ok, AV.conc]
        have hsh : w.shape? (E.ρ b) = some (el, C.size) := by unfold World.shape?; rw [hC]
        have hfe := freeze_eq hC C.size 1 (by omega)
        rw [hp] at hfe
        simp [markStringish, run_underlying he, hsh, hfe]
    · simp at h
  · rename_i t hu hv
    cases h
    refine ⟨E, w, ?_, hs, Moves.refl E H n w, by simp [AV.sc]⟩
    simp only [convert, Sem.run_bind, run_underlying hu, run_underlying hv, Result.andThen_ok, AV.conc]
    simp [Conv.unsafePointer, run_underlying hu, run_underlying hv]
  · rename_i t hu hv
    cases h
    refine ⟨E, w, ?_, hs, Moves.refl E H n w, by simp [AV.sc]⟩
    simp only [convert, Sem.run_bind, run_underlying hu, run_underlying hv, Result.andThen_ok, AV.conc]
    simp [Conv.unsafePointer, run_underlying hu, run_underlying hv]
  · rename_i t b o hu hv
    split at h
    · rename_i m vs el fz gr hm hg
      cases hl : Nat.blt o vs.length with
      | false => rw [hl] at h; simp at h
      | true =>
        rw [hl] at h
        simp only [cond_true, Option.some.injEq] at h
        subst h
        have hl' := lt_of_blt hl
        obtain ⟨C, lo, hi, hC, _, hle, _⟩ := hs.rel b _ hg
        have hsa := run_seenAt (P := P) (o := o) hC
        have hci : (cellsIn (E.ρ b)).run P w = .ok (some C.size) w := by simp [cellsIn, cells_shape hC]
        refine ⟨E, w, ?_, hs, Moves.refl E H n w, hx⟩
        simp only [convert, Sem.run_bind, run_underlying hu, run_underlying hv, Result.andThen_ok, AV.conc]
        simp only [Conv.unsafePointer, Sem.run_bind, run_underlying hu, run_underlying hv, Result.andThen_ok, hsa, hci, run_sizeO w hm]
        have hno : ¬ (o ≥ C.size) := by omega
        simp [hno]
    · simp at h
  · rename_i u b o hu hv
    split at h
    · rename_i m vs el fz hm hg
      cases hl : liesAt P P.depth el (vs.length / P.cellsOf el) o u 1 with
      | false => rw [hl] at h; simp at h
      | true =>
        rw [hl] at h
        simp only [cond_true, Option.some.injEq] at h
        subst h
        obtain ⟨C, lo, hi, hC, _, hle, hgr, _⟩ := hs.rel b _ hg
        have hsz := hgr rfl
        have hsa := run_seenAt (P := P) (o := o) hC
        have hva : (variablesAt ⟨E.ρ b, o, none⟩ u 1).run P w = .ok true w := by
          simp only [variablesAt, Sem.run_bind, run_program, Result.andThen_ok, run_shape, cells_shape hC, Sem.run_pure, hsz, hl]
        refine ⟨E, w, ?_, hs, Moves.refl E H n w, hx⟩
        simp only [convert, Sem.run_bind, run_underlying hu, run_underlying hv, Result.andThen_ok, AV.conc]
        simp only [Conv.unsafePointer, Sem.run_bind, run_underlying hu, run_underlying hv, Result.andThen_ok, hsa, run_sizeO w hm, hva]
        simp
    · simp at h
  · simp at h

end Go.AE
