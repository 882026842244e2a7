/- The engine, part 7: append and copy. -/
import Derived.Test.YtpggmngncbpboaaGreatDoorOpD
namespace Go.AE
set_option linter.unusedSimpArgs false

/-- How many elements are appended, and their cells. -/
noncomputable def srcA (H : Heap) (k : Nat) : AV → Option (Nat × List AV)
  | .sn => some (0, [])
  | .st l => bif Nat.beq k 1 then some (l.length, l.map fun c => .nt .u8 (.ofNat c.toNat)) else none
  | .sl b o len _ =>
    match H.get b with
    | some (.cells vs _ _ _) => bif Nat.beq ((vs.drop o).take (len * k)).length (len * k) then some (len, (vs.drop o).take (len * k)) else none
    | _ => none
  | _ => none

theorem srcA_spec {P : Program} {G : Nat} {E : Env} {H : Heap} {n : Nat} {w : World} (hs : Sim G E H n w) {k : Nat} {x : AV} {cnt : Nat} {cs : List AV} (h : srcA H k x = some (cnt, cs)) :
    cs.length = cnt * k ∧ (Builtin.lenOf (x.conc E)).run P w = .ok cnt w ∧ (Builtin.firstCells k cnt (x.conc E)).run P w = .ok (AV.concs E cs).toArray w ∧
      (x.sc n → AV.scs n cs) := by
  unfold srcA at h
  split at h
  · cases h; simp [AV.conc, Builtin.lenOf, Builtin.firstCells, AV.concs, AV.scs]
  · rename_i l
    cases hk : Nat.beq k 1 with
    | false => rw [hk] at h; simp at h
    | true =>
      rw [hk] at h
      have hk' := Nat.eq_of_beq_eq_true hk
      subst hk'
      simp only [cond_true, Option.some.injEq, Prod.mk.injEq] at h
      obtain ⟨rfl, rfl⟩ := h
      refine ⟨by simp, by simp [AV.conc, Builtin.lenOf, ByteArray.size], ?_, fun _ => ?_⟩
      · simp only [AV.conc, Builtin.firstCells, Sem.run_pure]
        congr 1
        rw [ByteArray.data_extract]
        apply Array.ext'
        simp [AV.concs_eq, AV.conc]
      · rw [AV.scs_iff]
        intro v hv
        obtain ⟨c, _, rfl⟩ := List.mem_map.1 hv
        simp [AV.sc]
  · rename_i b o len c
    split at h
    · rename_i vs el fz gr hg
      cases hk : Nat.beq ((vs.drop o).take (len * k)).length (len * k) with
      | false => rw [hk] at h; simp at h
      | true =>
        rw [hk] at h
        have hk' := Nat.eq_of_beq_eq_true hk
        simp only [cond_true, Option.some.injEq, Prod.mk.injEq] at h
        obtain ⟨rfl, rfl⟩ := h
        refine ⟨hk', by simp [AV.conc, Builtin.lenOf], ?_, fun _ => scs_take _ (scs_drop _ (hs.sc b _ hg))⟩
        simp only [AV.conc, Builtin.firstCells]
        by_cases hz : len * k = 0
        · rw [hz]; simp [loadCells, loadCellsFrom, AV.concs]
        · refine sim_loadCells P hs hg ?_
          rw [List.length_take, List.length_drop] at hk'
          omega
    · simp at h
  · simp at h

/-- What an append's type arguments and element say: the element, its size, its bytes. -/
noncomputable def appTy (P : Program) (ts : Array TypeId) : Option (TypeId × Nat × Nat × AV) :=
  match ts[0]?, ts[1]? with
  | some s, some x =>
    match P.underlying s, P.underlying x with
    | some (.slice _), some (.int _) => none
    | some (.slice elem), some _ =>
      match P.info? elem, zeroO P elem with
      | some i, some z => bif Nat.beq z.cells.length i.size && Nat.blt 0 i.size && Nat.blt 0 i.bytes then some (elem, i.size, i.bytes, z) else none
      | _, _ => none
    | _, _ => none
  | _, _ => none

theorem zeroCells_size (z : Array Value) (n : Nat) : (Builtin.zeroCells z n).size = n * z.size := by simp [Builtin.zeroCells]

theorem appTy_spec {P : Program} {ts : Array TypeId} {elem : TypeId} {k bs : Nat} {z : AV} (ht : appTy P ts = some (elem, k, bs, z)) :
    ∃ s xt d i, ts[0]? = some s ∧ ts[1]? = some xt ∧ P.underlying s = some (.slice elem) ∧ P.underlying xt = some d ∧ (∀ q, d ≠ .int q) ∧ P.info? elem = some i ∧ zeroO P elem = some z ∧
      i.size = k ∧ i.bytes = bs ∧ z.cells.length = k ∧ 0 < k ∧ 0 < bs := by
  unfold appTy at ht
  split at ht
  · rename_i s xt h0 h1
    split at ht
    · simp at ht
    · rename_i el d hx hs hd
      split at ht
      · rename_i i z' hi hz
        cases hb : (Nat.beq z'.cells.length i.size && Nat.blt 0 i.size && Nat.blt 0 i.bytes) with
        | false => rw [hb] at ht; simp at ht
        | true =>
          rw [hb] at ht
          simp only [cond_true, Option.some.injEq, Prod.mk.injEq] at ht
          obtain ⟨rfl, rfl, rfl, rfl⟩ := ht
          simp only [Bool.and_eq_true] at hb
          exact ⟨s, xt, d, i, h0, h1, hs, hd, fun q e => hx q e, hi, hz, rfl, rfl, Nat.eq_of_beq_eq_true hb.1.1, lt_of_blt hb.1.2, lt_of_blt hb.2⟩
      · simp at ht
    · simp at ht
  · simp at ht

/-- In place. -/
theorem run_append_in {P : Program} {ts : Array TypeId} {elem : TypeId} {k bs : Nat} {z : AV} (w w' : World) (ty : TypeId) (ht : appTy P ts = some (elem, k, bs, z)) (a : Addr) (len cap cnt : Nat) (x : Value) (new : Array Value)
    (hlen : (Builtin.lenOf x).run P w = .ok cnt w) (hnew : (Builtin.firstCells k cnt x).run P w = .ok new w) (hcap : len + cnt ≤ cap)
    (hst : (storeCells (a.add (len * k)) new.toList).run P w = .ok () w') :
    (Builtin.append_ ts ty #[.slice (some a) len cap, x]).run P w = .ok (.slice (some a) (len + cnt) cap) w' := by
  obtain ⟨s, xt, d, i, h0, h1, hs, hd, hx, hi, hz, rfl, rfl, hzl, hk, hbs⟩ := appTy_spec ht
  simp only [Builtin.append_, h0, h1, List.getElem?_toArray, List.getElem?_cons_zero, List.getElem?_cons_succ, Sem.run_bind, run_underlying hs, Result.andThen_ok, sizeOf, typeInfo, run_program, hi, Sem.run_pure, run_underlying hd]
  cases d <;> first
    | exact absurd rfl (hx _)
    | simp [hi, hlen, hcap, hnew, hst]

/-- Into a new block. -/
theorem run_append_new {P : Program} {ts : Array TypeId} {elem : TypeId} {k bs : Nat} {z : AV} (E : Env) (w : World) (ty : TypeId) (ht : appTy P ts = some (elem, k, bs, z)) (a : Option Addr) (len cap cnt : Nat) (x : Value) (old new : Array Value)
    (hlen : (Builtin.lenOf x).run P w = .ok cnt w) (hold : (Builtin.firstCells k len (.slice a len cap)).run P w.drew = .ok old w.drew) (hnew : (Builtin.firstCells k cnt x).run P w.drew = .ok new w.drew)
    (hcap : cap < len + cnt) (hb : (len + cnt) * bs ≤ 140737488355328) (holds : old.size = len * k) (hnews : new.size = cnt * k) :
    ∃ C, (Builtin.append_ ts ty #[.slice a len cap, x]).run P w = .ok (.slice (some ⟨w.heap.size, 0, none⟩) (len + cnt) (C.size / k)) (w.drew.alloc (.cells C elem)) ∧
      (len + cnt) * k ≤ C.size ∧ (∀ j : Nat, j < len * k + cnt * k → C[j]? = (old ++ new)[j]?) := by
  obtain ⟨s, xt, d, i, h0, h1, hs, hd, hx, hi, hz, rfl, rfl, hzl, hk, hbs⟩ := appTy_spec ht
  have hn : ¬ (len + cnt ≤ cap) := by omega
  have hfit := growslice_fits (bytes := i.bytes) hcap hb
  have h48' : ¬ (281474976710656 < Builtin.nextslicecap (len + cnt) cap * i.bytes) := by omega
  have hnb : i.bytes ≠ 0 := by omega
  have hzr := run_zeroO (P := P) w.drew E hz
  have hz2 := AV.cells_conc' E z (zeroO_plain hz)
  have hzs : (z.conc E).cells.size = i.size := by rw [hz2]; simp [AV.concs_eq, hzl]
  have hge : len + cnt ≤ grownCap w (len + cnt) cap elem := by simp [grownCap, Question.cut]
  refine ⟨old ++ new ++ Builtin.zeroCells (z.conc E).cells (grownCap w (len + cnt) cap elem - (len + cnt)), ?_, ?_, ?_⟩
  · have hsize : (old ++ new ++ Builtin.zeroCells (z.conc E).cells (grownCap w (len + cnt) cap elem - (len + cnt))).size / i.size = grownCap w (len + cnt) cap elem := by
      simp only [Array.size_append, holds, hnews, zeroCells_size, hzs]
      rw [← Nat.add_mul, ← Nat.add_mul, Nat.mul_div_cancel _ hk]
      omega
    have hzi : (zeroValue elem).run P w.drew = .ok (z.conc E) w.drew := hzr
    rw [hsize]
    simp only [Builtin.append_, h0, h1, List.getElem?_toArray, List.getElem?_cons_zero, List.getElem?_cons_succ, Sem.run_bind, run_underlying hs, Result.andThen_ok, sizeOf, typeInfo, run_program, hi, Sem.run_pure, run_underlying hd]
    cases d <;> first
      | exact absurd rfl (hx _)
      | simp [hi, hlen, hn, hnb, h48', Question.forced, hold, hnew, hzi, newRow, grownCap]
  · simp only [Array.size_append, holds, hnews, zeroCells_size, hzs]
    rw [← Nat.add_mul, ← Nat.add_mul]
    exact Nat.mul_le_mul_right _ (by omega)
  · intro j hj
    rw [Array.getElem?_append_left (by simp [holds, hnews]; omega)]

def hasLen : List AV → Nat → Bool
  | _, 0 => true
  | [], _ + 1 => false
  | _ :: l, m + 1 => hasLen l m

theorem hasLen_le : ∀ {l : List AV} {m : Nat}, hasLen l m = true → m ≤ l.length
  | _, 0, _ => Nat.zero_le _
  | [], _ + 1, h => by simp [hasLen] at h
  | _ :: l, m + 1, h => by simp only [hasLen] at h; have := hasLen_le h; simp; omega

noncomputable def appendO (P : Program) (H : Heap) (n : Nat) (ts : Array TypeId) (s x : AV) : Option (AV × Heap × Nat) :=
  match appTy P ts with
  | none => none
  | some (elem, k, bs, _) =>
    match srcA H k x with
    | none => none
    | some (cnt, new) =>
      match s with
      | .sn =>
        bif Nat.beq cnt 0 then some (.sn, H, n)
        else bif Nat.ble (cnt * bs) 140737488355328 then some (.sl n 0 cnt (.te k), H.set n (.cells new elem (some (0, 0)) true), n + 1)
        else none
      | .sl b o len cap =>
        match H.get b with
        | some (.cells vs el fz gr) =>
          bif Nat.beq ((vs.drop o).take (len * k)).length (len * k) && new.all AV.one then
            match cap with
            | .kn c =>
              bif Nat.ble (len + cnt) c then
                bif Nat.beq cnt 0 then some (.sl b o len (.kn c), H, n)
                else bif hasLen vs (o + len * k + cnt * k) && unfrozen fz (o + len * k) (cnt * k) then
                  some (.sl b o (len + cnt) (.kn c), H.set b (.cells (updL vs (o + len * k) new) el fz gr), n)
                else none
              else bif Nat.ble ((len + cnt) * bs) 140737488355328 then
                some (.sl n 0 (len + cnt) (.te k), H.set n (.cells ((vs.drop o).take (len * k) ++ new) elem (some (0, 0)) true), n + 1)
              else none
            | .te e =>
              bif Nat.beq e k && hasLen vs (o + len * k) then
                bif Nat.beq cnt 0 then some (.sl b o len (.te e), H, n)
                else bif hasLen vs (o + len * k + cnt * k) then
                  bif unfrozen fz (o + len * k) (cnt * k) then
                    some (.sl b o (len + cnt) (.te e), H.set b (.cells (updL vs (o + len * k) new) el fz gr), n)
                  else none
                else bif Nat.beq o 0 && Nat.beq vs.length (len * k) && Nat.beq el elem && unfrozen fz (len * k) (cnt * k) && Nat.ble ((len + cnt) * bs) 140737488355328 then
                  some (.sl n 0 (len + cnt) (.te k), (H.del b).set n (.cells (vs ++ new) elem fz true), n + 1)
                else none
              else none
          else none
        | _ => none
      | _ => none

theorem Moves.sub {E E' : Env} {h h' h'' : Heap} {n n' : Nat} {w w' : World} (hm : Moves E h n w E' h' n' w') (hsub : ∀ id x, h''.get id = some x → h'.get id = some x) : Moves E h n w E' h'' n' w' where
  nle := hm.nle
  agree := hm.agree
  old := fun id x hid hx => hm.old id x hid (hsub id x hx)
  new := fun id x hid hx => hm.new id x hid (hsub id x hx)
  size := hm.size
  keep := hm.keep
  os := hm.os
  out := hm.out
  tape := hm.tape

/-- A block under a new number: only its own contents have turned. -/
theorem sim_move {G : Nat} {E : Env} {H : Heap} {n : Nat} {w w' : World} (hs : Sim G E H n w) (b s : Nat) (x blk : Blk) (hg : H.get b = some x) (hb : blk.sc (n + 1))
    (hr : blk.rel (E.put n (E.ρ b) s) n w') (hoth : ∀ k : Nat, k ≠ E.ρ b → w'.heap[k]? = w.heap[k]?) (hsz : w'.heap.size = w.heap.size) (h1 : w'.os = w.os) (h2 : w'.output = w.output) (h3 : w'.tape = w.tape) (hro : x.isRo = false := by rfl) :
    Sim G (E.put n (E.ρ b) s) ((H.del b).set n blk) (n + 1) w' ∧ Moves E H n w (E.put n (E.ρ b) s) ((H.del b).set n blk) (n + 1) w' := by
  have hag := Env.put_agree E n (E.ρ b) s
  have inH : ∀ id y, ((H.del b).set n blk).get id = some y → id ≠ n → id ≠ b ∧ H.get id = some y := by
    intro id y hy hne
    rw [PT.get_set_ne _ _ hne, PT.get_del] at hy
    split at hy
    · simp at hy
    · rename_i e; exact ⟨e, hy⟩
  constructor
  · refine ⟨fun g hg' => ?_, by have := hs.gle; omega, ?_, ?_, ?_, ?_⟩
    · rw [(hag g (Nat.lt_of_lt_of_le hg' hs.gle)).1]; exact hs.glob g hg'
    · intro id y hy
      by_cases e : id = n
      · omega
      · have := hs.lt id y (inH id y hy e).2; omega
    · intro id y hy
      by_cases e : id = n
      · subst e; rw [PT.get_set_same] at hy; cases hy; exact hb
      · have h4 := hs.sc id y (inH id y hy e).2
        cases y with
        | cells vs _ _ _ => exact AV.scs_mono (Nat.le_succ n) _ h4
        | map es _ => exact fun q hq => ⟨AV.sc_mono (Nat.le_succ n) _ (h4 q hq).1, AV.sc_mono (Nat.le_succ n) _ (h4 q hq).2⟩
        | iter _ _ => trivial
        | ro vs => exact AV.scs_mono (Nat.le_succ n) _ h4
        | loop _ => trivial
    · intro id y hy
      by_cases e : id = n
      · subst e; rw [PT.get_set_same] at hy; cases hy; exact hr
      · obtain ⟨hne, hy'⟩ := inH id y hy e
        have h4 := hs.lt id y hy'
        have h5 := Blk.rel_agree hag h4 (hs.sc id y hy') (hs.rel id y hy')
        refine Blk.rel_heap ?_ h5
        rw [(hag id h4).1]
        exact hoth _ fun e2 => hne (hs.inj id b y x hy' hg e2)
    · intro id jd y z hy hz he
      by_cases e : id = n <;> by_cases e' : jd = n
      · omega
      · obtain ⟨hne, hz'⟩ := inH jd z hz e'
        subst e
        rw [Env.put_ρ, (hag jd (hs.lt jd z hz')).1] at he
        exact absurd (hs.inj jd b z x hz' hg he.symm) hne
      · obtain ⟨hne, hy'⟩ := inH id y hy e
        subst e'
        rw [Env.put_ρ, (hag id (hs.lt id y hy')).1] at he
        exact absurd (hs.inj id b y x hy' hg he) hne
      · obtain ⟨_, hy'⟩ := inH id y hy e
        obtain ⟨_, hz'⟩ := inH jd z hz e'
        rw [(hag id (hs.lt id y hy')).1, (hag jd (hs.lt jd z hz')).1] at he
        exact hs.inj id jd y z hy' hz' he
  · refine ⟨Nat.le_succ n, hag, ?_, ?_, by omega, ?_, h1, h2, h3⟩
    · intro id y hid hy hry
      exact ⟨y, (inH id y hy (by omega)).2, hry⟩
    · intro id y hid hy hry
      by_cases e : id = n
      · subst e; rw [Env.put_ρ]; exact .inr ⟨b, x, hg, hro, rfl⟩
      · have := hs.lt id y (inH id y hy e).2; omega
    · intro k _ hno
      exact hoth k fun e => hno b x hg hro e.symm

/-- What an operation's result must be. -/
structure Done (G : Nat) (E : Env) (H : Heap) (n : Nat) (w : World) (r : AV × Heap × Nat) (E' : Env) (w' : World) : Prop where
  sim : Sim G E' r.2.1 r.2.2 w'
  moves : Moves E H n w E' r.2.1 r.2.2 w'
  sc : r.1.sc r.2.2

theorem sim_grow {G : Nat} {E : Env} {H : Heap} {n : Nat} {w : World} (hs : Sim G E H n w) (vs : List AV) (elem : TypeId) (C : Array Value) (fz : Option (Nat × Nat)) (hsc : AV.scs n vs) (hlen : vs.length ≤ C.size)
    (hC : ∀ j : Nat, j < vs.length → C[j]? = (AV.concs E vs)[j]?) :
    Sim G (E.put n w.heap.size C.size) (H.set n (.cells vs elem fz true)) (n + 1) (w.drew.alloc (.cells C elem)) ∧
      Moves E H n w (E.put n w.heap.size C.size) (H.set n (.cells vs elem fz true)) (n + 1) (w.drew.alloc (.cells C elem)) := by
  have hs' : Sim G E H n w.drew := hs.same rfl
  have key := sim_alloc hs' (.cells C elem) C.size (.cells vs elem fz true) (AV.scs_mono (Nat.le_succ n) _ hsc) (by
    have hag := Env.put_agree E n w.drew.heap.size C.size
    refine ⟨C, 0, 0, ?_, ?_, hlen, fun h => by simp at h, fun j hj => ?_, ?_⟩
    · rw [Env.put_ρ]; exact heap_alloc_new w.drew _
    · rw [Env.put_σ]
    · rw [hC j hj, AV.concs_eq, List.getElem?_map, List.getElem?_eq_getElem hj, Option.map_some, AV.conc_agree hag _ ((AV.scs_iff n vs).1 hsc _ (List.getElem_mem hj))]
    · cases fz with
      | none => exact ⟨Nat.le_refl _, fun o _ => by omega⟩
      | some ac => exact ⟨Nat.le_refl _, .inl rfl⟩)
  refine ⟨key.1, ?_⟩
  exact ⟨key.2.nle, key.2.agree, key.2.old, key.2.new, key.2.size, key.2.keep, key.2.os, key.2.out, key.2.tape⟩

theorem concs_append (E : Env) (a b : List AV) : AV.concs E (a ++ b) = AV.concs E a ++ AV.concs E b := by simp [AV.concs_eq]
theorem concs_length (E : Env) (a : List AV) : (AV.concs E a).length = a.length := by simp [AV.concs_eq]

theorem run_firstOld {P : Program} {G : Nat} {E : Env} {H : Heap} {n : Nat} {w : World} (hs : Sim G E H n w) {b o len k cap : Nat} {vs : List AV} {el : TypeId} {fz : Option (Nat × Nat)} {gr : Bool}
    (hg : H.get b = some (.cells vs el fz gr)) (hl : ((vs.drop o).take (len * k)).length = len * k) :
    (Builtin.firstCells k len (.slice (some ⟨E.ρ b, o, none⟩) len cap)).run P w = .ok (AV.concs E ((vs.drop o).take (len * k))).toArray w := by
  simp only [Builtin.firstCells]
  by_cases hz : len * k = 0
  · rw [hz]; simp [loadCells, loadCellsFrom, AV.concs]
  · refine sim_loadCells P hs hg ?_
    rw [List.length_take, List.length_drop] at hl
    omega

theorem run_appendO {P : Program} {G : Nat} {E : Env} {H : Heap} {n : Nat} {w : World} (hs : Sim G E H n w) (ts : Array TypeId) (ty : TypeId) (s x : AV) (r : AV × Heap × Nat)
    (hssc : s.sc n) (hxsc : x.sc n) (h : appendO P H n ts s x = some r) :
    ∃ E' w', (Builtin.append_ ts ty #[s.conc E, x.conc E]).run P w = .ok (r.1.conc E') w' ∧ Done G E H n w r E' w' := by
  unfold appendO at h
  split at h
  · simp at h
  rename_i elem k bs z ht
  obtain ⟨_, _, _, i, _, _, _, _, _, hi, _, hik, hibs, _, hk, hbs⟩ := appTy_spec ht
  split at h
  · simp at h
  rename_i cnt new hsrc
  obtain ⟨hnl, hlenOf, hfirst, hnsc⟩ := srcA_spec (P := P) hs hsrc
  have hnsc := hnsc hxsc
  have hs' : Sim G E H n w.drew := hs.same rfl
  obtain ⟨_, _, hfirst', _⟩ := srcA_spec (P := P) hs' hsrc
  split at h
  · -- nil
    cases h0 : Nat.beq cnt 0 with
    | true =>
      rw [h0] at h
      have h0' := Nat.eq_of_beq_eq_true h0
      subst h0'
      simp only [cond_true, Option.some.injEq] at h
      subst h
      refine ⟨E, w, ?_, hs, Moves.refl E H n w, by simp [AV.sc]⟩
      obtain ⟨s', xt, d, i', e0, e1, ehs, ehd, ehx, ehi, _, ek, _⟩ := appTy_spec ht
      simp only [AV.conc, Builtin.append_, e0, e1, List.getElem?_toArray, List.getElem?_cons_zero, List.getElem?_cons_succ, Sem.run_bind, run_underlying ehs, Result.andThen_ok, sizeOf, typeInfo, run_program, ehi, Sem.run_pure, run_underlying ehd]
      cases d <;> first
        | exact absurd rfl (ehx _)
        | (subst ek; simp [ehi, hlenOf, hfirst])
    | false =>
      rw [h0] at h
      have h0' : cnt ≠ 0 := fun e => by rw [e] at h0; simp at h0
      simp only [cond_false] at h
      cases hb : Nat.ble (cnt * bs) 140737488355328 with
      | false => rw [hb] at h; simp at h
      | true =>
        rw [hb] at h
        have hb' := Nat.le_of_ble_eq_true hb
        simp only [cond_true, Option.some.injEq] at h
        subst h
        have hold : (Builtin.firstCells k 0 (.slice none 0 0)).run P w.drew = .ok #[] w.drew := by simp [Builtin.firstCells]
        obtain ⟨C, hrun, hC1, hC2⟩ := run_append_new E w ty ht none 0 0 cnt (x.conc E) #[] _ hlenOf hold hfirst' (by omega) (by simpa using hb') (by simp) (by simp [concs_length, hnl])
        have hCl : new.length ≤ C.size := by rw [hnl]; simpa using hC1
        obtain ⟨k1, k2⟩ := sim_grow hs new elem C (some (0, 0)) hnsc hCl (fun j hj => by
          rw [hC2 j (by rw [hnl] at hj; omega)]; simp)
        refine ⟨_, _, ?_, k1, k2, by simp only [AV.sc]; omega⟩
        simp only [AV.conc, Cap.conc, Env.put_ρ, Env.put_σ, Nat.sub_zero]
        rw [hrun]
        simp
  · rename_i b o len cap
    have hbn : b < n := hssc
    split at h
    · rename_i vs el fz gr hg
      cases hc : (Nat.beq ((vs.drop o).take (len * k)).length (len * k) && new.all AV.one) with
      | false => rw [hc] at h; simp at h
      | true =>
        rw [hc] at h
        simp only [cond_true] at h
        simp only [Bool.and_eq_true] at hc
        obtain ⟨hol, hone⟩ := hc
        have hol := Nat.eq_of_beq_eq_true hol
        have hold := run_firstOld (P := P) (cap := cap.conc (E.σ b) o) hs' hg hol
        obtain ⟨C0, lo, hi', hC0, hσ, hle, hgr, hcell, hf⟩ := hs.rel b _ hg
        have haddr : (⟨E.ρ b, o, none⟩ : Addr).add (len * k) = ⟨E.ρ b, o + len * k, none⟩ := addr_add _ _ _
        -- in place
        have inPlace : ∀ c', len + cnt ≤ c' → hasLen vs (o + len * k + cnt * k) = true → unfrozen fz (o + len * k) (cnt * k) = true →
            ∃ w', (Builtin.append_ ts ty #[.slice (some ⟨E.ρ b, o, none⟩) len c', x.conc E]).run P w = .ok (.slice (some ⟨E.ρ b, o, none⟩) (len + cnt) c') w' ∧
              Sim G E (H.set b (.cells (updL vs (o + len * k) new) el fz gr)) n w' ∧ Moves E H n w E (H.set b (.cells (updL vs (o + len * k) new) el fz gr)) n w' := by
          intro c' hc' hh hu
          obtain ⟨w', e1, e2, e3⟩ := sim_storeCells P hs hg new (by have := hasLen_le hh; rw [hnl]; omega) (by rw [hnl]; exact hu) hone hnsc
          exact ⟨w', run_append_in w w' ty ht _ len c' cnt _ _ hlenOf hfirst hc' (by rw [haddr]; simpa using e1), e2, e3⟩
        -- into a new block
        have inNew : cap.conc (E.σ b) o < len + cnt → (len + cnt) * bs ≤ 140737488355328 → ∀ fz', ∃ C, (Builtin.append_ ts ty #[.slice (some ⟨E.ρ b, o, none⟩) len (cap.conc (E.σ b) o), x.conc E]).run P w =
            .ok (.slice (some ⟨w.heap.size, 0, none⟩) (len + cnt) (C.size / k)) (w.drew.alloc (.cells C elem)) ∧
              Sim G (E.put n w.heap.size C.size) (H.set n (.cells ((vs.drop o).take (len * k) ++ new) elem fz' true)) (n + 1) (w.drew.alloc (.cells C elem)) ∧
              Moves E H n w (E.put n w.heap.size C.size) (H.set n (.cells ((vs.drop o).take (len * k) ++ new) elem fz' true)) (n + 1) (w.drew.alloc (.cells C elem)) := by
          intro hlt hbb fz'
          obtain ⟨C, hrun, hC1, hC2⟩ := run_append_new E w ty ht _ len _ cnt (x.conc E) _ _ hlenOf hold hfirst' hlt hbb (by simp only [List.size_toArray, concs_length, hol]) (by simp only [List.size_toArray, concs_length, hnl])
          have hlen' : ((vs.drop o).take (len * k) ++ new).length = len * k + cnt * k := by rw [List.length_append, hol, hnl]
          obtain ⟨k1, k2⟩ := sim_grow hs ((vs.drop o).take (len * k) ++ new) elem C fz' (scs_append (scs_take _ (scs_drop _ (hs.sc b _ hg))) hnsc) (by rw [hlen', ← Nat.add_mul]; exact hC1) (fun j hj => by
            rw [hC2 j (by omega), concs_append]; simp)
          exact ⟨C, hrun, k1, k2⟩
        split at h
        · -- a known capacity
          rename_i c
          cases hc : Nat.ble (len + cnt) c with
          | true =>
            rw [hc] at h
            have hc' := Nat.le_of_ble_eq_true hc
            simp only [cond_true] at h
            cases h0 : Nat.beq cnt 0 with
            | true =>
              rw [h0] at h
              have h0' := Nat.eq_of_beq_eq_true h0
              subst h0'
              simp only [cond_true, Option.some.injEq] at h
              subst h
              have hn0 : new = [] := List.length_eq_zero_iff.1 (by omega)
              subst hn0
              refine ⟨E, w, ?_, hs, Moves.refl E H n w, hssc⟩
              exact run_append_in w w ty ht _ len c 0 _ _ hlenOf hfirst hc' (by simp [AV.concs, storeCells])
            | false =>
              rw [h0] at h
              simp only [cond_false] at h
              cases hh : (hasLen vs (o + len * k + cnt * k) && unfrozen fz (o + len * k) (cnt * k)) with
              | false => rw [hh] at h; simp at h
              | true =>
                rw [hh] at h
                simp only [cond_true, Option.some.injEq] at h
                subst h
                simp only [Bool.and_eq_true] at hh
                obtain ⟨w', e1, e2, e3⟩ := inPlace c hc' hh.1 hh.2
                exact ⟨E, w', e1, e2, e3, hbn⟩
          | false =>
            rw [hc] at h
            have hc' : ¬ (len + cnt ≤ c) := fun e => by rw [Nat.ble_eq_true_of_le e] at hc; simp at hc
            simp only [cond_false] at h
            cases hb : Nat.ble ((len + cnt) * bs) 140737488355328 with
            | false => rw [hb] at h; simp at h
            | true =>
              rw [hb] at h
              simp only [cond_true, Option.some.injEq] at h
              subst h
              obtain ⟨C, e1, e2, e3⟩ := inNew (by simp only [Cap.conc]; omega) (Nat.le_of_ble_eq_true hb) (some (0, 0))
              refine ⟨_, _, ?_, e2, e3, by simp only [AV.sc]; omega⟩
              simp only [AV.conc, Cap.conc, Env.put_ρ, Env.put_σ, Nat.sub_zero] at e1 ⊢
              exact e1
        · -- up to the block's end
          rename_i e
          cases he : (Nat.beq e k && hasLen vs (o + len * k)) with
          | false => rw [he] at h; simp at h
          | true =>
            rw [he] at h
            simp only [Bool.and_eq_true] at he
            obtain ⟨he1, he2⟩ := he
            have he1 := Nat.eq_of_beq_eq_true he1
            have he2 := hasLen_le he2
            subst he1
            simp only [cond_true] at h
            cases h0 : Nat.beq cnt 0 with
            | true =>
              rw [h0] at h
              have h0' := Nat.eq_of_beq_eq_true h0
              subst h0'
              simp only [cond_true, Option.some.injEq] at h
              subst h
              have hn0 : new = [] := List.length_eq_zero_iff.1 (by omega)
              subst hn0
              refine ⟨E, w, ?_, hs, Moves.refl E H n w, hssc⟩
              refine run_append_in w w ty ht _ len _ 0 _ _ hlenOf hfirst ?_ (by simp [AV.concs, storeCells])
              simp only [Cap.conc]
              rw [Nat.add_zero, Nat.le_div_iff_mul_le hk]
              omega
            | false =>
              rw [h0] at h
              simp only [cond_false] at h
              cases hh : hasLen vs (o + len * e + cnt * e) with
              | true =>
                rw [hh] at h
                simp only [cond_true] at h
                cases hu : unfrozen fz (o + len * e) (cnt * e) with
                | false => rw [hu] at h; simp at h
                | true =>
                  rw [hu] at h
                  simp only [cond_true, Option.some.injEq] at h
                  subst h
                  have hh' := hasLen_le hh
                  obtain ⟨w', e1, e2, e3⟩ := inPlace (Cap.conc (.te e) (E.σ b) o) (by
                    simp only [Cap.conc]
                    rw [Nat.le_div_iff_mul_le hk, Nat.add_mul]; omega) hh hu
                  exact ⟨E, w', e1, e2, e3, hbn⟩
              | false =>
                rw [hh] at h
                simp only [cond_false] at h
                cases hq : (Nat.beq o 0 && Nat.beq vs.length (len * e) && Nat.beq el elem && unfrozen fz (len * e) (cnt * e) && Nat.ble ((len + cnt) * bs) 140737488355328) with
                | false => rw [hq] at h; simp at h
                | true =>
                  rw [hq] at h
                  simp only [cond_true, Option.some.injEq] at h
                  subst h
                  simp only [Bool.and_eq_true] at hq
                  obtain ⟨⟨⟨⟨q1, q2⟩, q3⟩, q4⟩, q5⟩ := hq
                  have q1 := Nat.eq_of_beq_eq_true q1
                  have q2 := Nat.eq_of_beq_eq_true q2
                  have q3 := Nat.eq_of_beq_eq_true q3
                  have q5 := Nat.le_of_ble_eq_true q5
                  subst q1 q3
                  have hvs : (vs.drop 0).take (len * e) = vs := by rw [List.drop_zero, List.take_of_length_le (by omega)]
                  by_cases hcap : len + cnt ≤ (E.σ b - 0) / e
                  · -- it has stayed
                    have hroom : (len + cnt) * e ≤ C0.size := by
                      have := (Nat.le_div_iff_mul_le hk).1 hcap
                      omega
                    obtain ⟨w', C', hrun, hC', hsz, hget, hoth, hws, h1, h2, h3⟩ := run_storeCells_block P (E.ρ b) el lo hi' (len * e) (AV.concs E new) 0 C0 w hC0
                      (by rw [concs_length, hnl, Nat.add_zero, ← Nat.add_mul]; exact hroom)
                      (fun j hj => by
                        rw [concs_length, hnl] at hj
                        rw [Nat.add_mul] at hroom
                        cases fz with
                        | none => exact hf.2 _ (by omega)
                        | some ac =>
                          obtain ⟨a, c⟩ := ac
                          simp only at hf
                          simp only [unfrozen, Bool.or_eq_true, Nat.ble_eq] at q4
                          omega)
                      (fun v hv => by
                        rw [AV.concs_eq] at hv
                        obtain ⟨y, hy, rfl⟩ := List.mem_map.1 hv
                        exact AV.one_conc (List.all_eq_true.1 hone y hy))
                    have hag := Env.put_agree E n (E.ρ b) (E.σ b)
                    have hnewsc : AV.scs n (vs ++ new) := scs_append (hs.sc b _ hg) hnsc
                    obtain ⟨k1, k2⟩ := sim_move (w' := w') hs b (E.σ b) _ (.cells (vs ++ new) el fz true) hg (AV.scs_mono (Nat.le_succ n) _ hnewsc) (by
                      refine ⟨C', lo, hi', ?_, ?_, ?_, fun q => by simp at q, fun j hj => ?_, ?_⟩
                      · rw [Env.put_ρ]; exact hC'
                      · rw [Env.put_σ, hsz]; exact hσ
                      · rw [hsz, List.length_append, q2, hnl, ← Nat.add_mul]; exact hroom
                      · rw [hget j]
                        rw [List.length_append, q2, hnl] at hj
                        simp only [Nat.add_zero, concs_length, hnl]
                        by_cases hin : len * e ≤ j
                        · rw [if_pos ⟨hin, hj⟩, AV.concs_eq, List.getElem?_map]
                          have : (vs ++ new)[j] = new[j - len * e]'(by omega) := by
                            rw [List.getElem_append_right (by omega)]; congr 1; omega
                          rw [List.getElem?_eq_getElem (by omega), Option.map_some, this]
                          rw [AV.conc_agree hag _ ((AV.scs_iff n new).1 hnsc _ (List.getElem_mem _))]
                        · rw [if_neg (by omega), hcell j (by omega), List.getElem_append_left (by omega)]
                          rw [AV.conc_agree hag _ ((AV.scs_iff n vs).1 (hs.sc b _ hg) _ (List.getElem_mem _))]
                      · cases fz with
                        | none => exact ⟨hf.1, fun p hp => hf.2 p (by omega)⟩
                        | some ac => exact hf) hoth hws h1 h2 h3
                    refine ⟨_, w', ?_, k1, k2, by simp only [AV.sc]; omega⟩
                    have e1 := run_append_in w w' ty ht ⟨E.ρ b, 0, none⟩ len _ cnt _ _ hlenOf hfirst hcap (by rw [haddr]; simpa using hrun)
                    simp only [AV.conc, Cap.conc, Env.put_ρ, Env.put_σ] at e1 ⊢
                    exact e1
                  · -- it has moved
                    obtain ⟨C, e1, e2, e3⟩ := inNew (by simp only [Cap.conc]; omega) q5 fz
                    rw [hvs] at e2 e3
                    have hsub : ∀ id y, ((H.del b).set n (.cells (vs ++ new) el fz true)).get id = some y → (H.set n (.cells (vs ++ new) el fz true)).get id = some y := by
                      intro id y hy
                      rw [PT.get_set, PT.get_del] at hy
                      rw [PT.get_set]
                      split at hy
                      · rename_i hid; rw [if_pos hid]; exact hy
                      · rename_i hid
                        rw [if_neg hid]
                        split at hy
                        · simp at hy
                        · exact hy
                    refine ⟨_, _, ?_, e2.sub hsub, e3.sub hsub, by simp only [AV.sc]; omega⟩
                    simp only [AV.conc, Cap.conc, Env.put_ρ, Env.put_σ, Nat.sub_zero] at e1 ⊢
                    exact e1
    · simp at h
  · simp at h

end Go.AE
