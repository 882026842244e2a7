/- The engine, part 6: parts of slices and strings; len, cap, min, max; append and copy. -/
import Derived.Test.YtpggmngncbpboaaGreatDoorOpC
import Derived.Laws.Append
namespace Go.AE
set_option linter.unusedSimpArgs false

def AV.nat : AV → Option Nat
  | .nt _ (.ofNat i) => some i
  | _ => none

theorem AV.nat_conc (E : Env) {v : AV} {i : Nat} (h : v.nat = some i) : ∃ k, v.conc E = .int k (i : Int) := by
  unfold AV.nat at h
  split at h
  · cases h; exact ⟨_, rfl⟩
  · simp at h

/-- The bounds of a slice expression, at a capacity of at least capLo; none in the third place: the capacity itself. -/
def boundsA (len capLo : Nat) (lo hi mx : Option AV) : Option (Nat × Nat × Option Nat) :=
  match mx, hi with
  | some vm, some vh =>
    match vm.nat, vh.nat, (match lo with | some vl => vl.nat | none => some 0) with
    | some m, some h, some l => bif Nat.ble m capLo && Nat.ble h m && Nat.ble l h then some (l, h, some m) else none
    | _, _, _ => none
  | some _, none => none
  | none, some vh =>
    match vh.nat, (match lo with | some vl => vl.nat | none => some 0) with
    | some h, some l => bif Nat.ble h capLo && Nat.ble l h then some (l, h, none) else none
    | _, _ => none
  | none, none =>
    match (match lo with | some vl => vl.nat | none => some 0) with
    | some l => bif Nat.ble l len then some (l, len, none) else none
    | none => none

theorem boundsA_spec {len capLo : Nat} {lo hi mx : Option AV} {l h : Nat} {m : Option Nat} (hb : boundsA len capLo lo hi mx = some (l, h, m)) :
    l ≤ h ∧ (∀ x, m = some x → h ≤ x ∧ x ≤ capLo) ∧ (m = none → h ≤ capLo ∨ h = len) := by
  unfold boundsA at hb
  split at hb
  · split at hb
    · rename_i a b c _ _ _
      cases hc : (Nat.ble a capLo && Nat.ble b a && Nat.ble c b) with
      | false => rw [hc] at hb; simp at hb
      | true =>
        rw [hc] at hb
        simp only [cond_true, Option.some.injEq, Prod.mk.injEq] at hb
        obtain ⟨rfl, rfl, rfl⟩ := hb
        simp only [Bool.and_eq_true] at hc
        have h1 := Nat.le_of_ble_eq_true hc.1.1
        have h2 := Nat.le_of_ble_eq_true hc.1.2
        have h3 := Nat.le_of_ble_eq_true hc.2
        refine ⟨h3, fun x hx => ?_, fun hx => by simp at hx⟩
        simp only [Option.some.injEq] at hx
        omega
    · simp at hb
  · simp at hb
  · split at hb
    · rename_i b c _ _
      cases hc : (Nat.ble b capLo && Nat.ble c b) with
      | false => rw [hc] at hb; simp at hb
      | true =>
        rw [hc] at hb
        simp only [cond_true, Option.some.injEq, Prod.mk.injEq] at hb
        obtain ⟨rfl, rfl, rfl⟩ := hb
        simp only [Bool.and_eq_true] at hc
        have h1 := Nat.le_of_ble_eq_true hc.1
        have h2 := Nat.le_of_ble_eq_true hc.2
        exact ⟨h2, fun x hx => by simp at hx, fun _ => .inl h1⟩
    · simp at hb
  · split at hb
    · rename_i c _
      cases hc : Nat.ble c len with
      | false => rw [hc] at hb; simp at hb
      | true =>
        rw [hc] at hb
        simp only [cond_true, Option.some.injEq, Prod.mk.injEq] at hb
        obtain ⟨rfl, rfl, rfl⟩ := hb
        exact ⟨Nat.le_of_ble_eq_true hc, fun x hx => by simp at hx, fun _ => .inr rfl⟩
    · simp at hb

theorem run_bound {P : Program} (w : World) (E : Env) (v : AV) (i y : Nat) (code : BoundsCode) (h : v.nat = some i) (hle : i ≤ y) : (Instr.sliceBound (v.conc E) y code).run P w = .ok i w := by
  obtain ⟨k, hk⟩ := AV.nat_conc E h
  rw [hk, run_sliceBound w k i y code (Int.natCast_nonneg i) (by omega)]
  simp

theorem run_boundsA {P : Program} (w : World) (E : Env) (isS : Bool) (len capLo cap : Nat) (lo hi mx : Option AV) (l h : Nat) (m : Option Nat)
    (hb : boundsA len capLo lo hi mx = some (l, h, m)) (hcap : capLo ≤ cap) :
    (Instr.sliceBounds isS len cap (lo.map (AV.conc E)) (hi.map (AV.conc E)) (mx.map (AV.conc E))).run P w = .ok (l, h, m.getD cap) w := by
  unfold boundsA at hb
  split at hb
  · rename_i vm vh
    split at hb
    · rename_i a b c e1 e2 e3
      cases hc : (Nat.ble a capLo && Nat.ble b a && Nat.ble c b) with
      | false => rw [hc] at hb; simp at hb
      | true =>
        rw [hc] at hb
        simp only [cond_true, Option.some.injEq, Prod.mk.injEq] at hb
        obtain ⟨rfl, rfl, rfl⟩ := hb
        simp only [Bool.and_eq_true] at hc
        have h1 := Nat.le_of_ble_eq_true hc.1.1
        have h2 := Nat.le_of_ble_eq_true hc.1.2
        have h3 := Nat.le_of_ble_eq_true hc.2
        cases lo with
        | none =>
          simp only [Option.some.injEq] at e3
          subst e3
          simp [Instr.sliceBounds, run_bound w E vm a cap _ e1 (by omega), run_bound w E vh b a _ e2 h2]
        | some vl =>
          simp [Instr.sliceBounds, run_bound w E vm a cap _ e1 (by omega), run_bound w E vh b a _ e2 h2, run_bound w E vl c b _ e3 h3]
    · simp at hb
  · simp at hb
  · rename_i vh
    split at hb
    · rename_i b c e2 e3
      cases hc : (Nat.ble b capLo && Nat.ble c b) with
      | false => rw [hc] at hb; simp at hb
      | true =>
        rw [hc] at hb
        simp only [cond_true, Option.some.injEq, Prod.mk.injEq] at hb
        obtain ⟨rfl, rfl, rfl⟩ := hb
        simp only [Bool.and_eq_true] at hc
        have h1 := Nat.le_of_ble_eq_true hc.1
        have h2 := Nat.le_of_ble_eq_true hc.2
        cases lo with
        | none =>
          simp only [Option.some.injEq] at e3
          subst e3
          simp [Instr.sliceBounds, run_bound w E vh b cap _ e2 (by omega)]
        | some vl =>
          simp [Instr.sliceBounds, run_bound w E vh b cap _ e2 (by omega), run_bound w E vl c b _ e3 h2]
    · simp at hb
  · split at hb
    · rename_i c e3
      cases hc : Nat.ble c len with
      | false => rw [hc] at hb; simp at hb
      | true =>
        rw [hc] at hb
        simp only [cond_true, Option.some.injEq, Prod.mk.injEq] at hb
        obtain ⟨rfl, rfl, rfl⟩ := hb
        have h1 := Nat.le_of_ble_eq_true hc
        cases lo with
        | none =>
          simp only [Option.some.injEq] at e3
          subst e3
          simp [Instr.sliceBounds]
        | some vl =>
          simp [Instr.sliceBounds, run_bound w E vl c len _ e3 h1]
    · simp at hb

/-- A part of memory that a slice or an array's address leads to, at a known capacity. -/
def partA (b o k l h m : Nat) : AV := .sl b (bif Nat.beq m l then o else o + l * k) (h - l) (.kn (m - l))

noncomputable def sliceO (P : Program) (H : Heap) (t : TypeId) (x : AV) (lo hi mx : Option AV) : Option AV :=
  match P.underlying t, x with
  | some .string, .st s =>
    match mx with
    | some _ => none
    | none =>
      match boundsA s.length s.length lo hi none with
      | some (l, h, _) => some (.st ((s.drop l).take (h - l)))
      | none => none
  | some (.slice elem), .sn =>
    match sizeO P elem, boundsA 0 0 lo hi mx with
    | some _, some _ => some .sn
    | _, _ => none
  | some (.slice elem), .sl b o len (.kn c) =>
    match sizeO P elem, boundsA len c lo hi mx with
    | some k, some (l, h, m) => some (partA b o k l h (m.getD c))
    | _, _ => none
  | some (.slice elem), .sl b o len (.te e) =>
    match sizeO P elem, H.get b with
    | some (k + 1), some (.cells vs _ _ _) =>
      bif Nat.beq e (k + 1) then
        match boundsA len ((vs.length - o) / (k + 1)) lo hi mx with
        | some (l, h, some m) => some (partA b o (k + 1) l h m)
        | some (l, h, none) =>
          bif Nat.beq l 0 then some (.sl b o h (.te e))
          else bif Nat.blt l ((vs.length - o) / (k + 1)) then some (.sl b (o + l * (k + 1)) (h - l) (.te e)) else none
        | none => none
      else none
    | _, _ => none
  | some (.array n elem), .pt b o =>
    match sizeO P elem, boundsA n n lo hi mx with
    | some k, some (l, h, m) => some (partA b o k l h (m.getD n))
    | _, _ => none
  | _, _ => none

theorem partA_conc (E : Env) (b o k l h m : Nat) :
    (partA b o k l h m).conc E = .slice (some (if m = l then ⟨E.ρ b, o, none⟩ else (⟨E.ρ b, o, none⟩ : Addr).add (l * k))) (h - l) (m - l) := by
  unfold partA
  simp only [AV.conc, Cap.conc, addr_add]
  by_cases e : m = l
  · rw [if_pos e, e, show Nat.beq l l = true from Nat.beq_refl l]; rfl
  · have : Nat.beq m l = false := by
      rw [Bool.eq_false_iff]; intro h; exact e (Nat.eq_of_beq_eq_true h)
    rw [if_neg e, this]; rfl

theorem te_cap {σ L o k : Nat} (h : L ≤ σ) : (L - o) / k ≤ (σ - o) / k := Nat.div_le_div_right (Nat.sub_le_sub_right h o)

theorem te_sub {σ o k l : Nat} (_hk : 0 < k) : (σ - (o + l * k)) / k = (σ - o) / k - l := by
  rw [← Nat.sub_sub, Nat.mul_comm l k, Nat.sub_mul_div]

theorem run_sliceO {P : Program} {G : Nat} {E : Env} {H : Heap} {n : Nat} {w : World} (hs : Sim G E H n w) (t : TypeId) (x : AV) (lo hi mx : Option AV) (r : AV)
    (hr : sliceO P H t x lo hi mx = some r) :
    (Instr.sliceAt t (x.conc E) (lo.map (AV.conc E)) (hi.map (AV.conc E)) (mx.map (AV.conc E))).run P w = .ok (r.conc E) w := by
  unfold sliceO at hr
  split at hr
  · rename_i s hu
    split at hr
    · simp at hr
    · split at hr
      · rename_i l h m hb
        cases hr
        have e1 := run_boundsA (P := P) w E false s.length s.length s.length lo hi none l h m hb (Nat.le_refl _)
        have hsz : (⟨s.toArray⟩ : ByteArray).size = s.length := by simp [ByteArray.size]
        simp only [Option.map_none] at e1
        simp only [Instr.sliceAt, Sem.run_bind, run_underlying hu, Result.andThen_ok, Instr.slice, AV.conc, Option.map_none, Option.isSome_none, Bool.false_eq_true, if_false, Sem.run_pure, hsz, e1]
        congr 2
        apply ByteArray.ext
        rw [ByteArray.data_extract]
        simp
      · simp at hr
  · rename_i elem hu
    split at hr
    · rename_i k b hk hb
      obtain ⟨l, h, m⟩ := b
      cases hr
      have e1 := run_boundsA (P := P) w E true 0 0 0 lo hi mx l h m hb (Nat.le_refl _)
      obtain ⟨s1, s2, s3⟩ := boundsA_spec hb
      have hm : m.getD 0 = 0 := by
        cases m with
        | none => rfl
        | some x => have := s2 x rfl; simp; omega
      have hh : h = 0 := by
        cases m with
        | none => have := s3 rfl; omega
        | some x => have := s2 x rfl; omega
      have hl : l = 0 := by omega
      subst hh hl
      rw [hm] at e1
      simp only [Instr.sliceAt, Sem.run_bind, run_underlying hu, Result.andThen_ok, Instr.slice, AV.conc, e1, run_sizeO w hk, Sem.run_pure]
      simp
    · simp at hr
  · rename_i elem b o len c hu
    split at hr
    · rename_i k l h m hk hb
      cases hr
      have e1 := run_boundsA (P := P) w E true len c c lo hi mx l h m hb (Nat.le_refl _)
      rw [partA_conc]
      simp only [Instr.sliceAt, Sem.run_bind, run_underlying hu, Result.andThen_ok, Instr.slice, AV.conc, Cap.conc, e1, run_sizeO w hk, Sem.run_pure]
      congr 2
      split <;> simp
    · simp at hr
  · rename_i elem b o len e hu
    split at hr
    · rename_i k vs el fz grow hk hg
      cases he : Nat.beq e (k + 1) with
      | false => rw [he] at hr; simp at hr
      | true =>
        rw [he] at hr
        have he' := Nat.eq_of_beq_eq_true he
        subst he'
        simp only [cond_true] at hr
        obtain ⟨C, clo, chi, _, hσ, hle, _⟩ := hs.rel b _ hg
        have hcap : (vs.length - o) / (k + 1) ≤ (E.σ b - o) / (k + 1) := te_cap (by omega)
        split at hr
        · rename_i l h m hb
          cases hr
          have e1 := run_boundsA (P := P) w E true len _ _ lo hi mx l h (some m) hb hcap
          rw [partA_conc]
          simp only [Instr.sliceAt, Sem.run_bind, run_underlying hu, Result.andThen_ok, Instr.slice, AV.conc, Cap.conc, e1, run_sizeO w hk, Sem.run_pure, Option.getD_some]
          congr 2
          split <;> simp
        · rename_i l h hb
          have e1 := run_boundsA (P := P) w E true len _ _ lo hi mx l h none hb hcap
          simp only [Option.getD_none] at e1
          have goal1 : (Instr.sliceAt t ((AV.sl b o len (.te (k + 1))).conc E) (lo.map (AV.conc E)) (hi.map (AV.conc E)) (mx.map (AV.conc E))).run P w =
              .ok (.slice (if (E.σ b - o) / (k + 1) = l then some ⟨E.ρ b, o, none⟩ else some ⟨E.ρ b, o + l * (k + 1), none⟩) (h - l) ((E.σ b - o) / (k + 1) - l)) w := by
            simp only [Instr.sliceAt, Sem.run_bind, run_underlying hu, Result.andThen_ok, Instr.slice, AV.conc, Cap.conc, e1, run_sizeO w hk, Sem.run_pure, Option.map_some, addr_add]
          rw [goal1]
          cases h0 : Nat.beq l 0 with
          | true =>
            rw [h0] at hr
            have h0' := Nat.eq_of_beq_eq_true h0
            subst h0'
            simp only [cond_true, Option.some.injEq] at hr
            subst hr
            simp [AV.conc, Cap.conc]
          | false =>
            rw [h0] at hr
            simp only [cond_false] at hr
            cases h2 : Nat.blt l ((vs.length - o) / (k + 1)) with
            | false => rw [h2] at hr; simp at hr
            | true =>
              rw [h2] at hr
              have h2' := lt_of_blt h2
              simp only [cond_true, Option.some.injEq] at hr
              subst hr
              rw [if_neg (by omega)]
              simp only [AV.conc, Cap.conc]
              rw [te_sub (by omega : 0 < k + 1)]
        · simp at hr
    · simp at hr
  · rename_i nn elem b o hu
    split at hr
    · rename_i k l h m hk hb
      cases hr
      have e1 := run_boundsA (P := P) w E false nn nn nn lo hi mx l h m hb (Nat.le_refl _)
      rw [partA_conc]
      simp only [Instr.sliceAt, Sem.run_bind, run_underlying hu, Result.andThen_ok, AV.conc, Instr.sureAddr, e1, run_sizeO w hk, Sem.run_pure]
    · simp at hr
  · simp at hr

theorem sliceO_sc {P : Program} {H : Heap} {t : TypeId} {x : AV} {lo hi mx : Option AV} {r : AV} {n : Nat} (hr : sliceO P H t x lo hi mx = some r) (hx : x.sc n) : r.sc n := by
  unfold sliceO at hr
  split at hr
  · split at hr
    · simp at hr
    · split at hr
      · cases hr; simp [AV.sc]
      · simp at hr
  · split at hr
    · cases hr; simp [AV.sc]
    · simp at hr
  · split at hr
    · cases hr; exact hx
    · simp at hr
  · split at hr
    · rename_i k vs el fz grow hk hg
      cases he : Nat.beq _ (k + 1) with
      | false => rw [he] at hr; simp at hr
      | true =>
        rw [he] at hr
        simp only [cond_true] at hr
        split at hr
        · cases hr; exact hx
        · rename_i l h hb
          cases h0 : Nat.beq l 0 with
          | true => rw [h0] at hr; simp only [cond_true, Option.some.injEq] at hr; subst hr; exact hx
          | false =>
            rw [h0] at hr
            simp only [cond_false] at hr
            cases h2 : Nat.blt l _ with
            | false => rw [h2] at hr; simp at hr
            | true => rw [h2] at hr; simp only [cond_true, Option.some.injEq] at hr; subst hr; exact hx
        · simp at hr
    · simp at hr
  · split at hr
    · cases hr; exact hx
    · simp at hr
  · simp at hr

/-! ### len, cap, max, min -/
noncomputable def lenO (P : Program) (H : Heap) (t : TypeId) (x : AV) : Option AV :=
  match P.underlying t, x with
  | some .string, .st l => some (.nt .i64 (.ofNat l.length))
  | some (.array n _), _ => some (.nt .i64 (.ofNat n))
  | some (.pointer arr), _ =>
    match P.underlying arr with
    | some (.array n _) => some (.nt .i64 (.ofNat n))
    | _ => none
  | some (.slice _), .sn => some (.nt .i64 0)
  | some (.slice _), .sl _ _ n _ => some (.nt .i64 (.ofNat n))
  | some (.map _ _), .mn => some (.nt .i64 0)
  | some (.map _ _), .mp b =>
    match H.get b with
    | some (.map es _) => some (.nt .i64 (.ofNat es.length))
    | _ => none
  | _, _ => none

theorem run_lenO {P : Program} {G : Nat} {E : Env} {H : Heap} {n : Nat} {w : World} (hs : Sim G E H n w) (ts : Array TypeId) (t ty : TypeId) (args : Array Value) (x r : AV)
    (ht : ts[0]? = some t) (hx : args[0]? = some (x.conc E)) (h : lenO P H t x = some r) : (Builtin.len_ ts ty args).run P w = .ok (r.conc E) w := by
  unfold lenO at h
  simp only [Builtin.len_, ht, hx]
  split at h
  · rename_i l hu; cases h; simp only [Sem.run_bind, run_underlying hu, Result.andThen_ok]; simp only [AV.conc, goInt, Sem.run_pure]; rfl
  · rename_i hu; cases h; simp only [Sem.run_bind, run_underlying hu, Result.andThen_ok]; rfl
  · rename_i arr _ hu
    split at h
    · rename_i m el hu2
      cases h
      simp only [Sem.run_bind, run_underlying hu, Result.andThen_ok, run_underlying hu2]; rfl
    · simp at h
  · rename_i hu; cases h; simp [AV.conc, run_underlying hu, goInt]
  · rename_i hu; cases h; simp [AV.conc, run_underlying hu, goInt]
  · rename_i hu; cases h; simp [AV.conc, run_underlying hu, goInt]
  · rename_i b hu
    split at h
    · rename_i es clock hg
      cases h
      have hrel : w.heap[E.ρ b]? = some (.map (es.map (entryOf E)).toArray clock) := hs.rel b _ hg
      simp [AV.conc, run_underlying hu, goInt, getObj, Sem.run, hrel]
    · simp at h
  · simp at h

theorem lenO_sc {P : Program} {H : Heap} {t : TypeId} {x r : AV} (n : Nat) (h : lenO P H t x = some r) : r.sc n := by
  unfold lenO at h
  split at h <;> first
    | (cases h; simp [AV.sc]; done)
    | (split at h
       · cases h; simp [AV.sc]
       · simp at h)
    | (simp at h; done)

noncomputable def capO (P : Program) (t : TypeId) (x : AV) : Option AV :=
  match P.underlying t, x with
  | some (.array n _), _ => some (.nt .i64 (.ofNat n))
  | some (.slice _), .sn => some (.nt .i64 0)
  | some (.slice _), .sl _ _ _ (.kn c) => some (.nt .i64 (.ofNat c))
  | _, _ => none

theorem run_capO {P : Program} (E : Env) (w : World) (ts : Array TypeId) (t ty : TypeId) (args : Array Value) (x r : AV)
    (ht : ts[0]? = some t) (hx : args[0]? = some (x.conc E)) (h : capO P t x = some r) : (Builtin.cap_ ts ty args).run P w = .ok (r.conc E) w := by
  unfold capO at h
  simp only [Builtin.cap_, ht, hx]
  split at h
  · rename_i hu; cases h; simp only [Sem.run_bind, run_underlying hu, Result.andThen_ok]; rfl
  · rename_i hu; cases h; simp [AV.conc, run_underlying hu, goInt]
  · rename_i hu; cases h; simp [AV.conc, Cap.conc, run_underlying hu, goInt]
  · simp at h

theorem capO_sc {P : Program} {t : TypeId} {x r : AV} (n : Nat) (h : capO P t x = some r) : r.sc n := by
  unfold capO at h
  split at h <;> first | (cases h; simp [AV.sc]; done) | (simp at h; done)

/-- The greatest, or the least, of whole numbers. -/
def mostA (big : Bool) : AV → List AV → Option AV
  | x, [] => some x
  | .nt k x, .nt _ y :: l => mostA big (.nt k (if (if big then decide (y > x) else decide (y < x)) then y else x)) l
  | _, _ => none

theorem run_mostA {P : Program} (E : Env) (w : World) (big : Bool) : ∀ (l : List AV) (x r : AV), mostA big x l = some r →
    ((AV.concs E l).foldlM (if big then Builtin.max2 else Builtin.min2) (x.conc E)).run P w = .ok (r.conc E) w := by
  intro l
  induction l with
  | nil => intro x r h; cases x <;> simp [mostA] at h <;> subst h <;> simp [AV.concs]
  | cons v l ih =>
    intro x r h
    unfold mostA at h
    split at h
    · rename_i h2; simp at h2
    · rename_i k a k' b l' h2
      simp only [List.cons.injEq] at h2
      obtain ⟨rfl, rfl⟩ := h2
      have h1 := ih _ _ h
      have h2 : ((if big then Builtin.max2 else Builtin.min2) ((AV.nt k a).conc E) ((AV.nt k' b).conc E)).run P w =
          .ok ((AV.nt k (if (if big then decide (b > a) else decide (b < a)) then b else a)).conc E) w := by
        cases big <;> simp [AV.conc, Builtin.max2, Builtin.min2]
      simp only [AV.concs, List.foldlM_cons, Sem.run_bind, h2, Result.andThen_ok]
      exact h1
    · simp at h

theorem mostA_sc {big : Bool} (n : Nat) : ∀ {l : List AV} {x r : AV}, mostA big x l = some r → x.sc n → r.sc n
  | [], x, r, h, hx => by cases x <;> simp [mostA] at h <;> subst h <;> exact hx
  | v :: l, x, r, h, _ => by
    cases x with
    | nt k a =>
      cases v with
      | nt k' b => exact mostA_sc n (l := l) h (by simp [AV.sc])
      | _ => simp [mostA] at h
    | _ => simp [mostA] at h

end Go.AE
