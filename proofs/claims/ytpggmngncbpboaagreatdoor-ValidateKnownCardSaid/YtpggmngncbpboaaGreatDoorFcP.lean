/- The fast code, part 8d: code laid in the fast language does what the model's code does. -/
import Derived.Test.YtpggmngncbpboaaGreatDoorFcN
namespace Go.AE
set_option linter.unusedSimpArgs false

/-- The rounds that are under way answer as they say. -/
def YsOk (X : Bs) (P : Program) (ys : Ys) : Prop :=
  ∀ b hd, lookY ys b = some hd → b < X.n0 ∧ ∀ vs h n r, hd vs h n = some r → ∀ E w, X.E0.Agree E X.n0 → X.n0 ≤ n → Sim P.globals.size E h n w → AV.scs n vs →
    CallsX P E (.yl b) (AV.concs E vs).toArray w fun v w' => ∃ E', v = r.1.conc E' ∧ Done P.globals.size E h n w r E' w'

def CYOk (P : Program) (CY : CallY) : Prop := ∀ X ys, YsOk X P ys → CallOk X P (CY ys)

theorem YsOk.more {X X' : Bs} {P : Program} {ys : Ys} (h : YsOk X P ys) (hag : X.E0.Agree X'.E0 X.n0) (hn : X.n0 ≤ X'.n0) : YsOk X' P ys := by
  intro b hd hb
  obtain ⟨h1, h2⟩ := h b hd hb
  refine ⟨by omega, fun vs hp n r hr E w ha hle hs hsc => h2 vs hp n r hr E w (hag.trans hn ha) (by omega) hs hsc⟩

theorem lookY_cons (p : Nat × Jmp) (ys : Ys) (b : Nat) : lookY (p :: ys) b = if p.1 = b then some p.2 else lookY ys b := by
  show Bool.rec (motive := fun _ => Option Jmp) (lookY ys b) (some p.2) (Nat.beq p.1 b) = _
  by_cases e : p.1 = b
  · rw [if_pos e, show Nat.beq p.1 b = true by rw [e]; exact Nat.beq_refl b]
  · rw [if_neg e, show Nat.beq p.1 b = false by rw [Bool.eq_false_iff]; intro h; exact e (Nat.eq_of_beq_eq_true h)]

theorem outJs_get (b : Nat) : ∀ (k i j : Nat), jget (outJs b k i) j = if j < k then outJ b false (.done (i + j)) else fun _ _ _ => none := by
  intro k
  induction k with
  | zero => intro i j; rw [if_neg (by omega)]; rfl
  | succ k ih =>
    intro i j
    show jget (outJ b false (.done i) :: outJs b k (i + 1)) j = _
    cases j with
    | zero => rw [if_pos (by omega)]; rfl
    | succ j =>
      show jget (outJs b k (i + 1)) j = _
      rw [ih]
      by_cases hlt : j < k
      · rw [if_pos hlt, if_pos (by omega), show i + 1 + j = i + (j + 1) by omega]
      · rw [if_neg hlt, if_neg (by omega)]
theorem outJs_length (b : Nat) : ∀ (k i : Nat), (outJs b k i).length = k := by
  intro k
  induction k with
  | zero => intro i; rfl
  | succ k ih => intro i; show (outJ b false (.done i) :: outJs b k (i + 1)).length = _; simp [ih]

theorem bsR_look : ∀ (bs : Blks) (i id lvl : Nat) (L : List Tmp), lookJ (bsR bs i) id = some (lvl, L) → L = [] ∧ ∃ q b, lvl = 10 - (i + q) ∧ bs[q]? = some b ∧ b.1 = id := by
  intro bs
  induction bs with
  | nil => intro i id lvl L h; simp [bsR, lookJ] at h
  | cons b bs ih =>
    intro i id lvl L h
    have h : lookJ ((b.1, 10 - i, [], 0) :: bsR bs (i + 1)) id = some (lvl, L) := h
    rw [lookJ_cons] at h
    cases hb : Nat.beq b.1 id with
    | true =>
      simp only [hb, cond_true, Option.some.injEq, Prod.mk.injEq] at h
      obtain ⟨rfl, rfl⟩ := h
      exact ⟨rfl, 0, b, rfl, rfl, Nat.eq_of_beq_eq_true hb⟩
    | false =>
      simp only [hb, cond_false] at h
      obtain ⟨h1, q, b', h2, h3, h4⟩ := ih (i + 1) id lvl L h
      exact ⟨h1, q + 1, b', by rw [h2]; congr 1; omega, by simpa using h3, h4⟩

theorem exitsR_run {P : Program} {CY : CallY} {ys : Ys} {fuel : Nat} {σ : Sg} {len jl : Nat} {bs0 : Blks} {env : List AV} {js : List Jmp} {h : Heap} {n : Nat} {r : AV × Heap × Nat} :
    ∀ (bs : Blks) (i q : Nat), (exitsR σ len jl bs0 bs i).run P CY ys fuel (.nt .u64 (.ofNat (q + 2)) :: env) js h n = some r → i ≤ q →
      ∃ b fc, bs[q - i]? = some b ∧ exitR σ len jl bs0 b.1 = some fc ∧ fc.run P CY ys fuel (.nt .u64 (.ofNat (q + 2)) :: env) js h n = some r := by
  intro bs
  induction bs with
  | nil => intro i q h _; have h : FC.run P CY ys fuel .fail _ js _ n = some r := h; rw [run_fail] at h; cases h
  | cons b bs ih =>
    intro i q h hle
    have h : FC.run P CY ys fuel (.cs (.v 0) (i + 2) (orFail (exitR σ len jl bs0 b.1)) (exitsR σ len jl bs0 bs (i + 1))) (.nt .u64 (.ofNat (q + 2)) :: env) js _ n = some r := h
    rw [run_cs] at h
    simp only [val_v, lget_zero, csQ] at h
    by_cases e : q = i
    · subst e
      rw [Nat.beq_refl] at h
      simp only [] at h
      cases hx : exitR σ len jl bs0 b.1 with
      | none => rw [hx] at h; simp only [orFail] at h; rw [run_fail] at h; cases h
      | some fc => rw [hx] at h; exact ⟨b, fc, by simp, hx, h⟩
    · have : Nat.beq (q + 2) (i + 2) = false := by rw [Bool.eq_false_iff]; intro hh; have := Nat.eq_of_beq_eq_true hh; omega
      rw [this] at h
      simp only [] at h
      obtain ⟨b', fc, h1, h2, h3⟩ := ih (i + 1) q h (by omega)
      refine ⟨b', fc, ?_, h2, h3⟩
      rw [show q - i = (q - (i + 1)) + 1 by omega]
      simpa using h1

theorem hasBody_spec {P : Program} {g : FuncId} (h : hasBody P g = true) : ∃ fn c, P.funcs[g]? = some fn ∧ fn.body = some c ∧ (fn.name == "runtime.NumGoroutine") = false := by
  unfold hasBody at h
  split at h
  · rename_i fn hf
    split at h
    · rename_i c hc
      exact ⟨fn, c, hf, hc, by simpa using h⟩
    · simp at h
  · simp at h

section
variable {P : Program} {CY : CallY} {fuel N : Nat}

/-- A way out of a round. -/
theorem outJ_ok {G : Nat} {b : Nat} {more : Bool} {st : LSt} {vs : List AV} {h : Heap} {n : Nat} {r : AV × Heap × Nat} (hr : outJ b more st vs h n = some r) {E : Env} {w : World} (hs : Sim G E h n w)
    {jump : Option Code} (hj : more = jump.isNone) (hst : (E.lp b).at st = { (E.lp b).at .busy with state := if jump.isNone then .ready else .done, pending := jump }) :
    ∃ w', (Instr.endRound (E.ρ b) jump).run P w = .ok (.bool more) w' ∧ Sim G E r.2.1 r.2.2 w' ∧ Moves E h n w E r.2.1 r.2.2 w' ∧ r.1 = .bo more := by
  unfold outJ at hr
  split at hr
  · rename_i hb
    cases hr
    have hb := lstQ_some hb
    have hrel : w.heap[E.ρ b]? = some (.loop ((E.lp b).at .busy)) := hs.rel b _ hb
    obtain ⟨h1, h2⟩ := sim_putL hs hb (.loop ((E.lp b).at st)) (h.set b (.loop st)) (.inl ⟨st, rfl, rfl⟩)
    refine ⟨_, ?_, h1, h2, rfl⟩
    rw [run_endRound jump hrel, hj, hst]
  · simp at hr

/-- What is asked behind a piece of code, all in one. -/
structure Post (P : Program) (CY : CallY) (ys : Ys) (fuel N lo : Nat) (X : Bs) (r : AV × Heap × Nat) (E : Env) (h : Heap) (n : Nat) (w : World) (bs : Blks) (jl : Nat) (js : List Jmp) (kr : Nat → Sg → Nat → Option FC)
    (k : Sg → Nat → Option FC) (Q : Exit → Act → World → Prop) : Prop where
  pk : PK P CY ys fuel N lo X r E h n w js k (Q .normal)
  pb : PB P N lo X r E h n w bs jl js fun id => Q (.exit id)
  pr : PR P CY ys fuel N lo X r E h n w kr jl js (Q .ret)

/-- What is to be shown of a piece of code. -/
def TrOk (P : Program) (CY : CallY) (fuel N rets : Nat) (c : Code) : Prop :=
  ∀ {ys : Ys} {σ : Sg} {len : Nat} {bs : Blks} {jl live : Nat} {kr : Nat → Sg → Nat → Option FC} {rd : Bool} {k : Sg → Nat → Option FC} {fc : FC} {ro : Option Nat} {fd : Nat}, trC P N rets c σ len bs jl live kr rd k = some fc →
    (rd = false → ro = none) → BlOk bs jl → ∀ {X : Bs} {lo : Nat} {E : Env} {a : Act} {env : List AV} {js : List Jmp} {h : Heap} {n : Nat} {w : World} {r : AV × Heap × Nat}, YsOk X P ys → FS X lo P N σ len env E a h n w →
    js.length = jl → fc.run P CY ys fuel env js h n = some r → ∀ Q, Post P CY ys fuel N lo X r E h n w bs jl js kr k Q → c.wpIn (WF ro) fd P Q a w

/-- A round, out of its assignment and its body. -/
theorem round_ok {ys : Ys} {assign body : Code} {rets1 rets2 : Nat} (iha : TrOk P CY fuel N rets1 assign) (ihb : TrOk P CY fuel N rets2 body) {σ : Sg} {len : Nat} {bs : Blks} {ps : List Tmp} {live1 live2 : Nat} {La : List Tmp} {fa fb : FC}
    (hp : ∀ p ∈ ps, p < N) (hbs : bs.length < 11)
    (ha : trC P N rets1 assign (sgP (ps.length + len - 1) ps 0 σ) (ps.length + len) [] 1 live1 krN true (kgo La) = some fa)
    (hb : trC P N rets2 body (sgL La) La.length (bsR bs 0) 13 live2 krR true (kgo []) = some fb)
    {X : Bs} {lo : Nat} {E : Env} {a : Act} {env : List AV} {h : Heap} {n : Nat} {w : World} (hys : YsOk X P ys) (hf : FS X lo P N σ len env E a h n w)
    {E1 : Env} {L : LoopC} (hE1 : E.Agree E1 n) (hL : E1.lp n = L) (hLt : L.tmps = a.tmps) (hLp : L.ps.toList = ps) (hLa : L.assign = assign) (hLb : L.body = body) (hLj : L.jumps = .ret :: bs.map fun b => .exit b.1)
    (vs : List AV) (h' : Heap) (n' : Nat) (r : AV × Heap × Nat) (hr : handK (fa.run P CY ys fuel) (fb.run P CY ys fuel) ps.length 12 env n vs h' n' = some r)
    (E' : Env) (w' : World) (hag : E1.Agree E' (n + 1)) (hn : n + 1 ≤ n') (hs : Sim P.globals.size E' h' n' w') (hsc : AV.scs n' vs) :
    CallsX P E' (.yl n) (AV.concs E' vs).toArray w' fun v w2 => ∃ E2, v = r.1.conc E2 ∧ Done P.globals.size E' h' n' w' r E2 w2 := by
  unfold handK at hr
  split at hr
  · rename_i hready
    have hready := lstQ_some hready
    cases hm : Nat.beq (lenA vs) ps.length with
    | false => rw [hm] at hr; cases hr
    | true =>
      rw [hm] at hr
      have hm := Nat.eq_of_beq_eq_true hm
      rw [lenA_eq] at hm
      have hr : fa.run P CY ys fuel (appA vs env) [beginJ (fb.run P CY ys fuel) 12 n] h' n' = some r := hr
      rw [appA_eq] at hr
      have hlp : E'.lp n = L := by rw [(hag n (by omega)).2.2, hL]
      have hrec : w'.heap[E'.ρ n]? = some (.loop (L.at .ready)) := by
        have : w'.heap[E'.ρ n]? = some (.loop ((E'.lp n).at .ready)) := hs.rel n _ hready
        rw [hlp] at this
        exact this
      have hsz : (AV.concs E' vs).toArray.size = (L.at .ready).params.size := by
        show _ = L.ps.size
        have : L.ps.size = ps.length := by rw [← hLp]; simp
        rw [this]
        simp [AV.concs_eq, hm]
      refine ⟨_, w', run_yield hrec hsz, .inr (.inr ⟨_, _, _, _, _, rfl, fun m => ?_⟩)⟩
      have hEE' : E.Agree E' n := hE1.trans (Nat.le_succ n) hag
      -- the frame of the round
      have hfs0 : FS ⟨X.E0, X.n0, []⟩ 0 P N σ len env E' { tmps := a.tmps, defers := [] } h' n' w' := by
        refine ⟨hs, hf.size, hf.ln, fun k q hk => ?_, rfl, ⟨[], rfl, by simp, by simp⟩, Nat.zero_le _, hf.ag.trans hf.ng hEE', by have := hf.ng; show X.n0 ≤ n'; omega⟩
        obtain ⟨g1, g2, g3⟩ := hf.get k q hk
        exact ⟨g1, by rw [g2, AV.conc_agree hEE' _ g3], AV.sc_mono (by omega) _ g3⟩
      have hfs1 := (hfs0.pushs vs).hands (as := vs) ps [] vs rfl hm hp hsc
      rw [hm] at hfs1
      simp only [List.length_nil] at hfs1
      have hys0 : YsOk ⟨X.E0, X.n0, []⟩ P ys := hys
      refine roundIn_of_wpIn (F := Fence.wide) (n := m) trivial ?_
      have htm : ((L.at .ready).params.zip (AV.concs E' vs).toArray).foldl (fun tmps (x : Tmp × Value) => tmps.setIfInBounds x.1 x.2) (L.at .ready).tmps = (ps.zip (AV.concs E' vs)).foldl (fun t (p, v) => t.setIfInBounds p v) a.tmps := by
        show (L.ps.zip _).foldl _ L.tmps = _
        rw [hLt, ← Array.foldl_toList, Array.toList_zip, hLp]
      have hw : ∀ (tm : Array Value), tm = (ps.zip (AV.concs E' vs)).foldl (fun t (p, v) => t.setIfInBounds p v) a.tmps →
          (L.at .ready).assign.wpIn (WF (some (E'.ρ n))) m P (Exit.then (fun a₁ w₁ => ∃ w₂, (Instr.beginRound (E'.ρ n)).run P w₁ = .ok () w₂ ∧ (L.at .ready).body.wpIn (WF (some (E'.ρ n))) m P
            (roundPost P (E'.ρ n) fun e w2 => ∃ v, e = .returned v ∧ ∃ E2, v = r.1.conc E2 ∧ Done P.globals.size E' h' n' w' r E2 w2) a₁ w₂) (fun _ _ _ => False)) { tmps := tm, defers := [] } w' := by
        intro tm htm'
        subst htm'
        show L.assign.wpIn _ _ _ _ _ _
        rw [hLa]
        refine iha ha (fun h => by cases h) (fun id lvl L h => by simp [lookJ] at h) hys0 hfs1 rfl hr _ ⟨?_, ?_, ?_⟩
        · -- behind the assignment
          intro ms3 σ3 len3 fc3 env3 E3 a3 h3 n3 w3 g1 g2 g3 g4
          unfold kgo at g1
          obtain ⟨rs, e1, rfl⟩ := Option.map_eq_some_iff.1 g1
          rw [run_go] at g4
          have g4 : beginJ (fb.run P CY ys fuel) 12 n (valsR env3 rs) h3 n3 = some r := g4
          unfold beginJ at g4
          split at g4
          · rename_i hrd3
            have hrd3 := lstQ_some hrd3
            have hρ : E3.ρ n = E'.ρ n := (g3.agree n (by omega)).1
            have hlp3 : E3.lp n = L := by rw [(g3.agree n (by omega)).2.2, hlp]
            have hrec3 : w3.heap[E'.ρ n]? = some (.loop (L.at .ready)) := by
              have : w3.heap[E3.ρ n]? = some (.loop ((E3.lp n).at .ready)) := g2.sim.rel n _ hrd3
              rw [hlp3, hρ] at this
              exact this
            refine ⟨_, run_beginRound hrec3 rfl, ?_⟩
            obtain ⟨s1, s2⟩ := sim_putL g2.sim hrd3 (.loop ((E3.lp n).at .busy)) (h3.set n (.loop .busy)) (.inl ⟨_, rfl, rfl⟩)
            rw [hρ, hlp3] at s1 s2
            have hobj : Obj.loop { L.at .ready with state := .busy } = .loop (L.at .busy) := rfl
            rw [hobj]
            have hfs4 := (g2.join e1).moves s1 s2
            show L.body.wpIn _ _ _ _ _ _
            rw [hLb]
            have hall := g3.trans s2 (fun id x hx => g2.sim.lt id x hx)
            have lp_of : ∀ {E5 : Env} {h5 : Heap} {n5 : Nat} {w5 : World}, Moves E3 (h3.set n (.loop .busy)) n3 (w3.putObj (E'.ρ n) (.loop (L.at .busy))) E5 h5 n5 w5 → E5.lp n = L ∧ E5.ρ n = E'.ρ n := by
              intro E5 h5 n5 w5 hm5
              have hn3 : n < n3 := Nat.lt_of_lt_of_le (by omega) g3.nle
              exact ⟨by rw [(hm5.agree n hn3).2.2, hlp3], by rw [(hm5.agree n hn3).1, hρ]⟩
            have fin : ∀ {E5 : Env} {h5 : Heap} {n5 : Nat} {w5 : World} {more : Bool} {st : LSt} {vs5 : List AV} (jump : Option Code), Sim P.globals.size E5 h5 n5 w5 →
                Moves E3 (h3.set n (.loop .busy)) n3 (w3.putObj (E'.ρ n) (.loop (L.at .busy))) E5 h5 n5 w5 → outJ n more st vs5 h5 n5 = some r → more = jump.isNone →
                (L.at st = { L.at .busy with state := if jump.isNone then .ready else .done, pending := jump }) →
                ∃ v w6, (Instr.endRound (E'.ρ n) jump).run P w5 = .ok v w6 ∧ ∃ v0, Ending.returned v = .returned v0 ∧ ∃ E2, v0 = r.1.conc E2 ∧ Done P.globals.size E' h' n' w' r E2 w6 := by
              intro E5 h5 n5 w5 more st vs5 jump hs5 hm5 ho hj hst
              obtain ⟨l1, l2⟩ := lp_of hm5
              obtain ⟨w6, o1, o2, o3, o4⟩ := outJ_ok (P := P) ho hs5 hj (by rw [l1]; exact hst)
              rw [l2] at o1
              refine ⟨_, w6, o1, _, rfl, E5, by rw [o4]; rfl, ⟨o2, (hall.trans hm5 (fun id x hx => s1.lt id x hx)).trans o3 (fun id x hx => hs5.lt id x hx), by rw [o4]; trivial⟩⟩
            have hlen13 : (outJ n true .ready :: outJs n 12 0).length = 13 := by simp [outJs_length]
            refine ihb hb (fun h => by cases h) (fun id lvl L' hl => ?_) (show YsOk ⟨X.E0, X.n0, ms3⟩ P ys from hys) hfs4 hlen13 g4 _ ⟨?_, ?_, ?_⟩
            · obtain ⟨_, q, b, rfl, hq, _⟩ := bsR_look _ _ _ _ _ hl; omega
            · intro ms5 σ5 len5 fc5 env5 E5 a5 h5 n5 w5 k1 k2 k3 k4
              unfold kgo at k1
              obtain ⟨rs5, e5, rfl⟩ := Option.map_eq_some_iff.1 k1
              rw [run_go] at k4
              exact fin (vs5 := valsR env5 rs5) none k2.sim k3 k4 rfl rfl
            · intro ms5 id lvl L5 E5 a5 h5 n5 w5 vs5 k1 k2 k3 k4
              obtain ⟨rfl, q, b, rfl, hq, hid⟩ := bsR_look _ _ _ _ _ k1
              have hq11 : q < bs.length := (List.getElem?_eq_some_iff.1 hq).1
              rw [show 13 - 1 - (10 - (0 + q)) = (q + 1) + 1 by omega] at k4
              have k4 : jget (outJs n 12 0) (q + 1) vs5 h5 n5 = some r := k4
              rw [outJs_get, if_pos (by omega), Nat.zero_add] at k4
              refine fin (some (.exit id)) k2.sim k3 k4 rfl ?_
              simp only [LoopC.at, hLj]
              simp [hq, hid]
            · intro ms5 pre σ5 len5 fc5 env5 E5 a5 h5 n5 w5 k1 k2 k3 k4
              unfold krR at k1
              cases k1
              rw [run_go] at k4
              rw [show pre.length + 13 - 1 - 11 = pre.length + 1 by omega, jget_eq, List.getElem?_append_right (by omega)] at k4
              rw [show pre.length + 1 - pre.length = 0 + 1 by omega, List.getElem?_cons_succ, ← jget_eq] at k4
              rw [outJs_get, if_pos (by omega)] at k4
              refine fin (some .ret) k2.sim k3 k4 rfl ?_
              simp only [LoopC.at, hLj]
              simp
          · simp at g4
        · intro ms3 id lvl L3 E3 a3 h3 n3 w3 vs3 g1; simp [lookJ] at g1
        · intro ms3 pre σ3 len3 fc3 env3 E3 a3 h3 n3 w3 g1; simp [krN] at g1
      exact hw _ htm
  · simp at hr
end
end Go.AE
