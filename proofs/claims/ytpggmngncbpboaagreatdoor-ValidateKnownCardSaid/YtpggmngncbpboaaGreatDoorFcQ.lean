/- The fast code, part 8e: code laid in the fast language does what the model's code does: every piece. -/
import Derived.Test.YtpggmngncbpboaaGreatDoorFcP
import Derived.Scope
namespace Go.AE
set_option linter.unusedSimpArgs false

theorem mark_inj : ∀ (l r : List Nat), l.map (fun D => ({ target := .collected D, args := #[] } : Deferred)) = r.map (fun D => ({ target := .collected D, args := #[] } : Deferred)) → l = r := by
  intro l
  induction l with
  | nil => intro r h; cases r with | nil => rfl | cons _ _ => simp at h
  | cons x l ih =>
    intro r h
    cases r with
    | nil => simp at h
    | cons y r =>
      simp only [List.map_cons, List.cons.injEq, Deferred.mk.injEq, Target.collected.injEq, and_true] at h
      rw [h.1, ih r h.2]

theorem agree_mono {E E' : Env} {n m : Nat} (h : m ≤ n) (ha : E.Agree E' n) : E.Agree E' m := fun id hid => ha id (by omega)

theorem trC_ok {P : Program} {CY : CallY} {fuel N rets : Nat} (hcY : CYOk P CY) (hm : P.follows .mixedOrders = true) (c : Code) : TrOk P CY fuel N rets c := by
  induction c with
  | skip =>
    intro ys σ len bs jl live kr rd k fc ro fd htr hrd hb X lo E a env js h n w r hys hf hlen hr Q post
    exact wpIn_skip (post.pk X.ms σ len fc env E a h n w htr hf (Moves.refl _ _ _ _) hr)
  | label l =>
    intro ys σ len bs jl live kr rd k fc ro fd htr hrd hb X lo E a env js h n w r hys hf hlen hr Q post
    exact wpIn_label (post.pk X.ms σ len fc env E a h n w htr hf (Moves.refl _ _ _ _) hr)
  | region id ops draw =>
    intro ys σ len bs jl live kr rd k fc ro fd htr hrd hb X lo E a env js h n w r hys hf hlen hr Q post
    have htr : (match (bif draw then trD P N ops σ len else trOps P N ops ops.toList σ len) with
      | some (is, σ', len') => (match k σ' len' with | some fc => some (FC.rg is fc) | none => none)
      | none => none) = some fc := htr
    obtain ⟨t, hrel, hag⟩ := hf.toRel
    split at htr
    · rename_i is σ' len' h1
      split at htr
      · rename_i fc' hk
        cases htr
        rw [run_rg] at hr
        have fin : ∀ (s' : St) (env' : List AV), s'.d = [] → Ag σ' len' s'.t env' → fc'.run P CY ys fuel env' js s'.h s'.n = some r → ∀ E' a' w', Rel X P N E' s' a' w' → Moves E h n w E' s'.h s'.n w' → Q .normal a' w' := by
          intro s' env' e2 e3 e4 E' a' w' g1 g2
          exact post.pk X.ms σ' len' fc' env' E' a' s'.h s'.n w' hk (FS.ofRel g1 e2 e3 (hf.marks.moves hf.sim g2) (Nat.le_trans hf.lole g2.size)) g2 e4
        cases draw with
        | true =>
          obtain ⟨s', env', e1, e2, e3, e4⟩ := trD_ok (C := CY ys) h1 hag hr
          exact regionD_sound (.inr (trD_nodef h1)) (hcY X ys hys) hm id e1 hrel (fin s' env' e2 e3 e4)
        | false =>
          obtain ⟨s', env', e1, e2, e3, e4⟩ := trOps_ok (C := CY ys) ops.toList h1 hag hr
          exact region_sound (.inr (trOps_nodef _ h1)) (hcY X ys hys) id e1 hrel (fin s' env' e2 e3 e4)
      · simp at htr
    · simp at htr
  | seq a b iha ihb =>
    intro ys σ len bs jl live kr rd k fc ro fd htr hrd hb X lo E ac env js h n w r hys hf hlen hr Q post
    refine wpIn_seq (iha (k := fun σ' len' => trC P N rets b σ' len' bs jl live kr rd k) htr hrd hb hys hf hlen hr _ ⟨?_, post.pb, post.pr⟩)
    intro ms σ1 len1 fc1 env1 E1 a1 h1 n1 w1 g1 g2 g3 g4
    exact ihb g1 hrd hb (show YsOk ⟨X.E0, X.n0, ms⟩ P ys from hys) g2 hlen g4 Q ⟨post.pk.later g3 (fun id x hx => g2.sim.lt id x hx), post.pb.later g3 (fun id x hx => g2.sim.lt id x hx), post.pr.later g3 (fun id x hx => g2.sim.lt id x hx)⟩
  | cond v x y ihx ihy =>
    intro ys σ len bs jl live kr rd k fc ro fd htr hrd hb X lo E a env js h n w r hys hf hlen hr Q post
    have htr : (match refO P.globals.size σ len v with
      | none => none
      | some r =>
        bif falls x && falls y then
          match k (sgL (maskL N live)) (maskL N live).length, trC P N rets x σ len bs (jl + 1) live kr rd (kgo (maskL N live)), trC P N rets y σ len bs (jl + 1) live kr rd (kgo (maskL N live)) with
          | some rest, some a, some b => some (FC.jp rest (.br r a b))
          | _, _, _ => none
        else
          match trC P N rets x σ len bs jl live kr rd k, trC P N rets y σ len bs jl live kr rd k with
          | some a, some b => some (.br r a b)
          | _, _ => none) = some fc := htr
    split at htr
    · simp at htr
    · rename_i rv hv
      have hev := (hf.ref hv).1
      cases hfl : (falls x && falls y) with
      | true =>
        rw [hfl] at htr
        simp only [cond_true] at htr
        split at htr
        · rename_i rest a1 b1 h1 h2 h3
          cases htr
          rw [run_jp, run_br] at hr
          have hb' : BlOk bs (jl + 1) := fun id lvl L hl => by have := hb id lvl L hl; omega
          have post' := fun (J : Jmp) (hJ : J = fun as h n => rest.run P CY ys fuel as js h n) => (⟨hJ ▸ post.pk.join h1, post.pb.under hb J, post.pr.under J⟩ : Post P CY ys fuel N lo X r E h n w bs (jl + 1) (J :: js) kr (kgo (maskL N live)) Q)
          split at hr
          · rename_i hc
            exact wpIn_cond_true (by rw [hev, hc]; rfl) (ihx h2 hrd hb' hys hf (by simp [hlen]) hr Q (post' _ rfl))
          · rename_i hc
            exact wpIn_cond_false (by rw [hev, hc]; rfl) (ihy h3 hrd hb' hys hf (by simp [hlen]) hr Q (post' _ rfl))
          · simp at hr
        · simp at htr
      | false =>
        rw [hfl] at htr
        simp only [cond_false] at htr
        split at htr
        · rename_i a1 b1 h2 h3
          cases htr
          rw [run_br] at hr
          split at hr
          · rename_i hc
            exact wpIn_cond_true (by rw [hev, hc]; rfl) (ihx h2 hrd hb hys hf hlen hr Q post)
          · rename_i hc
            exact wpIn_cond_false (by rw [hev, hc]; rfl) (ihy h3 hrd hb hys hf hlen hr Q post)
          · simp at hr
        · simp at htr
  | block id x ih =>
    intro ys σ len bs jl live kr rd k fc ro fd htr hrd hb X lo E a env js h n w r hys hf hlen hr Q post
    have htr : (match k (sgL (maskL N live)) (maskL N live).length, trC P N rets x σ len ((id, jl, maskL N live, live) :: bs) (jl + 1) live kr rd (kgo (maskL N live)) with
      | some rest, some a => some (FC.jp rest a)
      | _, _ => none) = some fc := htr
    split at htr
    · rename_i rest a1 h1 h2
      cases htr
      rw [run_jp] at hr
      have hb' : BlOk ((id, jl, maskL N live, live) :: bs) (jl + 1) := by
        intro id' lvl L hl
        rw [lookJ_cons] at hl
        cases hq : Nat.beq id id' with
        | true => simp only [hq, cond_true, Option.some.injEq, Prod.mk.injEq] at hl; omega
        | false => simp only [hq, cond_false] at hl; have := hb id' lvl L hl; omega
      refine wpIn_block (ih h2 hrd hb' hys hf (by simp [hlen]) hr _ ⟨post.pk.join h1, ?_, post.pr.under _⟩)
      intro ms i lvl L E' a' h' n' w' vs g1 g2 g3 g4
      rw [lookJ_cons] at g1
      cases hq : Nat.beq id i with
      | true =>
        simp only [hq, cond_true, Option.some.injEq, Prod.mk.injEq] at g1
        obtain ⟨rfl, rfl⟩ := g1
        have hi := Nat.eq_of_beq_eq_true hq
        subst hi
        rw [show jl + 1 - 1 - jl = 0 by omega] at g4
        show Exit.inBlock id Q (.exit id) a' w'
        simp only [Exit.inBlock, if_true]
        exact post.pk ms _ _ rest vs E' a' h' n' w' h1 g2 g3 g4
      | false =>
        simp only [hq, cond_false] at g1
        have hne : i ≠ id := by rintro rfl; simp at hq
        show Exit.inBlock id Q (.exit i) a' w'
        simp only [Exit.inBlock, if_neg hne]
        exact (post.pb.under hb _) ms i lvl L E' a' h' n' w' vs g1 g2 g3 g4
    · simp at htr
  | loop x ih =>
    intro ys σ len bs jl live kr rd k fc ro fd htr hrd hb X lo E a env js h n w r hys hf hlen hr Q post
    have htr : (match mapO (refT σ len) (maskL N (liveC rets x 0 (masks bs))),
        trC P N rets x (sgL (maskL N (liveC rets x 0 (masks bs)))) (maskL N (liveC rets x 0 (masks bs))).length bs (jl + 1) (liveC rets x 0 (masks bs)) kr rd (kgo (maskL N (liveC rets x 0 (masks bs)))) with
      | some as, some body => some (FC.lp as body)
      | _, _ => none) = some fc := htr
    split at htr
    · rename_i as body h1 h2
      cases htr
      rw [run_lp] at hr
      have hb' : BlOk bs (jl + 1) := fun id lvl L hl => by have := hb id lvl L hl; omega
      refine wpIn_loop_rounds fuel ?_
      have key : ∀ (fu : Nat) (ms : List Deferred) (vs : List AV) (E : Env) (a : Act) (h : Heap) (n : Nat) (w : World), FS ⟨X.E0, X.n0, ms⟩ lo P N (sgL (maskL N (liveC rets x 0 (masks bs)))) (maskL N (liveC rets x 0 (masks bs))).length vs E a h n w →
          lpQ (body.run P CY ys fuel) js fu vs h n = some r → PB P N lo X r E h n w bs jl js (fun id => Q (.exit id)) → PR P CY ys fuel N lo X r E h n w kr jl js (Q .ret) → Code.roundsIn (WF ro) fd P x Q fu a w := by
        intro fu
        induction fu with
        | zero => intro ms vs E a h n w _ hr; simp [lpQ] at hr
        | succ fu ihf =>
          intro ms vs E a h n w hf hr pb pr
          have hr : body.run P CY ys fuel vs (lpQ (body.run P CY ys fuel) js fu :: js) h n = some r := hr
          rw [roundsIn_succ]
          refine ih h2 hrd hb' (show YsOk ⟨X.E0, X.n0, ms⟩ P ys from hys) hf (by simp [hlen]) hr _ ⟨?_, pb.under hb _, pr.under _⟩
          intro ms1 σ1 len1 fc1 env1 E1 a1 h1 n1 w1 g1 g2 g3 g4
          unfold kgo at g1
          obtain ⟨rs, e1, rfl⟩ := Option.map_eq_some_iff.1 g1
          rw [run_go] at g4
          exact ihf ms1 _ E1 a1 h1 n1 w1 (g2.join e1) g4 (fun ms' id lvl L E' a' h' n' w' vs k1 k2 k3 k4 => pb ms' id lvl L E' a' h' n' w' vs k1 k2 (g3.trans k3 (fun id x hx => g2.sim.lt id x hx)) k4)
            (fun ms' pre σ len fc env E' a' h' n' w' k1 k2 k3 k4 => pr ms' pre σ len fc env E' a' h' n' w' k1 k2 (g3.trans k3 (fun id x hx => g2.sim.lt id x hx)) k4)
      exact key fuel X.ms _ E a h n w (hf.join h1) hr post.pb post.pr
    · simp at htr
  | rangeFunc f ps assign body iha ihb =>
    intro ys σ len bs jl live kr rd k fc ro fd htr hrd hb X lo E a env js h n w r hys hf hlen hr Q post
    have htr : (bif rd || Nat.ble 11 bs.length || !(ps.toList.all fun p => Nat.blt p N) then some FC.fail
      else
        match refO P.globals.size σ len f,
          trC P N rets assign (sgP (ps.size + len - 1) ps.toList 0 σ) (ps.size + len) [] 1 (liveC 0 body 0 []) krN true (kgo (maskL N (liveC 0 body 0 []))),
          trC P N rets body (sgL (maskL N (liveC 0 body 0 []))) (maskL N (liveC 0 body 0 [])).length (bsR bs 0) 13 0 krR true (kgo []) with
        | some r, some x, some y => some (.rf r ps.size x y (restR k kr σ len jl bs))
        | _, _, _ => none) = some fc := htr
    cases hg : (rd || Nat.ble 11 bs.length || !(ps.toList.all fun p => Nat.blt p N)) with
    | true => rw [hg] at htr; simp only [cond_true, Option.some.injEq] at htr; subst htr; rw [run_fail] at hr; cases hr
    | false =>
      rw [hg] at htr
      simp only [cond_false] at htr
      simp only [Bool.or_eq_false_iff, Bool.not_eq_false'] at hg
      obtain ⟨⟨hrd0, hbs0⟩, hall⟩ := hg
      have hro := hrd hrd0
      subst hro
      have hbs : bs.length < 11 := by
        rcases Nat.lt_or_ge bs.length 11 with h | h
        · exact h
        · rw [Nat.ble_eq_true_of_le h] at hbs0; cases hbs0
      have hps : ∀ p ∈ ps.toList, p < N := fun p hp => lt_of_blt (List.all_eq_true.1 hall p hp)
      split at htr
      · rename_i rf fa fb hrf hfa hfb
        cases htr
        rw [run_rf] at hr
        obtain ⟨hev, hfsc⟩ := hf.ref hrf
        unfold rfQ at hr
        split at hr
        · rename_i g fs cs hgv
          rw [hgv] at hev hfsc
          cases hbd : hasBody P g with
          | false => rw [hbd] at hr; cases hr
          | true =>
            rw [hbd] at hr
            simp only [cond_true] at hr
            obtain ⟨fng, cg, hfg, hcg, hname⟩ := hasBody_spec hbd
            split at hr
            · rename_i v0 h2 n2 hcall
              split at hr
              · rename_i j hj
                -- the statement
                refine wpIn_rangeFunc ?_
                intro fnid _
                have hL : ∃ L : LoopC, L = { fn := fnid, tmps := a.tmps, ps := ps, assign := assign, body := body, defers := w.heap.size, jumps := .ret :: bs.map fun b => .exit b.1 } := ⟨_, rfl⟩
                obtain ⟨L, hL⟩ := hL
                obtain ⟨v1, v2⟩ := sim_invis hf.sim (.deferred (some []))
                obtain ⟨s1, s2⟩ := sim_allocL v1 L
                rw [World.size_alloc] at s1 s2
                have hE1 : ∃ E1 : Env, E1 = E.putL n (w.heap.size + 1) L := ⟨_, rfl⟩
                obtain ⟨E1, hE1⟩ := hE1
                rw [← hE1] at s1 s2
                have hw1 : ∃ w1 : World, w1 = (w.alloc (.deferred (some []))).alloc (.loop (L.at .ready)) := ⟨_, rfl⟩
                obtain ⟨w1, hw1⟩ := hw1
                rw [← hw1] at s1 s2
                have mv1 := v2.trans s2 (fun id x hx => hf.sim.lt id x hx)
                have hagE1 : E.Agree E1 n := by rw [hE1]; exact Env.putL_agree E n _ L
                have hρ1 : E1.ρ n = w.heap.size + 1 := by rw [hE1]; exact Env.putL_ρ ..
                have hlp1 : E1.lp n = L := by rw [hE1]; exact Env.putL_lp ..
                have hX1ag : X.E0.Agree E1 X.n0 := hf.ag.trans hf.ng hagE1
                have hscv : AV.scs (n + 1) (fs ++ [.yl n] ++ cs) := by
                  have h1 : AV.scs n fs ∧ AV.scs n cs := hfsc
                  exact scs_append (scs_append (AV.scs_mono (Nat.le_succ n) _ h1.1) (by simp [AV.scs, AV.sc])) (AV.scs_mono (Nat.le_succ n) _ h1.2)
                have hys1 : YsOk ⟨E1, n + 1, []⟩ P ((n, handK (fa.run P CY ys fuel) (fb.run P CY ys fuel) ps.size 12 env n) :: ys) := by
                  intro b hd hlook
                  rw [lookY_cons] at hlook
                  by_cases e : n = b
                  · subst e
                    rw [if_pos rfl] at hlook
                    cases hlook
                    refine ⟨Nat.lt_succ_self n, fun vs h' n' r' hr' E' w' ha' hn' hs' hsc' => ?_⟩
                    have hpsz : ps.size = ps.toList.length := by simp
                    rw [hpsz] at hfa hr'
                    exact round_ok (iha) (ihb) hps hbs hfa hfb hys hf hagE1 hlp1 (by rw [hL]) (by rw [hL]) (by rw [hL]) (by rw [hL]) (by rw [hL]) vs h' n' r' hr' E' w' ha' hn' hs' hsc'
                  · rw [if_neg e] at hlook
                    have hmore : YsOk ⟨E1, n + 1, []⟩ P ys := hys.more hX1ag (Nat.le_trans hf.ng (Nat.le_succ n))
                    exact hmore b hd hlook
                obtain ⟨nx, w1', hrun, hnx⟩ := hcY ⟨E1, n + 1, []⟩ _ hys1 (.fn g) _ _ _ _ hcall E1 w1 (fun _ _ => ⟨rfl, rfl, rfl⟩) (Nat.le_refl _) s1 hscv trivial
                have hrun0 := run_enter hfg hname hcg (AV.concs E1 (fs ++ [.yl n] ++ cs)).toArray w1
                have hrun1 : (callFunc g (AV.concs E1 (fs ++ [.yl n] ++ cs)).toArray).run P w1 = .ok nx w1' := hrun
                rw [hrun0] at hrun1
                cases hrun1
                have hfcs : AV.concs E1 fs = AV.concs E fs ∧ AV.concs E1 cs = AV.concs E cs := by
                  have h1 : AV.scs n fs ∧ AV.scs n cs := hfsc
                  exact ⟨AV.concs_agree hagE1 _ h1.1, AV.concs_agree hagE1 _ h1.2⟩
                have hcargs : (AV.concs E1 (fs ++ [.yl n] ++ cs)).toArray = (AV.concs E fs).toArray ++ #[.func (.yield (w.heap.size + 1)) #[] #[]] ++ (AV.concs E cs).toArray := by
                  rw [concs_append, concs_append, hfcs.1, hfcs.2]
                  simp [AV.concs, AV.conc, hρ1]
                refine ⟨w.heap.size + 1, [{ target := .collected w.heap.size, args := #[] }], w1, { target := .fn (.func g) (AV.concs E cs).toArray, args := (AV.concs E fs).toArray ++ #[.func (.yield (w.heap.size + 1)) #[] #[]] }, w1, g,
                  (AV.concs E1 (fs ++ [.yl n] ++ cs)).toArray, w1, ?_, ?_, fun _ _ => trivial, ?_, fun h => by simp [WF] at h, callsIn_wf ?_⟩
                · rw [hw1, hL]
                  exact run_enterLoop_outer fnid a.tmps ps assign body
                · simp only [resolve, rangeCall, hev, AV.conc, Deferred.ofValue, pure_bind]
                  simp [Sem.run_pure, Act.eval]
                · rw [hcargs] at hrun0 ⊢
                  simp only [invoke]
                  exact hrun0
                · -- behind the call
                  rcases hnx with ⟨v, hv, _⟩ | ⟨g', args', hv, hcalls⟩ | ⟨_, _, _, _, _, hv, _⟩
                  · cases hv
                  · cases hv
                    refine hcalls.mono ?_
                    rintro e w3 ⟨v, rfl, E2, rfl, hd⟩
                    have hd1 := hd.sim
                    have hd2 := hd.moves
                    simp only at hd1 hd2
                    have hn2 : n < n2 := Nat.lt_of_lt_of_le (Nat.lt_succ_self n) hd2.nle
                    have hρ2 : E2.ρ n = w.heap.size + 1 := by rw [(hd2.agree n (Nat.lt_succ_self n)).1, hρ1]
                    have hlp2 : E2.lp n = L := by rw [(hd2.agree n (Nat.lt_succ_self n)).2.2, hlp1]
                    have hst : ∃ st, h2.get n = some (.loop st) ∧ ((st = .ready ∧ j = 0) ∨ ∃ i, st = .done i ∧ j = i + 1) := by
                      unfold pendQ at hj
                      split at hj
                      · rename_i hl; cases hj; exact ⟨_, lstQ_some hl, .inl ⟨rfl, rfl⟩⟩
                      · rename_i i hl; cases hj; exact ⟨_, lstQ_some hl, .inr ⟨i, rfl, rfl⟩⟩
                      · simp at hj
                    obtain ⟨st, hst1, hst2⟩ := hst
                    have hrec : w3.heap[w.heap.size + 1]? = some (.loop (L.at st)) := by
                      have : w3.heap[E2.ρ n]? = some (.loop ((E2.lp n).at st)) := hd1.rel n _ hst1
                      rwa [hρ2, hlp2] at this
                    have hnb : (L.at st).state ≠ .busy := by
                      rcases hst2 with ⟨rfl, _⟩ | ⟨i, rfl, _⟩ <;> simp [LoopC.at]
                    obtain ⟨p1, p2⟩ := sim_putL hd1 hst1 (.loop { L.at st with state := .exhausted }) (h2.del n) (.inr rfl)
                    rw [hρ2] at p1 p2
                    obtain ⟨w4, hw4⟩ : ∃ w4, w4 = w3.putObj (w.heap.size + 1) (.loop { L.at st with state := .exhausted }) := ⟨_, rfl⟩
                    rw [← hw4] at p1 p2
                    have mv : Moves E h n w E2 (h2.del n) n2 w4 :=
                      (mv1.trans hd2 (fun id x hx => s1.lt id x hx)).trans p2 (fun id x hx => hd1.lt id x hx)
                    have hD : w4.heap[w.heap.size]? = some (.deferred (some [])) := by
                      rw [hw4, World.putObj_heap_other (by omega)]
                      have hd0 : w1.heap[w.heap.size]? = some (.deferred (some [])) := by
                        rw [hw1, heap_alloc_old _ _ _ (by simp)]
                        exact World.alloc_heap_new w _
                      rw [hd2.keep _ (Array.getElem?_eq_some_iff.1 hd0).1 ?_, hd0]
                      intro id y hy _ e
                      exact not_dfr (s1.rel id y hy) (by rw [e]; exact hd0)
                    have hmarks : Marks lo w4 ([{ target := .collected w.heap.size, args := #[] }] ++ X.ms) := by
                      obtain ⟨Ds, m1, m2, m3⟩ := hf.marks
                      obtain ⟨Ds', m1', m2', m3'⟩ := hf.marks.moves hf.sim mv
                      have hDs : ∀ D ∈ Ds, D < w.heap.size := fun D hD => (Array.getElem?_eq_some_iff.1 (m3 D hD).2).1
                      have hinj : Ds' = Ds := by
                        have := m1.symm.trans m1'
                        exact (mark_inj _ _ this).symm
                      subst hinj
                      refine ⟨w.heap.size :: Ds', by rw [m1]; rfl, List.nodup_cons.2 ⟨fun hmem => by have := hDs _ hmem; omega, m2⟩, fun D hD' => ?_⟩
                      rcases List.mem_cons.1 hD' with rfl | hD'
                      · exact ⟨hf.lole, hD⟩
                      · exact m3' D hD'
                    have hfs : FS ⟨X.E0, X.n0, [{ target := .collected w.heap.size, args := #[] }] ++ X.ms⟩ lo P N σ len env E2 { a with defers := [{ target := .collected w.heap.size, args := #[] }] ++ a.defers } (h2.del n) n2
                        w4 := by
                      have h0 := hf.moves p1 mv
                      exact ⟨h0.sim, h0.size, h0.ln, h0.get, by rw [hf.defs], hmarks, h0.lole, h0.ag, h0.ng⟩
                    have hfs1 := hfs.push (.nt .u64 (.ofNat j))
                    have hend := run_endLoop (P := P) hrec hnb
                    rw [← hw4] at hend
                    refine ⟨_, w4, hend, ?_⟩
                    have hr : FC.run P CY ys fuel (.cs (.v 0) 0 (orFail (k σ (len + 1))) (.cs (.v 0) 1 (orFail (kr jl σ (len + 1))) (exitsR σ len jl bs bs 0))) (.nt .u64 (.ofNat j) :: env) js (h2.del n) n2 = some r := hr
                    rw [run_cs] at hr
                    simp only [val_v, lget_zero, csQ] at hr
                    rcases hst2 with ⟨rfl, rfl⟩ | ⟨i, rfl, rfl⟩
                    · -- to the end
                      simp only [Nat.beq_refl] at hr
                      cases hk : k σ (len + 1) with
                      | none => rw [hk] at hr; simp only [orFail] at hr; rw [run_fail] at hr; cases hr
                      | some fc1 =>
                        rw [hk] at hr
                        exact post.pk _ σ (len + 1) fc1 _ E2 _ _ n2 _ hk hfs1 mv hr
                    · have hz : Nat.beq (i + 1) 0 = false := rfl
                      rw [hz] at hr
                      simp only [] at hr
                      rw [run_cs] at hr
                      simp only [val_v, lget_zero, csQ] at hr
                      cases i with
                      | zero =>
                        have hpend : (L.at (.done 0)).pending = some .ret := by rw [hL]; rfl
                        rw [hpend]
                        simp only [Nat.zero_add, Nat.beq_refl] at hr
                        cases hk : kr jl σ (len + 1) with
                        | none => rw [hk] at hr; simp only [orFail] at hr; rw [run_fail] at hr; cases hr
                        | some fc1 =>
                          rw [hk] at hr
                          refine wpIn_ret (post.pr _ [] σ (len + 1) fc1 _ E2 _ _ n2 _ ?_ hfs1 mv hr)
                          simpa using hk
                      | succ q =>
                        have hz2 : Nat.beq (q + 1 + 1) 1 = false := rfl
                        rw [hz2] at hr
                        simp only [] at hr
                        obtain ⟨b, fc1, hb1, hx1, hr1⟩ := exitsR_run bs 0 q hr (Nat.zero_le _)
                        rw [Nat.sub_zero] at hb1
                        have hpend : (L.at (.done (q + 1))).pending = some (.exit b.1) := by
                          rw [hL]
                          simp [LoopC.at, hb1]
                        rw [hpend]
                        unfold exitR at hx1
                        split at hx1
                        · rename_i lvl Lx hlk
                          obtain ⟨rs, e1, rfl⟩ := Option.map_eq_some_iff.1 hx1
                          rw [run_go] at hr1
                          exact wpIn_exit (post.pb _ b.1 lvl Lx E2 _ _ n2 _ _ hlk (hfs1.join e1) mv hr1)
                        · simp at hx1
                  · cases hv
              · simp at hr
            · simp at hr
        · simp at hr
      · simp at htr
  | exit id =>
    intro ys σ len bs jl live kr rd k fc ro fd htr hrd hb X lo E a env js h n w r hys hf hlen hr Q post
    have htr : (match lookJ bs id with
      | some (lvl, L) => (mapO (refT σ len) L).map (FC.go (jl - 1 - lvl))
      | none => none) = some fc := htr
    split at htr
    · rename_i lvl L hl
      obtain ⟨rs, e1, rfl⟩ := Option.map_eq_some_iff.1 htr
      rw [run_go] at hr
      exact wpIn_exit (post.pb X.ms id lvl L E a h n w _ hl (hf.join e1) (Moves.refl _ _ _ _) hr)
    · simp at htr
  | scope x ih =>
    intro ys σ len bs jl live kr rd k fc ro fd htr hrd hb X lo E a env js h n w r hys hf hlen hr Q post
    have htr : (bif rd then some FC.fail else trC P N rets x σ len bs jl live kr rd k) = some fc := htr
    cases hrd0 : rd with
    | true => rw [hrd0] at htr; simp only [cond_true, Option.some.injEq] at htr; subst htr; rw [run_fail] at hr; cases hr
    | false =>
      have hro := hrd hrd0
      subst hro
      rw [hrd0] at htr
      simp only [cond_false] at htr
      have h1 : x.wpIn (WF none) fd P (Exit.noGoto Q) a w := ih htr (fun _ => rfl) hb hys hf hlen hr _ ⟨post.pk, post.pb, post.pr⟩
      exact (wpIn_wide (n := fd)).2 (wp_scope_straight ((wpIn_wide (n := fd)).1 h1))
  | goto l =>
    intro ys σ len bs jl live kr rd k fc ro fd htr hrd hb X lo E a env js h n w r hys hf hlen hr Q post
    have htr : some FC.fail = some fc := htr
    cases htr
    rw [run_fail] at hr
    cases hr
  | ret =>
    intro ys σ len bs jl live kr rd k fc ro fd htr hrd hb X lo E a env js h n w r hys hf hlen hr Q post
    have htr : kr jl σ len = some fc := htr
    exact wpIn_ret (post.pr X.ms [] σ len fc env E a h n w (by simpa using htr) hf (Moves.refl _ _ _ _) hr)
  | refuse y =>
    intro ys σ len bs jl live kr rd k fc ro fd htr hrd hb X lo E a env js h n w r hys hf hlen hr Q post
    have htr : some FC.fail = some fc := htr
    cases htr
    rw [run_fail] at hr
    cases hr
end Go.AE
