/- The fast code, part 6: a region that draws its order: its operations once in the order of the text, and every value that another order might turn, asked for again. -/
import Derived.Test.YtpggmngncbpboaaGreatDoorFcE
namespace Go.AE
set_option linter.unusedSimpArgs false

noncomputable def chksFor (P : Program) (ops : Array Oper) (ms es ks : List Nat) (lenE m : Nat) (j : Nat) (o : Oper) (σ : Sg) (len : Nat) : Option (List RI) :=
  bif !Nat.beq (cls P o) 1 || blind P o then some []
  else
    match ks.filter (fun k => !(sameAt es j k || !mayBe ms es j k)), alias σ o, guR ops σ lenE o, foO P σ lenE o with
    | [], _, _, _ => some []
    | kk, none, some none, some fo => some (kk.map fun k => .chk fo (.v (lenE - 1 - len)) (m - k))
    | kk, none, some (some (c, b)), some fo => some (kk.map fun k => .gchk c b fo (.v (lenE - 1 - len)) (m - k))
    | _, _, _, _ => none

noncomputable def trChk (P : Program) (ops : Array Oper) (ms es ks : List Nat) (lenE m : Nat) (l : List Oper) : Nat → List (Sg × Nat) → Option (List RI) :=
  List.rec (motive := fun _ => Nat → List (Sg × Nat) → Option (List RI)) (fun _ _ => some [])
    (fun o _ ih j ss => match ss with
      | (σ, len) :: ss => (match chksFor P ops ms es ks lenE m j o σ len, ih (j + 1) ss with | some a, some b => some (a ++ b) | _, _ => none)
      | [] => none) l

noncomputable def trD (P : Program) (N : Nat) (ops : Array Oper) (σ : Sg) (len : Nat) : Option (List RI × Sg × Nat) :=
  match trOpsD P N ops ops.toList σ len with
  | some (is, σ', len', ss) =>
    bif statOk P ops then
      match trChk P ops (masksGo ops.toList []) (effs P ops.toList 0) (0 :: (effs P ops.toList 0).map (· + 1)) len' ops.toList.length ops.toList 0 ((σ, len) :: ss) with
      | some cs => some (is ++ cs, σ', len')
      | none => none
    else none
  | none => none

theorem readsGo_of {P : Program} {C : CallF} {ops : Array Oper} {ms es ks : List Nat} {tr : List St} {d : St} : ∀ (l : List Oper) (j0 : Nat),
    (∀ (j : Nat) o, l[j]? = some o → cls P o = 1 → ∀ k ∈ ks, sameAt es (j0 + j) k = true ∨ mayBe ms es (j0 + j) k = false ∨ readAt P C ops o (tr.getD (j0 + j) d) (tr.getD k d) = true) →
    readsGo P C ops ms es ks tr d l j0 = true := by
  intro l
  induction l with
  | nil => intro j0 _; rfl
  | cons x l ih =>
    intro j0 h
    have h1 := ih (j0 + 1) (fun j o ho hc k hk => by
      have := h (j + 1) o (by simpa using ho) hc k hk
      rw [show j0 + 1 + j = j0 + (j + 1) by omega]
      exact this)
    show ((!Nat.beq (cls P x) 1 || ks.all (fun k => sameAt es j0 k || !mayBe ms es j0 k || readAt P C ops x (tr.getD j0 d) (tr.getD k d))) && readsGo P C ops ms es ks tr d l (j0 + 1)) = true
    rw [h1, Bool.and_true]
    cases hb : Nat.beq (cls P x) 1 with
    | false => rfl
    | true =>
      simp only [Bool.not_true, Bool.false_or]
      rw [List.all_eq_true]
      intro k hk
      have := h 0 x (by simp) (Nat.eq_of_beq_eq_true hb) k hk
      rw [Nat.add_zero] at this
      rcases this with e | e | e <;> simp only [e, Bool.true_or, Bool.or_true, Bool.not_false]

section
variable {P : Program} {C : CallF} {N : Nat} {ops : Array Oper}

theorem blind_same {o : Oper} (hb : blind P o = true) {ev : Operand → AV} {h h' : Heap} {n n' : Nat} {v : AV} {h1 : Heap} {n1 : Nat} (e : actO P C o ev h n [] = some (v, h1, n1, [])) :
    (∃ h2 n2, actO P C o ev h' n' [] = some (v, h2, n2, [])) ∧ eqAV v v = true := by
  have intv : ∀ k x, eqAV (.nt k x) (.nt k x) = true := by intro k x; simp [eqAV]
  have strv : ∀ x, eqAV (.st x) (.st x) = true := by intro x; simp [eqAV]
  unfold blind at hb
  split at hb
  · rename_i s d x ho
    split at hb
    · rename_i k1 k2 hs hd
      simp only [actO, ho, aop, convO, hs, hd] at e ⊢
      split at e
      · rename_i w hw hh
        split at hh
        · rename_i m hx
          cases hh
          cases e
          simp [intv]
        all_goals first | (simp at hh; done) | (simp_all; done)
      · simp at e
    · simp at hb
  · rename_i args ats ho
    split at hb
    · rename_i t ht
      have key : ∀ (x : AV) r, (lenO P h t x).map (fun r => (r, h, n)) = some r → (P.underlying t = some .string ∨ ∃ e, P.underlying t = some (.slice e)) →
          lenO P h' t x = some r.1 ∧ r.2.1 = h ∧ r.2.2 = n ∧ eqAV r.1 r.1 = true := by
        intro x r hx hu
        obtain ⟨y, hy, rfl⟩ := Option.map_eq_some_iff.1 hx
        rcases hu with hu | ⟨e, hu⟩
        · unfold lenO at hy ⊢
          rw [hu] at hy ⊢
          cases x <;> simp only [] at hy ⊢ <;> first | (simp at hy; done) | (cases hy; simp [intv])
        · unfold lenO at hy ⊢
          rw [hu] at hy ⊢
          cases x <;> simp only [] at hy ⊢ <;> first | (simp at hy; done) | (cases hy; simp [intv])
      have hu : P.underlying t = some .string ∨ ∃ e, P.underlying t = some (.slice e) := by
        split at hb
        · rename_i hu; exact .inl hu
        · rename_i e hu; exact .inr ⟨e, hu⟩
        · simp at hb
      simp only [actO, ho, aop, builtinO, ht] at e ⊢
      split at e
      · rename_i w hw nw hh
        split at hh
        · rename_i x hx
          rename_i heq
          have := key _ _ hh hu
          obtain ⟨k1, k2, k3, k4⟩ := this
          simp only at k1 k2 k3 k4
          cases e
          simp [k1, k4]
        all_goals first | (simp at hh; done) | (simp_all; done)
      · simp at e
    · simp at hb
  · rename_i args ats ho
    simp only [actO, ho, aop, builtinO] at e ⊢
    split at e
    · rename_i w hw nw hh
      split at hh <;> try (simp at hh; done)
      all_goals first | (simp_all; done) | skip
      rename_i x hx heq
      split at hh
      · rename_i t ht
        obtain ⟨y, hy, hz⟩ := Option.map_eq_some_iff.1 hh
        cases hz
        cases e
        refine ⟨⟨h', n', by simp [hy]⟩, ?_⟩
        unfold capO at hy
        split at hy <;> first | (cases hy; exact intv _ _) | (simp at hy)
      · simp at hh
    · simp at e
  · rename_i t x lo hi mx ho
    split at hb
    · rename_i hu
      simp only [actO, ho, aop] at e ⊢
      have hs : ∀ H H' : Heap, sliceO P H t (ev x) (lo.map ev) (hi.map ev) (mx.map ev) = sliceO P H' t (ev x) (lo.map ev) (hi.map ev) (mx.map ev) := by
        intro H H'
        unfold sliceO
        rw [hu]
        cases ev x <;> rfl
      rw [hs h' h]
      split at e
      · rename_i w hw nw hh
        obtain ⟨y, hy, hz⟩ := Option.map_eq_some_iff.1 hh
        cases hz
        cases e
        refine ⟨⟨h', n', by simp [hy]⟩, ?_⟩
        unfold sliceO at hy
        rw [hu] at hy
        cases hx : ev x <;> rw [hx] at hy <;> simp only [] at hy <;> try (simp at hy; done)
        split at hy
        · simp at hy
        · split at hy
          · cases hy; exact strv _
          · simp at hy
      · simp at e
    · simp at hb
  · simp at hb

theorem chksFor_ok {ms es ks : List Nat} {lenE m j : Nat} {o : Oper} {σ : Sg} {len : Nat} {cs : List RI} (hc : chksFor P ops ms es ks lenE m j o σ len = some cs)
    {env : List AV} {sj : St} (hd : sj.d = []) (ha : Ag σ lenE sj.t env) (hk : ∀ k ∈ ks, k ≤ m) {tr : List St} (hds : ∀ (i : Nat) s, tr[i]? = some s → s.d = []) (htr : tr.length = m + 1)
    (hv : alias σ o = none → ∃ h1 n1, outO P C ops o sj.t sj.h sj.n [] = some (lget env (lenE - 1 - len), h1, n1, []))
    (hblind : cls P o = 1 → alias σ o = none)
    {rest : List RI} {K : List AV → Heap → Nat → Res} {h : Heap} {n : Nat} {r : AV × Heap × Nat}
    (hr : rgRun P C (cs ++ rest) K env (tr.map fun s => (s.h, s.n)).reverse h n = some r) (d : St) :
    rgRun P C rest K env (tr.map fun s => (s.h, s.n)).reverse h n = some r ∧
      (cls P o = 1 → ∀ k ∈ ks, sameAt es j k = true ∨ mayBe ms es j k = false ∨ readAt P C ops o sj (tr.getD k d) = true) := by
  have hget : ∀ k, k ≤ m → ∃ s, tr[k]? = some s ∧ tr.getD k d = s ∧ (tr.map fun s => (s.h, s.n)).reverse[m - k]? = some (s.h, s.n) := by
    intro k hkm
    have hlt : k < tr.length := by omega
    refine ⟨tr[k], List.getElem?_eq_getElem hlt, by simp [List.getD_eq_getElem?_getD, List.getElem?_eq_getElem hlt], ?_⟩
    rw [List.getElem?_reverse (by simp; omega)]
    simp only [List.length_map, htr]
    rw [show m + 1 - 1 - (m - k) = k by omega]
    simp [List.getElem?_eq_getElem hlt]
  unfold chksFor at hc
  cases hb : (!Nat.beq (cls P o) 1 || blind P o) with
  | true =>
    rw [hb] at hc
    simp only [cond_true, Option.some.injEq] at hc
    subst hc
    refine ⟨hr, fun h1 k hkk => .inr (.inr ?_)⟩
    rw [h1] at hb
    simp only [show Nat.beq 1 1 = true from rfl, Bool.not_true, Bool.false_or] at hb
    obtain ⟨s, e1, e2, _⟩ := hget k (hk k hkk)
    rw [e2]
    obtain ⟨h2, n2, ho⟩ := hv (hblind h1)
    have hsd := hds k s e1
    unfold readAt
    rw [hd, hsd, ho]
    unfold outO at ho ⊢
    split at ho
    · simp at ho
    · rename_i hg
      simp only [Option.some.injEq, Prod.mk.injEq] at ho
      rw [← ho.1]
      simp [hg, eqAV, eqAVs]
    · rename_i hg
      obtain ⟨⟨h3, n3, b1⟩, b2⟩ := blind_same (h' := s.h) (n' := s.n) hb ho
      simp [hg, b1, b2]
  | false =>
    rw [hb] at hc
    simp only [cond_false] at hc
    have notin : ∀ k, k ∈ ks → k ∉ ks.filter (fun k => !(sameAt es j k || !mayBe ms es j k)) → sameAt es j k = true ∨ mayBe ms es j k = false := by
      intro k hkk hno
      rw [List.mem_filter] at hno
      have : ¬ (!(sameAt es j k || !mayBe ms es j k)) = true := fun e => hno ⟨hkk, e⟩
      cases h1 : sameAt es j k with
      | true => exact .inl rfl
      | false =>
        cases h2 : mayBe ms es j k with
        | true => rw [h1, h2] at this; simp at this
        | false => exact .inr rfl
    split at hc
    · rename_i _ _ _ hkk0
      cases hc
      exact ⟨hr, fun _ k hkk => (notin k hkk (by rw [hkk0]; simp)).imp id .inl⟩
    · -- no guard
      rename_i fo hal hgu hfo hne
      cases hc
      obtain ⟨h2, n2, ho⟩ := hv hal
      have key : ∀ (kk : List Nat), (∀ k ∈ kk, k ≤ m) → rgRun P C ((kk.map fun k => RI.chk fo (.v (lenE - 1 - len)) (m - k)) ++ rest) K env (tr.map fun s => (s.h, s.n)).reverse h n = some r →
          rgRun P C rest K env (tr.map fun s => (s.h, s.n)).reverse h n = some r ∧ ∀ k ∈ kk, readAt P C ops o sj (tr.getD k d) = true := by
        intro kk
        induction kk with
        | nil => intro _ hr; exact ⟨hr, by simp⟩
        | cons k kk ih =>
          intro hkm hr
          simp only [List.map_cons, List.cons_append] at hr
          rw [rgRun_chk] at hr
          cases hq : chkQ P C fo (.v (lenE - 1 - len)) (m - k) env (tr.map fun s => (s.h, s.n)).reverse with
          | false => rw [hq] at hr; simp at hr
          | true =>
            rw [hq] at hr
            simp only [cond_true] at hr
            obtain ⟨i1, i2⟩ := ih (fun k hk => hkm k (List.mem_cons_of_mem _ hk)) hr
            refine ⟨i1, fun k' hk' => ?_⟩
            rcases List.mem_cons.1 hk' with rfl | hk'
            · obtain ⟨s, e1, e2, e3⟩ := hget k' (hkm k' (List.mem_cons_self ..))
              rw [e2]
              unfold chkQ at hq
              rw [e3] at hq
              simp only at hq
              split at hq
              · rename_i v h3 n3 hev
                have := foO_ok ha hfo hev
                simp only at this
                have hsd := hds k' s e1
                unfold readAt
                rw [hd, hsd, ho]
                simp only [outO, guR_none hgu, this]
                exact hq
              · simp at hq
            · exact i2 k' hk'
      obtain ⟨i1, i2⟩ := key _ (fun k hkk => hk k (List.mem_filter.1 hkk).1) hr
      refine ⟨i1, fun _ k hkk => ?_⟩
      by_cases hin : k ∈ ks.filter (fun k => !(sameAt es j k || !mayBe ms es j k))
      · exact .inr (.inr (i2 k hin))
      · exact (notin k hkk hin).imp id .inl
    · -- a guard
      rename_i c b fo hal hgu hfo hne
      cases hc
      obtain ⟨h2, n2, ho⟩ := hv hal
      have hgd := guR_some ha hgu
      have key : ∀ (kk : List Nat), (∀ k ∈ kk, k ≤ m) → rgRun P C ((kk.map fun k => RI.gchk c b fo (.v (lenE - 1 - len)) (m - k)) ++ rest) K env (tr.map fun s => (s.h, s.n)).reverse h n = some r →
          rgRun P C rest K env (tr.map fun s => (s.h, s.n)).reverse h n = some r ∧ ∀ k ∈ kk, readAt P C ops o sj (tr.getD k d) = true := by
        intro kk
        induction kk with
        | nil => intro _ hr; exact ⟨hr, by simp⟩
        | cons k kk ih =>
          intro hkm hr
          simp only [List.map_cons, List.cons_append] at hr
          rw [rgRun_gchk] at hr
          split at hr
          · rename_i hgq
            rw [hgq] at hgd
            cases hq : chkQ P C fo (.v (lenE - 1 - len)) (m - k) env (tr.map fun s => (s.h, s.n)).reverse with
            | false => rw [hq] at hr; simp at hr
            | true =>
              rw [hq] at hr
              simp only [cond_true] at hr
              obtain ⟨i1, i2⟩ := ih (fun k hk => hkm k (List.mem_cons_of_mem _ hk)) hr
              refine ⟨i1, fun k' hk' => ?_⟩
              rcases List.mem_cons.1 hk' with rfl | hk'
              · obtain ⟨s, e1, e2, e3⟩ := hget k' (hkm k' (List.mem_cons_self ..))
                rw [e2]
                unfold chkQ at hq
                rw [e3] at hq
                simp only at hq
                split at hq
                · rename_i v h3 n3 hev
                  have := foO_ok ha hfo hev
                  simp only at this
                  have hsd := hds k' s e1
                  unfold readAt
                  rw [hd, hsd, ho]
                  simp only [outO, hgd, this]
                  exact hq
                · simp at hq
              · exact i2 k' hk'
          · rename_i hgq
            rw [hgq] at hgd
            obtain ⟨i1, i2⟩ := ih (fun k hk => hkm k (List.mem_cons_of_mem _ hk)) hr
            refine ⟨i1, fun k' hk' => ?_⟩
            rcases List.mem_cons.1 hk' with rfl | hk'
            · obtain ⟨s, e1, e2, e3⟩ := hget k' (hkm k' (List.mem_cons_self ..))
              rw [e2]
              have hsd := hds k' s e1
              unfold readAt
              rw [hd, hsd]
              simp [outO, hgd, eqAV, eqAVs]
            · exact i2 k' hk'
          · simp at hr
      obtain ⟨i1, i2⟩ := key _ (fun k hkk => hk k (List.mem_filter.1 hkk).1) hr
      refine ⟨i1, fun _ k hkk => ?_⟩
      by_cases hin : k ∈ ks.filter (fun k => !(sameAt es j k || !mayBe ms es j k))
      · exact .inr (.inr (i2 k hin))
      · exact (notin k hkk hin).imp id .inl
    · simp at hc

end
end Go.AE
