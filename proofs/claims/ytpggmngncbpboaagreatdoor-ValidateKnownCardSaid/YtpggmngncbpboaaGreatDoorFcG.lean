/- The fast code, part 7: a drawn region as a whole. -/
import Derived.Test.YtpggmngncbpboaaGreatDoorFcF
namespace Go.AE
set_option linter.unusedSimpArgs false
section
variable {P : Program} {C : CallF} {N : Nat} {ops : Array Oper}

theorem alias_cls {σ : Sg} {o : Oper} (h : cls P o = 1) : alias σ o = none := by
  unfold alias
  unfold cls at h
  split <;> rename_i ho <;> first | rfl | (rw [ho] at h; simp at h)

theorem trChk_ok {ms es ks : List Nat} {lenE m : Nat} {env : List AV} (hk : ∀ k ∈ ks, k ≤ m) {tr : List St} (hds : ∀ (i : Nat) s, tr[i]? = some s → s.d = []) (htr : tr.length = m + 1) (d : St) :
    ∀ (l : List Oper) (j : Nat) (ss : List (Sg × Nat)) (cs : List RI), trChk P ops ms es ks lenE m l j ss = some cs →
      (∀ (i : Nat) o σ len, l[i]? = some o → ss[i]? = some (σ, len) → ∃ s, tr[j + i]? = some s ∧ Ag σ lenE s.t env ∧
        (alias σ o = none → ∃ h1 n1, outO P C ops o s.t s.h s.n [] = some (lget env (lenE - 1 - len), h1, n1, []))) →
      ∀ {rest : List RI} {K : List AV → Heap → Nat → Res} {h : Heap} {n : Nat} {r : AV × Heap × Nat},
      rgRun P C (cs ++ rest) K env (tr.map fun s => (s.h, s.n)).reverse h n = some r →
      rgRun P C rest K env (tr.map fun s => (s.h, s.n)).reverse h n = some r ∧
        ∀ (i : Nat) o, l[i]? = some o → cls P o = 1 → ∀ k ∈ ks, sameAt es (j + i) k = true ∨ mayBe ms es (j + i) k = false ∨ readAt P C ops o (tr.getD (j + i) d) (tr.getD k d) = true := by
  intro l
  induction l with
  | nil =>
    intro j ss cs hc hall rest K h n r hr
    simp only [trChk] at hc
    cases hc
    exact ⟨hr, by simp⟩
  | cons o l ih =>
    intro j ss cs hc hall rest K h n r hr
    cases ss with
    | nil => simp [trChk] at hc
    | cons q ss =>
      obtain ⟨σ, len⟩ := q
      have hc : (match chksFor P ops ms es ks lenE m j o σ len, trChk P ops ms es ks lenE m l (j + 1) ss with | some a, some b => some (a ++ b) | _, _ => none) = some cs := hc
      split at hc
      · rename_i a b ha hb
        cases hc
        obtain ⟨s, e1, e2, e3⟩ := hall 0 o σ len (by simp) (by simp)
        rw [Nat.add_zero] at e1
        have hsd := hds j s e1
        have hgj : tr.getD j d = s := by simp [List.getD_eq_getElem?_getD, e1]
        rw [List.append_assoc] at hr
        obtain ⟨f1, f2⟩ := chksFor_ok ha hsd e2 hk hds htr e3 (fun h => alias_cls h) hr d
        obtain ⟨g1, g2⟩ := ih (j + 1) ss b hb (fun i o' σ' len' ho hs => by
          have := hall (i + 1) o' σ' len' (by simpa using ho) (by simpa using hs)
          rw [show j + 1 + i = j + (i + 1) by omega]
          exact this) f1
        refine ⟨g1, fun i o' ho hcl k hkk => ?_⟩
        cases i with
        | zero =>
          simp only [List.getElem?_cons_zero, Option.some.injEq] at ho
          subst ho
          rw [Nat.add_zero, hgj]
          exact f2 hcl k hkk
        | succ i =>
          have := g2 i o' (by simpa using ho) hcl k hkk
          rw [show j + 1 + i = j + (i + 1) by omega] at this
          exact this
      · simp at hc

theorem trOpsD_ok : ∀ (l : List Oper) {σ : Sg} {len : Nat} {t : PT AV} {env : List AV} {h : Heap} {n : Nat} {is : List RI} {σ' : Sg} {len' : Nat} {ss : List (Sg × Nat)},
    trOpsD P N ops l σ len = some (is, σ', len', ss) → Ag σ len t env →
    ∀ {rest : List RI} {K : List AV → Heap → Nat → Res} {hst : Hs} {r : AV × Heap × Nat}, rgRun P C (is ++ rest) K env ((h, n) :: hst) h n = some r →
    ∃ tr env' vs s', traceA P C N ops l ⟨t, h, n, []⟩ = some tr ∧ tr.length = l.length + 1 ∧ env' = vs ++ env ∧ vs.length + len = len' ∧
      (∀ (i : Nat) s, tr[i]? = some s → s.d = []) ∧ tr[l.length]? = some s' ∧ Ag σ' len' s'.t env' ∧
      (∀ (i : Nat) o σi li, l[i]? = some o → ((σ, len) :: ss)[i]? = some (σi, li) → ∃ s, tr[i]? = some s ∧ Ag σi len' s.t env' ∧
        (alias σi o = none → ∃ h1 n1, outO P C ops o s.t s.h s.n [] = some (lget env' (len' - 1 - li), h1, n1, []))) ∧
      rgRun P C rest K env' ((tr.map fun s => (s.h, s.n)).reverse ++ hst) s'.h s'.n = some r := by
  intro l
  induction l with
  | nil =>
    intro σ len t env h n is σ' len' ss htr ha rest K hst r hr
    simp only [trOpsD] at htr
    cases htr
    refine ⟨[⟨t, h, n, []⟩], env, [], ⟨t, h, n, []⟩, rfl, rfl, rfl, by simp, ?_, rfl, ha, by simp, by simpa using hr⟩
    intro i s hs
    cases i with
    | zero => simp at hs; subst hs; rfl
    | succ i => simp at hs
  | cons o l ih =>
    intro σ len t env h n is σ' len' ss htr ha rest K hst r hr
    have htr : (match stepR P N ops o σ len with
      | some (is, σ1, len1) => (match trOpsD P N ops l σ1 len1 with | some (r, σ2, len2, ss) => some (is ++ .mark :: r, σ2, len2, (σ1, len1) :: ss) | none => none)
      | none => none) = some (is, σ', len', ss) := htr
    split at htr
    · rename_i is1 σ1 len1 hst1
      split at htr
      · rename_i r2 σ2 len2 ss2 htr2
        cases htr
        simp only [List.append_assoc, List.cons_append] at hr
        obtain ⟨s1, vs, e1, e2, e3, e4, e5, e6⟩ := stepR_ok ha hst1 hr
        obtain ⟨t1, h1, n1, d1⟩ := s1
        simp only at e2
        subst e2
        rw [rgRun_mark] at e5
        obtain ⟨tr, env', vs', s', f1, f2, f3, f4, f5, f6, f7, f8, f9⟩ := ih htr2 e4 e5
        have hlen : env'.length = len' := f7.ln
        refine ⟨⟨t, h, n, []⟩ :: tr, env', vs' ++ vs, s', ?_, by simp [f2], by rw [f3, List.append_assoc], by simp; omega, ?_, by simpa using f6, f7, ?_, by simpa using f9⟩
        · show (match stepF P C N ops o ⟨t, h, n, []⟩ with
            | some s' => (match traceA P C N ops l s' with | some tr => some ((⟨t, h, n, []⟩ : St) :: tr) | none => none)
            | none => none) = _
          rw [stepF_eq, e1]
          simp only [f1]
        · intro i s hs
          cases i with
          | zero => simp at hs; subst hs; rfl
          | succ i => exact f5 i s (by simpa using hs)
        · intro i o' σi li ho hs
          cases i with
          | zero =>
            simp only [List.getElem?_cons_zero, Option.some.injEq, Prod.mk.injEq] at ho hs
            obtain ⟨rfl, rfl⟩ := hs
            subst ho
            refine ⟨⟨t, h, n, []⟩, by simp, ?_, fun hal => ?_⟩
            · have := ha.more (vs' ++ vs)
              rw [List.append_assoc, ← f3] at this
              rw [show (vs' ++ vs).length + len = len' by simp; omega] at this
              exact this
            · obtain ⟨v, h2, n2, rfl, hout⟩ := e6 hal
              refine ⟨h2, n2, ?_⟩
              rw [hout]
              have : lget env' (len' - 1 - len) = v := by
                rw [f3]
                have hl : vs'.length + 0 = len' - 1 - len := by simp at e3; omega
                rw [← hl, lget_append]
                rfl
              rw [this]
          | succ i =>
            have := f8 i o' σi li (by simpa using ho) (by simpa using hs)
            simpa using this
      · simp at htr
    · simp at htr

theorem trD_ok {σ : Sg} {len : Nat} {t : PT AV} {env : List AV} {h : Heap} {n : Nat} {is : List RI} {σ' : Sg} {len' : Nat} (htr : trD P N ops σ len = some (is, σ', len')) (ha : Ag σ len t env)
    {K : List AV → Heap → Nat → Res} {r : AV × Heap × Nat} (hr : rgRun P C is K env [(h, n)] h n = some r) :
    ∃ s' env', regD P C N ops ⟨t, h, n, []⟩ = some s' ∧ s'.d = [] ∧ Ag σ' len' s'.t env' ∧ K env' s'.h s'.n = some r := by
  unfold trD at htr
  split at htr
  · rename_i is1 σ1 len1 ss htr1
    cases hso : statOk P ops with
    | false => rw [hso] at htr; simp at htr
    | true =>
      rw [hso] at htr
      simp only [cond_true] at htr
      split at htr
      · rename_i cs hcs
        cases htr
        obtain ⟨tr, env', vs, s', f1, f2, f3, f4, f5, f6, f7, f8, f9⟩ := trOpsD_ok ops.toList htr1 ha hr
        rw [List.append_nil] at f9
        rw [← List.append_nil cs] at f9
        have hks : ∀ k ∈ 0 :: (effs P ops.toList 0).map (· + 1), k ≤ ops.toList.length := by
          intro k hk
          rcases List.mem_cons.1 hk with rfl | hk
          · omega
          · obtain ⟨e, he, rfl⟩ := List.mem_map.1 hk
            have := ef_lt ((ef_effs e).2 he)
            have : e < ops.size := by simpa using this
            simp only [Array.length_toList]
            omega
        obtain ⟨g1, g2⟩ := trChk_ok hks f5 f2 ⟨t, h, n, []⟩ ops.toList 0 ((σ, len) :: ss) cs hcs (fun i o σi li ho hs => by rw [Nat.zero_add]; exact f8 i o σi li ho hs) f9
        have hreads := readsGo_of (P := P) (C := C) (ops := ops) (ms := masksGo ops.toList []) (es := effs P ops.toList 0) (ks := 0 :: (effs P ops.toList 0).map (· + 1)) (tr := tr) (d := ⟨t, h, n, []⟩) ops.toList 0
          (fun j o ho hc k hk => g2 j o ho hc k hk)
        refine ⟨s', env', ?_, f5 _ _ f6, f7, g1⟩
        unfold regD
        rw [f1]
        simp only [hso, hreads, Bool.and_self, cond_true]
        congr 1
        rw [List.getD_eq_getElem?_getD, f6]
        rfl
      · simp at htr
  · simp at htr
end
end Go.AE
