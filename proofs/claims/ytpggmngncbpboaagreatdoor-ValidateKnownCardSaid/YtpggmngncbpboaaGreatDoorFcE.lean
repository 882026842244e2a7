/- The fast code, part 5: a step of a region, and a region in the order of its text. -/
import Derived.Test.YtpggmngncbpboaaGreatDoorFcC
namespace Go.AE
set_option linter.unusedSimpArgs false

section
variable {P : Program} {C : CallF} {N : Nat} {ops : Array Oper} {σ : Sg} {len : Nat} {t : PT AV} {env : List AV} {h : Heap} {n : Nat}

theorem setD_ok (ha : Ag σ len t env) {dst : Option Tmp} {r : Ref} {v : AV} {σ' : Sg} (hl : ∀ l, r = .v l → l < len) (hv : (r.at len).val env = v) (hs : setD N σ dst r = some σ') :
    ∃ t', putO N t dst v = some t' ∧ Ag σ' len t' env := by
  unfold setD at hs
  unfold putO
  cases dst with
  | none => cases hs; exact ⟨t, rfl, ha⟩
  | some d =>
    simp only [] at hs ⊢
    cases hb : Nat.blt d N with
    | false => rw [hb] at hs; simp at hs
    | true =>
      rw [hb] at hs
      simp only [cond_true, Option.some.injEq] at hs ⊢
      subst hs
      refine ⟨_, rfl, ha.ln, fun k r' hk => ?_⟩
      rw [PT.get_set] at hk
      rw [PT.get_set]
      by_cases e : k = d
      · rw [if_pos e] at hk ⊢
        cases hk
        exact ⟨hl, hv.symm⟩
      · rw [if_neg e] at hk ⊢
        exact ha.get k r' hk

theorem guR_none {o : Oper} (hg : guR ops σ len o = some none) : guardO ops o t = some true := by
  unfold guR at hg
  unfold guardO
  split at hg
  · rename_i e; rw [e]
  · split at hg
    · simp at hg
    · split at hg <;> simp at hg

theorem guR_some (ha : Ag σ len t env) {o : Oper} {c : Ref} {b : Bool} (hg : guR ops σ len o = some (some (c, b))) : guardO ops o t = guardQ (c.val env) b := by
  unfold guR at hg
  unfold guardO
  split at hg
  · simp at hg
  · rename_i j want e
    rw [e]
    split at hg
    · simp at hg
    · rename_i d hd
      simp only [hd]
      split at hg
      · rename_i r hr
        simp only [Option.some.injEq, Prod.mk.injEq] at hg
        obtain ⟨rfl, rfl⟩ := hg
        have hv := refT_ok ha hr
        unfold guardQ
        rw [← hv]
        cases t.get d with
        | none => rfl
        | some v => cases v <;> rfl
      · simp at hg

theorem alias_ok (ha : Ag σ len t env) {o : Oper} {r : Ref} (hl : alias σ o = some r) (h : Heap) (n : Nat) :
    (∀ l, r = .v l → l < len) ∧ guardO ops o t = some true ∧ actO P C o (evA P.globals.size t) h n [] = some ((r.at len).val env, h, n, []) := by
  unfold alias at hl
  have tm : ∀ k, σ.get k = some r → (∀ l, r = .v l → l < len) ∧ (evA P.globals.size t (.tmp k)) = (r.at len).val env := fun k hk => ha.get k r hk
  split at hl
  · rename_i k hg ho
    obtain ⟨h1, h2⟩ := tm k hl
    exact ⟨h1, by simp [guardO, hg], by simp [actO, aop, ho, h2]⟩
  · rename_i k hg ho
    obtain ⟨h1, h2⟩ := tm k hl
    exact ⟨h1, by simp [guardO, hg], by simp [actO, aop, ho, h2]⟩
  · rename_i v hg ho
    cases hl
    exact ⟨fun l e => (by cases e), by simp [guardO, hg], by simp [actO, aop, ho, evA, Ref.at]⟩
  · rename_i v hg ho
    cases hl
    exact ⟨fun l e => (by cases e), by simp [guardO, hg], by simp [actO, aop, ho, evA, Ref.at]⟩
  · simp at hl

theorem stepR_ok (ha : Ag σ len t env) {o : Oper} {is : List RI} {σ' : Sg} {len' : Nat} (hs : stepR P N ops o σ len = some (is, σ', len')) {rest : List RI} {k : List AV → Heap → Nat → Res} {hst : Hs}
    {r : AV × Heap × Nat} (hr : rgRun P C (is ++ rest) k env hst h n = some r) :
    ∃ s' vs, stepA P C N ops o ⟨t, h, n, []⟩ = some s' ∧ s'.d = [] ∧ vs.length + len = len' ∧ Ag σ' len' s'.t (vs ++ env) ∧ rgRun P C rest k (vs ++ env) hst s'.h s'.n = some r ∧
      (alias σ o = none → ∃ v h1 n1, vs = [v] ∧ outO P C ops o t h n [] = some (v, h1, n1, [])) := by
  unfold stepR at hs
  split at hs
  · rename_i r0 hal
    split at hs
    · rename_i σ1 hset
      cases hs
      obtain ⟨h1, h2, h3⟩ := alias_ok (P := P) (C := C) (ops := ops) ha hal h n
      obtain ⟨t', h4, h5⟩ := setD_ok ha h1 rfl hset
      refine ⟨⟨t', h, n, []⟩, [], ?_, rfl, by simp, h5, hr, fun e => by rw [hal] at e; simp at e⟩
      simp [stepA, h2, h3, h4]
    · simp at hs
  · rename_i hal
    split at hs
    · rename_i fo σ1 hgu hfo hset
      cases hs
      simp only [List.cons_append, List.nil_append] at hr
      rw [rgRun_op] at hr
      split at hr
      · rename_i v h' n' hev
        have h2 := foO_ok ha hfo hev
        obtain ⟨t', h4, h5⟩ := setD_ok (ha.push v) (fun l e => by cases e; omega) (show ((Ref.v len).at (len + 1)).val (v :: env) = v by simp [Ref.at, lget_zero]) hset
        refine ⟨⟨t', h', n', []⟩, [v], ?_, rfl, by simp; omega, h5, hr, fun _ => ⟨v, h', n', rfl, ?_⟩⟩
        · simp [stepA, guR_none hgu, h2, h4]
        · simp [outO, guR_none hgu, h2]
      · simp at hr
    · rename_i c b fo σ1 hgu hfo hset
      cases hs
      simp only [List.cons_append, List.nil_append] at hr
      rw [rgRun_gop] at hr
      have hgd := guR_some ha hgu
      split at hr
      · rename_i hq
        rw [hq] at hgd
        split at hr
        · rename_i v h' n' hev
          have h2 := foO_ok ha hfo hev
          obtain ⟨t', h4, h5⟩ := setD_ok (ha.push v) (fun l e => by cases e; omega) (show ((Ref.v len).at (len + 1)).val (v :: env) = v by simp [Ref.at, lget_zero]) hset
          refine ⟨⟨t', h', n', []⟩, [v], ?_, rfl, by simp; omega, h5, hr, fun _ => ⟨v, h', n', rfl, ?_⟩⟩
          · simp [stepA, hgd, h2, h4]
          · simp [outO, hgd, h2]
        · simp at hr
      · rename_i hq
        rw [hq] at hgd
        obtain ⟨t', h4, h5⟩ := setD_ok (ha.push (.tup [])) (fun l e => by cases e; omega) (show ((Ref.v len).at (len + 1)).val (.tup [] :: env) = .tup [] by simp [Ref.at, lget_zero]) hset
        refine ⟨⟨t', h, n, []⟩, [.tup []], ?_, rfl, by simp; omega, h5, hr, fun _ => ⟨.tup [], h, n, rfl, ?_⟩⟩
        · simp [stepA, hgd, h4]
        · simp [outO, hgd]
      · simp at hr
    · simp at hs

theorem trOps_ok : ∀ (l : List Oper) {σ : Sg} {len : Nat} {t : PT AV} {env : List AV} {h : Heap} {n : Nat} {is : List RI} {σ' : Sg} {len' : Nat}, trOps P N ops l σ len = some (is, σ', len') → Ag σ len t env →
    ∀ {k : List AV → Heap → Nat → Res} {hst : Hs} {r : AV × Heap × Nat}, rgRun P C is k env hst h n = some r →
    ∃ s' env', runOps P C N ops l ⟨t, h, n, []⟩ = some s' ∧ s'.d = [] ∧ Ag σ' len' s'.t env' ∧ k env' s'.h s'.n = some r := by
  intro l
  induction l with
  | nil =>
    intro σ len t env h n is σ' len' htr ha k hst r hr
    simp only [trOps] at htr
    cases htr
    exact ⟨⟨t, h, n, []⟩, env, rfl, rfl, ha, hr⟩
  | cons o l ih =>
    intro σ len t env h n is σ' len' htr ha k hst r hr
    have htr : (match stepR P N ops o σ len with
      | some (is, σ1, len1) => (match trOps P N ops l σ1 len1 with | some (r, σ2, len2) => some (is ++ r, σ2, len2) | none => none)
      | none => none) = some (is, σ', len') := htr
    split at htr
    · rename_i is1 σ1 len1 hst1
      split at htr
      · rename_i r2 σ2 len2 htr2
        cases htr
        obtain ⟨s1, vs, e1, e2, e3, e4, e5, _⟩ := stepR_ok ha hst1 hr
        obtain ⟨t1, h1, n1, d1⟩ := s1
        simp only at e2
        subst e2
        obtain ⟨s', env', f1, f2, f3, f4⟩ := ih htr2 e4 e5
        refine ⟨s', env', ?_, f2, f3, f4⟩
        show (match stepF P C N ops o ⟨t, h, n, []⟩ with | some s' => runOps P C N ops l s' | none => none) = some s'
        rw [stepF_eq, e1]
        exact f1
      · simp at htr
    · simp at htr
end
end Go.AE
