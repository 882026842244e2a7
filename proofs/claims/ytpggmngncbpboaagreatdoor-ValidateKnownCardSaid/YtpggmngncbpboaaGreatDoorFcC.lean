/- The fast code, part 3: each operation in its fast form does what the operation does. -/
import Derived.Test.YtpggmngncbpboaaGreatDoorFcB
section
namespace Go.AE
set_option linter.unusedSimpArgs false

theorem mapO_cons {α β : Type} (f : α → Option β) (a : α) (l : List α) : mapO f (a :: l) = match f a, mapO f l with | some b, some r => some (b :: r) | _, _ => none := rfl

theorem mapO_spec {α β : Type} {f : α → Option β} : ∀ {l : List α} {r : List β}, mapO f l = some r → l.map f = r.map some := by
  intro l
  induction l with
  | nil => intro r h; simp only [mapO] at h; cases h; rfl
  | cons a l ih =>
    intro r h
    have h : (match f a, mapO f l with | some b, some r => some (b :: r) | _, _ => none) = some r := h
    split at h
    · rename_i b r' h1 h2
      cases h
      simp [h1, ih h2]
    · simp at h

/-- The list of values holds what the places say. -/
structure Ag (σ : Sg) (len : Nat) (t : PT AV) (env : List AV) : Prop where
  ln : env.length = len
  get : ∀ k r, σ.get k = some r → (∀ l, r = .v l → l < len) ∧ (t.get k).getD (.tup []) = (r.at len).val env

theorem Ag.more {σ : Sg} {len : Nat} {t : PT AV} {env : List AV} (h : Ag σ len t env) (vs : List AV) : Ag σ (vs.length + len) t (vs ++ env) := by
  refine ⟨by simp [h.ln], fun k r hk => ?_⟩
  obtain ⟨h1, h2⟩ := h.get k r hk
  refine ⟨fun l hl => by have := h1 l hl; omega, ?_⟩
  rw [h2]
  cases r with
  | k a => rfl
  | v l =>
    have := h1 l rfl
    simp only [Ref.at, val_v]
    rw [show vs.length + len - 1 - l = vs.length + (len - 1 - l) by have := h.ln; omega, lget_append]

theorem Ag.push {σ : Sg} {len : Nat} {t : PT AV} {env : List AV} (h : Ag σ len t env) (v : AV) : Ag σ (len + 1) t (v :: env) := by
  have := h.more [v]
  rw [show [v].length + len = len + 1 by simp; omega] at this
  exact this

section
variable {P : Program} {C : CallF} {σ : Sg} {len : Nat} {t : PT AV} {env : List AV} {h : Heap} {n : Nat}

theorem refT_ok (ha : Ag σ len t env) {k : Tmp} {r : Ref} (hr : refT σ len k = some r) : (t.get k).getD (.tup []) = r.val env := by
  unfold refT at hr
  obtain ⟨r', h1, rfl⟩ := Option.map_eq_some_iff.1 hr
  exact (ha.get k r' h1).2

theorem refO_ok {G : Nat} (ha : Ag σ len t env) {x : Operand} {r : Ref} (hr : refO G σ len x = some r) : evA G t x = r.val env := by
  cases x with
  | tmp k => exact refT_ok ha hr
  | const v => simp only [refO, Option.some.injEq] at hr; subst hr; rfl
  | global g => simp only [refO, Option.some.injEq] at hr; subst hr; rfl
  | func f => simp only [refO, Option.some.injEq] at hr; subst hr; rfl

theorem refs_ok {G : Nat} (ha : Ag σ len t env) : ∀ {l : List Operand} {rs : List Ref}, mapO (refO G σ len) l = some rs → l.map (evA G t) = valsR env rs := by
  intro l
  induction l with
  | nil => intro rs hr; have := mapO_spec hr; simp at this; subst this; rfl
  | cons x l ih =>
    intro rs hr
    rw [mapO_cons] at hr
    split at hr
    · rename_i b r' h1 h2
      cases hr
      rw [List.map_cons, refO_ok ha h1, ih h2]
      rfl
    · simp at hr

theorem genMap_ok (ha : Ag σ len t env) (G : Nat) : ∀ {l : List Operand} {m : List (Tmp × Ref)}, genMap σ len l = some m → ∀ x ∈ l, evM G m env x = evA G t x := by
  intro l m hm x hx
  cases x with
  | const v => rfl
  | global g => rfl
  | func f => rfl
  | tmp k =>
    -- every pair of the map is right, and the variable is in it
    have key : ∀ (l : List Operand) (m : List (Tmp × Ref)), genMap σ len l = some m → (∀ p ∈ m, (t.get p.1).getD (.tup []) = p.2.val env) ∧ (∀ k, Operand.tmp k ∈ l → ∃ p ∈ m, p.1 = k) := by
      intro l
      induction l with
      | nil => intro m hm; simp only [genMap] at hm; cases hm; simp
      | cons y l ih =>
        intro m hm
        cases y with
        | tmp k' =>
          have hm : (match refT σ len k', genMap σ len l with | some r, some m => some ((k', r) :: m) | _, _ => none) = some m := hm
          split at hm
          · rename_i r m' h1 h2
            cases hm
            obtain ⟨i1, i2⟩ := ih m' h2
            refine ⟨fun p hp => ?_, fun k hk => ?_⟩
            · rcases List.mem_cons.1 hp with rfl | hp
              · exact refT_ok ha h1
              · exact i1 p hp
            · rcases List.mem_cons.1 hk with hk | hk
              · cases hk; exact ⟨_, List.mem_cons_self .., rfl⟩
              · obtain ⟨p, hp, e⟩ := i2 k hk; exact ⟨p, List.mem_cons_of_mem _ hp, e⟩
          · simp at hm
        | const v => obtain ⟨i1, i2⟩ := ih m hm; exact ⟨i1, fun k hk => i2 k (by simpa using hk)⟩
        | global v => obtain ⟨i1, i2⟩ := ih m hm; exact ⟨i1, fun k hk => i2 k (by simpa using hk)⟩
        | func v => obtain ⟨i1, i2⟩ := ih m hm; exact ⟨i1, fun k hk => i2 k (by simpa using hk)⟩
    obtain ⟨k1, k2⟩ := key l m hm
    obtain ⟨p, hp, e⟩ := k2 k hx
    show evM G m env (.tmp k) = (t.get k).getD (.tup [])
    have find : ∀ (m : List (Tmp × Ref)), (∀ p ∈ m, (t.get p.1).getD (.tup []) = p.2.val env) → (∃ p ∈ m, p.1 = k) → evM G m env (.tmp k) = (t.get k).getD (.tup []) := by
      intro m
      induction m with
      | nil => rintro _ ⟨p, hp, _⟩; cases hp
      | cons q m ih =>
        intro hall hex
        show (bif Nat.beq q.1 k then q.2.val env else evM G m env (.tmp k)) = _
        cases hb : Nat.beq q.1 k with
        | true =>
          have := Nat.eq_of_beq_eq_true hb
          subst this
          exact (hall q (List.mem_cons_self ..)).symm
        | false =>
          simp only [cond_false]
          refine ih (fun p hp => hall p (List.mem_cons_of_mem _ hp)) ?_
          obtain ⟨p, hp, e⟩ := hex
          rcases List.mem_cons.1 hp with rfl | hp
          · subst e; simp at hb
          · exact ⟨p, hp, e⟩
    exact find m k1 ⟨p, hp, e⟩

theorem genO_ok (ha : Ag σ len t env) {o : Oper} {fo : FO} (hg : genO σ len o = some fo) {r : AV × Heap × Nat} (hr : fo.ev P C env h n = some r) :
    actO P C o (evA P.globals.size t) h n [] = some (r.1, r.2.1, r.2.2, []) := by
  unfold genO at hg
  obtain ⟨m, hm, rfl⟩ := Option.map_eq_some_iff.1 hg
  have hbare : ∀ ev d, actO P C o ev h n d = actO P C (bare o.op) ev h n d := by
    intro ev d
    obtain ⟨dst, op, ty, pos, aft, gu⟩ := o
    rfl
  rw [actO_congr P C o (evA P.globals.size t) (evM P.globals.size m env) h n [] (fun x hx => (genMap_ok ha _ hm x hx).symm)]
  simp only [FO.ev] at hr
  rw [hbare]
  split at hr
  · rename_i v h' n' he
    cases hr
    exact he
  · simp at hr

theorem binQ_ok (op : BinOp) (ty : TypeId) (x y : Operand) (a b v : AV) (hv : binQ op a b = some v) : binA P op ty x y a b = some v := by
  unfold binQ at hv
  cases a with
  | nt k m =>
    cases b with
    | nt k' m' =>
      simp only [] at hv
      have := binF_eq P op ty x y (.nt k m) (.nt k' m')
      simp only [binF] at this
      cases hk : Nat.beq (kindNo k) (kindNo k') with
      | false => rw [hk] at hv; simp at hv
      | true => rw [hk] at hv this; rw [← this]; exact hv
    | _ => simp at hv
  | st l =>
    cases b with
    | st r =>
      simp only [] at hv
      cases op <;> simp only [binA] <;> first | exact hv | (simp [strA] at hv; done)
    | _ => simp at hv
  | _ => simp at hv
end
end Go.AE
end

section
namespace Go.AE
set_option linter.unusedSimpArgs false

theorem optR_some {r : Option AV} {h : Heap} {n : Nat} {x : AV × Heap × Nat} (e : optR r h n = some x) : r = some x.1 ∧ x.2.1 = h ∧ x.2.2 = n := by
  cases r with
  | none => simp [optR] at e
  | some v => simp only [optR, Option.some.injEq] at e; subst e; exact ⟨rfl, rfl, rfl⟩
theorem optF_some {r : Option AV} {h : Heap} {n : Nat} {x : AV × Heap × Nat} (e : optF r h n = some x) : r = some x.1 ∧ x.2.1 = h ∧ x.2.2 = n := by
  cases r with
  | none => simp [optF] at e
  | some v => simp only [optF, forceV_eq, Option.some.injEq] at e; subst e; exact ⟨rfl, rfl, rfl⟩

section
variable {P : Program} {C : CallF} {σ : Sg} {len : Nat} {t : PT AV} {env : List AV} {h : Heap} {n : Nat}

theorem actO_aop {o : Oper} {ev : Operand → AV} {v : AV} {h' : Heap} {n' : Nat} (hc : ∀ f args ats, o.op ≠ .call ⟨.value f, args, ats⟩) (hd : ∀ c, o.op ≠ .defer c) (e : aop P o ev h n = some (v, h', n')) :
    actO P C o ev h n [] = some (v, h', n', []) := by
  unfold actO
  split
  · rename_i f args ats ho; exact absurd ho (hc _ _ _)
  · rename_i f args ats ho; exact absurd ho (hd _)
  · rw [e]

theorem loadO_of_ld1 {ty : TypeId} {x v : AV} (ha : aggO P ty = some false) (e : ld1Q h x = some v) : loadO P h ty x = some v := by
  unfold ld1Q at e
  unfold loadO
  split at e
  · rename_i b o
    unfold cellsOf at e
    simp only []
    split at e
    · rename_i vs hvs
      split at hvs
      · rename_i hb; cases hvs; rw [hb]; simp only [partO, ha]; exact e
      · rename_i hb; cases hvs; rw [hb]; simp only [partO, ha]; exact e
      · simp at hvs
    · simp at e
  · simp at e

theorem loadO_of_ldn {ty : TypeId} {k : Nat} {x v : AV} (ha : aggO P ty = some true) (hk : sizeO P ty = some k) (e : ldnQ h k x = some v) : loadO P h ty x = some v := by
  unfold ldnQ at e
  unfold loadO
  split at e
  · rename_i b o
    unfold cellsOf at e
    simp only []
    split at e
    · rename_i vs hvs
      split at hvs
      · rename_i hb; cases hvs; rw [hb]; simp only [partO, ha, hk]; exact e
      · rename_i hb; cases hvs; rw [hb]; simp only [partO, ha, hk]; exact e
      · simp at hvs
    · simp at e
  · simp at e

theorem storeO_of_st {ty : TypeId} {k : Nat} {x v : AV} {h' : Heap} (hk : sizeO P ty = some k) (e : stQ h k x v = some h') : storeO P h ty x v = some h' := by
  unfold stQ at e
  unfold storeO
  split at e
  · rename_i b o
    simp only []
    split at e
    · rename_i vs el fz gr hb; rw [hb, hk]; exact e
    · simp at e
  · simp at e

theorem foO_ok (ha : Ag σ len t env) {o : Oper} {fo : FO} (hf : foO P σ len o = some fo) {r : AV × Heap × Nat} (hr : fo.ev P C env h n = some r) :
    actO P C o (evA P.globals.size t) h n [] = some (r.1, r.2.1, r.2.2, []) := by
  obtain ⟨v, h', n'⟩ := r
  unfold foO at hf
  split at hf
  · simp at hf
  · rename_i x ho
    obtain ⟨rx, h1, rfl⟩ := Option.map_eq_some_iff.1 hf
    simp only [FO.ev, Option.some.injEq, Prod.mk.injEq] at hr
    obtain ⟨rfl, rfl, rfl⟩ := hr
    exact actO_aop (by simp [ho]) (by simp [ho]) (by simp [aop, ho, refO_ok ha h1])
  · rename_i x ho
    obtain ⟨rx, h1, rfl⟩ := Option.map_eq_some_iff.1 hf
    simp only [FO.ev, Option.some.injEq, Prod.mk.injEq] at hr
    obtain ⟨rfl, rfl, rfl⟩ := hr
    exact actO_aop (by simp [ho]) (by simp [ho]) (by simp [aop, ho, refO_ok ha h1])
  · -- load
    rename_i ty a ho
    split at hf
    · rename_i ra h1 h2
      cases hf
      obtain ⟨e1, e2, e3⟩ := optR_some (by simpa only [FO.ev] using hr)
      simp only at e1 e2 e3
      subst e2 e3
      exact actO_aop (by simp [ho]) (by simp [ho]) (by simp [aop, ho, refO_ok ha h1, loadO_of_ld1 h2 e1])
    · rename_i ra h1 h2
      split at hf
      · rename_i k hk
        cases hf
        obtain ⟨e1, e2, e3⟩ := optR_some (by simpa only [FO.ev] using hr)
        simp only at e1 e2 e3
        subst e2 e3
        exact actO_aop (by simp [ho]) (by simp [ho]) (by simp [aop, ho, refO_ok ha h1, loadO_of_ldn h2 hk e1])
      · simp at hf
    · simp at hf
  · -- store
    rename_i ty a x ho
    split at hf
    · rename_i ra rx k h1 h2 hk
      cases hf
      simp only [FO.ev] at hr
      split at hr
      · rename_i hq he
        simp only [Option.some.injEq, Prod.mk.injEq] at hr
        obtain ⟨rfl, rfl, rfl⟩ := hr
        exact actO_aop (by simp [ho]) (by simp [ho]) (by simp [aop, ho, refO_ok ha h1, refO_ok ha h2, storeO_of_st hk he])
      · simp at hr
    · simp at hf
  · -- binary operations
    rename_i op ty x y yt ho
    have key : ∀ a b, refO P.globals.size σ len x = some a → refO P.globals.size σ len y = some b → FO.ev P C (.bin op a b) env h n = some (v, h', n') → actO P C o (evA P.globals.size t) h n [] = some (v, h', n', []) := by
      intro a b h1 h2 hr
      obtain ⟨e1, e2, e3⟩ := optF_some (by simpa only [FO.ev] using hr)
      simp only at e1 e2 e3
      subst e2 e3
      exact actO_aop (by simp [ho]) (by simp [ho]) (by simp [aop, ho, refO_ok ha h1, refO_ok ha h2, binQ_ok op ty x y _ _ _ e1])
    split at hf
    · rename_i a b k h1 h2 hu
      split at hf
      · exact genO_ok ha hf hr
      · cases hf; exact key a b h1 h2 hr
    · rename_i a b h1 h2 hu
      cases hf; exact key a b h1 h2 hr
    · exact genO_ok ha hf hr
  · -- unary operations
    rename_i op ty x ho
    obtain ⟨rx, h1, rfl⟩ := Option.map_eq_some_iff.1 hf
    obtain ⟨e1, e2, e3⟩ := optF_some (by simpa only [FO.ev] using hr)
    simp only at e1 e2 e3
    subst e2 e3
    exact actO_aop (by simp [ho]) (by simp [ho]) (by simp [aop, ho, refO_ok ha h1, e1])
  · -- the address of a field
    rename_i s x f ho
    split at hf
    · rename_i rx fs h1 hu
      split at hf
      · rename_i fd hfd
        split at hf
        · rename_i k hk
          cases hf
          simp only [FO.ev] at hr
          split at hr
          · rename_i b off he
            simp only [Option.some.injEq, Prod.mk.injEq] at hr
            obtain ⟨rfl, rfl, rfl⟩ := hr
            exact actO_aop (by simp [ho]) (by simp [ho]) (by simp [aop, ho, refO_ok ha h1, fieldAtO, hu, hfd, he, hk])
          · simp at hr
        · simp at hf
      · simp at hf
    · simp at hf
  · -- a field
    rename_i ty x f ho
    split at hf
    · rename_i rx fs h1 hu
      split at hf
      · rename_i fd hfd
        split at hf
        · rename_i hag
          cases hf
          simp only [FO.ev] at hr
          split at hr
          · rename_i cs he
            obtain ⟨e1, e2, e3⟩ := optR_some hr
            simp only at e1 e2 e3
            subst e2 e3
            exact actO_aop (by simp [ho]) (by simp [ho]) (by simp [aop, ho, refO_ok ha h1, fieldO, hu, hfd, he, partO, hag, e1])
          · simp at hr
        · rename_i k hag hk
          cases hf
          simp only [FO.ev] at hr
          split at hr
          · rename_i cs he
            split at hr
            · rename_i hl
              simp only [Option.some.injEq, Prod.mk.injEq] at hr
              obtain ⟨rfl, rfl, rfl⟩ := hr
              refine actO_aop (by simp [ho]) (by simp [ho]) ?_
              simp only [aop, ho, refO_ok ha h1, fieldO, hu, hfd, he, partO, hag, hk]
              rw [if_pos hl]; rfl
            · simp at hr
          · simp at hr
        · simp at hf
      · simp at hf
    · simp at hf
  · -- the address of an element
    rename_i ty x ix ho
    split at hf
    · rename_i a b e h1 h2 hu
      split at hf
      · rename_i k hk
        cases hf
        simp only [FO.ev] at hr
        split at hr
        · rename_i bb off ln cap kk i he hi
          cases hlt : Nat.blt i ln with
          | false => rw [hlt] at hr; simp at hr
          | true =>
            rw [hlt] at hr
            simp only [cond_true, Option.some.injEq, Prod.mk.injEq] at hr
            obtain ⟨rfl, rfl, rfl⟩ := hr
            refine actO_aop (by simp [ho]) (by simp [ho]) ?_
            simp only [aop, ho, refO_ok ha h1, refO_ok ha h2, indexAtO, hu, he, hi, hk, hlt]; rfl
        · simp at hr
      · simp at hf
    · rename_i a b m e h1 h2 hu
      split at hf
      · rename_i k hk
        cases hf
        simp only [FO.ev] at hr
        split at hr
        · rename_i bb off kk i he hi
          cases hlt : Nat.blt i m with
          | false => rw [hlt] at hr; simp at hr
          | true =>
            rw [hlt] at hr
            simp only [cond_true, Option.some.injEq, Prod.mk.injEq] at hr
            obtain ⟨rfl, rfl, rfl⟩ := hr
            refine actO_aop (by simp [ho]) (by simp [ho]) ?_
            simp only [aop, ho, refO_ok ha h1, refO_ok ha h2, indexAtO, hu, he, hi, hk, hlt]; rfl
        · simp at hr
      · simp at hf
    · exact genO_ok ha hf hr
  · -- an element
    rename_i ty x ix ho
    split at hf
    · rename_i a b h1 h2 hu
      cases hf
      simp only [FO.ev] at hr
      split at hr
      · rename_i l kk i he hi
        obtain ⟨e1, e2, e3⟩ := optR_some hr
        simp only at e1 e2 e3
        subst e2 e3
        refine actO_aop (by simp [ho]) (by simp [ho]) ?_
        simp only [aop, ho, refO_ok ha h1, refO_ok ha h2, indexO, hu, he, hi, e1]; rfl
      · simp at hr
    · exact genO_ok ha hf hr
  · -- extract
    rename_i x i ho
    obtain ⟨rx, h1, rfl⟩ := Option.map_eq_some_iff.1 hf
    simp only [FO.ev] at hr
    split at hr
    · rename_i vs he
      obtain ⟨e1, e2, e3⟩ := optR_some hr
      simp only at e1 e2 e3
      subst e2 e3
      exact actO_aop (by simp [ho]) (by simp [ho]) (by simp [aop, ho, refO_ok ha h1, he, e1])
    · simp at hr
  · -- pick
    rename_i c a b ho
    split at hf
    · rename_i rc ra rb h1 h2 h3
      cases hf
      simp only [FO.ev] at hr
      split at hr
      · rename_i he
        simp only [Option.some.injEq, Prod.mk.injEq] at hr
        obtain ⟨rfl, rfl, rfl⟩ := hr
        exact actO_aop (by simp [ho]) (by simp [ho]) (by simp [aop, ho, refO_ok ha h1, refO_ok ha h2, he])
      · rename_i he
        simp only [Option.some.injEq, Prod.mk.injEq] at hr
        obtain ⟨rfl, rfl, rfl⟩ := hr
        exact actO_aop (by simp [ho]) (by simp [ho]) (by simp [aop, ho, refO_ok ha h1, refO_ok ha h3, he])
      · simp at hr
    · simp at hf
  · -- nilCheck
    rename_i x ho
    obtain ⟨rx, h1, rfl⟩ := Option.map_eq_some_iff.1 hf
    simp only [FO.ev] at hr
    have : aop P o (evA P.globals.size t) h n = some (v, h', n') := by
      simp only [aop, ho, refO_ok ha h1]
      exact hr
    exact actO_aop (by simp [ho]) (by simp [ho]) this
  · -- alloc
    rename_i elem ho
    obtain ⟨z, h1, rfl⟩ := Option.map_eq_some_iff.1 hf
    simp only [FO.ev] at hr
    refine actO_aop (by simp [ho]) (by simp [ho]) ?_
    simp only [aop, ho, h1]
    exact hr
  · -- box
    rename_i elem x ho
    obtain ⟨rx, h1, rfl⟩ := Option.map_eq_some_iff.1 hf
    simp only [FO.ev] at hr
    refine actO_aop (by simp [ho]) (by simp [ho]) ?_
    simp only [aop, ho, refO_ok ha h1]
    exact hr
  · -- makeInterface
    rename_i ty x ho
    split at hf
    · simp at hf
    · rename_i rx d hu h1 h2
      cases hf
      simp only [FO.ev] at hr
      refine actO_aop (by simp [ho]) (by simp [ho]) ?_
      simp only [aop, ho, refO_ok ha h1, h2]
      exact hr
    · simp at hf
  · -- call
    rename_i f args ats ho
    split at hf
    · rename_i g as h1 h2
      cases hf
      simp only [FO.ev] at hr
      have hfv := refO_ok ha h1
      simp only [val_k] at hfv
      simp only [actO, ho, hfv, refs_ok ha h2, List.nil_append, List.append_nil]
      rw [hr]
    · rename_i rf as hno h1 h2
      cases hf
      simp only [FO.ev] at hr
      split at hr
      · rename_i g first cap he
        simp only [actO, ho, refO_ok ha h1, he, refs_ok ha h2]
        rw [hr]
      · rename_i b he
        simp only [actO, ho, refO_ok ha h1, he, refs_ok ha h2]
        rw [hr]
      · simp at hr
    · simp at hf
  · -- len
    rename_i args ats ho
    split at hf
    · rename_i x ty ha1 hat
      split at hf
      · rename_i rx h1 hu
        cases hf
        have hl : evA P.globals.size t x = rx.val env := refO_ok ha h1
        refine actO_aop (by simp [ho]) (by simp [ho]) ?_
        simp only [aop, ho, ha1, List.map_cons, List.map_nil, builtinO, hat, hl, lenO, hu]
        simp only [FO.ev] at hr
        split at hr
        · rename_i l he; rw [he]; exact hr
        · simp at hr
      · rename_i rx e h1 hu
        cases hf
        have hl : evA P.globals.size t x = rx.val env := refO_ok ha h1
        refine actO_aop (by simp [ho]) (by simp [ho]) ?_
        simp only [aop, ho, ha1, List.map_cons, List.map_nil, builtinO, hat, hl, lenO, hu]
        simp only [FO.ev] at hr
        split at hr
        · rename_i he; rw [he]; exact hr
        · rename_i he; rw [he]; exact hr
        · simp at hr
      · exact genO_ok ha hf hr
    · exact genO_ok ha hf hr
  · exact genO_ok ha hf hr
end
end Go.AE
end
