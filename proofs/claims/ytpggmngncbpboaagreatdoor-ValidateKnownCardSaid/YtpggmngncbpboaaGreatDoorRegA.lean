/- The engine, part 13: regions: what an operation looks at, which operations leave the heap alone, which run before which. -/
import Derived.Test.YtpggmngncbpboaaGreatDoorStep
namespace Go.AE
set_option linter.unusedSimpArgs false

/-! ### what an operation looks at -/
theorem aop_congr (P : Program) (o : Oper) (ev ev' : Operand → AV) (H : Heap) (n : Nat) (h : ∀ x ∈ o.op.operands.toList, ev x = ev' x) : aop P o ev H n = aop P o ev' H n := by
  unfold aop
  cases ho : o.op <;> rw [ho] at h <;> simp only [Op.operands, Call.operands] at h <;> try rfl
  case move x => simp only [h x (by simp)]
  case assign x => simp only [h x (by simp)]
  case pick c a b => simp only [h c (by simp), h a (by simp), h b (by simp)]
  case box elem x => simp only [h x (by simp)]
  case build t parts =>
    simp only []
    rw [List.map_congr_left fun p hp => by rw [h p.2 (by simp; exact ⟨p.1, by simpa using hp⟩)]]
  case buildSlice t len parts =>
    simp only []
    rw [List.map_congr_left fun p hp => by rw [h p.2 (by simp; exact ⟨p.1, by simpa using hp⟩)]]
  case load t a => simp only [h a (by simp)]
  case store t a x => simp only [h a (by simp), h x (by simp)]
  case nilCheck x => simp only [h x (by simp)]
  case binOp op t x y ty => simp only [h x (by simp), h y (by simp)]
  case unOp op t x => simp only [h x (by simp)]
  case convert s d x => simp only [h x (by simp)]
  case makeInterface t x => simp only [h x (by simp)]
  case makeFunc fn first captured =>
    cases fn <;> simp only []
    rw [List.map_congr_left fun x hx => h x (by simp; exact .inl (by simpa using hx)), List.map_congr_left fun x hx => h x (by simp; exact .inr (by simpa using hx))]
  case makeSlice t l c => simp only [h l (by simp), h c (by simp)]
  case makeMap t r => cases r <;> rfl
  case slice t x lo hi mx =>
    have e1 : lo.map ev = lo.map ev' := by cases lo with | none => rfl | some y => simp [h y (by simp)]
    have e2 : hi.map ev = hi.map ev' := by cases hi with | none => rfl | some y => simp [h y (by simp)]
    have e3 : mx.map ev = mx.map ev' := by cases mx with | none => rfl | some y => simp [h y (by simp)]
    simp only [h x (by simp), e1, e2, e3]
  case fieldAddr s x f => simp only [h x (by simp)]
  case field t x f => simp only [h x (by simp)]
  case indexAddr t x ix => simp only [h x (by simp), h ix (by simp)]
  case index t x ix => simp only [h x (by simp), h ix (by simp)]
  case lookup t x ix ok => simp only [h x (by simp), h ix (by simp)]
  case mapUpdate t m k x => simp only [h m (by simp), h k (by simp), h x (by simp)]
  case insert t m k x => simp only [h m (by simp), h k (by simp), h x (by simp)]
  case range t x => simp only [h x (by simp)]
  case next it str => cases str <;> simp only [h it (by simp)]
  case extract t i => simp only [h t (by simp)]
  case call c =>
    obtain ⟨callee, args, ats⟩ := c
    cases callee <;> simp only []
    rw [List.map_congr_left fun x hx => h x (by simp; simpa using hx)]

theorem actO_congr (P : Program) (callA : CallF) (o : Oper) (ev ev' : Operand → AV) (H : Heap) (n : Nat) (d : List Def) (h : ∀ x ∈ o.op.operands.toList, ev x = ev' x) :
    actO P callA o ev H n d = actO P callA o ev' H n d := by
  have ha := aop_congr P o ev ev' H n h
  unfold actO
  split
  · rename_i f args ats ho
    rw [ho] at h
    simp only [Op.operands, Call.operands] at h
    rw [h f (by simp), List.map_congr_left fun x hx => h x (by simp; exact .inr (by simpa using hx))]
  · rename_i f args ats ho
    rw [ho] at h
    simp only [Op.operands, Call.operands] at h
    rw [h f (by simp), List.map_congr_left fun x hx => h x (by simp; exact .inr (by simpa using hx))]
  · rw [ha]

/-! ### what it does to the heap -/
/-- 0: it only computes; 1: it may look at the heap; 2: it may turn it; 3: not in a region that draws its order. -/
noncomputable def cls (P : Program) (o : Oper) : Nat :=
  match o.op with
  | .move _ => 0
  | .assign _ => 0
  | .pick _ _ _ => 0
  | .build _ _ => 0
  | .nilCheck _ => 0
  | .binOp _ _ _ _ _ => 0
  | .unOp _ _ _ => 0
  | .makeInterface _ _ => 0
  | .makeFunc _ _ _ => 0
  | .fieldAddr _ _ _ => 0
  | .field _ _ _ => 0
  | .indexAddr _ _ _ => 0
  | .index _ _ _ => 0
  | .extract _ _ => 0
  | .load _ _ => 1
  | .slice _ _ _ _ _ => 1
  | .lookup _ _ _ _ => 1
  | .convert _ d _ => match P.underlying d with | some (.int _) => 1 | some .string => 1 | _ => 2
  | .call { callee := .builtin .len, .. } => 1
  | .call { callee := .builtin .cap, .. } => 1
  | .call { callee := .builtin .max, .. } => 1
  | .call { callee := .builtin .min, .. } => 1
  | .call { callee := .builtin .unsafeSliceData, .. } => 1
  | .defer _ => 3
  | _ => 2

theorem actO_quiet {P : Program} {callA : CallF} {o : Oper} {ev : Operand → AV} {H : Heap} {n : Nat} {d : List Def} {v : AV} {H' : Heap} {n' : Nat} {d' : List Def}
    (hc : cls P o < 2) (h : actO P callA o ev H n d = some (v, H', n', d')) : H' = H ∧ n' = n ∧ d' = d := by
  have key : ∀ v H' n', aop P o ev H n = some (v, H', n') → H' = H ∧ n' = n := by
    intro v H' n' h
    unfold cls at hc
    unfold aop at h
    cases ho : o.op <;> rw [ho] at h hc <;> simp only [] at h hc <;> first
      | (exfalso; omega)
      | (cases h; exact ⟨rfl, rfl⟩)
      | (simp only [Option.map_eq_some_iff] at h; obtain ⟨_, _, h2⟩ := h; cases h2; exact ⟨rfl, rfl⟩)
      | skip
    case pick c a b => split at h <;> first | (cases h; exact ⟨rfl, rfl⟩) | simp at h
    case nilCheck x => split at h <;> first | (cases h; exact ⟨rfl, rfl⟩) | simp at h
    case convert s dt x =>
      unfold convO at h
      split at h
      · cases h; exact ⟨rfl, rfl⟩
      · cases h; exact ⟨rfl, rfl⟩
      · exfalso; simp_all
      · split at h <;> first | (cases h; exact ⟨rfl, rfl⟩) | simp at h
      · split at h
        · split at h
          · split at h
            · rename_i r _
              cases hb : Nat.beq r.length _ with
              | false => rw [hb] at h; simp at h
              | true => rw [hb] at h; cases h; exact ⟨rfl, rfl⟩
            · simp at h
          · simp at h
        · simp at h
      · rename_i hv _; rw [hv] at hc; exfalso; simp at hc
      · cases h; exact ⟨rfl, rfl⟩
      · cases h; exact ⟨rfl, rfl⟩
      · exfalso; simp_all
      · exfalso; simp_all
      · simp at h
    case makeInterface t x => split at h <;> first | (cases h; exact ⟨rfl, rfl⟩) | simp at h
    case makeFunc fn first captured => cases fn <;> simp only [] at h <;> first | (cases h; exact ⟨rfl, rfl⟩) | simp at h
    case extract t i => split at h <;> first | (simp only [Option.map_eq_some_iff] at h; obtain ⟨_, _, h2⟩ := h; cases h2; exact ⟨rfl, rfl⟩) | simp at h
    case call c =>
      obtain ⟨callee, args, ats⟩ := c
      cases callee <;> simp only [] at h hc <;> first | (exfalso; omega) | skip
      rename_i b
      cases b <;> simp only [] at hc <;> first | (exfalso; omega) | skip
      all_goals
        unfold builtinO at h
        split at h <;> first
          | (split at h <;> first | (simp only [Option.map_eq_some_iff] at h; obtain ⟨_, _, h2⟩ := h; cases h2; exact ⟨rfl, rfl⟩) | (simp at h; done))
          | (simp only [Option.map_eq_some_iff] at h; obtain ⟨_, _, h2⟩ := h; cases h2; exact ⟨rfl, rfl⟩)
          | (rename_i hb; cases hb; done)
          | (simp at h; done)
          | (rename_i hb _; cases hb; done)
  unfold actO at h
  split at h
  · rename_i ho; unfold cls at hc; rw [ho] at hc; simp at hc
  · rename_i ho; unfold cls at hc; rw [ho] at hc; simp at hc
  · split at h
    · rename_i v0 H0 n0 hop
      cases h
      have := key _ _ _ hop
      exact ⟨this.1, this.2, rfl⟩
    · simp at h

theorem actO_pure {P : Program} {callA : CallF} {o : Oper} {ev : Operand → AV} {H : Heap} {n : Nat} {d : List Def} {v : AV} {H' : Heap} {n' : Nat} {d' : List Def}
    (hc : cls P o = 0) (h : actO P callA o ev H n d = some (v, H', n', d')) (H2 : Heap) (n2 : Nat) : actO P callA o ev H2 n2 d = some (v, H2, n2, d) := by
  have key : ∀ v H' n', aop P o ev H n = some (v, H', n') → aop P o ev H2 n2 = some (v, H2, n2) := by
    intro v H' n' h
    unfold cls at hc
    unfold aop at h ⊢
    cases ho : o.op <;> rw [ho] at h hc <;> simp only [] at h hc ⊢ <;> first
      | (exfalso; omega)
      | (cases h; rfl)
      | (simp only [Option.map_eq_some_iff] at h ⊢; obtain ⟨y, hy, h2⟩ := h; cases h2; exact ⟨_, hy, rfl⟩)
      | skip
    case pick c a b => split at h <;> first | (cases h; rfl) | simp at h
    case nilCheck x =>
      split at h <;> first
        | (simp at h; done)
        | (cases h; rename_i h1 h2 h3 h4; cases hx : ev x <;> simp_all)
    case convert s dt x => exfalso; split at hc <;> omega
    case makeInterface t x => split at h <;> first | (cases h; rfl) | simp at h
    case makeFunc fn first captured => cases fn <;> first | (cases h; rfl) | (simp at h; done)
    case extract t i => split at h <;> first | (simp only [Option.map_eq_some_iff] at h ⊢; obtain ⟨y, hy, h2⟩ := h; cases h2; exact ⟨_, hy, rfl⟩) | simp at h
    case call c =>
      exfalso
      obtain ⟨callee, args, ats⟩ := c
      cases callee with
      | builtin b => cases b <;> first | (simp at hc; done) | omega
      | _ => first | (simp at hc; done) | omega
  unfold actO at h ⊢
  split at h
  · rename_i ho; unfold cls at hc; rw [ho] at hc; simp at hc
  · rename_i ho; unfold cls at hc; rw [ho] at hc; simp at hc
  · split at h
    · rename_i v0 H0 n0 hop
      cases h
      rw [key _ _ _ hop]
    · simp at h

/-! ### equality of abstract values -/
mutual
def eqAV : AV → AV → Bool
  | .bo a, .bo b => a == b
  | .nt k a, .nt k' b => decide (k = k') && a == b
  | .st a, .st b => a == b
  | .pt b o, .pt b' o' => Nat.beq b b' && Nat.beq o o'
  | .pn, .pn => true
  | .sl b o l c, .sl b' o' l' c' => Nat.beq b b' && Nat.beq o o' && Nat.beq l l' && (match c, c' with | .kn x, .kn y => Nat.beq x y | .te x, .te y => Nat.beq x y | _, _ => false)
  | .sn, .sn => true
  | .mp b, .mp b' => Nat.beq b b'
  | .mn, .mn => true
  | .fu g a b, .fu g' a' b' => Nat.beq g g' && eqAVs a a' && eqAVs b b'
  | .fn, .fn => true
  | .ifc t v, .ifc t' v' => Nat.beq t t' && eqAV v v'
  | .ifn, .ifn => true
  | .agg a, .agg b => eqAVs a b
  | .tup a, .tup b => eqAVs a b
  | _, _ => false
def eqAVs : List AV → List AV → Bool
  | [], [] => true
  | a :: l, b :: r => eqAV a b && eqAVs l r
  | _, _ => false
end

mutual
theorem eqAV_eq : ∀ (a b : AV), eqAV a b = true → a = b
  | .bo a, b, h => by cases b <;> simp_all [eqAV]
  | .nt k a, b, h => by cases b <;> simp_all [eqAV]
  | .st a, b, h => by cases b <;> simp_all [eqAV]
  | .pt x o, b, h => by cases b <;> simp_all [eqAV]
  | .pn, b, h => by cases b <;> simp_all [eqAV]
  | .sl x o l c, b, h => by
    cases b <;> simp_all [eqAV]
    rename_i c'
    cases c <;> cases c' <;> simp_all
  | .sn, b, h => by cases b <;> simp_all [eqAV]
  | .mp x, b, h => by cases b <;> simp_all [eqAV]
  | .mn, b, h => by cases b <;> simp_all [eqAV]
  | .fu g x y, b, h => by
    cases b <;> simp only [eqAV, Bool.and_eq_true, Bool.false_eq_true] at h
    obtain ⟨⟨h1, h2⟩, h3⟩ := h
    rw [Nat.eq_of_beq_eq_true h1, eqAVs_eq _ _ h2, eqAVs_eq _ _ h3]
  | .fn, b, h => by cases b <;> simp_all [eqAV]
  | .ifc t v, b, h => by
    cases b <;> simp only [eqAV, Bool.and_eq_true, Bool.false_eq_true] at h
    rw [Nat.eq_of_beq_eq_true h.1, eqAV_eq _ _ h.2]
  | .ifn, b, h => by cases b <;> simp_all [eqAV]
  | .agg x, b, h => by
    cases b <;> simp only [eqAV, Bool.false_eq_true] at h
    rw [eqAVs_eq _ _ h]
  | .tup x, b, h => by
    cases b <;> simp only [eqAV, Bool.false_eq_true] at h
    rw [eqAVs_eq _ _ h]
  | .raw v, b, h => by cases b <;> simp_all [eqAV]
theorem eqAVs_eq : ∀ (a b : List AV), eqAVs a b = true → a = b
  | [], b, h => by cases b <;> simp_all [eqAVs]
  | x :: l, b, h => by
    cases b with
    | nil => simp [eqAVs] at h
    | cons y r =>
      simp only [eqAVs, Bool.and_eq_true] at h
      rw [eqAV_eq _ _ h.1, eqAVs_eq _ _ h.2]
end

end Go.AE
