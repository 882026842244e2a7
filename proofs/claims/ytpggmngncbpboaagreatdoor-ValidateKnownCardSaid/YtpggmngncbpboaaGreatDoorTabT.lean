/- The engine, part 22: a literal table of functions is right when each entry is. -/
import Derived.Test.YtpggmngncbpboaaGreatDoorLaid
namespace Go.AE

def AllGet {α : Type} (t : PT α) : (Nat → α → Prop) → Prop :=
  match t with
  | .lf => fun _ => True
  | .nd l v r => fun q => (∀ x, v = some x → q 0 x) ∧ AllGet l (fun k x => q (2 * k + 1) x) ∧ AllGet r (fun k x => q (2 * k + 2) x)

theorem AllGet.get {α : Type} : ∀ (t : PT α) (q : Nat → α → Prop), AllGet t q → ∀ n x, t.get n = some x → q n x := by
  intro t
  induction t with
  | lf => intro q _ n x h; rw [PT.get_lf] at h; cases h
  | nd l v r ihl ihr =>
    intro q hq n x h
    obtain ⟨h0, h1, h2⟩ := hq
    cases n with
    | zero => rw [PT.get_nd_zero] at h; exact h0 x h
    | succ k =>
      rw [PT.get_nd_succ] at h
      split at h
      · have := ihr _ h2 (k / 2) x h
        rwa [show 2 * (k / 2) + 2 = k + 1 by omega] at this
      · have := ihl _ h1 (k / 2) x h
        rwa [show 2 * (k / 2) + 1 = k + 1 by omega] at this

theorem AllGet.none {α : Type} {l r : PT α} {q : Nat → α → Prop} (hl : AllGet l (fun k x => q (2 * k + 1) x)) (hr : AllGet r (fun k x => q (2 * k + 2) x)) : AllGet (.nd l none r) q :=
  ⟨(fun x h => by cases h), hl, hr⟩
theorem AllGet.some {α : Type} {l r : PT α} {v : α} {q : Nat → α → Prop} (h : q 0 v) (hl : AllGet l (fun k x => q (2 * k + 1) x)) (hr : AllGet r (fun k x => q (2 * k + 2) x)) : AllGet (.nd l (some v) r) q :=
  ⟨(fun x e => by cases e; exact h), hl, hr⟩
theorem AllGet.lf {α : Type} {q : Nat → α → Prop} : AllGet (.lf : PT α) q := trivial
end Go.AE
