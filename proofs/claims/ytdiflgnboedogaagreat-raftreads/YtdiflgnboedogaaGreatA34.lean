/- An interpreter on abstract values: all entries of a table of functions. -/
import Derived.Test.YtdiflgnboedogaaGreatA33
namespace Go.Ai
noncomputable def entries {α : Type} (t : T α) : (Nat → Nat) → List (Nat × α) :=
  T.rec (motive := fun _ => (Nat → Nat) → List (Nat × α)) (fun _ => []) (fun v _ _ el er g => app (match v with | some x => [(g 0, x)] | none => []) (app (el fun k => g (2 * k + 1)) (er fun k => g (2 * k + 2)))) t
theorem mem_entries {α : Type} {x : α} : ∀ {t : T α} {k : Nat} {g : Nat → Nat}, T.get t k = some x → (g k, x) ∈ entries t g
  | .e, k, g, h => by cases h
  | .n v l r, k, g, h => by
    have hd : entries (.n v l r) g = app (match v with | some x => [(g 0, x)] | none => []) (app (entries l fun k => g (2 * k + 1)) (entries r fun k => g (2 * k + 2))) := rfl
    rw [hd, app_eq, app_eq]
    cases k with
    | zero =>
      have h : v = some x := h
      subst h
      simp
    | succ k =>
      have hg : T.get (.n v l r) (k + 1) = Nat.rec (motive := fun _ => Option α) (T.get l (Nat.shiftRight k 1)) (fun _ _ => T.get r (Nat.shiftRight k 1)) (Nat.land k 1) := rfl
      rw [hg] at h
      rcases Nat.mod_two_eq_zero_or_one k with hk | hk
      · obtain ⟨j, rfl⟩ : ∃ j, k = 2 * j := ⟨k / 2, by omega⟩
        rw [land0, shr0] at h
        have := mem_entries (t := l) (k := j) (g := fun k => g (2 * k + 1)) h
        simp [this]
      · obtain ⟨j, rfl⟩ : ∃ j, k = 2 * j + 1 := ⟨k / 2, by omega⟩
        rw [land1, shr1] at h
        have := mem_entries (t := r) (k := j) (g := fun k => g (2 * k + 2)) h
        simp only [List.mem_append]
        exact .inr (.inr this)
def OkE (P : Program) : Nat × FEnt → Prop
  | (f, .code fn) => FnOK P f fn
  | (_, .prim _) => True
def prims : Nat × FEnt → List (Nat × Nat)
  | (_, .code _) => []
  | (f, .prim n) => [(f, n)]
end Go.Ai
