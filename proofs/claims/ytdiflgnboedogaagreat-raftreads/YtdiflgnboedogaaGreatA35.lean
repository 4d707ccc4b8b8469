/- An interpreter on abstract values: runs in pieces, what is not reached dropped between them. -/
import Derived.Test.YtdiflgnboedogaaGreatA34
namespace Go.Ai
noncomputable def prune (m : T AO) : T AO → T AO :=
  T.rec (motive := fun _ => T AO → T AO) (fun _ => .e)
    (fun w _ _ pl pr t => T.rec (motive := fun _ => T AO) .e (fun v tl tr _ _ => .n (match w with | some _ => v | none => none) (pl tl) (pr tr)) t) m
theorem get_nil {α : Type} (k : Nat) : T.get (.e : T α) k = none := rfl
theorem get_node {α : Type} (v : Option α) (l r : T α) (k : Nat) : T.get (.n v l r) k = Nat.rec (motive := fun _ => Option α) v (fun k' _ => Nat.rec (motive := fun _ => Option α) (T.get l (Nat.shiftRight k' 1)) (fun _ _ => T.get r (Nat.shiftRight k' 1)) (Nat.land k' 1)) k := rfl
theorem prune_get : ∀ (m t : T AO) (k : Nat), T.get (prune m t) k = T.get t k ∨ T.get (prune m t) k = none
  | .e, t, k => .inr rfl
  | .n w ml mr, .e, k => .inr rfl
  | .n w ml mr, .n v l r, k => by
    have hd : prune (.n w ml mr) (.n v l r) = .n (match w with | some _ => v | none => none) (prune ml l) (prune mr r) := rfl
    rw [hd, get_node, get_node]
    cases k with
    | zero =>
      cases w with
      | none => exact .inr rfl
      | some _ => exact .inl rfl
    | succ k =>
      cases hb : Nat.land k 1 with
      | zero => simp only [hb]; exact prune_get ml l _
      | succ j => simp only [hb]; exact prune_get mr r _
noncomputable def hpT (l : List (Nat × AO)) : T AO := List.rec (motive := fun _ => T AO) .e (fun q _ ih => T.set (some q.2) ih q.1) l
noncomputable def mAV (a b : AV) : AV := match a with | .u => .u | _ => b
noncomputable def m4 {α : Type} (f : α → α → α) (x y : N4 α) : N4 α := ⟨f x.a y.a, f x.b y.b, f x.c y.c, f x.d y.d⟩
noncomputable def m3R : R3 → R3 → R3 := m4 (m4 (m4 mAV))
noncomputable def mR (x y : Regs) : Regs := ⟨m3R x.lo y.lo, m4 (m4 m3R) x.hi y.hi⟩
theorem m4_get {α : Type} (f : α → α → α) (x y : N4 α) (k : D4) : (m4 f x y).get k = f (x.get k) (y.get k) := by cases k <;> rfl
theorem mAV_or (a b : AV) : mAV a b = b ∨ mAV a b = .u := by cases a <;> simp [mAV]
theorem m3R_get (a b : R3) (x y z : D4) : R3.get (m3R a b) x y z = mAV (R3.get a x y z) (R3.get b x y z) := by
  simp only [R3.get, m3R, m4_get]
theorem mR_less (x y : Regs) : LessR (mR x y) y := fun s => by
  cases s with
  | lo a b c =>
    show R3.get (m3R x.lo y.lo) a b c = R3.get y.lo a b c ∨ R3.get (m3R x.lo y.lo) a b c = .u
    rw [m3R_get]; exact mAV_or _ _
  | hi p q a b c =>
    show R3.get (N4.get (N4.get (m4 (m4 m3R) x.hi y.hi) p) q) a b c = R3.get (N4.get (N4.get y.hi p) q) a b c ∨ R3.get (N4.get (N4.get (m4 (m4 m3R) x.hi y.hi) p) q) a b c = .u
    rw [m4_get, m4_get, m3R_get]; exact mAV_or _ _
noncomputable def cutTo (m : T AO) (q : Regs) : St → Option St
  | .code c r h k => some (.code c (mR q r) ⟨prune m h.t, h.next⟩ k)
  | _ => none
/-- Short words for values. -/
def iv (n : Nat) : AV := .i .i64 (.ofNat n)
def wv (n : Nat) : AV := .i .u64 (.ofNat n)
def tt : AV := .b true
def ff : AV := .b false
section
variable (ft : T FEnt) (prim : Nat → Hp → List AV → Option (AV × Hp))
noncomputable def chunk (n : Nat) (m : T AO) (q : Regs) (s : St) : Option St := (run ft prim n s).bind (cutTo m q)
variable {ft prim}
theorem chunk_goes {n : Nat} {m : T AO} {q : Regs} {s s' : St} {v : AV} {h : Hp} {i : Nat} (hc : chunk ft prim n m q s = some s') (hg : Goes ft prim i s' v h) : ∃ i', Goes ft prim i' s v h := by
  unfold chunk at hc
  obtain ⟨s1, h1, h2⟩ := opt_bind_some hc
  cases s1 with
  | code c r h0 k =>
    simp only [cutTo, Option.some.injEq] at h2
    subst h2
    have hl : Less ⟨prune m h0.t, h0.next⟩ h0 := ⟨rfl, fun o => prune_get m h0.t o⟩
    exact goes_run (.gc hl (mR_less q r) hg) n s h1
  | _ => simp [cutTo] at h2
end
end Go.Ai
