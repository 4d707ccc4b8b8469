/- An interpreter on abstract values: what its values and its heap stand for in the model's memory. -/
import Derived.Test.YtdiflgnboedogaaGreatA4b
import Derived.WalkKit
namespace Go.Ai

structure Loc where
  blk : Nat
  off : Nat
  fin : Nat
abbrev Rho := Nat → Option Loc

mutual
def VR (ρ : Rho) : AV → Value → Prop
  | .u, _ => True
  | .b x, v => v = .bool x
  | .i k n, v => v = .int k n
  | .s l, v => ∃ bs : ByteArray, v = .string bs ∧ l = bs.data.toList.map UInt8.toNat
  | .p o off, v => ∃ L, ρ o = some L ∧ v = .pointer (some ⟨L.blk, L.off + off, none⟩)
  | .np, v => v = .pointer none
  | .sl o off n es full, v => ∃ L a cap, ρ o = some L ∧ v = .slice (some a) n cap ∧ n ≤ cap ∧ (full = true → cap = n) ∧
      ((a = ⟨L.blk, L.off + off, none⟩ ∧ L.off + off + cap * es ≤ L.fin) ∨ cap = 0) ∧ cap ≤ 9223372036854775807
  | .nsl, v => v = .slice none 0 0
  | .m o, v => ∃ L, ρ o = some L ∧ v = .map (some L.blk)
  | .nm, v => v = .map none
  | .f fn first cap, v => ∃ g xs ys, v = .func g xs ys ∧ (match fn with | .func f => g = .func f | .yield o => ∃ L, ρ o = some L ∧ g = .yield L.blk) ∧
      VRs ρ first xs.toList ∧ VRs ρ cap ys.toList
  | .nf, v => v = .nilFunc
  | .nif, v => v = .nilIface
  | .ifc t x, v => ∃ y, v = .iface t y ∧ VR ρ x y
  | .agg l, v => ∃ xs, v = .agg xs ∧ VRs ρ l xs.toList ∧ ∀ x ∈ xs.toList, x.oneCell' = true
  | .tup l, v => ∃ xs, v = .tuple xs ∧ VRs ρ l xs.toList
def VRs (ρ : Rho) : List AV → List Value → Prop
  | [], vs => vs = []
  | a :: as, vs => ∃ x xs, vs = x :: xs ∧ VR ρ a x ∧ VRs ρ as xs
end

def Le (ρ ρ' : Rho) : Prop := ∀ o L, ρ o = some L → ρ' o = some L

mutual
theorem VR.mono {ρ ρ' : Rho} (h : Le ρ ρ') : ∀ (a : AV) (v : Value), VR ρ a v → VR ρ' a v
  | .u, _, _ => by simp [VR]
  | .b _, _, hv => by simpa [VR] using hv
  | .i _ _, _, hv => by simpa [VR] using hv
  | .s _, _, hv => by simpa [VR] using hv
  | .p _ _, _, hv => by
    simp only [VR] at hv ⊢
    obtain ⟨L, h1, h2⟩ := hv
    exact ⟨L, h _ _ h1, h2⟩
  | .np, _, hv => by simpa [VR] using hv
  | .sl _ _ _ _ _, _, hv => by
    simp only [VR] at hv ⊢
    obtain ⟨L, a, cap, h1, h2⟩ := hv
    exact ⟨L, a, cap, h _ _ h1, h2⟩
  | .nsl, _, hv => by simpa [VR] using hv
  | .m _, _, hv => by
    simp only [VR] at hv ⊢
    obtain ⟨L, h1, h2⟩ := hv
    exact ⟨L, h _ _ h1, h2⟩
  | .nm, _, hv => by simpa [VR] using hv
  | .f fn first cap, _, hv => by
    simp only [VR] at hv ⊢
    obtain ⟨g, xs, ys, h1, h2, h3, h4⟩ := hv
    refine ⟨g, xs, ys, h1, ?_, VRs.mono h first _ h3, VRs.mono h cap _ h4⟩
    cases fn with
    | func f => exact h2
    | yield o =>
      obtain ⟨L, h5, h6⟩ := h2
      exact ⟨L, h _ _ h5, h6⟩
  | .nf, _, hv => by simpa [VR] using hv
  | .nif, _, hv => by simpa [VR] using hv
  | .ifc t x, _, hv => by
    simp only [VR] at hv ⊢
    obtain ⟨y, h1, h2⟩ := hv
    exact ⟨y, h1, VR.mono h x y h2⟩
  | .agg l, _, hv => by
    simp only [VR] at hv ⊢
    obtain ⟨xs, h1, h2, h3⟩ := hv
    exact ⟨xs, h1, VRs.mono h l _ h2, h3⟩
  | .tup l, _, hv => by
    simp only [VR] at hv ⊢
    obtain ⟨xs, h1, h2⟩ := hv
    exact ⟨xs, h1, VRs.mono h l _ h2⟩
theorem VRs.mono {ρ ρ' : Rho} (h : Le ρ ρ') : ∀ (l : List AV) (vs : List Value), VRs ρ l vs → VRs ρ' l vs
  | [], _, hv => by simpa [VRs] using hv
  | a :: as, _, hv => by
    simp only [VRs] at hv ⊢
    obtain ⟨x, xs, h1, h2, h3⟩ := hv
    exact ⟨x, xs, h1, VR.mono h a x h2, VRs.mono h as xs h3⟩
end
theorem Le.refl (ρ : Rho) : Le ρ ρ := fun _ _ h => h
theorem Le.trans {ρ ρ' ρ'' : Rho} (h : Le ρ ρ') (h' : Le ρ' ρ'') : Le ρ ρ'' := fun o L e => h' o L (h o L e)

theorem VRs.length {ρ : Rho} : ∀ {l : List AV} {vs : List Value}, VRs ρ l vs → vs.length = l.length
  | [], _, h => by simp only [VRs] at h; subst h; rfl
  | _ :: as, _, h => by
    simp only [VRs] at h
    obtain ⟨x, xs, rfl, _, h3⟩ := h
    simp [VRs.length h3]
theorem VRs.get {ρ : Rho} : ∀ {l : List AV} {vs : List Value}, VRs ρ l vs → ∀ {j : Nat} {a : AV}, l[j]? = some a → ∃ x, vs[j]? = some x ∧ VR ρ a x
  | [], _, _, _, _, e => by simp at e
  | b :: as, _, h, j, a, e => by
    simp only [VRs] at h
    obtain ⟨x, xs, rfl, h2, h3⟩ := h
    cases j with
    | zero => simp at e; subst e; exact ⟨x, rfl, h2⟩
    | succ j => simp at e; obtain ⟨y, hy, hv⟩ := VRs.get h3 e; exact ⟨y, by simpa using hy, hv⟩
theorem VRs.of_get {ρ : Rho} : ∀ {l : List AV} {vs : List Value}, vs.length = l.length → (∀ (j : Nat) (a : AV), l[j]? = some a → ∃ x, vs[j]? = some x ∧ VR ρ a x) → VRs ρ l vs
  | [], vs, hl, _ => by simp only [VRs]; exact List.eq_nil_of_length_eq_zero hl
  | a :: as, vs, hl, h => by
    cases vs with
    | nil => simp at hl
    | cons x xs =>
      simp only [VRs]
      obtain ⟨y, hy, hv⟩ := h 0 a rfl
      simp at hy; subst hy
      exact ⟨x, xs, rfl, hv, VRs.of_get (by simpa using hl) (fun j b hb => by simpa using h (j + 1) b (by simpa using hb))⟩
theorem VRs.app {ρ : Rho} : ∀ {l m : List AV} {vs ws : List Value}, VRs ρ l vs → VRs ρ m ws → VRs ρ (l ++ m) (vs ++ ws)
  | [], _, _, _, h, h' => by simp only [VRs] at h; subst h; simpa using h'
  | a :: as, _, _, _, h, h' => by
    simp only [VRs] at h
    obtain ⟨x, xs, rfl, h2, h3⟩ := h
    simp only [List.cons_append, VRs]
    exact ⟨x, _, rfl, h2, VRs.app h3 h'⟩
theorem VRs.take {ρ : Rho} {l : List AV} {vs : List Value} (h : VRs ρ l vs) (n : Nat) : VRs ρ (l.take n) (vs.take n) := by
  refine VRs.of_get (by simp [h.length]) fun j a ha => ?_
  rw [List.getElem?_take] at ha
  split at ha
  · rename_i hj
    obtain ⟨x, hx, hv⟩ := h.get ha
    exact ⟨x, by rw [List.getElem?_take, if_pos hj]; exact hx, hv⟩
  · cases ha
theorem VRs.drop {ρ : Rho} {l : List AV} {vs : List Value} (h : VRs ρ l vs) (n : Nat) : VRs ρ (l.drop n) (vs.drop n) := by
  refine VRs.of_get (by simp [h.length]) fun j a ha => ?_
  rw [List.getElem?_drop] at ha
  obtain ⟨x, hx, hv⟩ := h.get ha
  exact ⟨x, by rw [List.getElem?_drop]; exact hx, hv⟩
theorem vrs_nil {ρ : Rho} {vs : List Value} (h : VRs ρ [] vs) : vs = [] := by simpa [VRs] using h
theorem vrs_one {ρ : Rho} {a : AV} {vs : List Value} (h : VRs ρ [a] vs) : ∃ x, vs = [x] ∧ VR ρ a x := by
  simp only [VRs] at h
  obtain ⟨x, xs, rfl, h2, rfl⟩ := h
  exact ⟨x, rfl, h2⟩
theorem vrs_two {ρ : Rho} {a b : AV} {vs : List Value} (h : VRs ρ [a, b] vs) : ∃ x y, vs = [x, y] ∧ VR ρ a x ∧ VR ρ b y := by
  simp only [VRs] at h
  obtain ⟨x, xs, rfl, h2, y, ys, rfl, h3, rfl⟩ := h
  exact ⟨x, y, rfl, h2, h3⟩
theorem vrs_three {ρ : Rho} {a b c : AV} {vs : List Value} (h : VRs ρ [a, b, c] vs) : ∃ x y z, vs = [x, y, z] ∧ VR ρ a x ∧ VR ρ b y ∧ VR ρ c z := by
  simp only [VRs] at h
  obtain ⟨x, xs, rfl, h2, y, ys, rfl, h3, z, zs, rfl, h4, rfl⟩ := h
  exact ⟨x, y, z, rfl, h2, h3, h4⟩
theorem vrs_cons {ρ : Rho} {a : AV} {as : List AV} {vs : List Value} (h : VRs ρ (a :: as) vs) : ∃ x xs, vs = x :: xs ∧ VR ρ a x ∧ VRs ρ as xs := by
  simpa only [VRs] using h

/-- The cells of a value, and their like. -/
theorem VR.cells {ρ : Rho} {a : AV} {v : Value} {c : List AV} (h : VR ρ a v) (hc : a.cells = some c) :
    VRs ρ c v.cells.toList ∧ ∀ x ∈ v.cells.toList, x.oneCell' = true := by
  cases a <;> simp only [AV.cells, Option.some.injEq, reduceCtorEq] at hc <;> subst hc
  case agg l =>
    simp only [VR] at h
    obtain ⟨xs, rfl, h2, h3⟩ := h
    exact ⟨h2, h3⟩
  all_goals
    simp only [VRs]
    have hh := h
    simp only [VR] at h
  case b => subst h; exact ⟨⟨_, _, rfl, by simp [VR], rfl⟩, by simp [Value.cells, Value.oneCell']⟩
  case i => subst h; exact ⟨⟨_, _, rfl, by simp [VR], rfl⟩, by simp [Value.cells, Value.oneCell']⟩
  case s => obtain ⟨bs, rfl, _⟩ := h; exact ⟨⟨_, _, rfl, hh, rfl⟩, by simp [Value.cells, Value.oneCell']⟩
  case p => obtain ⟨L, _, rfl⟩ := h; exact ⟨⟨_, _, rfl, hh, rfl⟩, by simp [Value.cells, Value.oneCell']⟩
  case np => subst h; exact ⟨⟨_, _, rfl, hh, rfl⟩, by simp [Value.cells, Value.oneCell']⟩
  case sl => obtain ⟨L, a, cap, _, rfl, _⟩ := h; exact ⟨⟨_, _, rfl, hh, rfl⟩, by simp [Value.cells, Value.oneCell']⟩
  case nsl => subst h; exact ⟨⟨_, _, rfl, hh, rfl⟩, by simp [Value.cells, Value.oneCell']⟩
  case m => obtain ⟨L, _, rfl⟩ := h; exact ⟨⟨_, _, rfl, hh, rfl⟩, by simp [Value.cells, Value.oneCell']⟩
  case nm => subst h; exact ⟨⟨_, _, rfl, hh, rfl⟩, by simp [Value.cells, Value.oneCell']⟩
  case f => obtain ⟨g, xs, ys, rfl, _⟩ := h; exact ⟨⟨_, _, rfl, hh, rfl⟩, by simp [Value.cells, Value.oneCell']⟩
  case nf => subst h; exact ⟨⟨_, _, rfl, hh, rfl⟩, by simp [Value.cells, Value.oneCell']⟩
  case nif => subst h; exact ⟨⟨_, _, rfl, hh, rfl⟩, by simp [Value.cells, Value.oneCell']⟩
  case ifc => obtain ⟨y, rfl, _⟩ := h; exact ⟨⟨_, _, rfl, hh, rfl⟩, by simp [Value.cells, Value.oneCell']⟩
end Go.Ai
