/- An interpreter on abstract values: the values, the heap, the registers, the operations. No program in sight. -/
import Derived.RangeFuncIn
import Derived.OrdersIn
namespace Go.Ai

/-! ### Values -/
inductive AFn where
  | func (f : Nat)
  | yield (l : Nat)

/-- 'u': nothing is known of it. -/
inductive AV where
  | u
  | b (x : Bool)
  | i (k : IntKind) (n : Int)
  | s (l : List Nat)
  | p (o off : Nat)
  | np
  | sl (o off len es : Nat) (full : Bool)
  | nsl
  | m (o : Nat)
  | nm
  | f (fn : AFn) (first cap : List AV)
  | nf
  | nif
  | ifc (t : Nat) (v : AV)
  | agg (l : List AV)
  | tup (l : List AV)

/-- The cells of a value, where it is known how many it has. -/
def AV.cells : AV → Option (List AV)
  | .agg l => some l
  | .u => none
  | .tup _ => none
  | v => some [v]

/-! ### Lists, by plain recursors (for the kernel) -/
section
variable {α β : Type}
noncomputable def nth (l : List α) : Nat → Option α :=
  List.rec (motive := fun _ => Nat → Option α) (fun _ => none) (fun a _ ih n => Nat.rec (motive := fun _ => Option α) (some a) (fun m _ => ih m) n) l
noncomputable def tak (l : List α) : Nat → List α :=
  List.rec (motive := fun _ => Nat → List α) (fun _ => []) (fun a _ ih n => Nat.rec (motive := fun _ => List α) [] (fun m _ => a :: ih m) n) l
noncomputable def drp (l : List α) : Nat → List α :=
  List.rec (motive := fun _ => Nat → List α) (fun _ => []) (fun a t ih n => Nat.rec (motive := fun _ => List α) (a :: t) (fun m _ => ih m) n) l
noncomputable def app (l m : List α) : List α :=
  List.rec (motive := fun _ => List α) m (fun a _ ih => a :: ih) l
noncomputable def len (l : List α) : Nat :=
  List.rec (motive := fun _ => Nat) 0 (fun _ _ ih => Nat.succ ih) l
noncomputable def mapl (f : α → β) (l : List α) : List β :=
  List.rec (motive := fun _ => List β) [] (fun a _ ih => f a :: ih) l
/-- 'l' with 'vs' from place n on; none: they don't fit. -/
noncomputable def put (l : List α) (vs : List α) : Nat → Option (List α) :=
  List.rec (motive := fun _ => List α → Nat → Option (List α))
    (fun vs n => List.rec (motive := fun _ => Option (List α)) (Nat.rec (motive := fun _ => Option (List α)) (some []) (fun _ _ => none) n) (fun _ _ _ => none) vs)
    (fun a t ih vs n => Nat.rec (motive := fun _ => Option (List α))
      (List.rec (motive := fun _ => Option (List α)) (some (a :: t)) (fun v vt _ => (ih vt 0).map (v :: ·)) vs)
      (fun m _ => (ih vs m).map (a :: ·)) n) l vs

theorem nth_eq (l : List α) (n : Nat) : nth l n = l[n]? := by
  induction l generalizing n with
  | nil => rfl
  | cons a t ih => cases n with
    | zero => rfl
    | succ n => exact (ih n).trans (by simp)
theorem tak_eq (l : List α) (n : Nat) : tak l n = l.take n := by
  induction l generalizing n with
  | nil => simp [tak]
  | cons a t ih => cases n with
    | zero => rfl
    | succ n => exact congrArg (a :: ·) (ih n)
theorem drp_eq (l : List α) (n : Nat) : drp l n = l.drop n := by
  induction l generalizing n with
  | nil => simp [drp]
  | cons a t ih => cases n with
    | zero => rfl
    | succ n => exact ih n
theorem app_eq (l m : List α) : app l m = l ++ m := by
  induction l with
  | nil => rfl
  | cons a t ih => exact congrArg (a :: ·) ih
theorem len_eq (l : List α) : len l = l.length := by
  induction l with
  | nil => rfl
  | cons a t ih => exact congrArg (· + 1) ih
theorem mapl_eq (f : α → β) (l : List α) : mapl f l = l.map f := by
  induction l with
  | nil => rfl
  | cons a t ih => exact congrArg (f a :: ·) ih
theorem put_cons (a : α) (t vs : List α) (n : Nat) : put (a :: t) vs (n + 1) = (put t vs n).map (a :: ·) := rfl
theorem put_zero_cons (a : α) (t : List α) (v : α) (vt : List α) : put (a :: t) (v :: vt) 0 = (put t vt 0).map (v :: ·) := rfl
theorem put_zero_nil (a : α) (t : List α) : put (a :: t) [] 0 = some (a :: t) := rfl
theorem put_nil_cons (v : α) (vt : List α) (n : Nat) : put [] (v :: vt) n = none := rfl
theorem put_nil_zero : put ([] : List α) [] 0 = some [] := rfl
theorem put_nil_succ (n : Nat) : put ([] : List α) [] (n + 1) = none := rfl
theorem put_eq (l vs : List α) (n : Nat) : put l vs n = if n + vs.length ≤ l.length then some (l.take n ++ vs ++ l.drop (n + vs.length)) else none := by
  induction l generalizing vs n with
  | nil =>
    cases vs with
    | nil => cases n with
      | zero => rw [put_nil_zero]; simp
      | succ n => rw [put_nil_succ]; simp
    | cons v vt => rw [put_nil_cons]; simp
  | cons a t ih =>
    cases n with
    | zero =>
      cases vs with
      | nil => rw [put_zero_nil]; simp
      | cons v vt =>
        rw [put_zero_cons, ih]
        by_cases hc : vt.length ≤ t.length <;> simp [hc]
    | succ n =>
      rw [put_cons, ih]
      have e : n + 1 + vs.length = (n + vs.length) + 1 := by omega
      by_cases hc : n + vs.length ≤ t.length <;> simp [hc, e]
end

/-! ### Registers -/
inductive D4 where
  | d0 | d1 | d2 | d3
  deriving DecidableEq
structure N4 (α : Type) where
  a : α
  b : α
  c : α
  d : α
section
variable {α : Type}
noncomputable def N4.get (n : N4 α) (k : D4) : α :=
  N4.rec (motive := fun _ => α) (fun a b c d => D4.rec (motive := fun _ => α) a b c d k) n
noncomputable def N4.set (n : N4 α) (k : D4) (v : α) : N4 α :=
  N4.rec (motive := fun _ => N4 α) (fun a b c d => D4.rec (motive := fun _ => N4 α) ⟨v, b, c, d⟩ ⟨a, v, c, d⟩ ⟨a, b, v, d⟩ ⟨a, b, c, v⟩ k) n
theorem N4.get_set (n : N4 α) (k j : D4) (v : α) : (n.set k v).get j = if j = k then v else n.get j := by
  cases k <;> cases j <;> simp [N4.set, N4.get]
end
inductive Slot where
  | lo (x y z : D4)
  | hi (v w x y z : D4)
  deriving DecidableEq
abbrev R3 := N4 (N4 (N4 AV))
structure Regs where
  lo : R3
  hi : N4 (N4 R3)
noncomputable def R3.get (r : R3) (x y z : D4) : AV := N4.get (N4.get (N4.get r x) y) z
noncomputable def R3.set (r : R3) (x y z : D4) (v : AV) : R3 := N4.set r x (N4.set (N4.get r x) y (N4.set (N4.get (N4.get r x) y) z v))
noncomputable def Regs.getLo (x y z : D4) (r : Regs) : AV := Regs.rec (motive := fun _ => AV) (fun lo _ => R3.get lo x y z) r
noncomputable def Regs.getHi (v w x y z : D4) (r : Regs) : AV := Regs.rec (motive := fun _ => AV) (fun _ hi => R3.get (N4.get (N4.get hi v) w) x y z) r
noncomputable def Regs.get (r : Regs) (s : Slot) : AV :=
  Slot.rec (motive := fun _ => Regs → AV) Regs.getLo Regs.getHi s r
noncomputable def Regs.set (r : Regs) (s : Slot) (a : AV) : Regs :=
  match s with
  | .lo x y z => ⟨R3.set r.lo x y z a, r.hi⟩
  | .hi v w x y z => ⟨r.lo, N4.set r.hi v (N4.set (N4.get r.hi v) w (R3.set (N4.get (N4.get r.hi v) w) x y z a))⟩
theorem Regs.get_set (r : Regs) (s t : Slot) (v : AV) : Regs.get (Regs.set r s v) t = if t = s then v else Regs.get r t := by
  obtain ⟨lo, hi⟩ := r
  cases s with
  | lo x y z =>
    cases t with
    | lo x' y' z' =>
      simp only [Regs.get, Regs.getLo, Regs.set, R3.get, R3.set, N4.get_set, Slot.lo.injEq]
      by_cases h1 : x' = x <;> by_cases h2 : y' = y <;> by_cases h3 : z' = z <;> simp_all [N4.get_set]
    | hi => simp [Regs.get, Regs.getHi, Regs.set]
  | hi a b x y z =>
    cases t with
    | lo => simp [Regs.get, Regs.getLo, Regs.set]
    | hi a' b' x' y' z' =>
      simp only [Regs.get, Regs.getHi, Regs.set, R3.get, R3.set, N4.get_set, Slot.hi.injEq]
      by_cases h4 : a' = a <;> by_cases h5 : b' = b <;> by_cases h1 : x' = x <;> by_cases h2 : y' = y <;> by_cases h3 : z' = z <;> simp_all [N4.get_set]
/-- Likewise, handed on: for the kernel, that nothing is put off. -/
noncomputable def N4.updA {α β : Type} (n : N4 α) (f : α → (α → β) → β) (g : N4 α → β) : β := N4.rec (motive := fun _ => β) (fun a b c d => f a fun x => g ⟨x, b, c, d⟩) n
noncomputable def N4.updB {α β : Type} (n : N4 α) (f : α → (α → β) → β) (g : N4 α → β) : β := N4.rec (motive := fun _ => β) (fun a b c d => f b fun x => g ⟨a, x, c, d⟩) n
noncomputable def N4.updC {α β : Type} (n : N4 α) (f : α → (α → β) → β) (g : N4 α → β) : β := N4.rec (motive := fun _ => β) (fun a b c d => f c fun x => g ⟨a, b, x, d⟩) n
noncomputable def N4.updD {α β : Type} (n : N4 α) (f : α → (α → β) → β) (g : N4 α → β) : β := N4.rec (motive := fun _ => β) (fun a b c d => f d fun x => g ⟨a, b, c, x⟩) n
noncomputable def N4.upd {α β : Type} (k : D4) : N4 α → (α → (α → β) → β) → (N4 α → β) → β :=
  D4.rec (motive := fun _ => N4 α → (α → (α → β) → β) → (N4 α → β) → β) N4.updA N4.updB N4.updC N4.updD k
theorem N4.upd_eq {α β : Type} (n : N4 α) (k : D4) (f : α → (α → β) → β) (t : α → α) (hf : ∀ a c, f a c = c (t a)) (g : N4 α → β) :
    N4.upd k n f g = g (n.set k (t (n.get k))) := by
  cases n; cases k <;> simp [N4.upd, N4.updA, N4.updB, N4.updC, N4.updD, N4.set, N4.get, hf]
noncomputable def R3.setK {β : Type} (x y z : D4) (v : AV) (r : R3) (g : R3 → β) : β :=
  N4.upd x r (fun r1 g1 => N4.upd y r1 (fun r2 g2 => N4.upd z r2 (fun _ g3 => g3 v) g2) g1) g
theorem R3.setK_eq {β : Type} (x y z : D4) (v : AV) (r : R3) (g : R3 → β) : R3.setK x y z v r g = g (R3.set r x y z v) := by
  have h3 : ∀ (r2 : N4 AV) (g2 : N4 AV → β), N4.upd z r2 (fun _ g3 => g3 v) g2 = g2 (N4.set r2 z v) := fun r2 g2 => N4.upd_eq r2 z _ (fun _ => v) (fun _ _ => rfl) g2
  have h2 : ∀ (r1 : N4 (N4 AV)) (g1 : N4 (N4 AV) → β), N4.upd y r1 (fun r2 g2 => N4.upd z r2 (fun _ g3 => g3 v) g2) g1 = g1 (N4.set r1 y (N4.set (N4.get r1 y) z v)) :=
    fun r1 g1 => N4.upd_eq r1 y _ (fun r2 => N4.set r2 z v) h3 g1
  exact N4.upd_eq r x _ (fun r1 => N4.set r1 y (N4.set (N4.get r1 y) z v)) h2 g
noncomputable def Regs.setLo {β : Type} (x y z : D4) (r : Regs) (a : AV) (g : Regs → β) : β :=
  Regs.rec (motive := fun _ => β) (fun lo hi => R3.setK x y z a lo fun lo' => g ⟨lo', hi⟩) r
noncomputable def Regs.setHi {β : Type} (v w x y z : D4) (r : Regs) (a : AV) (g : Regs → β) : β :=
  Regs.rec (motive := fun _ => β) (fun lo hi => N4.upd v hi (fun h1 g1 => N4.upd w h1 (R3.setK x y z a) g1) fun hi' => g ⟨lo, hi'⟩) r
noncomputable def Regs.setK {β : Type} (s : Slot) : Regs → AV → (Regs → β) → β :=
  Slot.rec (motive := fun _ => Regs → AV → (Regs → β) → β) Regs.setLo Regs.setHi s
theorem Regs.setK_eq {β : Type} (r : Regs) (s : Slot) (v : AV) (g : Regs → β) : Regs.setK s r v g = g (Regs.set r s v) := by
  obtain ⟨lo, hi⟩ := r
  cases s with
  | lo x y z => exact R3.setK_eq x y z v lo _
  | hi a b x y z =>
    exact N4.upd_eq hi a _ (fun h1 => N4.set h1 b (R3.set (N4.get h1 b) x y z v)) (fun h1 g1 => N4.upd_eq h1 b _ (fun r => R3.set r x y z v) (fun r g => R3.setK_eq x y z v r g) g1) (fun hi' => g ⟨lo, hi'⟩)
def u1 : N4 AV := ⟨.u, .u, .u, .u⟩
def u2 : N4 (N4 AV) := ⟨u1, u1, u1, u1⟩
def u3 : R3 := ⟨u2, u2, u2, u2⟩
def u4 : N4 R3 := ⟨u3, u3, u3, u3⟩
def u5 : N4 (N4 R3) := ⟨u4, u4, u4, u4⟩
def u6 : Regs := ⟨u3, u5⟩
theorem get_u6 (s : Slot) : Regs.get u6 s = .u := by
  cases s with
  | lo x y z => cases x <;> cases y <;> cases z <;> rfl
  | hi a b x y z => cases a <;> cases b <;> cases x <;> cases y <;> cases z <;> rfl
def dig (n : Nat) : D4 := match n % 4 with | 0 => .d0 | 1 => .d1 | 2 => .d2 | _ => .d3
/-- The slot of a temporary (below 1088). -/
def slot (t : Nat) : Slot := if Nat.blt t 64 then .lo (dig (t / 16)) (dig (t / 4)) (dig t) else .hi (dig ((t - 64) / 256)) (dig ((t - 64) / 64)) (dig ((t - 64) / 16)) (dig ((t - 64) / 4)) (dig (t - 64))
theorem dig_inj {a b : Nat} (h : dig a = dig b) : a % 4 = b % 4 := by
  unfold dig at h
  have h1 : a % 4 = 0 ∨ a % 4 = 1 ∨ a % 4 = 2 ∨ a % 4 = 3 := by omega
  have h2 : b % 4 = 0 ∨ b % 4 = 1 ∨ b % 4 = 2 ∨ b % 4 = 3 := by omega
  rcases h1 with e1 | e1 | e1 | e1 <;> rcases h2 with e2 | e2 | e2 | e2 <;> rw [e1, e2] at h <;> simp at h <;> omega
theorem slot_lo {a : Nat} (h : a < 64) : slot a = .lo (dig (a / 16)) (dig (a / 4)) (dig a) := by
  unfold slot; rw [if_pos (by rw [Nat.blt_eq]; exact h)]
theorem slot_hi {a : Nat} (h : ¬ a < 64) : slot a = .hi (dig ((a - 64) / 256)) (dig ((a - 64) / 64)) (dig ((a - 64) / 16)) (dig ((a - 64) / 4)) (dig (a - 64)) := by
  unfold slot; rw [if_neg (by rw [Nat.blt_eq]; exact h)]
theorem slot_inj {a b : Nat} (ha : a < 1024) (hb : b < 1024) (h : slot a = slot b) : a = b := by
  by_cases h1 : a < 64
  · by_cases h2 : b < 64
    · rw [slot_lo h1, slot_lo h2, Slot.lo.injEq] at h
      obtain ⟨h3, h4, h5⟩ := h
      have := dig_inj h3; have := dig_inj h4; have := dig_inj h5
      omega
    · rw [slot_lo h1, slot_hi h2] at h; cases h
  · by_cases h2 : b < 64
    · rw [slot_hi h1, slot_lo h2] at h; cases h
    · rw [slot_hi h1, slot_hi h2, Slot.hi.injEq] at h
      obtain ⟨h3, h4, h5, h6, h7⟩ := h
      have := dig_inj h3; have := dig_inj h4; have := dig_inj h5; have := dig_inj h6; have := dig_inj h7
      omega

/-! ### A map from numbers -/
inductive T (α : Type) where
  | e : T α
  | n : Option α → T α → T α → T α
theorem land0 (k : Nat) : Nat.land (2 * k) 1 = 0 := by
  have : (2 * k) &&& 1 = 0 := by rw [Nat.and_one_is_mod]; omega
  exact this
theorem land1 (k : Nat) : Nat.land (2 * k + 1) 1 = 1 := by
  have : (2 * k + 1) &&& 1 = 1 := by rw [Nat.and_one_is_mod]; omega
  exact this
theorem shr0 (k : Nat) : Nat.shiftRight (2 * k) 1 = k := by
  have : (2 * k) >>> 1 = k := by rw [Nat.shiftRight_eq_div_pow]; omega
  exact this
theorem shr1 (k : Nat) : Nat.shiftRight (2 * k + 1) 1 = k := by
  have : (2 * k + 1) >>> 1 = k := by rw [Nat.shiftRight_eq_div_pow]; omega
  exact this
namespace T
variable {α : Type}
noncomputable def get (t : T α) : Nat → Option α :=
  T.rec (motive := fun _ => Nat → Option α) (fun _ => none)
    (fun v _ _ gl gr k => Nat.rec (motive := fun _ => Option α) v (fun k' _ => Nat.rec (motive := fun _ => Option α) (gl (Nat.shiftRight k' 1)) (fun _ _ => gr (Nat.shiftRight k' 1)) (Nat.land k' 1)) k) t
noncomputable def single (v : Option α) (f : Nat) : Nat → T α :=
  Nat.rec (motive := fun _ => Nat → T α) (fun _ => .e)
    (fun _ ih k => Nat.rec (motive := fun _ => T α) (.n v .e .e) (fun k' _ => Nat.rec (motive := fun _ => T α) (.n none (ih (Nat.shiftRight k' 1)) .e) (fun _ _ => .n none .e (ih (Nat.shiftRight k' 1))) (Nat.land k' 1)) k) f
noncomputable def set (v : Option α) (t : T α) : Nat → T α :=
  T.rec (motive := fun _ => Nat → T α) (fun k => single v (Nat.succ k) k)
    (fun w l r sl sr k => Nat.rec (motive := fun _ => T α) (.n v l r) (fun k' _ => Nat.rec (motive := fun _ => T α) (.n w (sl (Nat.shiftRight k' 1)) r) (fun _ _ => .n w l (sr (Nat.shiftRight k' 1))) (Nat.land k' 1)) k) t
/-- Likewise, handed on. -/
noncomputable def setK {β : Type} (v : Option α) (t : T α) : Nat → (T α → β) → β :=
  T.rec (motive := fun _ => Nat → (T α → β) → β) (fun k g => g (single v (Nat.succ k) k))
    (fun w l r sl sr k g => Nat.rec (motive := fun _ => β) (g (.n v l r)) (fun k' _ => Nat.rec (motive := fun _ => β) (sl (Nat.shiftRight k' 1) fun x => g (.n w x r)) (fun _ _ => sr (Nat.shiftRight k' 1) fun x => g (.n w l x)) (Nat.land k' 1)) k) t
theorem setK_eq {β : Type} (v : Option α) (t : T α) : ∀ (k : Nat) (g : T α → β), setK v t k g = g (set v t k) := by
  induction t with
  | e => intro k g; rfl
  | n w l r ihl ihr =>
    intro k g
    cases k with
    | zero => rfl
    | succ k =>
      show Nat.rec (motive := fun _ => β) (setK v l (Nat.shiftRight k 1) fun x => g (.n w x r)) (fun _ _ => setK v r (Nat.shiftRight k 1) fun x => g (.n w l x)) (Nat.land k 1)
        = g (Nat.rec (motive := fun _ => T α) (.n w (set v l (Nat.shiftRight k 1)) r) (fun _ _ => .n w l (set v r (Nat.shiftRight k 1))) (Nat.land k 1))
      cases Nat.land k 1 with
      | zero => exact ihl _ _
      | succ m => exact ihr _ _
theorem get_e (k : Nat) : get (.e : T α) k = none := rfl
theorem get_z (v : Option α) (l r : T α) : get (.n v l r) 0 = v := rfl
theorem get_l (v : Option α) (l r : T α) (k : Nat) : get (.n v l r) (2 * k + 1) = get l k := by
  have h1 := land0 k
  have h2 := shr0 k
  show Nat.rec (motive := fun _ => Option α) (get l (Nat.shiftRight (2 * k) 1)) _ (Nat.land (2 * k) 1) = get l k
  rw [h1, h2]; rfl
theorem get_r (v : Option α) (l r : T α) (k : Nat) : get (.n v l r) (2 * k + 2) = get r k := by
  have h1 := land1 k
  have h2 := shr1 k
  show Nat.rec (motive := fun _ => Option α) (get l (Nat.shiftRight (2 * k + 1) 1)) (fun _ _ => get r (Nat.shiftRight (2 * k + 1) 1)) (Nat.land (2 * k + 1) 1) = get r k
  rw [h1, h2]; rfl
theorem set_z (v w : Option α) (l r : T α) : set v (.n w l r) 0 = .n v l r := rfl
theorem set_l (v w : Option α) (l r : T α) (k : Nat) : set v (.n w l r) (2 * k + 1) = .n w (set v l k) r := by
  have h1 := land0 k
  have h2 := shr0 k
  show Nat.rec (motive := fun _ => T α) (.n w (set v l (Nat.shiftRight (2 * k) 1)) r) _ (Nat.land (2 * k) 1) = _
  rw [h1, h2]; rfl
theorem set_r (v w : Option α) (l r : T α) (k : Nat) : set v (.n w l r) (2 * k + 2) = .n w l (set v r k) := by
  have h1 := land1 k
  have h2 := shr1 k
  show Nat.rec (motive := fun _ => T α) (.n w (set v l (Nat.shiftRight (2 * k + 1) 1)) r) (fun _ _ => .n w l (set v r (Nat.shiftRight (2 * k + 1) 1))) (Nat.land (2 * k + 1) 1) = _
  rw [h1, h2]; rfl
theorem single_z (v : Option α) (f : Nat) : single v (f + 1) 0 = .n v .e .e := rfl
theorem single_l (v : Option α) (f k : Nat) : single v (f + 1) (2 * k + 1) = .n none (single v f k) .e := by
  have h1 := land0 k
  have h2 := shr0 k
  show Nat.rec (motive := fun _ => T α) (.n none (single v f (Nat.shiftRight (2 * k) 1)) .e) _ (Nat.land (2 * k) 1) = _
  rw [h1, h2]; rfl
theorem single_r (v : Option α) (f k : Nat) : single v (f + 1) (2 * k + 2) = .n none .e (single v f k) := by
  have h1 := land1 k
  have h2 := shr1 k
  show Nat.rec (motive := fun _ => T α) (.n none (single v f (Nat.shiftRight (2 * k + 1) 1)) .e) (fun _ _ => .n none .e (single v f (Nat.shiftRight (2 * k + 1) 1))) (Nat.land (2 * k + 1) 1) = _
  rw [h1, h2]; rfl
theorem three (k : Nat) : k = 0 ∨ (∃ j, k = 2 * j + 1) ∨ (∃ j, k = 2 * j + 2) := by
  rcases Nat.eq_zero_or_pos k with h | h
  · exact .inl h
  · by_cases hp : k % 2 = 1
    · exact .inr (.inl ⟨k / 2, by omega⟩)
    · exact .inr (.inr ⟨k / 2 - 1, by omega⟩)
theorem get_single (v : Option α) : ∀ (f k j : Nat), k < f → get (single v f k) j = if j = k then v else none
  | 0, k, j, h => by omega
  | f + 1, k, j, h => by
    rcases three k with rfl | ⟨a, rfl⟩ | ⟨a, rfl⟩
    · rw [single_z]
      rcases three j with rfl | ⟨b, rfl⟩ | ⟨b, rfl⟩
      · simp [get_z]
      · rw [get_l, get_e]; simp
      · rw [get_r, get_e]; simp
    · rw [single_l]
      rcases three j with rfl | ⟨b, rfl⟩ | ⟨b, rfl⟩
      · simp [get_z]
      · rw [get_l, get_single v f a b (by omega)]
        by_cases e : b = a
        · simp [e]
        · rw [if_neg e, if_neg (by omega)]
      · rw [get_r, get_e, if_neg (by omega)]
    · rw [single_r]
      rcases three j with rfl | ⟨b, rfl⟩ | ⟨b, rfl⟩
      · simp [get_z]
      · rw [get_l, get_e, if_neg (by omega)]
      · rw [get_r, get_single v f a b (by omega)]
        by_cases e : b = a
        · simp [e]
        · rw [if_neg e, if_neg (by omega)]
theorem get_set (v : Option α) (t : T α) : ∀ (k j : Nat), get (set v t k) j = if j = k then v else get t j := by
  induction t with
  | e => intro k j; exact (get_single v (k + 1) k j (by omega)).trans (by simp [get_e])
  | n w l r ihl ihr =>
    intro k j
    rcases three k with rfl | ⟨a, rfl⟩ | ⟨a, rfl⟩
    · rw [set_z]
      rcases three j with rfl | ⟨b, rfl⟩ | ⟨b, rfl⟩
      · simp [get_z]
      · rw [get_l, get_l, if_neg (by omega)]
      · rw [get_r, get_r, if_neg (by omega)]
    · rw [set_l]
      rcases three j with rfl | ⟨b, rfl⟩ | ⟨b, rfl⟩
      · rw [get_z, get_z, if_neg (by omega)]
      · rw [get_l, get_l, ihl]
        by_cases e : b = a
        · simp [e]
        · rw [if_neg e, if_neg (by omega)]
      · rw [get_r, get_r, if_neg (by omega)]
    · rw [set_r]
      rcases three j with rfl | ⟨b, rfl⟩ | ⟨b, rfl⟩
      · rw [get_z, get_z, if_neg (by omega)]
      · rw [get_l, get_l, if_neg (by omega)]
      · rw [get_r, get_r, ihr]
        by_cases e : b = a
        · simp [e]
        · rw [if_neg e, if_neg (by omega)]
end T
end Go.Ai
