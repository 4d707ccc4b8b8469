/- An interpreter on abstract values: its operations that look at no memory, held against the model's, one by one. -/
import Derived.Test.YtdiflgnboedogaaGreatA7
namespace Go.Ai
section
variable {P : Program} {ρ : Rho}

theorem run_v {s : Sem Value} {P : Program} {w w' : World} {v : Value} (h : s.run P w = .ok v w') : ((do pure (Next.value (← s))) : Sem Next).run P w = .ok (.value v) w' := by
  simp [h]

/-! ### What a value must be -/
theorem vr_i {k : IntKind} {n : Int} {v : Value} (h : VR ρ (.i k n) v) : v = .int k n := by simpa [VR] using h
theorem vr_b {x : Bool} {v : Value} (h : VR ρ (.b x) v) : v = .bool x := by simpa [VR] using h
theorem vr_s {l : List Nat} {v : Value} (h : VR ρ (.s l) v) : ∃ bs : ByteArray, v = .string bs ∧ l = bs.data.toList.map UInt8.toNat := by simpa [VR] using h
theorem mk_i (k : IntKind) (n : Int) : VR ρ (.i k n) (.int k n) := by simp [VR]
theorem mk_b (x : Bool) : VR ρ (.b x) (.bool x) := by simp [VR]
theorem mk_s (bs : ByteArray) {l : List Nat} (h : l = bs.data.toList.map UInt8.toNat) : VR ρ (.s l) (.string bs) := by
  simp only [VR]; exact ⟨bs, rfl, h⟩

/-! ### Whole numbers -/
theorem bits_sound {op : BinOp} {k : IntKind} {x y : Int} {v : AV} (h : bitsA op k x y = some v) (w : World) : ∃ v', (Op.intBits op k x y).run P w = .ok v' w ∧ VR ρ v v' := by
  unfold bitsA at h
  cases op <;> simp only [Option.some.injEq, reduceCtorEq] at h <;> subst h <;> exact ⟨_, rfl, by rw [wrapA_eq]; exact mk_i _ _⟩
theorem int_sound {op : BinOp} {k : IntKind} {a b : Int} {v : AV} (t : TypeId) (h : intBin op k a b = some v) (w : World) : ∃ v', (binOp op t (.int k a) (.int k b)).run P w = .ok v' w ∧ VR ρ v v' := by
  cases op <;> simp only [intBin, Option.some.injEq, reduceCtorEq] at h
  case add => subst h; refine ⟨.int k (k.wrap (a + b)), ?_, by rw [wrapA_eq]; exact mk_i _ _⟩; simp [binOp, Op.intArith]
  case sub => subst h; refine ⟨.int k (k.wrap (a - b)), ?_, by rw [wrapA_eq]; exact mk_i _ _⟩; simp [binOp, Op.intArith]
  case mul => subst h; refine ⟨.int k (k.wrap (a * b)), ?_, by rw [wrapA_eq]; exact mk_i _ _⟩; simp [binOp, Op.intArith]
  case quo =>
    by_cases hb : eqI b 0 = true
    · rw [if_pos hb] at h; cases h
    · rw [if_neg hb, Option.some.injEq] at h; subst h
      rw [eqI_eq, beq_iff_eq] at hb
      refine ⟨.int k (k.wrap (a.tdiv b)), ?_, by rw [wrapA_eq]; exact mk_i _ _⟩; simp [binOp, Op.intDiv, hb]
  case rem =>
    by_cases hb : eqI b 0 = true
    · rw [if_pos hb] at h; cases h
    · rw [if_neg hb, Option.some.injEq] at h; subst h
      rw [eqI_eq, beq_iff_eq] at hb
      refine ⟨.int k (a.tmod b), ?_, mk_i _ _⟩; simp [binOp, Op.intDiv, hb]
  case and => obtain ⟨v', h1, h2⟩ := bits_sound (P := P) (ρ := ρ) h w; exact ⟨v', by simpa [binOp] using h1, h2⟩
  case or => obtain ⟨v', h1, h2⟩ := bits_sound (P := P) (ρ := ρ) h w; exact ⟨v', by simpa [binOp] using h1, h2⟩
  case xor => obtain ⟨v', h1, h2⟩ := bits_sound (P := P) (ρ := ρ) h w; exact ⟨v', by simpa [binOp] using h1, h2⟩
  case andNot => obtain ⟨v', h1, h2⟩ := bits_sound (P := P) (ρ := ρ) h w; exact ⟨v', by simpa [binOp] using h1, h2⟩
  case eql => subst h; refine ⟨.bool (a == b), ?_, by rw [eqI_eq]; exact mk_b _⟩; simp [binOp, Op.intCmp]
  case neq => subst h; refine ⟨.bool (a != b), ?_, by rw [eqI_eq]; exact mk_b _⟩; simp [binOp, Op.intCmp]
  case lss => subst h; refine ⟨.bool (decide (a < b)), ?_, by rw [ltI_eq]; exact mk_b _⟩; simp [binOp, Op.intCmp]
  case leq =>
    subst h
    refine ⟨.bool (decide (a ≤ b)), by simp [binOp, Op.intCmp], ?_⟩
    rw [ltI_eq, show (!decide (b < a)) = decide (a ≤ b) from by rw [Bool.eq_iff_iff]; simp]; exact mk_b _
  case gtr => subst h; refine ⟨.bool (decide (a > b)), ?_, by rw [ltI_eq]; exact mk_b _⟩; simp [binOp, Op.intCmp]
  case geq =>
    subst h
    refine ⟨.bool (decide (a ≥ b)), by simp [binOp, Op.intCmp], ?_⟩
    rw [ltI_eq, show (!decide (a < b)) = decide (a ≥ b) from by rw [Bool.eq_iff_iff]; simp]; exact mk_b _

/-! ### Texts -/
theorem eq_bytes (x y : ByteArray) : (x.toList == y.toList) = decide (x.data.toList.map UInt8.toNat = y.data.toList.map UInt8.toNat) := by
  rw [Go.ByteArray.toList_eq, Go.ByteArray.toList_eq, Bool.eq_iff_iff]
  simp only [beq_iff_eq, decide_eq_true_eq]
  constructor
  · intro h; rw [h]
  · intro h
    exact (List.map_inj_right (fun a b e => UInt8.toNat_inj.1 e)).1 h
theorem str_sound {op : BinOp} {x y : ByteArray} {v : AV} (t : TypeId) (h : strBin op (x.data.toList.map UInt8.toNat) (y.data.toList.map UInt8.toNat) = some v) (w : World) :
    ∃ v', (binOp op t (.string x) (.string y)).run P w = .ok v' w ∧ VR ρ v v' := by
  cases op <;> simp only [strBin, Option.some.injEq, reduceCtorEq] at h
  case add =>
    by_cases hb : Nat.ble (len (x.data.toList.map UInt8.toNat) + len (y.data.toList.map UInt8.toNat)) 1099511627776 = true
    · rw [if_pos hb, Option.some.injEq] at h; subst h
      have hb' := Nat.le_of_ble_eq_true hb
      simp only [len_eq, List.length_map, Array.length_toList] at hb'
      have hx : x.data.size = x.size := rfl
      have hy : y.data.size = y.size := rfl
      refine ⟨.string (x ++ y), ?_, ?_⟩
      · have : ¬ (((x.size + y.size : Nat) : Int) > IntKind.i64.max) := by
          have : IntKind.i64.max = 9223372036854775807 := by decide
          rw [this]; omega
        simp only [binOp, Op.stringOp]
        rw [if_neg this]; rfl
      · rw [app_eq]
        refine mk_s _ ?_
        simp
    · rw [if_neg hb] at h; cases h
  case eql => subst h; refine ⟨.bool (x.toList == y.toList), by simp [binOp, Op.stringOp], ?_⟩; rw [eqL_eq, eq_bytes]; exact mk_b _
  case neq => subst h; refine ⟨.bool (!(x.toList == y.toList)), by simp [binOp, Op.stringOp], ?_⟩; rw [eqL_eq, eq_bytes]; exact mk_b _

/-! ### Both sides of an operator -/
theorem eqGuard_int (op : BinOp) (t : TypeId) (x y : Operand) (k k' : IntKind) (a b : Int) (w : World) : (eqGuard op t x y (.int k a) (.int k' b)).run P w = .ok () w := by
  cases op <;> simp [eqGuard]
theorem eqGuard_str (op : BinOp) (t : TypeId) (x y : Operand) (a b : ByteArray) (w : World) : (eqGuard op t x y (.string a) (.string b)).run P w = .ok () w := by
  cases op <;> simp [eqGuard]
theorem eqGuard_bool (op : BinOp) (t : TypeId) (x y : Operand) (a b : Bool) (w : World) : (eqGuard op t x y (.bool a) (.bool b)).run P w = .ok () w := by
  cases op <;> simp [eqGuard]

theorem shift_sound {op : BinOp} {j k : IntKind} {a b : Int} {v : AV} (t : TypeId) (hop : op = .shl ∨ op = .shr) (h : evalBin op (.i j a) (.i k b) = some v) (w : World) :
    ∃ v', (binOp op t (.int j a) (.int k b)).run P w = .ok v' w ∧ VR ρ v v' := by
  rcases hop with rfl | rfl <;> simp only [evalBin] at h <;> by_cases hb : ltI b 0 = true <;> simp only [hb, if_true, if_false, reduceCtorEq, Bool.false_eq_true, Option.some.injEq] at h
  · subst h
    rw [ltI_eq, decide_eq_true_eq] at hb
    refine ⟨.int j (j.wrap (a * 2 ^ (min b.toNat j.bits))), ?_, by unfold shlA; rw [wrapA_eq]; exact mk_i _ _⟩
    simp only [binOp, Op.shift]
    rw [if_neg hb]; rfl
  · subst h
    rw [ltI_eq, decide_eq_true_eq] at hb
    refine ⟨.int j (a.fdiv (2 ^ (min b.toNat j.bits))), ?_, by unfold shrA; exact mk_i _ _⟩
    simp only [binOp, Op.shift]
    rw [if_neg hb]; rfl

/-- 'op' at two whole numbers or two texts, its guard ahead. -/
theorem bin_sound {op : BinOp} {x y : AV} {v : AV} (t : TypeId) (ox oy : Operand) {a b : Value} (hx : VR ρ x a) (hy : VR ρ y b) (h : evalBin op x y = some v) (w : World) :
    ∃ v', (do eqGuard op t ox oy a b; binOp op t a b : Sem Value).run P w = .ok v' w ∧ VR ρ v v' := by
  cases x <;> cases y <;> simp only [evalBin, reduceCtorEq] at h
  case i.i j p k q =>
    have ha := vr_i hx; have hb := vr_i hy
    subst ha; subst hb
    by_cases hs : op = .shl ∨ op = .shr
    · obtain ⟨v', h1, h2⟩ := shift_sound (P := P) (ρ := ρ) (j := j) (k := k) (a := p) (b := q) (v := v) t hs (by rcases hs with rfl | rfl <;> exact h) w
      exact ⟨v', by simp [eqGuard_int, h1], h2⟩
    · have h' : (if j = k then intBin op j p q else none) = some v := by
        cases op <;> first | exact h | (exfalso; simp at hs)
      by_cases hjk : j = k
      · subst hjk
        rw [if_pos rfl] at h'
        obtain ⟨v', h1, h2⟩ := int_sound (P := P) (ρ := ρ) t h' w
        exact ⟨v', by simp [eqGuard_int, h1], h2⟩
      · rw [if_neg hjk] at h'; cases h'
  case s.s l m =>
    obtain ⟨p, rfl, rfl⟩ := vr_s hx
    obtain ⟨q, rfl, rfl⟩ := vr_s hy
    obtain ⟨v', h1, h2⟩ := str_sound (P := P) (ρ := ρ) t h w
    exact ⟨v', by simp [eqGuard_str, h1], h2⟩
theorem equal_eq (t : TypeId) (x y : Value) : Op.equal t x y = Op.equalIn (9999 + 1) t x y := rfl
theorem eqBool_sound {x y neg : Bool} {op : BinOp} (t : TypeId) (ox oy : Operand) (hop : op = .eql ∧ neg = false ∨ op = .neq ∧ neg = true) (ht : P.underlying t = some .bool) (w : World) :
    (do eqGuard op t ox oy (.bool x) (.bool y); binOp op t (.bool x) (.bool y) : Sem Value).run P w = .ok (.bool (Bool.xor neg (x == y))) w := by
  have h := run_equalIn_bool' (P := P) w 9999 t x y ht
  rcases hop with ⟨rfl, rfl⟩ | ⟨rfl, rfl⟩
  · simp only [Sem.run_bind, eqGuard_bool, Result.andThen_ok, binOp, equal_eq, h, Sem.run_pure, Bool.false_xor]
  · simp only [Sem.run_bind, eqGuard_bool, Result.andThen_ok, binOp, equal_eq, h, Sem.run_pure, Bool.true_xor]

/-! ### What is compared with nil -/
def NK.fits : NK → TypeDesc → Bool
  | .p, .pointer _ | .s, .slice _ | .m, .map _ _ | .f, .func _ _ _ => true
  | _, _ => false
theorem leaf_sound {k : NK} {x y : AV} {a b : Value} {r : Bool} (d : Nat) {t : TypeId} {D : TypeDesc} (hd : P.underlying t = some D) (hf : k.fits D = true) (hx : VR ρ x a) (hy : VR ρ y b) (h : eqLeaf k x y = some r) (w : World) :
    (Op.equalIn (d + 1) t a b).run P w = .ok r w := by
  cases k <;> cases D <;> simp only [NK.fits, Bool.false_eq_true] at hf <;> cases x <;> cases y <;> simp only [eqLeaf, reduceCtorEq, Option.some.injEq] at h <;> subst h <;> simp only [VR] at hx hy
  all_goals first
    | (subst hx; subst hy; simp [Op.equalIn, run_underlying hd]; done)
    | (obtain ⟨L, _, rfl⟩ := hx; subst hy; simp [Op.equalIn, run_underlying hd]; done)
    | (obtain ⟨L, _, rfl⟩ := hy; subst hx; simp [Op.equalIn, run_underlying hd]; done)
    | (obtain ⟨L, a, cap, _, rfl, _⟩ := hx; subst hy; simp [Op.equalIn, run_underlying hd]; done)
    | (obtain ⟨L, a, cap, _, rfl, _⟩ := hy; subst hx; simp [Op.equalIn, run_underlying hd]; done)
    | (obtain ⟨g, xs, ys, rfl, _⟩ := hx; subst hy; simp [Op.equalIn, run_underlying hd]; done)
    | (obtain ⟨g, xs, ys, rfl, _⟩ := hy; subst hx; simp [Op.equalIn, run_underlying hd]; done)
theorem eqGuard_leaf {k : NK} {x y : AV} {a b : Value} {r : Bool} (hx : VR ρ x a) (hy : VR ρ y b) (h : eqLeaf k x y = some r) (op : BinOp) (t : TypeId) (ox oy : Operand) (w : World) : (eqGuard op t ox oy a b).run P w = .ok () w := by
  cases k <;> cases x <;> cases y <;> simp only [eqLeaf, reduceCtorEq, Option.some.injEq] at h <;> subst h <;> simp only [VR] at hx hy
  all_goals first
    | (subst hx; subst hy; cases op <;> simp [eqGuard]; done)
    | (obtain ⟨L, _, rfl⟩ := hx; subst hy; cases op <;> simp [eqGuard]; done)
    | (obtain ⟨L, _, rfl⟩ := hy; subst hx; cases op <;> simp [eqGuard]; done)
    | (obtain ⟨L, a, cap, _, rfl, _⟩ := hx; subst hy; cases op <;> simp [eqGuard]; done)
    | (obtain ⟨L, a, cap, _, rfl, _⟩ := hy; subst hx; cases op <;> simp [eqGuard]; done)
    | (obtain ⟨g, xs, ys, rfl, _⟩ := hx; subst hy; cases op <;> simp [eqGuard]; done)
    | (obtain ⟨g, xs, ys, rfl, _⟩ := hy; subst hx; cases op <;> simp [eqGuard]; done)
theorem binOp_leaf {k : NK} {x y : AV} {a b : Value} {r : Bool} (hx : VR ρ x a) (hy : VR ρ y b) (h : eqLeaf k x y = some r) (op : BinOp) (hop : op = .eql ∨ op = .neq) (t : TypeId) :
    binOp op t a b = (do let q ← Op.equal t a b; pure (.bool (if op = .neq then !q else q))) := by
  cases k <;> cases x <;> cases y <;> simp only [eqLeaf, reduceCtorEq, Option.some.injEq] at h <;> subst h <;> simp only [VR] at hx hy
  all_goals first
    | (subst hx; subst hy; rcases hop with rfl | rfl <;> rfl)
    | (obtain ⟨L, _, rfl⟩ := hx; subst hy; rcases hop with rfl | rfl <;> rfl)
    | (obtain ⟨L, _, rfl⟩ := hy; subst hx; rcases hop with rfl | rfl <;> rfl)
    | (obtain ⟨L, a, cap, _, rfl, _⟩ := hx; subst hy; rcases hop with rfl | rfl <;> rfl)
    | (obtain ⟨L, a, cap, _, rfl, _⟩ := hy; subst hx; rcases hop with rfl | rfl <;> rfl)
    | (obtain ⟨g, xs, ys, rfl, _⟩ := hx; subst hy; rcases hop with rfl | rfl <;> rfl)
    | (obtain ⟨g, xs, ys, rfl, _⟩ := hy; subst hx; rcases hop with rfl | rfl <;> rfl)
theorem eqNil_sound {k : NK} {x y : AV} {a b : Value} {r neg : Bool} {op : BinOp} {t : TypeId} {D : TypeDesc} (hd : P.underlying t = some D) (hf : k.fits D = true) (hx : VR ρ x a) (hy : VR ρ y b) (h : eqLeaf k x y = some r)
    (ox oy : Operand) (hop : op = .eql ∧ neg = false ∨ op = .neq ∧ neg = true) (w : World) : (do eqGuard op t ox oy a b; binOp op t a b : Sem Value).run P w = .ok (.bool (Bool.xor neg r)) w := by
  rw [binOp_leaf hx hy h op (hop.imp And.left And.left) t, Sem.run_bind, eqGuard_leaf hx hy h]
  simp only [Result.andThen_ok, Sem.run_bind, equal_eq, leaf_sound 9999 hd hf hx hy h, Sem.run_pure]
  rcases hop with ⟨rfl, rfl⟩ | ⟨rfl, rfl⟩ <;> simp
end
end Go.Ai
