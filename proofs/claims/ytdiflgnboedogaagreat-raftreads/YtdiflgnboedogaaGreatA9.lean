/- An interpreter on abstract values: every operation that looks at no memory does in the model what it does here. -/
import Derived.Test.YtdiflgnboedogaaGreatA8
namespace Go.Ai
section
variable {P : Program} {ρ : Rho}

/-! ### Bounds of slices -/
theorem sliceBound_ok {x : Value} {k : IntKind} {a n : Nat} (hx : VR ρ (.i k (.ofNat a)) x) (h : a ≤ n) (c : BoundsCode) (w : World) : (Instr.sliceBound x n c).run P w = .ok a w := by
  rw [vr_i hx]
  have h1 : (0 : Int) ≤ Int.ofNat a ∧ Int.ofNat a ≤ (n : Int) := ⟨Int.natCast_nonneg a, Int.ofNat_le.2 h⟩
  simp only [Instr.sliceBound, asIntOf, pure_bind]
  rw [if_pos h1]
  rfl
theorem popB_sound {o : Option Operand} {vs r : List AV} {q : Option Nat} {rest : List Operand} {e : Operand → Value} (h : popB o.isSome vs = some (q, r)) (hv : VRs ρ vs ((app (optL o) rest).map e)) :
    VRs ρ r (rest.map e) ∧ (match o, q with | none, none => True | some x, some a => ∃ k, VR ρ (.i k (.ofNat a)) (e x) | _, _ => False) := by
  cases o with
  | none =>
    simp only [Option.isSome_none, popB, Option.some.injEq, Prod.mk.injEq] at h
    obtain ⟨rfl, rfl⟩ := h
    exact ⟨by simpa [optL, app_eq] using hv, trivial⟩
  | some x =>
    simp only [Option.isSome_some, popB] at h
    cases vs with
    | nil => cases h
    | cons v vs =>
      simp only at h
      cases v <;> simp only [natOf, Option.map_none, reduceCtorEq] at h
      case i k n =>
        cases n with
        | negSucc m => simp only [Option.map_none, reduceCtorEq] at h
        | ofNat a =>
          simp only [Option.map_some, Option.some.injEq, Prod.mk.injEq] at h
          obtain ⟨rfl, rfl⟩ := h
          simp only [optL, app_eq, List.cons_append, List.nil_append, List.map_cons] at hv
          obtain ⟨y, ys, e1, h1, h2⟩ := vrs_cons hv
          rw [List.cons.injEq] at e1
          obtain ⟨rfl, rfl⟩ := e1
          exact ⟨h2, k, h1⟩
/-- The bounds are within; 'm': the new capacity's end. -/
theorem bounds_sound {n cap : Nat} {lo hi mx : Option Operand} {vs : List AV} {a b : Nat} {c : Option Nat} {e : Operand → Value} (isSlice : Bool) (hn : n ≤ cap)
    (h : bounds3 n lo.isSome hi.isSome mx.isSome vs = some (a, b, c)) (hv : VRs ρ vs ((app (optL lo) (app (optL hi) (optL mx))).map e)) (w : World) :
    ∃ m, (Instr.sliceBounds isSlice n cap (lo.map e) (hi.map e) (mx.map e)).run P w = .ok (a, b, m) w ∧ a ≤ b ∧ b ≤ n ∧ b ≤ m ∧ m ≤ cap ∧ (∀ q, c = some q → m = q) ∧ (c = none → m = cap) := by
  unfold bounds3 at h
  cases h1 : popB lo.isSome vs with
  | none => rw [h1] at h; cases h
  | some p =>
    rw [h1] at h; simp only [Option.bind_some] at h
    obtain ⟨hv2, hl⟩ := popB_sound (q := p.1) (r := p.2) h1 hv
    cases h2 : popB hi.isSome p.2 with
    | none => rw [h2] at h; cases h
    | some q =>
      rw [h2] at h; simp only [Option.bind_some] at h
      obtain ⟨hv3, hh⟩ := popB_sound (q := q.1) (r := q.2) h2 hv2
      cases h3 : popB mx.isSome q.2 with
      | none => rw [h3] at h; cases h
      | some r =>
        rw [h3] at h; simp only [Option.bind_some] at h
        have hv4 : VRs ρ q.2 ((app (optL mx) []).map e) := by simpa [app_eq] using hv3
        obtain ⟨_, hm⟩ := popB_sound (q := r.1) (r := r.2) h3 hv4
        obtain ⟨p1, p2⟩ := p; obtain ⟨q1, q2⟩ := q; obtain ⟨r1, r2⟩ := r
        simp only at h hl hh hm
        cases r2 with
        | cons => cases q1 <;> cases r1 <;> simp at h
        | nil =>
          have low : ∀ (hb y z : Nat) (code : BoundsCode), p1.getD 0 ≤ hb → (match lo.map e with | some v => (do let l ← Instr.sliceBound v hb code; pure (l, y, z)) | none => pure (0, y, z) : Sem (Nat × Nat × Nat)).run P w = .ok (p1.getD 0, y, z) w := by
            intro hb y z code hle
            cases lo with
            | none => cases p1 with | none => rfl | some _ => exact hl.elim
            | some x => cases p1 with
              | none => exact hl.elim
              | some a => obtain ⟨k, hk⟩ := hl; simp only [Option.map_some, Sem.run_bind, sliceBound_ok hk hle, Result.andThen_ok]; rfl
          cases q1 with
          | none =>
            cases r1 with
            | some _ => simp at h
            | none =>
              cases hi with
              | some _ => exact hh.elim
              | none => cases mx with
                | some _ => exact hm.elim
                | none =>
                  by_cases hc : Nat.ble (p1.getD 0) n = true
                  · simp only [hc, if_true, Option.some.injEq, Prod.mk.injEq] at h
                    obtain ⟨rfl, rfl, rfl⟩ := h
                    have hle := Nat.le_of_ble_eq_true hc
                    refine ⟨cap, ?_, hle, Nat.le_refl _, hn, Nat.le_refl _, (fun _ h => by cases h), fun _ => rfl⟩
                    simp only [Instr.sliceBounds, Option.map_none, pure_bind]
                    exact low n n cap _ hle
                  · simp only [hc, if_false, reduceCtorEq, Bool.false_eq_true] at h
          | some b' =>
            cases hi with
            | none => exact hh.elim
            | some y =>
              obtain ⟨kh, hh⟩ := hh
              cases r1 with
              | none =>
                cases mx with
                | some _ => exact hm.elim
                | none =>
                  by_cases hc : (Nat.ble (p1.getD 0) b' && Nat.ble b' n) = true
                  · simp only [hc, if_true, Option.some.injEq, Prod.mk.injEq] at h
                    obtain ⟨rfl, rfl, rfl⟩ := h
                    rw [Bool.and_eq_true] at hc
                    have hle := Nat.le_of_ble_eq_true hc.1
                    have hle2 := Nat.le_of_ble_eq_true hc.2
                    refine ⟨cap, ?_, hle, hle2, Nat.le_trans hle2 hn, Nat.le_refl _, (fun _ h => by cases h), fun _ => rfl⟩
                    simp only [Instr.sliceBounds, Option.map_none, Option.map_some, pure_bind, Sem.run_bind]
                    rw [sliceBound_ok hh (Nat.le_trans hle2 hn) _ w]
                    simp only [Result.andThen_ok]
                    exact low b' b' cap _ hle
                  · simp only [hc, if_false, reduceCtorEq, Bool.false_eq_true] at h
              | some c' =>
                cases mx with
                | none => exact hm.elim
                | some z =>
                  obtain ⟨km, hm⟩ := hm
                  by_cases hc : (Nat.ble (p1.getD 0) b' && (Nat.ble b' c' && Nat.ble c' n)) = true
                  · simp only [hc, if_true, Option.some.injEq, Prod.mk.injEq] at h
                    obtain ⟨rfl, rfl, rfl⟩ := h
                    rw [Bool.and_eq_true, Bool.and_eq_true] at hc
                    have hle := Nat.le_of_ble_eq_true hc.1
                    have hle2 := Nat.le_of_ble_eq_true hc.2.1
                    have hle3 := Nat.le_of_ble_eq_true hc.2.2
                    refine ⟨c', ?_, hle, Nat.le_trans hle2 hle3, hle2, Nat.le_trans hle3 hn, (fun _ h => by cases h; rfl), fun h => by cases h⟩
                    simp only [Instr.sliceBounds, Option.map_some, Sem.run_bind]
                    rw [sliceBound_ok hm (Nat.le_trans hle3 hn) _ w]
                    simp only [Result.andThen_ok]
                    rw [sliceBound_ok hh hle2 _ w]
                    simp only [Result.andThen_ok]
                    exact low b' b' c' _ hle
                  · simp only [hc, if_false, reduceCtorEq, Bool.false_eq_true] at h

/-- What opC gives where it gives a plain operation. -/
theorem bytes_len (bs : ByteArray) : len (bs.data.toList.map UInt8.toNat) = bs.size := by
  rw [len_eq]; simp
theorem extract_bytes (bs : ByteArray) (a b : Nat) : tak (drp (bs.data.toList.map UInt8.toNat) a) (b - a) = (bs.extract a b).data.toList.map UInt8.toNat := by
  rw [tak_eq, drp_eq]
  simp [List.extract_eq_take_drop, List.map_take, List.map_drop]

theorem slice_value {o off n : Nat} {full : Bool} {v : Value} {es a b : Nat} {c : Option Nat} (h : VR ρ (.sl o off n es full) v) (hab : a ≤ b) :
    ∃ ad cap, v = .slice (some ad) n cap ∧ n ≤ cap ∧ ∀ m, b ≤ m → m ≤ cap → (∀ q, c = some q → m = q) → (c = none → m = cap) →
      VR ρ (cutA es o off n full (a, b, c)) (.slice (if m = a then some ad else (some ad).map (·.add (a * es))) (b - a) (m - a)) := by
  simp only [VR] at h
  obtain ⟨L, ad, cap, h1, rfl, h3, h4, h5, h63⟩ := h
  refine ⟨ad, cap, rfl, h3, fun m hbm hmc hq hn => ?_⟩
  have hshape : ∃ f, cutA es o off n full (a, b, c) = .sl o (off + a * es) (b - a) es f ∧ (f = true → m = b) := by
    cases c with
    | none =>
      refine ⟨_, rfl, fun hf => ?_⟩
      rw [Bool.and_eq_true] at hf
      have := h4 hf.1
      have := Nat.eq_of_beq_eq_true hf.2
      rw [hn rfl]; omega
    | some q =>
      refine ⟨_, rfl, fun hf => ?_⟩
      have := Nat.eq_of_beq_eq_true hf
      rw [hq q rfl]; omega
  obtain ⟨f, hs, hf⟩ := hshape
  rw [hs]
  simp only [VR]
  by_cases hma : m = a
  · rw [if_pos hma]
    exact ⟨L, ad, m - a, h1, rfl, by omega, fun e => by have := hf e; omega, .inr (by omega), by omega⟩
  · rw [if_neg hma]
    rcases h5 with ⟨h5, h6⟩ | h5
    · refine ⟨L, ad.add (a * es), m - a, h1, rfl, by omega, fun e => by have := hf e; omega, .inl ⟨?_, ?_⟩, by omega⟩
      · rw [h5]; unfold Addr.add
        by_cases hz : a * es = 0
        · rw [if_pos hz, hz]; simp
        · rw [if_neg hz]; simp [Nat.add_assoc]
      · have h7 : a * es + (m - a) * es = m * es := by rw [← Nat.add_mul]; congr 1; omega
        have h8 : m * es ≤ cap * es := Nat.mul_le_mul_right _ hmc
        omega
    · exact absurd (show m = a by omega) hma
end
end Go.Ai
