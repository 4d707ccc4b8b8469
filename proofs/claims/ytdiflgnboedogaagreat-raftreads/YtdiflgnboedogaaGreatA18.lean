/- An interpreter on abstract values: append, held against the model's. -/
import Derived.Test.YtdiflgnboedogaaGreatA17
namespace Go.Ai
section
variable {P : Program} {good : Nat → Code → Prop} {ρ : Rho} {h : Hp} {w : World}

theorem cellsOf_sound (hr : HR P good ρ h w) {y : AV} {yv : Value} {es m : Nat} {new : List AV} (hy : VR ρ y yv) (hc : cellsOf es h y = some (m, new)) :
    ∃ b c vs, yv = .slice b m c ∧ (∀ w' : World, w'.heap = w.heap → (Builtin.firstCells es m yv).run P w' = .ok (vs : List Value).toArray w') ∧ VRs ρ new vs ∧ (∀ v ∈ vs, v.oneCell' = true) ∧ vs.length = m * es := by
  unfold cellsOf at hc
  split at hc
  · simp only [Option.some.injEq, Prod.mk.injEq] at hc
    obtain ⟨rfl, rfl⟩ := hc
    simp only [VR] at hy; subst hy
    exact ⟨none, 0, [], rfl, fun w' _ => by simp [Builtin.firstCells], by simp [VRs], by simp, by simp⟩
  · rename_i o off n es' full
    split at hc
    · rename_i fz cs hg
      obtain ⟨hb, hc⟩ := ite_some hc
      have hb := Nat.le_of_ble_eq_true hb
      rw [len_eq] at hb
      simp only [Option.some.injEq, Prod.mk.injEq] at hc
      obtain ⟨rfl, rfl⟩ := hc
      simp only [VR] at hy
      obtain ⟨L, a, cap, h1, rfl, h3, h4, h5, _⟩ := hy
      obtain ⟨xs, h6, h7, h8, h9⟩ := row_cells (hr.obj _ _ _ h1 hg) hb
      rw [tak_eq, drp_eq]
      refine ⟨some a, cap, xs, rfl, fun w' hw' => ?_, h7, h8, h6⟩
      rcases h5 with ⟨h5, _⟩ | h5
      · subst h5
        have h9' : ∀ j v, xs[j]? = some v → w'.cell? ((⟨L.blk, L.off + off, none⟩ : Addr).add j) = some v := fun j v e => by
          have := h9 j v e
          simpa only [World.cell?, hw'] using this
        have := run_loadN (P := P) h9'
        rw [h6] at this
        simpa [Builtin.firstCells] using this
      · have hn : n = 0 := by omega
        subst hn
        have hxs : xs = [] := List.eq_nil_of_length_eq_zero (by rw [h6]; simp)
        subst hxs
        simp [Builtin.firstCells, loadCells, loadCellsFrom]
    · cases hc
  · cases hc

/-- The append fits behind what is there. -/
theorem append_room {t u ty el ul : TypeId} {es : Nat} (hd : P.underlying t = some (.slice el)) (hu : P.underlying u = some (.slice ul)) (hes : sizeT P el = some es) {a : Addr} {n cap m : Nat} {b : Option Addr} {c : Nat} {vs : List Value} {w' : World}
    (hf : (Builtin.firstCells es m (.slice b m c)).run P w = .ok vs.toArray w) (hroom : n + m ≤ cap) (hst : (storeCells (a.add (n * es)) vs).run P w = .ok () w') :
    (Builtin.append_ #[t, u] ty #[.slice (some a) n cap, .slice b m c]).run P w = .ok (.slice (some a) (n + m) cap) w' := by
  simp only [Builtin.append_, List.getElem?_toArray, List.getElem?_cons_zero, List.getElem?_cons_succ, Sem.run_bind, run_underlying hd, Result.andThen_ok, run_sizeOf' hes, run_underlying hu, Sem.run_pure, Bool.false_eq_true, if_false, Builtin.lenOf]
  rw [if_pos hroom]
  simp only [Bool.not_false, if_true, Sem.run_bind, hf, Result.andThen_ok, hst, Sem.run_pure]
/-- Nothing is appended. -/
theorem append_none {t u ty el ul : TypeId} {es : Nat} (hd : P.underlying t = some (.slice el)) (hu : P.underlying u = some (.slice ul)) (hes : sizeT P el = some es) {a : Option Addr} {n cap : Nat} {b : Option Addr} {c : Nat}
    (hf : (Builtin.firstCells es 0 (.slice b 0 c)).run P w = .ok #[] w) (hroom : n ≤ cap) :
    (Builtin.append_ #[t, u] ty #[.slice a n cap, .slice b 0 c]).run P w = .ok (.slice a n cap) w := by
  simp only [Builtin.append_, List.getElem?_toArray, List.getElem?_cons_zero, List.getElem?_cons_succ, Sem.run_bind, run_underlying hd, Result.andThen_ok, run_sizeOf' hes, run_underlying hu, Sem.run_pure, Bool.false_eq_true, if_false, Builtin.lenOf, Nat.add_zero]
  rw [if_pos hroom]
  simp only [Bool.not_false, if_true, Sem.run_bind, hf, Result.andThen_ok]
  cases a <;> simp [storeCells]
/-- The append makes a new array. -/
theorem append_new {t u ty el ul : TypeId} {es : Nat} (hd : P.underlying t = some (.slice el)) (hu : P.underlying u = some (.slice ul)) (hes : sizeT P el = some es) (hsm : small P el = true) {z : List AV} (hz : zeroC P el = some z) {a : Option Addr} {n cap m : Nat} {b : Option Addr} {c : Nat} {old vs : List Value}
    (hold : ∀ w' : World, w'.heap = w.heap → (Builtin.firstCells es n (.slice a n cap)).run P w' = .ok old.toArray w') (hf : ∀ w' : World, w'.heap = w.heap → (Builtin.firstCells es m (.slice b m c)).run P w' = .ok vs.toArray w')
    (hol : old.length = n * es) (hvl : vs.length = m * es) (hroom : cap < n + m) (hbig : n + m ≤ 1073741824) :
    ∃ arr newCap w', (Builtin.append_ #[t, u] ty #[.slice a n cap, .slice b m c]).run P w = .ok (.slice (some ⟨w.heap.size, 0, none⟩) (n + m) newCap) w' ∧ w'.heap = w.heap.push (.cells arr el) ∧ w'.tape = w.tape ∧ w'.os = w.os ∧ w'.output = w.output ∧
      n + m ≤ newCap ∧ newCap ≤ 9223372036854775807 ∧ arr.size = newCap * es ∧ arr.toList.take ((n + m) * es) = old ++ vs ∧ ((∀ x ∈ old, x.oneCell' = true) → (∀ x ∈ vs, x.oneCell' = true) → ∀ x ∈ arr.toList, x.oneCell' = true) := by
  obtain ⟨zv, hz1, hz2, hz3, hz4⟩ := zeroC_sound (ρ := fun _ => none) hz w
  have hzl : z.length = es := by rw [hes] at hz4; exact (Option.some.inj hz4).symm
  have hzvl : zv.cells.size = es := by have := hz2.length; simp at this; omega
  unfold small at hsm
  cases hi : P.info? el with
  | none => rw [hi] at hsm; cases hsm
  | some i =>
    rw [hi] at hsm
    have hby := Nat.le_of_ble_eq_true hsm
    have hbytes : (n + m) * i.bytes ≤ 140737488355328 := by
      have : (n + m) * i.bytes ≤ 1073741824 * 65536 := Nat.mul_le_mul hbig hby
      omega
    let newCap := (Question.appendCap (n + m) cap el).cut (w.tape w.drawn (.appendCap (n + m) cap el))
    have hcap : n + m ≤ newCap := by simp [newCap, Question.cut]
    let W : World := { w with drawn := w.drawn + 1 }
    have hz1' : (zeroValue el).run P W = .ok zv W := by
      obtain ⟨zv', h1, _⟩ := zeroC_sound (P := P) (ρ := fun _ => none) hz W
      have : zv' = zv := by
        have e1 : (zeroValue el).run P w = .ok zv w := hz1
        simp only [zeroValue, Sem.run_bind, typeInfo, run_program, Result.andThen_ok, hi, Sem.run_pure] at e1 h1
        cases hzz : i.zero with
        | none => rw [hzz] at e1; simp at e1
        | some q => rw [hzz] at e1 h1; simp only [Sem.run_pure, Result.ok.injEq, and_true] at e1 h1; rw [← e1, ← h1]
      rw [← this]; exact h1
    have hsz : (Builtin.zeroCells zv.cells (newCap - (n + m))).size = (newCap - (n + m)) * es := by rw [size_zeroCells, hzvl]
    have hcap63 : newCap ≤ 9223372036854775807 := by
      have h0 : 0 < 2 ^ 63 - (n + m) := by have : (2 : Nat) ^ 63 = 9223372036854775808 := by decide
                                           omega
      have := Nat.mod_lt (w.tape w.drawn (.appendCap (n + m) cap el)) h0
      have h63 : (2 : Nat) ^ 63 = 9223372036854775808 := by decide
      simp only [newCap, Question.cut]
      omega
    refine ⟨old.toArray ++ vs.toArray ++ Builtin.zeroCells zv.cells (newCap - (n + m)), newCap, { W with heap := W.heap.push (.cells (old.toArray ++ vs.toArray ++ Builtin.zeroCells zv.cells (newCap - (n + m))) el) }, ?_, rfl, rfl, rfl, rfl, hcap, hcap63, ?_, ?_, ?_⟩
    · have hti : ∀ w : World, (typeInfo el).run P w = .ok i w := fun w => by simp [typeInfo, hi]
      simp only [Builtin.append_, List.getElem?_toArray, List.getElem?_cons_zero, List.getElem?_cons_succ, Sem.run_bind, run_underlying hd, Result.andThen_ok, run_sizeOf' hes, run_underlying hu, Sem.run_pure, Bool.false_eq_true, if_false, Builtin.lenOf]
      rw [if_neg (by omega)]
      have hg := growslice_fits (need := n + m) (old := cap) (bytes := i.bytes) (by omega) hbytes
      have hmax : ¬ (((n + m : Nat) : Int) > IntKind.i64.max) := by
        have : IntKind.i64.max = 9223372036854775807 := by decide
        rw [this]; omega
      have hg' : ¬ (Builtin.nextslicecap (n + m) cap * i.bytes > 2 ^ 48) := by
        have : (2 : Nat) ^ 48 = 281474976710656 := by decide
        omega
      have hforced : Question.forced (.appendCap (n + m) cap el) = false := rfl
      simp only [Sem.run_bind, hti, Result.andThen_ok, hmax, false_and, if_false, hg', run_choose, hforced, Bool.false_eq_true, run_askRoom, Bool.not_false, if_true]
      have h1 := hold W rfl
      have h2 := hf W rfl
      simp only [W] at h1 h2 hz1' ⊢
      simp only [h1, h2, hz1', Result.andThen_ok, newRow, Sem.run_bind, run_newObj, Sem.run_pure]
      rfl
    · simp only [Array.size_append, List.size_toArray, hol, hvl, hsz, ← Nat.add_mul]
      congr 1; omega
    · simp only [Array.toList_append, List.append_assoc]
      rw [← List.append_assoc]
      exact List.take_left' (by simp [hol, hvl, Nat.add_mul])
    · intro ho1 hv1 x hx
      simp only [Array.toList_append, List.mem_append] at hx
      rcases hx with (hx | hx) | hx
      · exact ho1 x (by simpa using hx)
      · exact hv1 x (by simpa using hx)
      · simp only [Builtin.zeroCells, Array.toList_map, List.mem_map] at hx
        obtain ⟨k, hk, rfl⟩ := hx
        have hk' : k < (newCap - (n + m)) * zv.cells.size := by simpa using hk
        have hpos : 0 < zv.cells.size := by
          rcases Nat.eq_zero_or_pos zv.cells.size with h0 | h0
          · rw [h0] at hk'; simp at hk'
          · exact h0
        have hmod := Nat.mod_lt k hpos
        rw [getElem!_pos zv.cells _ hmod]
        exact hz3 _ (by simp)
end
end Go.Ai
