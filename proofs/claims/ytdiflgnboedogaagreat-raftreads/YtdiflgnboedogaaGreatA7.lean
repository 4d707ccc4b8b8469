/- An interpreter on abstract values: its operations that look at no memory, held against the model's. -/
import Derived.Test.YtdiflgnboedogaaGreatA6
namespace Go.Ai
section
variable {P : Program}

theorem run_sizeOf' {t : TypeId} {n : Nat} (h : sizeT P t = some n) (w : World) : (sizeOf t).run P w = .ok n w := by
  unfold sizeT at h
  cases hi : P.info? t with
  | none => rw [hi] at h; cases h
  | some i =>
    rw [hi] at h
    simp at h
    simp [sizeOf, typeInfo, hi, h]
theorem run_isAgg' {t : TypeId} {d : TypeDesc} (h : P.underlying t = some d) (w : World) : (isAgg t).run P w = .ok (aggT P t) w := by
  cases d <;> simp [isAgg, run_underlying h, aggT, h]
theorem aggT_some {t : TypeId} (h : aggT P t = true) : ∃ d, P.underlying t = some d := by
  unfold aggT at h
  cases hd : P.underlying t with
  | none => rw [hd] at h; cases h
  | some d => exact ⟨d, rfl⟩

/-! ### Lists of operands -/
theorem evs_map {f : Operand → Value} (l : List Operand) : mapl f l = l.map f := mapl_eq f l

/-! ### Parts laid over cells -/
theorem foldl_setIfInBounds {α : Type} (off : Nat) : ∀ (l : List α) (n : Nat) (cs : Array α), off + n + l.length ≤ cs.size →
    ((l.zipIdx n).foldl (fun cs (x : α × Nat) => cs.setIfInBounds (off + x.2) x.1) cs).toList = cs.toList.take (off + n) ++ l ++ cs.toList.drop (off + n + l.length)
  | [], n, cs, _ => by simp
  | a :: l, n, cs, h => by
    simp only [List.length_cons] at h
    rw [List.zipIdx_cons, List.foldl_cons, foldl_setIfInBounds off l (n + 1) _ (by simpa using by omega)]
    simp only [Array.toList_setIfInBounds, List.length_cons]
    have h1 : (cs.toList.set (off + n) a).take (off + (n + 1)) = cs.toList.take (off + n) ++ [a] := by
      rw [← Nat.add_assoc, List.take_add_one, List.take_set, List.getElem?_set]
      have : off + n < cs.toList.length := by simpa using by omega
      simp only [this, if_true]
      rw [List.set_eq_of_length_le (by simp; omega)]
      simp
    have h2 : (cs.toList.set (off + n) a).drop (off + (n + 1) + l.length) = cs.toList.drop (off + n + (l.length + 1)) := by
      rw [List.drop_set_of_lt (by omega)]
      congr 1; omega
    rw [h1, h2]; simp

theorem fill_sound {ρ : Rho} {place : Nat → Option (Nat × Nat)} : ∀ {ps : List (Nat × Value)} {pl : List (Nat × Nat)} {vs : List AV} {cells : Array Value} {ac c : List AV},
    ps.length = pl.length → (∀ (j : Nat) (q : Nat × Value), ps[j]? = some q → place q.1 = pl[j]?) → VRs ρ vs (ps.map (·.2)) → VRs ρ ac cells.toList → (∀ x ∈ cells.toList, x.oneCell' = true) →
    fillA ac pl vs = some c → ∃ cells', Instr.fill place cells ps = some cells' ∧ VRs ρ c cells'.toList ∧ (∀ x ∈ cells'.toList, x.oneCell' = true)
  | [], pl, vs, cells, ac, c, hl, _, hv, hc, h1, hf => by
    cases pl with
    | cons => simp at hl
    | nil =>
      cases vs with
      | cons => simp [VRs] at hv
      | nil => simp only [fillA, Option.some.injEq] at hf; subst hf; exact ⟨cells, rfl, hc, h1⟩
  | (i, v) :: ps, pl, vs, cells, ac, c, hl, hp, hv, hc, h1, hf => by
    cases pl with
    | nil => simp at hl
    | cons q pl =>
      obtain ⟨off, n⟩ := q
      cases vs with
      | nil => simp [fillA] at hf
      | cons a vs =>
        simp only [List.map_cons, VRs, List.cons.injEq] at hv
        obtain ⟨x, xs, ⟨rfl, rfl⟩, hx, hxs⟩ := hv
        simp only [fillA] at hf
        cases hac : a.cells with
        | none => rw [hac] at hf; cases hf
        | some vc =>
          rw [hac] at hf
          simp only [Option.bind_some] at hf
          obtain ⟨hvc, hvc1⟩ := hx.cells hac
          by_cases hn : Nat.beq (len vc) n = true
          · rw [if_pos hn] at hf
            have hn' : vc.length = n := by have := Nat.eq_of_beq_eq_true hn; rwa [len_eq] at this
            rw [put_eq] at hf
            by_cases hfit : off + vc.length ≤ ac.length
            · rw [if_pos hfit] at hf
              simp only [Option.bind_some] at hf
              have hpl : place i = some (off, n) := by have := hp 0 (i, v) rfl; simpa using this
              have hxl : v.cells.size = n := by have := hvc.length; simp at this; omega
              have hcl : cells.size = ac.length := by have := hc.length; simpa using this
              have hfold := foldl_setIfInBounds off v.cells.toList 0 cells (by simp; omega)
              have hz : v.cells.zipIdx.foldl (fun cs (y : Value × Nat) => cs.setIfInBounds (off + y.2) y.1) cells = (v.cells.toList.zipIdx 0).foldl (fun cs (y : Value × Nat) => cs.setIfInBounds (off + y.2) y.1) cells := by
                rw [← Array.foldl_toList]; simp
              rw [← hz] at hfold
              have hvcl : v.cells.toList.length = vc.length := hvc.length
              obtain ⟨cells', h2, h3, h4⟩ := fill_sound (place := place) (ps := ps) (pl := pl) (vs := vs)
                (cells := v.cells.zipIdx.foldl (fun cs (y : Value × Nat) => cs.setIfInBounds (off + y.2) y.1) cells) (ac := ac.take off ++ vc ++ ac.drop (off + vc.length)) (c := c)
                (by simpa using hl) (fun j q hj => by simpa using hp (j + 1) q (by simpa using hj)) hxs
                (by rw [hfold, hvcl]; simp only [Nat.add_zero]; exact ((hc.take off).app hvc).app (hc.drop _))
                (by
                  rw [hfold]
                  intro y hy
                  simp only [List.mem_append] at hy
                  rcases hy with (hy | hy) | hy
                  · exact h1 y (List.mem_of_mem_take hy)
                  · exact hvc1 y hy
                  · exact h1 y (List.mem_of_mem_drop hy)) hf
              refine ⟨cells', ?_, h3, h4⟩
              simp only [Instr.fill, hpl]
              rw [if_neg (by simp; omega)]
              exact h2
            · rw [if_neg hfit] at hf; cases hf
          · rw [if_neg hn] at hf; cases hf
end
end Go.Ai
