/- An interpreter on abstract values: its reads, and what makes memory, held against the model's. -/
import Derived.Test.YtdiflgnboedogaaGreatA14
namespace Go.Ai
section
variable {P : Program} {good : Nat → Code → Prop} {ρ : Rho} {h : Hp} {w : World}

theorem notR_builtin {b : Builtin} {ts : List TypeId} {r : ROp} (h : builtinC P b ts = some (.r r)) : False := by
  unfold builtinC at h
  split at h
  · split at h <;> (try (simp at h; done))
    split at h <;> simp at h
  · simp at h
  · simp at h
  · split at h
    · obtain ⟨_, h⟩ := ite_some h
      obtain ⟨_, _, h⟩ := opt_bind_some h
      obtain ⟨_, _, h⟩ := opt_bind_some h
      obtain ⟨_, h⟩ := ite_some h
      simp at h
    · cases h
  · split at h
    · obtain ⟨_, _, h⟩ := opt_bind_some h
      obtain ⟨_, h⟩ := ite_some h
      simp at h
    · cases h
  · split at h
    · obtain ⟨_, _, h⟩ := opt_map_some h; simp at h
    · cases h
  · cases h
theorem notL_builtin {b : Builtin} {ts : List TypeId} {r : LOp} (h : builtinC P b ts = some (.l r)) : False := by
  unfold builtinC at h
  split at h
  · split at h <;> (try (simp at h; done))
    split at h <;> simp at h
  · simp at h
  · simp at h
  · split at h
    · obtain ⟨_, h⟩ := ite_some h
      obtain ⟨_, _, h⟩ := opt_bind_some h
      obtain ⟨_, _, h⟩ := opt_bind_some h
      obtain ⟨_, h⟩ := ite_some h
      simp at h
    · cases h
  · split at h
    · obtain ⟨_, _, h⟩ := opt_bind_some h
      obtain ⟨_, h⟩ := ite_some h
      simp at h
    · cases h
  · split at h
    · obtain ⟨_, _, h⟩ := opt_map_some h; simp at h
    · cases h
  · cases h
/-- What opC gives where it gives a read. -/
theorem opC_read {o : Oper} {r : ROp} {xs : List Operand} (hc : opC P o = some (.r r, xs)) :
    (∃ t x k n, o.op = .load t x ∧ xs = [x] ∧ kindT P t = some k ∧ (k = true → sizeT P t = some n) ∧ r = (if k then .loadN n else .load1)) ∨
    (∃ t kt el x k ok kk z, o.op = .lookup t x k ok ∧ xs = [x, k] ∧ P.underlying t = some (.map kt el) ∧ keyT P kt = some kk ∧ zeroT P el = some z ∧ r = .lookup kk z ok) := by
  unfold opC at hc
  cases ho : o.op with
  | load t x =>
    rw [ho] at hc; simp only at hc
    obtain ⟨k, hk, hc⟩ := opt_bind_some hc
    cases k with
    | true =>
      simp only [if_true] at hc
      obtain ⟨n, hn, hc⟩ := opt_map_some hc
      simp only [Prod.mk.injEq, AOp.r.injEq] at hc
      obtain ⟨rfl, rfl⟩ := hc
      exact .inl ⟨t, x, true, n, rfl, rfl, hk, fun _ => hn, rfl⟩
    | false =>
      simp only [Bool.false_eq_true, if_false, Option.some.injEq, Prod.mk.injEq, AOp.r.injEq] at hc
      obtain ⟨rfl, rfl⟩ := hc
      exact .inl ⟨t, x, false, 0, rfl, rfl, hk, (fun h => by cases h), rfl⟩
  | lookup t x k ok =>
    rw [ho] at hc; simp only at hc
    cases hd : P.underlying t with
    | none => rw [hd] at hc; cases hc
    | some d =>
      rw [hd] at hc
      cases d <;> simp only [reduceCtorEq] at hc
      obtain ⟨kk, hkk, hc⟩ := opt_bind_some hc
      obtain ⟨z, hz, hc⟩ := opt_map_some hc
      simp only [Prod.mk.injEq, AOp.r.injEq] at hc
      obtain ⟨rfl, rfl⟩ := hc
      exact .inr ⟨t, _, _, x, k, ok, kk, z, rfl, rfl, hd, hkk, hz, rfl⟩
  | move x => rw [ho] at hc; simp at hc
  | assign x => rw [ho] at hc; simp at hc
  | pick c a b => rw [ho] at hc; simp at hc
  | alloc t => rw [ho] at hc; simp only at hc; obtain ⟨z, _, hc⟩ := opt_map_some hc; simp at hc
  | box t x => rw [ho] at hc; simp at hc
  | build t ps =>
    rw [ho] at hc; simp only at hc
    obtain ⟨_, hc⟩ := ite_some hc
    obtain ⟨_, _, hc⟩ := opt_bind_some hc
    obtain ⟨_, _, hc⟩ := opt_map_some hc
    simp at hc
  | buildSlice t n ps =>
    rw [ho] at hc; simp only at hc
    split at hc
    · obtain ⟨z, _, hc⟩ := opt_bind_some hc
      obtain ⟨es, _, hc⟩ := opt_bind_some hc
      obtain ⟨_, hc⟩ := ite_some hc
      simp at hc
    · cases hc
  | store t a x => rw [ho] at hc; simp only at hc; obtain ⟨n, _, hc⟩ := opt_map_some hc; simp at hc
  | nilCheck x => rw [ho] at hc; simp at hc
  | binOp op t x y y' =>
    rw [ho] at hc; simp only at hc
    obtain ⟨q, hq, hc⟩ := opt_map_some hc
    simp only [Prod.mk.injEq] at hc
    obtain ⟨rfl, rfl⟩ := hc
    unfold binC at hq
    split at hq <;> (try (simp at hq; done))
    all_goals (split at hq <;> simp at hq)
  | unOp op t x =>
    rw [ho] at hc; simp only at hc
    obtain ⟨q, hq, hc⟩ := opt_map_some hc
    simp only [Prod.mk.injEq] at hc
    obtain ⟨rfl, rfl⟩ := hc
    cases op <;> simp [unC] at hq
  | convert s d x =>
    rw [ho] at hc; simp only at hc
    obtain ⟨q, hq, hc⟩ := opt_map_some hc
    simp only [Prod.mk.injEq] at hc
    obtain ⟨rfl, rfl⟩ := hc
    unfold convC at hq
    split at hq <;> simp at hq
  | makeFunc fn first cap => rw [ho] at hc; cases fn <;> simp at hc
  | makeMap t r => rw [ho] at hc; simp only at hc; split at hc <;> simp at hc
  | makeSlice t l c =>
    rw [ho] at hc; simp only at hc
    split at hc
    · obtain ⟨_, hc⟩ := ite_some hc
      obtain ⟨z, _, hc⟩ := opt_bind_some hc
      obtain ⟨es, _, hc⟩ := opt_bind_some hc
      obtain ⟨_, hc⟩ := ite_some hc
      simp at hc
    · cases hc
  | slice t x lo hi mx =>
    rw [ho] at hc; simp only at hc
    split at hc
    · cases mx <;> simp at hc
    · obtain ⟨es, _, hc⟩ := opt_bind_some hc
      obtain ⟨_, hc⟩ := ite_some hc
      simp at hc
    · cases hc
  | fieldAddr t x i =>
    rw [ho] at hc; simp only at hc
    obtain ⟨_, _, hc⟩ := opt_bind_some hc
    obtain ⟨_, _, hc⟩ := opt_bind_some hc
    obtain ⟨_, _, hc⟩ := opt_bind_some hc
    obtain ⟨_, hc⟩ := ite_some hc
    simp at hc
  | field t x i =>
    rw [ho] at hc; simp only at hc
    obtain ⟨_, _, hc⟩ := opt_bind_some hc
    obtain ⟨_, _, hc⟩ := opt_bind_some hc
    obtain ⟨k, _, hc⟩ := opt_bind_some hc
    cases k
    · simp at hc
    · simp only [if_true] at hc; obtain ⟨_, _, hc⟩ := opt_map_some hc; simp at hc
  | indexAddr t x j =>
    rw [ho] at hc; simp only at hc
    split at hc
    · obtain ⟨_, _, hc⟩ := opt_map_some hc; simp at hc
    · obtain ⟨_, _, hc⟩ := opt_map_some hc; simp at hc
    · cases hc
  | index t x j =>
    rw [ho] at hc; simp only at hc
    split at hc
    · simp at hc
    · obtain ⟨_, _, hc⟩ := opt_bind_some hc
      obtain ⟨k, _, hc⟩ := opt_map_some hc
      cases k <;> simp at hc
    · cases hc
  | mapUpdate t m k v' =>
    rw [ho] at hc; simp only at hc
    split at hc
    · obtain ⟨_, _, hc⟩ := opt_map_some hc; simp at hc
    · cases hc
  | insert t m k v' =>
    rw [ho] at hc; simp only at hc
    split at hc
    · obtain ⟨_, _, hc⟩ := opt_map_some hc; simp at hc
    · cases hc
  | extract x n => rw [ho] at hc; simp at hc
  | call c =>
    rw [ho] at hc; simp only at hc
    cases hcal : c.callee with
    | value f => rw [hcal] at hc; simp at hc
    | invoke r m => rw [hcal] at hc; simp at hc
    | builtin b =>
      rw [hcal] at hc; simp only at hc
      obtain ⟨q, hq, hc⟩ := opt_map_some hc
      simp only [Prod.mk.injEq] at hc
      obtain ⟨rfl, rfl⟩ := hc
      exact (notR_builtin hq).elim
  | _ => rw [ho] at hc; simp at hc
theorem read_sound (hr : HR P good ρ h w) {o : Oper} {r : ROp} {xs : List Operand} (hc : opC P o = some (.r r, xs)) {e : Operand → Value} {as : List AV} {v : AV} (ha : VRs ρ as (xs.map e)) (hv : evalR r h as = some v) :
    ∃ v', (execOp e o).run P w = .ok (.value v') w ∧ VR ρ v v' := by
  rcases opC_read hc with ⟨t, x, k, n, ho, rfl, hk, hn, rfl⟩ | ⟨t, kt, el, x, k, ok, kk, z, ho, rfl, hd, hkk, hz, rfl⟩
  · exact load_sound hr ho hk hn ha (by cases k <;> exact hv)
  · exact lookup_sound hr ho hd hkk hz ha hv
end
end Go.Ai
