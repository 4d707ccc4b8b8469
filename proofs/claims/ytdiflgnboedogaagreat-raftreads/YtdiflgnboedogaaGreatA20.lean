/- An interpreter on abstract values: what writes and what makes memory, which operations these are. -/
import Derived.Test.YtdiflgnboedogaaGreatA19
namespace Go.Ai
section
variable {P : Program} {good : Nat → Code → Prop} {ρ : Rho} {h : Hp} {w : World}

theorem opC_eff {o : Oper} {r : EOp} {xs : List Operand} (hc : opC P o = some (.e r, xs)) :
    (∃ t a x n, o.op = .store t a x ∧ xs = [a, x] ∧ sizeT P t = some n ∧ r = .store n) ∨
    (∃ t kt el m k v kk, (o.op = .mapUpdate t m k v ∨ o.op = .insert t m k v) ∧ xs = [m, k, v] ∧ P.underlying t = some (.map kt el) ∧ keyT P kt = some kk ∧ r = .mapSet kk) ∨
    (∃ c b, o.op = .call c ∧ c.callee = .builtin b ∧ xs = c.args.toList ∧ builtinC P b c.argTypes.toList = some (.e r)) := by
  unfold opC at hc
  cases ho : o.op with
  | load t x =>
    rw [ho] at hc; simp only at hc
    obtain ⟨k, hk, hc⟩ := opt_bind_some hc
    cases k with
    | true => simp only [if_true] at hc; obtain ⟨n, hn, hc⟩ := opt_map_some hc; simp at hc
    | false => simp at hc
  | lookup t x k ok =>
    rw [ho] at hc; simp only at hc
    cases hd : P.underlying t with
    | none => rw [hd] at hc; cases hc
    | some d =>
      rw [hd] at hc
      cases d <;> simp only [reduceCtorEq] at hc
      obtain ⟨kk, hkk, hc⟩ := opt_bind_some hc
      obtain ⟨z, hz, hc⟩ := opt_map_some hc
      simp at hc
  | move x => rw [ho] at hc; simp at hc
  | assign x => rw [ho] at hc; simp at hc
  | pick c a b => rw [ho] at hc; simp at hc
  | alloc t => rw [ho] at hc; simp only at hc; obtain ⟨z, _, hc⟩ := opt_map_some hc; simp at hc
  | box t x => rw [ho] at hc; simp at hc
  | build t ps =>
    rw [ho] at hc; simp only at hc
    obtain ⟨_, hc⟩ := ite_some hc
    obtain ⟨_, _, hc⟩ := opt_bind_some hc
    obtain ⟨_, _, hc⟩ := opt_map_some hc
    simp at hc
  | buildSlice t n ps =>
    rw [ho] at hc; simp only at hc
    split at hc
    · obtain ⟨z, _, hc⟩ := opt_bind_some hc
      obtain ⟨es, _, hc⟩ := opt_bind_some hc
      obtain ⟨_, hc⟩ := ite_some hc
      simp at hc
    · cases hc
  | store t a x =>
    rw [ho] at hc; simp only at hc
    obtain ⟨n, hn, hc⟩ := opt_map_some hc
    simp only [Prod.mk.injEq, AOp.e.injEq] at hc
    obtain ⟨rfl, rfl⟩ := hc
    exact .inl ⟨t, a, x, n, rfl, rfl, hn, rfl⟩
  | nilCheck x => rw [ho] at hc; simp at hc
  | binOp op t x y y' =>
    rw [ho] at hc; simp only at hc
    obtain ⟨q, hq, hc⟩ := opt_map_some hc
    simp only [Prod.mk.injEq] at hc
    obtain ⟨rfl, rfl⟩ := hc
    unfold binC at hq
    split at hq <;> (try (simp at hq; done))
    all_goals (split at hq <;> simp at hq)
  | unOp op t x =>
    rw [ho] at hc; simp only at hc
    obtain ⟨q, hq, hc⟩ := opt_map_some hc
    simp only [Prod.mk.injEq] at hc
    obtain ⟨rfl, rfl⟩ := hc
    cases op <;> simp [unC] at hq
  | convert s d x =>
    rw [ho] at hc; simp only at hc
    obtain ⟨q, hq, hc⟩ := opt_map_some hc
    simp only [Prod.mk.injEq] at hc
    obtain ⟨rfl, rfl⟩ := hc
    unfold convC at hq
    split at hq <;> simp at hq
  | makeFunc fn first cap => rw [ho] at hc; cases fn <;> simp at hc
  | makeMap t r => rw [ho] at hc; simp only at hc; split at hc <;> simp at hc
  | makeSlice t l c =>
    rw [ho] at hc; simp only at hc
    split at hc
    · obtain ⟨_, hc⟩ := ite_some hc
      obtain ⟨z, _, hc⟩ := opt_bind_some hc
      obtain ⟨es, _, hc⟩ := opt_bind_some hc
      obtain ⟨_, hc⟩ := ite_some hc
      simp at hc
    · cases hc
  | slice t x lo hi mx =>
    rw [ho] at hc; simp only at hc
    split at hc
    · cases mx <;> simp at hc
    · obtain ⟨es, _, hc⟩ := opt_bind_some hc
      obtain ⟨_, hc⟩ := ite_some hc
      simp at hc
    · cases hc
  | fieldAddr t x i =>
    rw [ho] at hc; simp only at hc
    obtain ⟨_, _, hc⟩ := opt_bind_some hc
    obtain ⟨_, _, hc⟩ := opt_bind_some hc
    obtain ⟨_, _, hc⟩ := opt_bind_some hc
    obtain ⟨_, hc⟩ := ite_some hc
    simp at hc
  | field t x i =>
    rw [ho] at hc; simp only at hc
    obtain ⟨_, _, hc⟩ := opt_bind_some hc
    obtain ⟨_, _, hc⟩ := opt_bind_some hc
    obtain ⟨k, _, hc⟩ := opt_bind_some hc
    cases k
    · simp at hc
    · simp only [if_true] at hc; obtain ⟨_, _, hc⟩ := opt_map_some hc; simp at hc
  | indexAddr t x j =>
    rw [ho] at hc; simp only at hc
    split at hc
    · obtain ⟨_, _, hc⟩ := opt_map_some hc; simp at hc
    · obtain ⟨_, _, hc⟩ := opt_map_some hc; simp at hc
    · cases hc
  | index t x j =>
    rw [ho] at hc; simp only at hc
    split at hc
    · simp at hc
    · obtain ⟨_, _, hc⟩ := opt_bind_some hc
      obtain ⟨k, _, hc⟩ := opt_map_some hc
      cases k <;> simp at hc
    · cases hc
  | mapUpdate t m k v =>
    rw [ho] at hc; simp only at hc
    cases hd : P.underlying t with
    | none => rw [hd] at hc; cases hc
    | some d =>
      rw [hd] at hc
      cases d <;> simp only [reduceCtorEq] at hc
      obtain ⟨kk, hkk, hc⟩ := opt_map_some hc
      simp only [Prod.mk.injEq, AOp.e.injEq] at hc
      obtain ⟨rfl, rfl⟩ := hc
      exact .inr (.inl ⟨t, _, _, m, k, v, kk, .inl rfl, rfl, hd, hkk, rfl⟩)
  | insert t m k v =>
    rw [ho] at hc; simp only at hc
    cases hd : P.underlying t with
    | none => rw [hd] at hc; cases hc
    | some d =>
      rw [hd] at hc
      cases d <;> simp only [reduceCtorEq] at hc
      obtain ⟨kk, hkk, hc⟩ := opt_map_some hc
      simp only [Prod.mk.injEq, AOp.e.injEq] at hc
      obtain ⟨rfl, rfl⟩ := hc
      exact .inr (.inl ⟨t, _, _, m, k, v, kk, .inr rfl, rfl, hd, hkk, rfl⟩)
  | extract x n => rw [ho] at hc; simp at hc
  | call c =>
    rw [ho] at hc; simp only at hc
    cases hcal : c.callee with
    | value f => rw [hcal] at hc; simp at hc
    | invoke r m => rw [hcal] at hc; simp at hc
    | builtin b =>
      rw [hcal] at hc; simp only at hc
      obtain ⟨q, hq, hc⟩ := opt_map_some hc
      simp only [Prod.mk.injEq] at hc
      obtain ⟨rfl, rfl⟩ := hc
      exact .inr (.inr ⟨c, b, rfl, hcal, rfl, hq⟩)
  | _ => rw [ho] at hc; simp at hc
/-- What makes memory, all kinds. -/
theorem alloc_sound {o : Oper} {r : LOp} {xs : List Operand} (hc : opC P o = some (.l r, xs)) {e : Operand → Value} {as : List AV} {q : AO × Mk} (ha : VRs ρ as (xs.map e)) (hv : evalL r as = some q) : Makes P good ρ w (execOp e o) q.1 q.2 := by
  unfold opC at hc
  cases ho : o.op with
  | load t x =>
    rw [ho] at hc; simp only at hc
    obtain ⟨k, hk, hc⟩ := opt_bind_some hc
    cases k with
    | true => simp only [if_true] at hc; obtain ⟨n, hn, hc⟩ := opt_map_some hc; simp at hc
    | false => simp at hc
  | lookup t x k ok =>
    rw [ho] at hc; simp only at hc
    cases hd : P.underlying t with
    | none => rw [hd] at hc; cases hc
    | some d =>
      rw [hd] at hc
      cases d <;> simp only [reduceCtorEq] at hc
      obtain ⟨kk, hkk, hc⟩ := opt_bind_some hc
      obtain ⟨z, hz, hc⟩ := opt_map_some hc
      simp at hc
  | move x => rw [ho] at hc; simp at hc
  | assign x => rw [ho] at hc; simp at hc
  | pick c a b => rw [ho] at hc; simp at hc
  | alloc t =>
    rw [ho] at hc; simp only at hc
    obtain ⟨z, hz, hc⟩ := opt_map_some hc
    simp only [Prod.mk.injEq, AOp.l.injEq] at hc
    obtain ⟨rfl, rfl⟩ := hc
    have has : as = [] := by
      cases as with
      | nil => rfl
      | cons a l => simp only [List.map_nil, VRs, reduceCtorEq] at ha; obtain ⟨_, _, h1, _⟩ := ha; cases h1
    subst has
    simp only [evalL, lAlloc, Option.some.injEq] at hv; subst hv
    exact alloc_makes ho hz e
  | box t x =>
    rw [ho] at hc
    simp only [Option.some.injEq, Prod.mk.injEq, AOp.l.injEq] at hc
    obtain ⟨rfl, rfl⟩ := hc
    obtain ⟨a, rfl, hx⟩ := vrs_single ha
    simp only [evalL, lBox] at hv
    obtain ⟨c, hcc, hv⟩ := opt_map_some hv
    subst hv
    exact box_makes ho hx hcc
  | build t ps =>
    rw [ho] at hc; simp only at hc
    obtain ⟨_, hc⟩ := ite_some hc
    obtain ⟨_, _, hc⟩ := opt_bind_some hc
    obtain ⟨_, _, hc⟩ := opt_map_some hc
    simp at hc
  | buildSlice t n ps =>
    rw [ho] at hc; simp only at hc
    cases hd : P.underlying t with
    | none => rw [hd] at hc; cases hc
    | some d =>
      rw [hd] at hc
      cases d <;> simp only [reduceCtorEq] at hc
      obtain ⟨z, hz, hc⟩ := opt_bind_some hc
      obtain ⟨es, hes, hc⟩ := opt_bind_some hc
      obtain ⟨hb, hc⟩ := ite_some hc
      simp only [Option.some.injEq, Prod.mk.injEq, AOp.l.injEq] at hc
      obtain ⟨rfl, rfl⟩ := hc
      rw [Bool.and_eq_true] at hb
      exact bslice_makes ho hd hz hes (Nat.le_of_ble_eq_true hb.1) (Nat.le_of_ble_eq_true hb.2) ha hv
  | store t a x => rw [ho] at hc; simp only at hc; obtain ⟨n, _, hc⟩ := opt_map_some hc; simp at hc
  | nilCheck x => rw [ho] at hc; simp at hc
  | binOp op t x y y' =>
    rw [ho] at hc; simp only at hc
    obtain ⟨q, hq, hc⟩ := opt_map_some hc
    simp only [Prod.mk.injEq] at hc
    obtain ⟨rfl, rfl⟩ := hc
    unfold binC at hq
    split at hq <;> (try (simp at hq; done))
    all_goals (split at hq <;> simp at hq)
  | unOp op t x =>
    rw [ho] at hc; simp only at hc
    obtain ⟨q, hq, hc⟩ := opt_map_some hc
    simp only [Prod.mk.injEq] at hc
    obtain ⟨rfl, rfl⟩ := hc
    cases op <;> simp [unC] at hq
  | convert s d x =>
    rw [ho] at hc; simp only at hc
    obtain ⟨q, hq, hc⟩ := opt_map_some hc
    simp only [Prod.mk.injEq] at hc
    obtain ⟨rfl, rfl⟩ := hc
    unfold convC at hq
    split at hq <;> simp at hq
  | makeFunc fn first cap => rw [ho] at hc; cases fn <;> simp at hc
  | makeMap t r =>
    rw [ho] at hc; simp only at hc
    cases hd : P.underlying t with
    | none => rw [hd] at hc; cases hc
    | some d =>
      rw [hd] at hc
      cases d <;> simp only [reduceCtorEq, Option.some.injEq, Prod.mk.injEq, AOp.l.injEq] at hc
      obtain ⟨rfl, rfl⟩ := hc
      exact map_makes ho hd ha hv
  | makeSlice t l c =>
    rw [ho] at hc; simp only at hc
    cases hd : P.underlying t with
    | none => rw [hd] at hc; cases hc
    | some d =>
      rw [hd] at hc
      cases d <;> simp only [reduceCtorEq] at hc
      obtain ⟨hsm, hc⟩ := ite_some hc
      obtain ⟨z, hz, hc⟩ := opt_bind_some hc
      obtain ⟨es, hes, hc⟩ := opt_bind_some hc
      obtain ⟨hb, hc⟩ := ite_some hc
      simp only [Option.some.injEq, Prod.mk.injEq, AOp.l.injEq] at hc
      obtain ⟨rfl, rfl⟩ := hc
      exact mkSlice_makes ho hd hsm hz hes (Nat.le_of_ble_eq_true hb) ha hv
  | slice t x lo hi mx =>
    rw [ho] at hc; simp only at hc
    split at hc
    · cases mx <;> simp at hc
    · obtain ⟨es, _, hc⟩ := opt_bind_some hc
      obtain ⟨_, hc⟩ := ite_some hc
      simp at hc
    · cases hc
  | fieldAddr t x i =>
    rw [ho] at hc; simp only at hc
    obtain ⟨_, _, hc⟩ := opt_bind_some hc
    obtain ⟨_, _, hc⟩ := opt_bind_some hc
    obtain ⟨_, _, hc⟩ := opt_bind_some hc
    obtain ⟨_, hc⟩ := ite_some hc
    simp at hc
  | field t x i =>
    rw [ho] at hc; simp only at hc
    obtain ⟨_, _, hc⟩ := opt_bind_some hc
    obtain ⟨_, _, hc⟩ := opt_bind_some hc
    obtain ⟨k, _, hc⟩ := opt_bind_some hc
    cases k
    · simp at hc
    · simp only [if_true] at hc; obtain ⟨_, _, hc⟩ := opt_map_some hc; simp at hc
  | indexAddr t x j =>
    rw [ho] at hc; simp only at hc
    split at hc
    · obtain ⟨_, _, hc⟩ := opt_map_some hc; simp at hc
    · obtain ⟨_, _, hc⟩ := opt_map_some hc; simp at hc
    · cases hc
  | index t x j =>
    rw [ho] at hc; simp only at hc
    split at hc
    · simp at hc
    · obtain ⟨_, _, hc⟩ := opt_bind_some hc
      obtain ⟨k, _, hc⟩ := opt_map_some hc
      cases k <;> simp at hc
    · cases hc
  | mapUpdate t m k v' =>
    rw [ho] at hc; simp only at hc
    split at hc
    · obtain ⟨_, _, hc⟩ := opt_map_some hc; simp at hc
    · cases hc
  | insert t m k v' =>
    rw [ho] at hc; simp only at hc
    split at hc
    · obtain ⟨_, _, hc⟩ := opt_map_some hc; simp at hc
    · cases hc
  | extract x n => rw [ho] at hc; simp at hc
  | call c =>
    rw [ho] at hc; simp only at hc
    cases hcal : c.callee with
    | value f => rw [hcal] at hc; simp at hc
    | invoke r m => rw [hcal] at hc; simp at hc
    | builtin b =>
      rw [hcal] at hc; simp only at hc
      obtain ⟨q, hq, hc⟩ := opt_map_some hc
      simp only [Prod.mk.injEq] at hc
      obtain ⟨rfl, rfl⟩ := hc
      exact (notL_builtin hq).elim
  | _ => rw [ho] at hc; simp at hc
end
end Go.Ai
