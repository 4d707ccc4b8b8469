/- An interpreter on abstract values: every operation that looks at no memory does in the model what it does here (all of them). -/
import Derived.Test.YtdiflgnboedogaaGreatA12
namespace Go.Ai
section
variable {P : Program} {ρ : Rho}

theorem move_sound {x : Operand} {o : Oper} (ho : o.op = .move x ∨ o.op = .assign x) {e : Operand → Value} {as : List AV} {v : AV} (ha : VRs ρ as [e x]) (hv : pMov as = some v) (w : World) :
    ∃ v', (execOp e o).run P w = .ok (.value v') w ∧ VR ρ v v' := by
  obtain ⟨a, rfl, hx⟩ := vrs_single ha
  simp only [pMov, Option.some.injEq] at hv; subst hv
  rcases ho with ho | ho <;> exact ⟨e x, by simp only [execOp, ho, Sem.run_pure], hx⟩
theorem pick_sound {c a b : Operand} {o : Oper} (ho : o.op = .pick c a b) {e : Operand → Value} {as : List AV} {v : AV} (ha : VRs ρ as [e c, e a, e b]) (hv : pPick as = some v) (w : World) :
    ∃ v', (execOp e o).run P w = .ok (.value v') w ∧ VR ρ v v' := by
  unfold pPick at hv
  split at hv <;> simp only [Option.some.injEq, reduceCtorEq] at hv
  obtain ⟨x, y, z, e1, h1, h2, h3⟩ := vrs_three ha
  simp only [List.cons.injEq, and_true] at e1
  obtain ⟨rfl, rfl, rfl⟩ := e1
  subst hv
  have hb := vr_b h1
  rename_i q _ _
  cases q with
  | true => exact ⟨e a, by simp only [execOp, ho, hb, asBool, Sem.run_bind, Sem.run_pure, Result.andThen_ok, if_true], h2⟩
  | false => exact ⟨e b, by simp only [execOp, ho, hb, asBool, Sem.run_bind, Sem.run_pure, Result.andThen_ok, Bool.false_eq_true, if_false], h3⟩
theorem build_exec {t : TypeId} {ps : Array (Nat × Operand)} {o : Oper} (ho : o.op = .build t ps) {e : Operand → Value} {v' : Value} {w : World} (h : (Instr.build t (ps.map fun (i, x) => (i, e x))).run P w = .ok v' w) :
    (execOp e o).run P w = .ok (.value v') w := by
  simp only [execOp, ho]
  exact run_v h

theorem notP_builtin {b : Builtin} {ts : List TypeId} {p : POp} (h1 : b ≠ .len) (h2 : b ≠ .max) (h3 : b ≠ .min) (h : builtinC P b ts = some (.p p)) : False := by
  unfold builtinC at h
  split at h
  · exact h1 rfl
  · exact h2 rfl
  · exact h3 rfl
  · split at h
    · obtain ⟨_, h⟩ := ite_some h
      obtain ⟨_, _, h⟩ := opt_bind_some h
      obtain ⟨_, _, h⟩ := opt_bind_some h
      obtain ⟨_, h⟩ := ite_some h
      simp at h
    · cases h
  · split at h
    · obtain ⟨_, _, h⟩ := opt_bind_some h
      obtain ⟨_, h⟩ := ite_some h
      simp at h
    · cases h
  · split at h
    · obtain ⟨_, _, h⟩ := opt_map_some h; simp at h
    · cases h
  · cases h

theorem pure_sound {o : Oper} {p : POp} {xs : List Operand} (hc : opC P o = some (.p p, xs)) {e : Operand → Value} {as : List AV} {v : AV} (ha : VRs ρ as (xs.map e)) (hv : evalP p as = some v) (w : World) :
    ∃ v', (execOp e o).run P w = .ok (.value v') w ∧ VR ρ v v' := by
  unfold opC at hc
  cases ho : o.op with
  | move x =>
    rw [ho] at hc; simp only [Option.some.injEq, Prod.mk.injEq, AOp.p.injEq] at hc
    obtain ⟨rfl, rfl⟩ := hc
    exact move_sound (.inl ho) ha hv w
  | assign x =>
    rw [ho] at hc; simp only [Option.some.injEq, Prod.mk.injEq, AOp.p.injEq] at hc
    obtain ⟨rfl, rfl⟩ := hc
    exact move_sound (.inr ho) ha hv w
  | pick c a b =>
    rw [ho] at hc; simp only [Option.some.injEq, Prod.mk.injEq, AOp.p.injEq] at hc
    obtain ⟨rfl, rfl⟩ := hc
    exact pick_sound ho ha hv w
  | build t ps =>
    rw [ho] at hc; simp only at hc
    obtain ⟨ht, hc⟩ := ite_some hc
    obtain ⟨z, hz, hc⟩ := opt_bind_some hc
    obtain ⟨pl, hpl, hc⟩ := opt_map_some hc
    simp only [Prod.mk.injEq, AOp.p.injEq] at hc
    obtain ⟨rfl, rfl⟩ := hc
    obtain ⟨v', h1, h2⟩ := build_sound ht hz hpl ha hv w
    exact ⟨v', build_exec ho h1, h2⟩
  | nilCheck x =>
    rw [ho] at hc; simp only [Option.some.injEq, Prod.mk.injEq, AOp.p.injEq] at hc
    obtain ⟨rfl, rfl⟩ := hc
    exact nilCk_sound ho ha hv w
  | binOp op t x y y' =>
    rw [ho] at hc; simp only at hc
    obtain ⟨q, hq, hc⟩ := opt_map_some hc
    simp only [Prod.mk.injEq] at hc
    obtain ⟨rfl, rfl⟩ := hc
    exact binP_sound ho hq rfl ha hv w
  | unOp op t x =>
    rw [ho] at hc; simp only at hc
    obtain ⟨q, hq, hc⟩ := opt_map_some hc
    simp only [Prod.mk.injEq] at hc
    obtain ⟨rfl, rfl⟩ := hc
    exact un_sound ho hq ha hv w
  | convert s d x =>
    rw [ho] at hc; simp only at hc
    obtain ⟨q, hq, hc⟩ := opt_map_some hc
    simp only [Prod.mk.injEq] at hc
    obtain ⟨rfl, rfl⟩ := hc
    exact conv_sound ho hq ha hv w
  | makeFunc fn first cap =>
    rw [ho] at hc
    cases fn <;> simp only [Option.some.injEq, Prod.mk.injEq, AOp.p.injEq, reduceCtorEq] at hc
    obtain ⟨rfl, rfl⟩ := hc
    exact mkFunc_sound ho ha hv w
  | slice t x lo hi mx =>
    rw [ho] at hc; simp only at hc
    cases hd : P.underlying t with
    | none => rw [hd] at hc; cases hc
    | some d =>
      rw [hd] at hc
      cases d <;> simp only [reduceCtorEq] at hc
      case string =>
        cases mx <;> simp only [Option.some.injEq, Prod.mk.injEq, AOp.p.injEq, reduceCtorEq] at hc
        obtain ⟨rfl, rfl⟩ := hc
        exact sliceStr_sound ho hd ha hv w
      case slice el =>
        obtain ⟨es, hes, hc⟩ := opt_bind_some hc
        obtain ⟨_, hc⟩ := ite_some hc
        simp only [Option.some.injEq, Prod.mk.injEq, AOp.p.injEq] at hc
        obtain ⟨rfl, rfl⟩ := hc
        exact slice_sound ho hd hes ha hv w
  | fieldAddr t x i =>
    rw [ho] at hc; simp only at hc
    obtain ⟨fs, hfs, hc⟩ := opt_bind_some hc
    obtain ⟨f, hf, hc⟩ := opt_bind_some hc
    obtain ⟨n, hn, hc⟩ := opt_bind_some hc
    obtain ⟨h0, hc⟩ := ite_some hc
    simp only [Option.some.injEq, Prod.mk.injEq, AOp.p.injEq] at hc
    obtain ⟨rfl, rfl⟩ := hc
    obtain ⟨a, hd, rfl⟩ := fieldsT_some hfs
    rw [Nat.blt_eq] at h0
    exact fldAddr_sound ho hd (field_at hf) hn h0 ha hv w
  | field t x i =>
    rw [ho] at hc; simp only at hc
    obtain ⟨fs, hfs, hc⟩ := opt_bind_some hc
    obtain ⟨f, hf, hc⟩ := opt_bind_some hc
    obtain ⟨k, hk, hc⟩ := opt_bind_some hc
    obtain ⟨a, hd, ha'⟩ := fieldsT_some hfs
    rw [← ha'] at hf
    obtain ⟨d, hfd, hk⟩ := opt_map_some hk
    cases k with
    | true =>
      simp only [if_true] at hc
      obtain ⟨n, hn, hc⟩ := opt_map_some hc
      simp only [Prod.mk.injEq, AOp.p.injEq] at hc
      obtain ⟨rfl, rfl⟩ := hc
      exact fld_sound ho hd (field_at hf) (fun _ => hn) ⟨d, hfd⟩ ha (by rw [if_pos hk]; exact hv) w
    | false =>
      simp only [Bool.false_eq_true, if_false, Option.some.injEq, Prod.mk.injEq, AOp.p.injEq] at hc
      obtain ⟨rfl, rfl⟩ := hc
      exact fld_sound (n := 0) ho hd (field_at hf) (fun h => by rw [hk] at h; cases h) ⟨d, hfd⟩ ha (by rw [if_neg (by rw [hk]; simp)]; exact hv) w
  | indexAddr t x j =>
    rw [ho] at hc; simp only at hc
    cases hd : P.underlying t with
    | none => rw [hd] at hc; cases hc
    | some d =>
      rw [hd] at hc
      cases d <;> simp only [reduceCtorEq] at hc
      case slice el =>
        obtain ⟨es, hes, hc⟩ := opt_map_some hc
        simp only [Prod.mk.injEq, AOp.p.injEq] at hc
        obtain ⟨rfl, rfl⟩ := hc
        exact idxAddrS_sound ho hd hes ha hv w
      case array n el =>
        obtain ⟨es, hes, hc⟩ := opt_map_some hc
        simp only [Prod.mk.injEq, AOp.p.injEq] at hc
        obtain ⟨rfl, rfl⟩ := hc
        exact idxAddrA_sound ho hd hes ha hv w
  | index t x j =>
    rw [ho] at hc; simp only at hc
    cases hd : P.underlying t with
    | none => rw [hd] at hc; cases hc
    | some d =>
      rw [hd] at hc
      cases d <;> simp only [reduceCtorEq] at hc
      case string =>
        simp only [Option.some.injEq, Prod.mk.injEq, AOp.p.injEq] at hc
        obtain ⟨rfl, rfl⟩ := hc
        exact str_idx_sound ho hd ha hv w
      case array n el =>
        obtain ⟨es, hes, hc⟩ := opt_bind_some hc
        obtain ⟨k, hk, hc⟩ := opt_map_some hc
        obtain ⟨d, hed, hk⟩ := opt_map_some hk
        cases k with
        | true =>
          simp only [if_true, Prod.mk.injEq, AOp.p.injEq] at hc
          obtain ⟨rfl, rfl⟩ := hc
          exact arr_idx_sound ho hd hes ha (by rw [if_pos hk]; exact hv) ⟨d, hed⟩ w
        | false =>
          simp only [Bool.false_eq_true, if_false, Prod.mk.injEq, AOp.p.injEq] at hc
          obtain ⟨rfl, rfl⟩ := hc
          exact arr_idx_sound ho hd hes ha (by rw [if_neg (by rw [hk]; simp)]; exact hv) ⟨d, hed⟩ w
  | extract x n =>
    rw [ho] at hc; simp only [Option.some.injEq, Prod.mk.injEq, AOp.p.injEq] at hc
    obtain ⟨rfl, rfl⟩ := hc
    exact extract_sound ho ha hv w
  | call c =>
    rw [ho] at hc; simp only at hc
    cases hcal : c.callee with
    | value f => rw [hcal] at hc; simp at hc
    | invoke r m => rw [hcal] at hc; simp at hc
    | builtin b =>
      rw [hcal] at hc; simp only at hc
      obtain ⟨q, hq, hc⟩ := opt_map_some hc
      simp only [Prod.mk.injEq] at hc
      obtain ⟨rfl, rfl⟩ := hc
      cases b
      case len =>
        match hts : c.argTypes.toList, hq with
        | [t], hq => exact len_sound ho hcal hts hq ha hv w
        | [], hq => simp [builtinC] at hq
        | _ :: _ :: _, hq => simp [builtinC] at hq
      case max =>
        match hts : c.argTypes.toList, hq with
        | [t, u], hq => simp only [builtinC, Option.some.injEq, AOp.p.injEq] at hq; subst hq; exact max_sound ho hcal ha hv w
        | [], hq => simp [builtinC] at hq
        | [_], hq => simp [builtinC] at hq
        | _ :: _ :: _ :: _, hq => simp [builtinC] at hq
      case min =>
        match hts : c.argTypes.toList, hq with
        | [t, u], hq => simp only [builtinC, Option.some.injEq, AOp.p.injEq] at hq; subst hq; exact min_sound ho hcal ha hv w
        | [], hq => simp [builtinC] at hq
        | [_], hq => simp [builtinC] at hq
        | _ :: _ :: _ :: _, hq => simp [builtinC] at hq
      all_goals (exfalso; exact notP_builtin (by simp) (by simp) (by simp) hq)
  | alloc t => rw [ho] at hc; simp only at hc; obtain ⟨z, _, hc⟩ := opt_map_some hc; simp at hc
  | box t x => rw [ho] at hc; simp at hc
  | buildSlice t n ps =>
    rw [ho] at hc; simp only at hc
    split at hc
    · obtain ⟨z, _, hc⟩ := opt_bind_some hc
      obtain ⟨es, _, hc⟩ := opt_bind_some hc
      obtain ⟨_, hc⟩ := ite_some hc
      simp at hc
    · cases hc
  | load t x =>
    rw [ho] at hc; simp only at hc
    obtain ⟨k, _, hc⟩ := opt_bind_some hc
    cases k
    · simp at hc
    · simp only [if_true] at hc; obtain ⟨n, _, hc⟩ := opt_map_some hc; simp at hc
  | store t a x => rw [ho] at hc; simp only at hc; obtain ⟨n, _, hc⟩ := opt_map_some hc; simp at hc
  | makeMap t r => rw [ho] at hc; simp only at hc; split at hc <;> simp at hc
  | makeSlice t l c =>
    rw [ho] at hc; simp only at hc
    split at hc
    · obtain ⟨_, hc⟩ := ite_some hc
      obtain ⟨z, _, hc⟩ := opt_bind_some hc
      obtain ⟨es, _, hc⟩ := opt_bind_some hc
      obtain ⟨_, hc⟩ := ite_some hc
      simp at hc
    · cases hc
  | lookup t x k ok =>
    rw [ho] at hc; simp only at hc
    split at hc
    · obtain ⟨_, _, hc⟩ := opt_bind_some hc
      obtain ⟨z, _, hc⟩ := opt_map_some hc
      simp at hc
    · cases hc
  | mapUpdate t m k v' =>
    rw [ho] at hc; simp only at hc
    split at hc
    · obtain ⟨_, _, hc⟩ := opt_map_some hc; simp at hc
    · cases hc
  | insert t m k v' =>
    rw [ho] at hc; simp only at hc
    split at hc
    · obtain ⟨_, _, hc⟩ := opt_map_some hc; simp at hc
    · cases hc
  | _ => rw [ho] at hc; simp at hc
end
end Go.Ai
