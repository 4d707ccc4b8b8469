/- An interpreter on abstract values: every operation that looks at no memory does in the model what it does here (the rest, and all of them). -/
import Derived.Test.YtdiflgnboedogaaGreatA11
namespace Go.Ai
section
variable {P : Program} {ρ : Rho}

theorem nat_i {k : IntKind} {m : Nat} {v : Value} (h : VR ρ (.i k (.ofNat m)) v) : v = .int k (m : Int) := vr_i h

theorem sliceStr_sound {t : TypeId} {x : Operand} {lo hi : Option Operand} {o : Oper} (ho : o.op = .slice t x lo hi none) (hd : P.underlying t = some .string) {e : Operand → Value} {as : List AV} {v : AV}
    (ha : VRs ρ as ((x :: app (optL lo) (optL hi)).map e)) (hv : pSliceStr lo.isSome hi.isSome as = some v) (w : World) : ∃ v', (execOp e o).run P w = .ok (.value v') w ∧ VR ρ v v' := by
  unfold pSliceStr at hv
  split at hv <;> (try (simp only [reduceCtorEq] at hv))
  rename_i l vs
  obtain ⟨⟨a, b, c⟩, h1, h2⟩ := opt_map_some hv
  simp only [List.map_cons] at ha
  obtain ⟨y, ys, e1, hx, hr⟩ := vrs_cons ha
  rw [List.cons.injEq] at e1
  obtain ⟨rfl, rfl⟩ := e1
  obtain ⟨bs, hb, rfl⟩ := vr_s hx
  rw [bytes_len] at h1
  obtain ⟨m, h3, h4, h5, _⟩ := bounds_sound (P := P) (mx := none) false (Nat.le_refl bs.size) h1 (by simpa [optL, app_eq] using hr) w
  subst h2
  refine ⟨.string (bs.extract a b), ?_, mk_s _ (extract_bytes bs a b)⟩
  simp only [execOp, ho]
  refine run_v ?_
  rw [hb]
  simp only [Option.map_none] at h3
  simp only [Instr.sliceAt, Instr.slice, Sem.run_bind, run_underlying hd, Result.andThen_ok, Option.map_none, Option.isSome_none, Bool.false_eq_true, if_false, h3]
  rfl

theorem slice_sound {t el : TypeId} {x : Operand} {lo hi mx : Option Operand} {o : Oper} (ho : o.op = .slice t x lo hi mx) (hd : P.underlying t = some (.slice el)) {es : Nat} (hes : sizeT P el = some es) {e : Operand → Value} {as : List AV} {v : AV}
    (ha : VRs ρ as ((x :: app (optL lo) (app (optL hi) (optL mx))).map e)) (hv : pSlice es lo.isSome hi.isSome mx.isSome as = some v) (w : World) : ∃ v', (execOp e o).run P w = .ok (.value v') w ∧ VR ρ v v' := by
  unfold pSlice at hv
  split at hv <;> (try (simp only [reduceCtorEq] at hv))
  · rename_i ob off n es' full vs
    obtain ⟨he, hv⟩ := ite_some hv
    have he' := Nat.eq_of_beq_eq_true he
    subst he'
    obtain ⟨⟨a, b, c⟩, h1, h2⟩ := opt_map_some hv
    simp only [List.map_cons] at ha
    obtain ⟨y, ys, e1, hx, hr⟩ := vrs_cons ha
    rw [List.cons.injEq] at e1
    obtain ⟨rfl, rfl⟩ := e1
    have hab : a ≤ b ∧ b ≤ n := by
      obtain ⟨_, _, h4, h5, _⟩ := bounds_sound (P := P) true (Nat.le_refl n) h1 hr w
      exact ⟨h4, h5⟩
    obtain ⟨ad, cap, hb, hcap, hval⟩ := slice_value (a := a) (b := b) (c := c) hx hab.1
    obtain ⟨m, h3, h4, h5, h6, h7, h8, h9⟩ := bounds_sound (P := P) true hcap h1 hr w
    subst h2
    refine ⟨_, ?_, hval m h6 h7 h8 h9⟩
    simp only [execOp, ho]
    refine run_v ?_
    rw [hb]
    simp only [Instr.sliceAt, Instr.slice, Sem.run_bind, run_underlying hd, Result.andThen_ok, h3, run_sizeOf' hes]
    rfl
  · rename_i vs
    obtain ⟨⟨a, b, c⟩, h1, h2⟩ := opt_map_some hv
    simp only [List.map_cons] at ha
    obtain ⟨y, ys, e1, hx, hr⟩ := vrs_cons ha
    rw [List.cons.injEq] at e1
    obtain ⟨rfl, rfl⟩ := e1
    obtain ⟨m, h3, h4, h5, h6, h7, h8, h9⟩ := bounds_sound (P := P) true (Nat.le_refl 0) h1 hr w
    subst h2
    have hx' : e x = .slice none 0 0 := by simpa [VR] using hx
    refine ⟨.slice none 0 0, ?_, by simp [VR]⟩
    simp only [execOp, ho]
    refine run_v ?_
    rw [hx']
    simp only [Instr.sliceAt, Instr.slice, Sem.run_bind, run_underlying hd, Result.andThen_ok, h3, run_sizeOf' hes]
    have hb0 : b = 0 := by omega
    have ha0 : a = 0 := by omega
    have hm0 : m = 0 := by omega
    subst hb0; subst ha0; subst hm0
    rfl

theorem fldAddr_sound {t : TypeId} {x : Operand} {i : Nat} {o : Oper} {fs : Array Field} {f : Field} {n : Nat} (ho : o.op = .fieldAddr t x i) (hd : P.underlying t = some (.struct fs)) (hf : fs[i]? = some f) (hn : sizeT P f.type = some n) (h0 : 0 < n)
    {e : Operand → Value} {as : List AV} {v : AV} (ha : VRs ρ as [e x]) (hv : pFldAddr f.offset as = some v) (w : World) : ∃ v', (execOp e o).run P w = .ok (.value v') w ∧ VR ρ v v' := by
  obtain ⟨a, rfl, hx⟩ := vrs_single ha
  unfold pFldAddr at hv
  split at hv <;> simp only [Option.some.injEq, reduceCtorEq] at hv
  rename_i ob off hc; simp only [List.cons.injEq, and_true] at hc; subst hc; subst hv
  simp only [VR] at hx
  obtain ⟨L, h1, h2⟩ := hx
  refine ⟨.pointer (some ⟨L.blk, L.off + off + f.offset, none⟩), ?_, ?_⟩
  · simp only [execOp, ho]
    refine run_v ?_
    rw [h2]
    have hne : ¬ n = 0 := by omega
    simp only [Instr.fieldAt, Sem.run_bind, run_underlying hd, Result.andThen_ok, hf, Instr.sureAddr, pure_bind, fieldPlace, run_sizeOf' hn, hne, if_false, Sem.run_pure, add_addr]
  · simp only [VR]
    exact ⟨L, h1, by rw [Nat.add_assoc]⟩
theorem fld_sound {t : TypeId} {x : Operand} {i : Nat} {o : Oper} {fs : Array Field} {f : Field} {n : Nat} (ho : o.op = .field t x i) (hd : P.underlying t = some (.struct fs)) (hf : fs[i]? = some f) (hn : aggT P f.type = true → sizeT P f.type = some n) (hfd : ∃ d, P.underlying f.type = some d)
    {e : Operand → Value} {as : List AV} {v : AV} (ha : VRs ρ as [e x]) (hv : (if aggT P f.type then pFldN f.offset n else pFld1 f.offset) as = some v) (w : World) : ∃ v', (execOp e o).run P w = .ok (.value v') w ∧ VR ρ v v' := by
  obtain ⟨a, rfl, hx⟩ := vrs_single ha
  have core : ∀ l r, a = .agg l → (∀ xs : Array Value, VRs ρ l xs.toList → (∀ y ∈ xs.toList, y.oneCell' = true) → ∃ v', (part f.type xs f.offset).run P w = .ok v' w ∧ VR ρ r v') → ∃ v', (execOp e o).run P w = .ok (.value v') w ∧ VR ρ r v' := by
    rintro l r rfl hp
    simp only [VR] at hx
    obtain ⟨xs, hxs, h1, h2⟩ := hx
    obtain ⟨v', h3, h4⟩ := hp xs h1 h2
    refine ⟨v', ?_, h4⟩
    simp only [execOp, ho]
    refine run_v ?_
    rw [hxs]
    simp only [Instr.field, Sem.run_bind, run_underlying hd, Result.andThen_ok, hf, asAgg, pure_bind]
    exact h3
  by_cases hagg : aggT P f.type = true
  · rw [if_pos hagg] at hv
    unfold pFldN at hv
    split at hv <;> (try (simp only [reduceCtorEq] at hv))
    rename_i l hc
    simp only [List.cons.injEq, and_true] at hc
    obtain ⟨hb, hv⟩ := ite_some hv
    simp only [Option.some.injEq] at hv; subst hv
    exact core l _ hc fun xs h1 h2 => partN_sound w hagg (hn hagg) h1 h2
  · rw [if_neg hagg] at hv
    unfold pFld1 at hv
    split at hv <;> (try (simp only [reduceCtorEq] at hv))
    rename_i l hc
    simp only [List.cons.injEq, and_true] at hc
    obtain ⟨d, hfd⟩ := hfd
    exact core l _ hc fun xs h1 _ => part1_sound w hfd (by simpa using hagg) h1 hv

theorem idxAddrS_sound {t el : TypeId} {x j : Operand} {o : Oper} (ho : o.op = .indexAddr t x j) (hd : P.underlying t = some (.slice el)) {es : Nat} (hes : sizeT P el = some es)
    {e : Operand → Value} {as : List AV} {v : AV} (ha : VRs ρ as [e x, e j]) (hv : pIdxS es as = some v) (w : World) : ∃ v', (execOp e o).run P w = .ok (.value v') w ∧ VR ρ v v' := by
  obtain ⟨a, b, rfl, hx, hy⟩ := vrs_pair ha
  unfold pIdxS at hv
  split at hv <;> (try (simp only [reduceCtorEq] at hv))
  rename_i ob off n es' full k m hc
  simp only [List.cons.injEq, and_true] at hc; obtain ⟨rfl, rfl⟩ := hc
  obtain ⟨hb, hv⟩ := ite_some hv
  rw [Nat.blt_eq] at hb
  simp only [Option.some.injEq] at hv; subst hv
  simp only [VR] at hx
  obtain ⟨L, ad, cap, h1, h2, h3, h4, h5, _⟩ := hx
  rcases h5 with ⟨h5, h6⟩ | h5
  · refine ⟨.pointer (some (ad.add (m * es))), ?_, ?_⟩
    · simp only [execOp, ho]
      refine run_v ?_
      rw [h2, nat_i hy]
      have hbb : (0 : Int) ≤ (m : Int) ∧ (m : Int) < (n : Int) := ⟨Int.natCast_nonneg m, Int.ofNat_lt.2 hb⟩
      simp only [Instr.indexAt, asIntOf, pure_bind, Sem.run_bind, run_underlying hd, Result.andThen_ok]
      rw [if_pos hbb]
      simp only [Sem.run_bind, run_sizeOf' hes, Result.andThen_ok, Int.toNat_natCast, Sem.run_pure]
    · simp only [VR]
      exact ⟨L, h1, by rw [h5, add_addr, Nat.add_assoc]⟩
  · omega
theorem idxAddrA_sound {t el : TypeId} {n : Nat} {x j : Operand} {o : Oper} (ho : o.op = .indexAddr t x j) (hd : P.underlying t = some (.array n el)) {es : Nat} (hes : sizeT P el = some es)
    {e : Operand → Value} {as : List AV} {v : AV} (ha : VRs ρ as [e x, e j]) (hv : pIdxA n es as = some v) (w : World) : ∃ v', (execOp e o).run P w = .ok (.value v') w ∧ VR ρ v v' := by
  obtain ⟨a, b, rfl, hx, hy⟩ := vrs_pair ha
  unfold pIdxA at hv
  split at hv <;> (try (simp only [reduceCtorEq] at hv))
  rename_i ob off k m hc
  simp only [List.cons.injEq, and_true] at hc; obtain ⟨rfl, rfl⟩ := hc
  obtain ⟨hb, hv⟩ := ite_some hv
  rw [Nat.blt_eq] at hb
  simp only [Option.some.injEq] at hv; subst hv
  simp only [VR] at hx
  obtain ⟨L, h1, h2⟩ := hx
  refine ⟨.pointer (some ((⟨L.blk, L.off + off, none⟩ : Addr).add (m * es))), ?_, ?_⟩
  · simp only [execOp, ho]
    refine run_v ?_
    rw [h2, nat_i hy]
    have hbb : (0 : Int) ≤ (m : Int) ∧ (m : Int) < (n : Int) := ⟨Int.natCast_nonneg m, Int.ofNat_lt.2 hb⟩
    simp only [Instr.indexAt, asIntOf, pure_bind, Sem.run_bind, run_underlying hd, Result.andThen_ok, Instr.sureAddr]
    rw [if_pos hbb]
    simp only [Sem.run_bind, run_sizeOf' hes, Result.andThen_ok, Int.toNat_natCast, Sem.run_pure]
  · simp only [VR]
    exact ⟨L, h1, by rw [add_addr, Nat.add_assoc]⟩

theorem extract_sound {x : Operand} {n : Nat} {o : Oper} (ho : o.op = .extract x n) {e : Operand → Value} {as : List AV} {v : AV} (ha : VRs ρ as [e x]) (hv : pExtract n as = some v) (w : World) :
    ∃ v', (execOp e o).run P w = .ok (.value v') w ∧ VR ρ v v' := by
  obtain ⟨a, rfl, hx⟩ := vrs_single ha
  unfold pExtract at hv
  split at hv <;> (try (simp only [reduceCtorEq] at hv))
  rename_i l hc; simp only [List.cons.injEq, and_true] at hc; subst hc
  simp only [VR] at hx
  obtain ⟨xs, h1, h2⟩ := hx
  rw [nth_eq] at hv
  obtain ⟨y, h3, h4⟩ := h2.get hv
  refine ⟨y, ?_, h4⟩
  simp only [execOp, ho]
  refine run_v ?_
  rw [h1]
  have : xs[n]? = some y := by simpa using h3
  simp only [Instr.extract, this]; rfl
theorem mkFunc_sound {f : Nat} {first cap : Array Operand} {o : Oper} (ho : o.op = .makeFunc (.func f) first cap) {e : Operand → Value} {as : List AV} {v : AV} (ha : VRs ρ as ((app first.toList cap.toList).map e))
    (hv : pMkFunc (.func f) (len first.toList) as = some v) (w : World) : ∃ v', (execOp e o).run P w = .ok (.value v') w ∧ VR ρ v v' := by
  simp only [pMkFunc, Option.some.injEq] at hv; subst hv
  refine ⟨.func (.func f) (first.map e) (cap.map e), ?_, ?_⟩
  · simp only [execOp, ho]; exact run_v rfl
  · rw [app_eq, List.map_append] at ha
    simp only [VR]
    refine ⟨_, _, _, rfl, rfl, ?_, ?_⟩
    · rw [tak_eq, len_eq]
      have h1 := ha.take first.toList.length
      rw [List.take_left' (by simp)] at h1
      simpa using h1
    · rw [drp_eq, len_eq]
      have h1 := ha.drop first.toList.length
      rw [List.drop_left' (by simp)] at h1
      simpa using h1

/-! ### Built-in functions -/
theorem call_builtin {c : Call} {b : Builtin} {o : Oper} (ho : o.op = .call c) (hb : c.callee = .builtin b) (e : Operand → Value) :
    ∃ cs, execOp e o = builtin b c.argTypes o.type cs (c.args.map e) := by
  refine ⟨c.args.map fun | .const _ => true | _ => false, ?_⟩
  simp only [execOp, ho, resolve, hb, invoke, pure_bind]
  rfl
theorem args_two {c : Call} {x y : Value} {e : Operand → Value} (h : c.args.toList.map e = [x, y]) : c.args.map e = #[x, y] := by
  apply Array.ext'; simpa using h
theorem args_one {c : Call} {x : Value} {e : Operand → Value} (h : c.args.toList.map e = [x]) : c.args.map e = #[x] := by
  apply Array.ext'; simpa using h
theorem types_one {c : Call} {t : TypeId} (h : c.argTypes.toList = [t]) : c.argTypes = #[t] := by
  apply Array.ext'; simpa using h
theorem types_two {c : Call} {t u : TypeId} (h : c.argTypes.toList = [t, u]) : c.argTypes = #[t, u] := by
  apply Array.ext'; simpa using h

theorem max_sound {c : Call} {o : Oper} (ho : o.op = .call c) (hb : c.callee = .builtin .max) {e : Operand → Value} {as : List AV} {v : AV}
    (ha : VRs ρ as (c.args.toList.map e)) (hv : pMax as = some v) (w : World) : ∃ v', (execOp e o).run P w = .ok (.value v') w ∧ VR ρ v v' := by
  obtain ⟨cs, hc⟩ := call_builtin ho hb e
  rw [hc]
  unfold pMax at hv
  split at hv <;> simp only [Option.some.injEq, reduceCtorEq] at hv
  rename_i j a k b
  obtain ⟨x, y, e1, h1, h2⟩ := vrs_two ha
  rw [args_two e1, vr_i h1, vr_i h2]
  refine ⟨.int j (if b > a then b else a), ?_, ?_⟩
  · simp only [builtin]
    refine run_v ?_
    simp [Builtin.max_, Builtin.max2]
  · subst hv
    rw [ltI_eq]
    by_cases hc : a < b
    · rw [if_pos hc, decide_eq_true hc]; exact mk_i _ _
    · rw [if_neg hc, decide_eq_false hc]; exact mk_i _ _
theorem min_sound {c : Call} {o : Oper} (ho : o.op = .call c) (hb : c.callee = .builtin .min) {e : Operand → Value} {as : List AV} {v : AV}
    (ha : VRs ρ as (c.args.toList.map e)) (hv : pMin as = some v) (w : World) : ∃ v', (execOp e o).run P w = .ok (.value v') w ∧ VR ρ v v' := by
  obtain ⟨cs, hc⟩ := call_builtin ho hb e
  rw [hc]
  unfold pMin at hv
  split at hv <;> simp only [Option.some.injEq, reduceCtorEq] at hv
  rename_i j a k b
  obtain ⟨x, y, e1, h1, h2⟩ := vrs_two ha
  rw [args_two e1, vr_i h1, vr_i h2]
  refine ⟨.int j (if b < a then b else a), ?_, ?_⟩
  · simp only [builtin]
    refine run_v ?_
    simp [Builtin.min_, Builtin.min2]
  · subst hv
    rw [ltI_eq]
    by_cases hc : b < a
    · rw [if_pos hc, decide_eq_true hc]; exact mk_i _ _
    · rw [if_neg hc, decide_eq_false hc]; exact mk_i _ _
theorem len_sound {c : Call} {o : Oper} {t : TypeId} {p : POp} (ho : o.op = .call c) (hb : c.callee = .builtin .len) (ht : c.argTypes.toList = [t]) (hq : builtinC P .len [t] = some (.p p)) {e : Operand → Value} {as : List AV} {v : AV}
    (ha : VRs ρ as (c.args.toList.map e)) (hv : evalP p as = some v) (w : World) : ∃ v', (execOp e o).run P w = .ok (.value v') w ∧ VR ρ v v' := by
  obtain ⟨cs, hc⟩ := call_builtin ho hb e
  rw [hc, types_one ht]
  simp only [builtin]
  simp only [builtinC] at hq
  have const : ∀ n, p = .lenConst n → (∀ x, (Builtin.len_ #[t] o.type #[x]).run P w = .ok (goInt n) w) → ∃ v', (do pure (Next.value (← Builtin.len_ #[t] o.type (c.args.map e))) : Sem Next).run P w = .ok (.value v') w ∧ VR ρ v v' := by
    rintro n rfl hx
    simp only [evalP] at hv
    unfold pLenConst at hv
    split at hv <;> simp only [Option.some.injEq, reduceCtorEq] at hv
    obtain ⟨x, e1, h1⟩ := vrs_one ha
    rw [args_one e1]
    subst hv
    exact ⟨goInt n, run_v (hx x), mk_i _ _⟩
  cases hd : P.underlying t with
  | none => rw [hd] at hq; cases hq
  | some d =>
    rw [hd] at hq
    cases d <;> simp only [Option.some.injEq, reduceCtorEq, AOp.p.injEq] at hq
    case string =>
      subst hq
      simp only [evalP] at hv
      unfold pLenStr at hv
      split at hv <;> simp only [Option.some.injEq, reduceCtorEq] at hv
      obtain ⟨x, e1, h1⟩ := vrs_one ha
      obtain ⟨bs, rfl, rfl⟩ := vr_s h1
      rw [args_one e1]
      subst hv
      refine ⟨goInt bs.size, run_v ?_, by rw [bytes_len]; exact mk_i _ _⟩
      simp [Builtin.len_, run_underlying hd]
    case slice el =>
      subst hq
      simp only [evalP] at hv
      unfold pLen at hv
      split at hv <;> simp only [Option.some.injEq, reduceCtorEq] at hv
      · obtain ⟨x, e1, h1⟩ := vrs_one ha
        simp only [VR] at h1
        obtain ⟨L, a, cap, _, rfl, _⟩ := h1
        rw [args_one e1]
        subst hv
        refine ⟨_, run_v ?_, mk_i _ _⟩
        simp [Builtin.len_, run_underlying hd, goInt]
      · obtain ⟨x, e1, h1⟩ := vrs_one ha
        simp only [VR] at h1
        subst h1
        rw [args_one e1]
        subst hv
        refine ⟨_, run_v ?_, mk_i _ _⟩
        simp [Builtin.len_, run_underlying hd, goInt]
    case array n el =>
      exact const n hq.symm fun x => by simp [Builtin.len_, run_underlying hd]
    case pointer a =>
      cases ha' : P.underlying a with
      | none => rw [ha'] at hq; cases hq
      | some d' =>
        rw [ha'] at hq
        cases d' <;> simp only [Option.some.injEq, reduceCtorEq, AOp.p.injEq] at hq
        case array n el => exact const n hq.symm fun x => by simp [Builtin.len_, run_underlying hd, run_underlying ha']
end
end Go.Ai
