/- An interpreter on abstract values: every operation that looks at no memory does in the model what it does here. -/
import Derived.Test.YtdiflgnboedogaaGreatA10
namespace Go.Ai
section
variable {P : Program} {ρ : Rho}

theorem opt_map_some {α β : Type} {o : Option α} {f : α → β} {b : β} (h : o.map f = some b) : ∃ a, o = some a ∧ f a = b := by
  cases o with
  | none => cases h
  | some a => exact ⟨a, rfl, by simpa using h⟩
theorem opt_bind_some {α β : Type} {o : Option α} {f : α → Option β} {b : β} (h : o.bind f = some b) : ∃ a, o = some a ∧ f a = some b := by
  cases o with
  | none => cases h
  | some a => exact ⟨a, rfl, h⟩
theorem ite_some {α : Type} {c : Prop} [Decidable c] {x : Option α} {b : α} (h : (if c then x else none) = some b) : c ∧ x = some b := by
  by_cases hc : c
  · rw [if_pos hc] at h; exact ⟨hc, h⟩
  · rw [if_neg hc] at h; cases h

theorem nilCk_sound {x : Operand} {o : Oper} (ho : o.op = .nilCheck x) {e : Operand → Value} {as : List AV} {v : AV} (ha : VRs ρ as [e x]) (hv : pNilCk as = some v) (w : World) :
    ∃ v', (execOp e o).run P w = .ok (.value v') w ∧ VR ρ v v' := by
  unfold pNilCk at hv
  split at hv <;> simp only [Option.some.injEq, reduceCtorEq] at hv <;> subst hv
  · obtain ⟨y, e1, h⟩ := vrs_one ha
    rw [List.cons.injEq] at e1
    have hh := h
    simp only [VR] at h
    obtain ⟨L, _, h2⟩ := h
    rw [← e1.1] at h2 hh
    refine ⟨e x, ?_, hh⟩
    simp only [execOp, ho, h2]; rfl
  · rename_i fn fa fb
    obtain ⟨y, e1, h⟩ := vrs_one ha
    rw [List.cons.injEq] at e1
    have hh := h
    simp only [VR] at h
    obtain ⟨g, xs, ys, h2, h3, _⟩ := h
    rw [← e1.1] at h2 hh
    refine ⟨e x, ?_, hh⟩
    cases fn with
    | func f => subst h3; simp only [execOp, ho, h2]; rfl
    | yield l => obtain ⟨L, _, rfl⟩ := h3; simp only [execOp, ho, h2]; rfl

theorem vrs_pair {as : List AV} {a b : Value} (h : VRs ρ as [a, b]) : ∃ x y, as = [x, y] ∧ VR ρ x a ∧ VR ρ y b := by
  have hl := h.length
  match as, hl with
  | [x, y], _ =>
    obtain ⟨p, q, e1, h1, h2⟩ := vrs_two h
    simp only [List.cons.injEq, and_true] at e1
    obtain ⟨rfl, rfl⟩ := e1
    exact ⟨x, y, rfl, h1, h2⟩
theorem vrs_single {as : List AV} {a : Value} (h : VRs ρ as [a]) : ∃ x, as = [x] ∧ VR ρ x a := by
  have hl := h.length
  match as, hl with
  | [x], _ =>
    obtain ⟨p, e1, h1⟩ := vrs_one h
    simp only [List.cons.injEq, and_true] at e1
    subst e1
    exact ⟨x, rfl, h1⟩

theorem binOp_exec {op : BinOp} {t y' : TypeId} {x y : Operand} {o : Oper} (ho : o.op = .binOp op t x y y') {e : Operand → Value} {v' : Value} {w : World}
    (h : (do eqGuard op t x y (e x) (e y); binOp op t (e x) (e y) : Sem Value).run P w = .ok v' w) : (execOp e o).run P w = .ok (.value v') w := by
  simp only [execOp, ho]
  exact run_v h
theorem binP_sound {op : BinOp} {t y' : TypeId} {x y : Operand} {o : Oper} (ho : o.op = .binOp op t x y y') {q : AOp} {p : POp} (hq : binC P op t = some q) (hp : q = .p p) {e : Operand → Value} {as : List AV} {v : AV}
    (ha : VRs ρ as [e x, e y]) (hv : evalP p as = some v) (w : World) : ∃ v', (execOp e o).run P w = .ok (.value v') w ∧ VR ρ v v' := by
  obtain ⟨a, b, rfl, hx, hy⟩ := vrs_pair ha
  have bin : p = .bin op → ∃ v', (execOp e o).run P w = .ok (.value v') w ∧ VR ρ v v' := by
    intro hpb; subst hpb
    simp only [evalP, pBin] at hv
    obtain ⟨v', h1, h2⟩ := bin_sound (P := P) t x y hx hy hv w
    exact ⟨v', binOp_exec ho h1, h2⟩
  have hop : ∀ (hne : op = .eql ∨ op = .neq), ∃ neg, (op = .eql ∧ neg = false ∨ op = .neq ∧ neg = true) ∧ (match op with | .neq => true | _ => false) = neg := by
    rintro (rfl | rfl)
    · exact ⟨false, .inl ⟨rfl, rfl⟩, rfl⟩
    · exact ⟨true, .inr ⟨rfl, rfl⟩, rfl⟩
  have eqs : (op = .eql ∨ op = .neq) → ∃ v', (execOp e o).run P w = .ok (.value v') w ∧ VR ρ v v' := by
    intro hne
    obtain ⟨neg, hneg, hm⟩ := hop hne
    have hq' : (match P.underlying t with
      | some .bool => some (.p (.eqBool neg))
      | some (.int _) | some .string => some (.p (.bin op))
      | some (.pointer _) => some (.p (.eqNil .p neg))
      | some (.slice _) => some (.p (.eqNil .s neg))
      | some (.map _ _) => some (.p (.eqNil .m neg))
      | some (.func _ _ _) => some (.p (.eqNil .f neg))
      | _ => none) = some q := by rw [← hm]; rcases hne with rfl | rfl <;> exact hq
    cases hd : P.underlying t with
    | none => rw [hd] at hq'; cases hq'
    | some d =>
      rw [hd] at hq'
      have nil : ∀ k, p = .eqNil k neg → k.fits d = true → ∃ v', (execOp e o).run P w = .ok (.value v') w ∧ VR ρ v v' := by
        intro k hk hf; subst hk
        simp only [evalP, pEqNil] at hv
        obtain ⟨r, h1, h2⟩ := opt_map_some hv
        refine ⟨.bool (Bool.xor neg r), binOp_exec ho (eqNil_sound hd hf hx hy h1 x y hneg w), ?_⟩
        rw [← h2]; exact mk_b _
      cases d <;> simp only [Option.some.injEq, reduceCtorEq] at hq' <;> subst hq' <;> rw [AOp.p.injEq] at hp
      case bool =>
        subst hp
        simp only [evalP] at hv
        unfold pEqBool at hv
        split at hv
        · rename_i hcase
          rw [List.cons.injEq, List.cons.injEq] at hcase
          obtain ⟨rfl, rfl, _⟩ := hcase
          simp only [Option.some.injEq] at hv; subst hv
          refine ⟨_, binOp_exec ho ?_, mk_b _⟩
          rw [vr_b hx, vr_b hy]
          exact eqBool_sound t x y hneg hd w
        · cases hv
      case int => exact bin hp.symm
      case string => exact bin hp.symm
      case pointer => exact nil _ hp.symm rfl
      case slice => exact nil _ hp.symm rfl
      case map => exact nil _ hp.symm rfl
      case func => exact nil _ hp.symm rfl
  by_cases hne : op = .eql ∨ op = .neq
  · exact eqs hne
  · have : q = .p (.bin op) := by
      cases op <;> first | (exact absurd (.inl rfl) hne) | (exact absurd (.inr rfl) hne) | (simp only [binC, Option.some.injEq] at hq; exact hq.symm)
    rw [this, AOp.p.injEq] at hp
    exact bin hp.symm

theorem un_sound {op : UnOp} {t : TypeId} {x : Operand} {o : Oper} (ho : o.op = .unOp op t x) {p : POp} (hq : unC op = some (.p p)) {e : Operand → Value} {as : List AV} {v : AV}
    (ha : VRs ρ as [e x]) (hv : evalP p as = some v) (w : World) : ∃ v', (execOp e o).run P w = .ok (.value v') w ∧ VR ρ v v' := by
  obtain ⟨a, rfl, hx⟩ := vrs_single ha
  have fin : ∀ v', (Op.unary op (e x)).run P w = .ok v' w → (execOp e o).run P w = .ok (.value v') w := fun v' h => by simp only [execOp, ho]; exact run_v h
  cases op <;> simp only [unC, Option.some.injEq, AOp.p.injEq, reduceCtorEq] at hq <;> subst hq
  case not =>
    simp only [evalP, pNot] at hv
    split at hv <;> simp only [Option.some.injEq, reduceCtorEq] at hv
    rename_i hc; simp only [List.cons.injEq, and_true] at hc; subst hc; subst hv
    exact ⟨_, fin _ (by rw [vr_b hx]; rfl), mk_b _⟩
  case neg =>
    simp only [evalP, pNeg] at hv
    split at hv <;> simp only [Option.some.injEq, reduceCtorEq] at hv
    rename_i hc; simp only [List.cons.injEq, and_true] at hc; subst hc; subst hv
    exact ⟨_, fin _ (by rw [vr_i hx]; rfl), by rw [wrapA_eq]; exact mk_i _ _⟩
  case xor =>
    simp only [evalP, pCompl] at hv
    split at hv <;> (try (simp only [reduceCtorEq] at hv))
    rename_i hc; simp only [List.cons.injEq, and_true] at hc; subst hc
    obtain ⟨v', h1, h2⟩ := bits_sound (P := P) (ρ := ρ) hv w
    exact ⟨v', fin _ (by rw [vr_i hx]; exact h1), h2⟩
theorem conv_sound {s d : TypeId} {x : Operand} {o : Oper} (ho : o.op = .convert s d x) {p : POp} (hq : convC P s d = some (.p p)) {e : Operand → Value} {as : List AV} {v : AV}
    (ha : VRs ρ as [e x]) (hv : evalP p as = some v) (w : World) : ∃ v', (execOp e o).run P w = .ok (.value v') w ∧ VR ρ v v' := by
  obtain ⟨a, rfl, hx⟩ := vrs_single ha
  have fin : ∀ v', (convert s d (e x)).run P w = .ok v' w → (execOp e o).run P w = .ok (.value v') w := fun v' h => by simp only [execOp, ho]; exact run_v h
  unfold convC at hq
  cases hs : P.underlying s with
  | none => rw [hs] at hq; simp at hq
  | some S =>
    cases hd : P.underlying d with
    | none => rw [hs, hd] at hq; cases S <;> simp at hq
    | some D =>
      rw [hs, hd] at hq
      have ints : ∀ k k', S = .int k' → D = .int k → p = .conv k → ∃ v', (execOp e o).run P w = .ok (.value v') w ∧ VR ρ v v' := by
        rintro k k' rfl rfl rfl
        simp only [evalP, pConv] at hv
        split at hv <;> simp only [Option.some.injEq, reduceCtorEq] at hv
        rename_i hc; simp only [List.cons.injEq, and_true] at hc; subst hc; subst hv
        refine ⟨_, fin _ ?_, by rw [wrapA_eq]; exact mk_i _ _⟩
        rw [vr_i hx]
        simp only [convert, Sem.run_bind, run_underlying hs, run_underlying hd, Result.andThen_ok]; rfl
      have strs : S = .string → D = .string → p = .idconv → ∃ v', (execOp e o).run P w = .ok (.value v') w ∧ VR ρ v v' := by
        rintro rfl rfl rfl
        simp only [evalP, pIdStr] at hv
        split at hv <;> simp only [Option.some.injEq, reduceCtorEq] at hv
        rename_i hc; simp only [List.cons.injEq, and_true] at hc; subst hc; subst hv
        obtain ⟨bs, hb, hl⟩ := vr_s hx
        refine ⟨_, fin _ ?_, mk_s bs hl⟩
        rw [hb]
        simp only [convert, Sem.run_bind, run_underlying hs, run_underlying hd, Result.andThen_ok]; rfl
      cases S <;> cases D <;> simp only [reduceCtorEq, Option.some.injEq, AOp.p.injEq] at hq
      case int.int => exact ints _ _ rfl rfl hq.symm
      case string.string => exact strs rfl rfl hq.symm
theorem str_idx_sound {t : TypeId} {x j : Operand} {o : Oper} (ho : o.op = .index t x j) (hd : P.underlying t = some .string) {e : Operand → Value} {as : List AV} {v : AV}
    (ha : VRs ρ as [e x, e j]) (hv : pIdxStr as = some v) (w : World) : ∃ v', (execOp e o).run P w = .ok (.value v') w ∧ VR ρ v v' := by
  obtain ⟨a, b, rfl, hx, hy⟩ := vrs_pair ha
  unfold pIdxStr at hv
  split at hv <;> (try (simp only [reduceCtorEq] at hv))
  rename_i l k n hc
  simp only [List.cons.injEq, and_true] at hc; obtain ⟨rfl, rfl⟩ := hc
  obtain ⟨c, h1, h2⟩ := opt_map_some hv
  obtain ⟨bs, hb, rfl⟩ := vr_s hx
  rw [nth_eq, List.getElem?_map] at h1
  obtain ⟨u, h3, h4⟩ := opt_map_some h1
  have h5 : bs.data[n]? = some u := by simpa using h3
  subst h4; subst h2
  have hlt : n < bs.size := by
    have := (Array.getElem?_eq_some_iff.1 h5).1; exact this
  refine ⟨.int .u8 u.toNat, ?_, mk_i _ _⟩
  simp only [execOp, ho]
  refine run_v ?_
  rw [hb, vr_i hy]
  have h6 : bs[n]? = some u := by
    have h7 := Array.getElem?_eq_some_iff.1 h5
    obtain ⟨h8, h9⟩ := h7
    have : bs[n]? = some bs[n] := getElem?_pos bs n hlt
    rw [this]; congr 1
  have h10 : (0 : Int) ≤ Int.ofNat n := Int.natCast_nonneg n
  simp only [Instr.index, asIntOf, pure_bind, Sem.run_bind, run_underlying hd, Result.andThen_ok]
  rw [if_pos h10]
  have : (Int.ofNat n).toNat = n := rfl
  rw [this, h6]; rfl
theorem arr_idx_sound {t el : TypeId} {x j : Operand} {o : Oper} {n : Nat} (ho : o.op = .index t x j) (hd : P.underlying t = some (.array n el)) {es : Nat} (hes : sizeT P el = some es) {e : Operand → Value} {as : List AV} {v : AV}
    (ha : VRs ρ as [e x, e j]) (hv : (if aggT P el then pIdxArrN n es else pIdxArr1 n es) as = some v) (hel : ∃ d, P.underlying el = some d) (w : World) : ∃ v', (execOp e o).run P w = .ok (.value v') w ∧ VR ρ v v' := by
  obtain ⟨a, b, rfl, hx, hy⟩ := vrs_pair ha
  have core : ∀ (l : List AV) (k : IntKind) (m : Nat) (r : AV), a = .agg l → b = .i k (.ofNat m) → m < n → (∀ xs : Array Value, VRs ρ l xs.toList → (∀ y ∈ xs.toList, y.oneCell' = true) → ∃ v', (part el xs (m * es)).run P w = .ok v' w ∧ VR ρ r v') →
      ∃ v', (execOp e o).run P w = .ok (.value v') w ∧ VR ρ r v' := by
    rintro l k m r rfl rfl hm hp
    simp only [VR] at hx
    obtain ⟨xs, hxs, h1, h2⟩ := hx
    obtain ⟨v', h3, h4⟩ := hp xs h1 h2
    refine ⟨v', ?_, h4⟩
    simp only [execOp, ho]
    refine run_v ?_
    rw [hxs, vr_i hy]
    have h5 : (0 : Int) ≤ Int.ofNat m ∧ Int.ofNat m < (n : Int) := ⟨Int.natCast_nonneg m, Int.ofNat_lt.2 hm⟩
    simp only [Instr.index, asIntOf, pure_bind, Sem.run_bind, run_underlying hd, Result.andThen_ok]
    rw [if_pos h5]
    simp only [Sem.run_bind, run_sizeOf' hes, Result.andThen_ok]
    exact h3
  by_cases hagg : aggT P el = true
  · rw [if_pos hagg] at hv
    unfold pIdxArrN at hv
    split at hv <;> (try (simp only [reduceCtorEq] at hv))
    rename_i l k m hc
    simp only [List.cons.injEq, and_true] at hc
    obtain ⟨hb, hv⟩ := ite_some hv
    rw [Bool.and_eq_true] at hb
    simp only [Option.some.injEq] at hv; subst hv
    exact core l k m _ hc.1 hc.2 (by rw [Nat.blt_eq] at hb; exact hb.1) fun xs h1 h2 => partN_sound w hagg hes h1 h2
  · rw [if_neg hagg] at hv
    unfold pIdxArr1 at hv
    split at hv <;> (try (simp only [reduceCtorEq] at hv))
    rename_i l k m hc
    simp only [List.cons.injEq, and_true] at hc
    obtain ⟨hb, hv⟩ := ite_some hv
    obtain ⟨d, hel⟩ := hel
    exact core l k m _ hc.1 hc.2 (by rw [Nat.blt_eq] at hb; exact hb) fun xs h1 _ => part1_sound w hel (by simpa using hagg) h1 hv
end
end Go.Ai
