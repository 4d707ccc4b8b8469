/- An interpreter on abstract values: constants, parts and literals. -/
import Derived.Test.YtdiflgnboedogaaGreatA9
namespace Go.Ai
section
variable {P : Program} {ρ : Rho}

/-! ### Constants -/
theorem absLeaf_sound {v : Value} {a : AV} (h : absLeaf v = some a) : VR ρ a v ∧ v.oneCell' = true := by
  cases v with
  | bool b => simp only [absLeaf, Option.some.injEq] at h; subst h; exact ⟨mk_b _, rfl⟩
  | int k n => simp only [absLeaf, Option.some.injEq] at h; subst h; exact ⟨mk_i _ _, rfl⟩
  | string s => simp only [absLeaf, Option.some.injEq] at h; subst h; exact ⟨mk_s _ (by rw [mapl_eq]), rfl⟩
  | pointer p => cases p with
    | none => simp only [absLeaf, Option.some.injEq] at h; subst h; exact ⟨by simp [VR], rfl⟩
    | some x => simp [absLeaf] at h
  | slice p l c =>
    cases p with
    | some x => simp [absLeaf] at h
    | none =>
      cases l with
      | succ l => simp [absLeaf] at h
      | zero => cases c with
        | succ c => simp [absLeaf] at h
        | zero => simp only [absLeaf, Option.some.injEq] at h; subst h; exact ⟨by simp [VR], rfl⟩
  | map r => cases r with
    | none => simp only [absLeaf, Option.some.injEq] at h; subst h; exact ⟨by simp [VR], rfl⟩
    | some x => simp [absLeaf] at h
  | nilFunc => simp only [absLeaf, Option.some.injEq] at h; subst h; exact ⟨by simp [VR], rfl⟩
  | nilIface => simp only [absLeaf, Option.some.injEq] at h; subst h; exact ⟨by simp [VR], rfl⟩
  | float => simp [absLeaf] at h
  | complex => simp [absLeaf] at h
  | chan => simp [absLeaf] at h
  | func => simp [absLeaf] at h
  | iface => simp [absLeaf] at h
  | agg => simp [absLeaf] at h
  | tuple => simp [absLeaf] at h
theorem allSome_cons {α β : Type} (f : α → Option β) (a : α) (l : List α) : allSome f (a :: l) = (f a).bind fun b => (allSome f l).map (b :: ·) := rfl
theorem allSome_length {α β : Type} {f : α → Option β} : ∀ {l : List α} {m : List β}, allSome f l = some m → m.length = l.length
  | [], m, h => by simp [allSome] at h; subst h; rfl
  | a :: l, m, h => by
    rw [allSome_cons] at h
    cases hf : f a with
    | none => rw [hf] at h; cases h
    | some b =>
      rw [hf] at h; simp only [Option.bind_some] at h
      cases hl : allSome f l with
      | none => rw [hl] at h; cases h
      | some m' => rw [hl] at h; simp at h; subst h; simp [allSome_length hl]
theorem allSome_get {α β : Type} {f : α → Option β} : ∀ {l : List α} {m : List β}, allSome f l = some m → ∀ (j : Nat) (a : α), l[j]? = some a → ∃ b, f a = some b ∧ m[j]? = some b
  | [], m, _, j, a, e => by simp at e
  | x :: l, m, h, j, a, e => by
    rw [allSome_cons] at h
    cases hf : f x with
    | none => rw [hf] at h; cases h
    | some b =>
      rw [hf] at h; simp only [Option.bind_some] at h
      cases hl : allSome f l with
      | none => rw [hl] at h; cases h
      | some m' =>
        rw [hl] at h; simp at h; subst h
        cases j with
        | zero => simp at e; subst e; exact ⟨b, hf, rfl⟩
        | succ j => simp at e; obtain ⟨c, h1, h2⟩ := allSome_get hl j a e; exact ⟨c, h1, by simpa using h2⟩
theorem absLeafs_sound : ∀ {l : List Value} {m : List AV}, allSome absLeaf l = some m → VRs ρ m l ∧ ∀ x ∈ l, x.oneCell' = true
  | [], m, h => by simp [allSome] at h; subst h; exact ⟨by simp [VRs], by simp⟩
  | x :: l, m, h => by
    rw [allSome_cons] at h
    cases hf : absLeaf x with
    | none => rw [hf] at h; cases h
    | some b =>
      rw [hf] at h; simp only [Option.bind_some] at h
      cases hl : allSome absLeaf l with
      | none => rw [hl] at h; cases h
      | some m' =>
        rw [hl] at h; simp at h; subst h
        obtain ⟨h1, h2⟩ := absLeaf_sound (ρ := ρ) hf
        obtain ⟨h3, h4⟩ := absLeafs_sound hl
        exact ⟨by simp only [VRs]; exact ⟨x, l, rfl, h1, h3⟩, by simp only [List.mem_cons]; rintro y (rfl | hy); exact h2; exact h4 y hy⟩
theorem absV_sound {v : Value} {a : AV} (h : absV v = some a) : VR ρ a v := by
  cases v with
  | agg cs =>
    simp only [absV] at h
    cases hl : allSome absLeaf cs.toList with
    | none => rw [hl] at h; cases h
    | some m => rw [hl] at h; simp at h; subst h; obtain ⟨h1, h2⟩ := absLeafs_sound (ρ := ρ) hl; simp only [VR]; exact ⟨cs, rfl, h1, h2⟩
  | tuple cs =>
    simp only [absV] at h
    cases hl : allSome absLeaf cs.toList with
    | none => rw [hl] at h; cases h
    | some m => rw [hl] at h; simp at h; subst h; obtain ⟨h1, h2⟩ := absLeafs_sound (ρ := ρ) hl; simp only [VR]; exact ⟨cs, rfl, h1⟩
  | _ => simp only [absV] at h; exact (absLeaf_sound (ρ := ρ) h).1

theorem zeroT_sound {t : TypeId} {z : AV} (h : zeroT P t = some z) (w : World) : ∃ zv, (zeroValue t).run P w = .ok zv w ∧ VR ρ z zv := by
  unfold zeroT at h
  cases hi : P.info? t with
  | none => rw [hi] at h; cases h
  | some i =>
    rw [hi] at h; simp only [Option.bind_some] at h
    cases hz : i.zero with
    | none => rw [hz] at h; cases h
    | some zv => rw [hz] at h; simp only [Option.bind_some] at h; exact ⟨zv, by simp [zeroValue, typeInfo, hi, hz], absV_sound h⟩
theorem zeroC_sound {t : TypeId} {z : List AV} (h : zeroC P t = some z) (w : World) :
    ∃ zv, (zeroValue t).run P w = .ok zv w ∧ VRs ρ z zv.cells.toList ∧ (∀ x ∈ zv.cells.toList, x.oneCell' = true) ∧ sizeT P t = some z.length := by
  unfold zeroC at h
  cases hi : P.info? t with
  | none => rw [hi] at h; cases h
  | some i =>
    rw [hi] at h; simp only [Option.bind_some] at h
    cases hz : i.zero with
    | none => rw [hz] at h; cases h
    | some zv =>
      rw [hz] at h; simp only [Option.bind_some] at h
      cases ha : absV zv with
      | none => rw [ha] at h; cases h
      | some a =>
        rw [ha] at h; simp only [Option.bind_some] at h
        cases hc : a.cells with
        | none => rw [hc] at h; cases h
        | some c =>
          rw [hc] at h; simp only [Option.bind_some] at h
          by_cases hn : Nat.beq (len c) i.size = true
          · rw [if_pos hn, Option.some.injEq] at h; subst h
            obtain ⟨h1, h2⟩ := (absV_sound (ρ := ρ) ha).cells hc
            refine ⟨zv, by simp [zeroValue, typeInfo, hi, hz], h1, h2, ?_⟩
            have := Nat.eq_of_beq_eq_true hn
            rw [len_eq] at this
            simp [sizeT, hi, this]
          · rw [if_neg hn] at h; cases h

/-! ### Parts -/
theorem extract_toList (xs : Array Value) (a b : Nat) : (xs.extract a b).toList = (xs.toList.drop a).take (b - a) := by
  simp [List.extract_eq_take_drop]
theorem partN_sound {t : TypeId} {l : List AV} {xs : Array Value} {off n : Nat} (w : World) (ht : aggT P t = true) (hn : sizeT P t = some n) (hl : VRs ρ l xs.toList) (h1 : ∀ x ∈ xs.toList, x.oneCell' = true) :
    ∃ v', (part t xs off).run P w = .ok v' w ∧ VR ρ (.agg (tak (drp l off) n)) v' := by
  obtain ⟨d, hd⟩ := aggT_some ht
  refine ⟨.agg (xs.extract off (off + n)), ?_, ?_⟩
  · simp only [part, Sem.run_bind, run_isAgg' hd, ht, Result.andThen_ok, if_true, run_sizeOf' hn, Sem.run_pure]
  · simp only [VR]
    refine ⟨_, rfl, ?_, ?_⟩
    · rw [extract_toList, tak_eq, drp_eq, Nat.add_sub_cancel_left]
      exact (hl.drop off).take n
    · rw [extract_toList]
      exact fun x hx => h1 x (List.mem_of_mem_drop (List.mem_of_mem_take hx))
theorem part1_sound {t : TypeId} {l : List AV} {xs : Array Value} {off : Nat} {a : AV} (w : World) {d : TypeDesc} (hd : P.underlying t = some d) (ht : aggT P t = false) (hl : VRs ρ l xs.toList) (ha : nth l off = some a) :
    ∃ v', (part t xs off).run P w = .ok v' w ∧ VR ρ a v' := by
  rw [nth_eq] at ha
  obtain ⟨x, hx, hv⟩ := hl.get ha
  refine ⟨x, ?_, hv⟩
  simp only [part, Sem.run_bind, run_isAgg' hd, ht, Result.andThen_ok, Bool.false_eq_true, if_false]
  have : xs[off]? = some x := by simpa using hx
  rw [this]; rfl
theorem add_addr (b off k : Nat) : (⟨b, off, none⟩ : Addr).add k = ⟨b, off + k, none⟩ := by
  unfold Addr.add
  by_cases h : k = 0
  · rw [if_pos h, h]; rfl
  · rw [if_neg h]
theorem fieldsT_some {t : TypeId} {fs : List Field} (h : fieldsT P t = some fs) : ∃ a : Array Field, P.underlying t = some (.struct a) ∧ a.toList = fs := by
  unfold fieldsT at h
  split at h
  · rename_i a ha; simp at h; exact ⟨a, ha, h⟩
  · cases h
theorem field_at {a : Array Field} {i : Nat} {f : Field} (h : nth a.toList i = some f) : a[i]? = some f := by
  rw [nth_eq] at h; simpa using h

/-! ### Literals -/
theorem places_run (l : List Field) (h : l.all (fun f => (P.info? f.type).isSome) = true) (w : World) :
    (l.mapM (fun f => do pure (f.offset, ← sizeOf f.type) : Field → Sem (Nat × Nat))).run P w = .ok (l.map fun f => (f.offset, (sizeT P f.type).getD 0)) w := by
  induction l with
  | nil => simp
  | cons f l ih =>
    simp only [List.all_cons, Bool.and_eq_true] at h
    obtain ⟨i, hi⟩ := Option.isSome_iff_exists.1 h.1
    have hs : sizeT P f.type = some i.size := by simp [sizeT, hi]
    simp only [List.mapM_cons, Sem.run_bind, run_sizeOf' hs, Result.andThen_ok, Sem.run_pure, ih h.2, List.map_cons, hs, Option.getD_some]
theorem build_sound {t : TypeId} {ps : Array (Nat × Operand)} {z : List AV} {pl : List (Nat × Nat)} {as : List AV} {v : AV} {e : Operand → Value} (ht : partsT P t = true) (hz : zeroC P t = some z)
    (hpl : allSome (fun q : Nat × Operand => placeT P t q.1) ps.toList = some pl)
    (ha : VRs ρ as ((mapl (·.2) ps.toList).map e)) (hv : pBuild z pl as = some v) (w : World) :
    ∃ v', (Instr.build t (ps.map fun (i, x) => (i, e x))).run P w = .ok v' w ∧ VR ρ v v' := by
  obtain ⟨zv, hz1, hz2, hz3, _⟩ := zeroC_sound (ρ := ρ) hz w
  unfold pBuild at hv
  cases hf : fillA z pl as with
  | none => rw [hf] at hv; cases hv
  | some c =>
    rw [hf] at hv; simp only [Option.map_some, Option.some.injEq] at hv; subst hv
    have hlen : ((ps.map fun (i, x) => (i, e x)).toList).length = pl.length := by simp [allSome_length hpl]
    have hvals : VRs ρ as (((ps.map fun (i, x) => (i, e x)).toList).map (·.2)) := by
      rw [mapl_eq, List.map_map] at ha
      simpa [Function.comp_def] using ha
    have go : ∀ (place : Nat → Option (Nat × Nat)), (∀ i q, placeT P t i = some q → place i = some q) → ∃ cells', Instr.fill place zv.cells (ps.map fun (i, x) => (i, e x)).toList = some cells' ∧ VRs ρ c cells'.toList ∧ (∀ x ∈ cells'.toList, x.oneCell' = true) := by
      intro place hp
      refine fill_sound hlen (fun j q hq => ?_) hvals hz2 hz3 hf
      simp only [Array.toList_map, List.getElem?_map, Option.map_eq_some_iff] at hq
      obtain ⟨q0, h1, rfl⟩ := hq
      obtain ⟨b, h2, h3⟩ := allSome_get hpl j q0 h1
      rw [h3]; exact hp _ _ h2
    unfold partsT at ht
    cases hd : P.underlying t with
    | none => rw [hd] at ht; cases ht
    | some d =>
      rw [hd] at ht
      cases d <;> simp only [Bool.false_eq_true] at ht
      case struct fs =>
        obtain ⟨cells', h1, h2, h3⟩ := go ((fs.toList.map fun f => (f.offset, (sizeT P f.type).getD 0)).toArray[·]?) (fun i q hq => by
          simp only [placeT, hd] at hq
          cases hi : nth fs.toList i with
          | none => rw [hi] at hq; cases hq
          | some f =>
            rw [hi] at hq; simp only [Option.bind_some] at hq
            cases hs : sizeT P f.type with
            | none => rw [hs] at hq; cases hq
            | some n =>
              rw [hs] at hq; simp only [Option.map_some, Option.some.injEq] at hq; subst hq
              rw [nth_eq] at hi
              simp only [List.getElem?_toArray, List.getElem?_map, hi, Option.map_some, hs, Option.getD_some])
        refine ⟨.agg cells', ?_, by simp only [VR]; exact ⟨cells', rfl, h2, h3⟩⟩
        simp only [Instr.build, Sem.run_bind, hz1, Result.andThen_ok, run_underlying hd, Array.mapM_eq_mapM_toList, Sem.run_map, places_run fs.toList ht w]
        rw [h1]; rfl
      case array n el =>
        obtain ⟨i, hi⟩ := Option.isSome_iff_exists.1 ht
        have hs : sizeT P el = some i.size := by simp [sizeT, hi]
        obtain ⟨cells', h1, h2, h3⟩ := go (fun j => some (j * i.size, i.size)) (fun j q hq => by
          simp only [placeT, hd, hs, Option.map_some, Option.some.injEq] at hq
          rw [← hq])
        refine ⟨.agg cells', ?_, by simp only [VR]; exact ⟨cells', rfl, h2, h3⟩⟩
        simp only [Instr.build, Sem.run_bind, hz1, Result.andThen_ok, run_underlying hd, run_sizeOf' hs]
        rw [h1]; rfl
end
end Go.Ai
