/- An interpreter on abstract values: its reads, held against the model's. -/
import Derived.Test.YtdiflgnboedogaaGreatA13
namespace Go.Ai
section
variable {P : Program} {good : Nat → Code → Prop} {ρ : Rho} {h : Hp} {w : World}

theorem row_cell {L : Loc} {fz : Bool} {cs : List AV} (ho : OR P good ρ L w (.row fz cs)) {j : Nat} {a : AV} (hj : cs[j]? = some a) :
    ∃ x, w.cell? ⟨L.blk, L.off + j, none⟩ = some x ∧ VR ρ a x ∧ x.oneCell' = true := by
  obtain ⟨arr, elem, fr, h1, h2, _, _, h5, _⟩ := ho
  obtain ⟨x, hx, hv⟩ := h2 j a hj
  refine ⟨x, ?_, hv, h5 x ?_⟩
  · simp [World.cell?, h1, hx]
  · exact List.mem_of_getElem? (by simpa using hx)
theorem row_cells {L : Loc} {fz : Bool} {cs : List AV} (ho : OR P good ρ L w (.row fz cs)) {off n : Nat} (hn : off + n ≤ cs.length) :
    ∃ xs : List Value, xs.length = n ∧ VRs ρ ((cs.drop off).take n) xs ∧ (∀ x ∈ xs, x.oneCell' = true) ∧ ∀ j v, xs[j]? = some v → w.cell? ((⟨L.blk, L.off + off, none⟩ : Addr).add j) = some v := by
  obtain ⟨arr, elem, fr, h1, h2, h3, h4, h5, _⟩ := ho
  refine ⟨(arr.toList.drop (L.off + off)).take n, by simp; omega, ?_, ?_, ?_⟩
  · refine VRs.of_get (by simp; omega) fun j a hj => ?_
    rw [List.getElem?_take] at hj
    split at hj
    · rename_i hjn
      rw [List.getElem?_drop] at hj
      obtain ⟨x, hx, hv⟩ := h2 _ _ hj
      refine ⟨x, ?_, hv⟩
      rw [List.getElem?_take, if_pos hjn, List.getElem?_drop, Nat.add_assoc]
      simpa using hx
    · cases hj
  · exact fun x hx => h5 x (List.mem_of_mem_drop (List.mem_of_mem_take hx))
  · intro j v hj
    rw [List.getElem?_take] at hj
    split at hj
    · rw [List.getElem?_drop] at hj
      rw [add_addr]
      simp only [World.cell?, h1]
      simpa using hj
    · cases hj
theorem run_loadN {a : Addr} {xs : List Value} (hx : ∀ j v, xs[j]? = some v → w.cell? (a.add j) = some v) : (loadCells a xs.length).run P w = .ok xs.toArray w :=
  run_loadCells_list (P := P) w a xs hx

theorem load_sound (hr : HR P good ρ h w) {t : TypeId} {x : Operand} {o : Oper} (ho : o.op = .load t x) {k : Bool} (hk : kindT P t = some k) {n : Nat} (hn : k = true → sizeT P t = some n) {e : Operand → Value} {as : List AV} {v : AV}
    (ha : VRs ρ as [e x]) (hv : (if k then rLoadN n h as else rLoad1 h as) = some v) : ∃ v', (execOp e o).run P w = .ok (.value v') w ∧ VR ρ v v' := by
  obtain ⟨a, rfl, hx⟩ := vrs_single ha
  obtain ⟨d, hd, hk⟩ := opt_map_some hk
  cases k with
  | true =>
    simp only [if_true] at hv
    unfold rLoadN at hv
    split at hv <;> (try (simp only [reduceCtorEq] at hv))
    rename_i ob off hc; simp only [List.cons.injEq, and_true] at hc; subst hc
    split at hv <;> (try (simp only [reduceCtorEq] at hv))
    rename_i fz cs hg
    obtain ⟨hb, hv⟩ := ite_some hv
    have hb := Nat.le_of_ble_eq_true hb
    rw [len_eq] at hb
    simp only [Option.some.injEq] at hv; subst hv
    simp only [VR] at hx
    obtain ⟨L, h1, h2⟩ := hx
    obtain ⟨xs, h3, h4, h5, h6⟩ := row_cells (hr.obj _ _ _ h1 hg) hb
    refine ⟨.agg xs.toArray, ?_, ?_⟩
    · simp only [execOp, ho]
      refine run_v ?_
      rw [h2]
      have hl := run_loadN (P := P) h6
      rw [h3] at hl
      simp only [Instr.loadAt, Instr.sureAddr, pure_bind, loadVar, Sem.run_bind, run_isAgg' hd, hk, Result.andThen_ok, if_true, run_sizeOf' (hn rfl), hl, Sem.run_pure]
    · simp only [VR, tak_eq, drp_eq]
      exact ⟨_, rfl, by simpa using h4, by simpa using h5⟩
  | false =>
    simp only [Bool.false_eq_true, if_false] at hv
    unfold rLoad1 at hv
    split at hv <;> (try (simp only [reduceCtorEq] at hv))
    rename_i ob off hc; simp only [List.cons.injEq, and_true] at hc; subst hc
    split at hv <;> (try (simp only [reduceCtorEq] at hv))
    rename_i fz cs hg
    simp only [VR] at hx
    obtain ⟨L, h1, h2⟩ := hx
    rw [nth_eq] at hv
    obtain ⟨y, h3, h4, _⟩ := row_cell (hr.obj _ _ _ h1 hg) hv
    refine ⟨y, ?_, h4⟩
    simp only [execOp, ho]
    refine run_v ?_
    rw [h2]
    simp only [Instr.loadAt, Instr.sureAddr, pure_bind, loadVar, Sem.run_bind, run_isAgg' hd, hk, Result.andThen_ok, Bool.false_eq_true, if_false, run_load, h3]

/-! ### Maps -/
def KK.fits : KK → TypeDesc → Bool
  | .b, .bool | .i, .int _ | .s, .string => true
  | _, _ => false
theorem keyT_some {t : TypeId} {kk : KK} (hk : keyT P t = some kk) : ∃ d, P.underlying t = some d ∧ kk.fits d = true := by
  unfold keyT at hk
  cases hd : P.underlying t with
  | none => rw [hd] at hk; cases hk
  | some d => rw [hd] at hk; cases d <;> simp only [Option.some.injEq, reduceCtorEq] at hk <;> subst hk <;> exact ⟨_, rfl, rfl⟩
theorem key_sound {kk : KK} {x y : AV} {a b : Value} {r : Bool} {d : TypeDesc} (hf : kk.fits d = true) (hx : VR ρ x a) (hy : VR ρ y b) (hq : eqKey kk x y = some r) : Instr.sameNow d a b = some r := by
  cases kk <;> cases d <;> simp only [KK.fits, Bool.false_eq_true] at hf <;> cases x <;> cases y <;> simp only [eqKey, reduceCtorEq] at hq
  case b.bool.b.b => rw [vr_b hx, vr_b hy]; simp only [Instr.sameNow, hq]
  case i.int.i.i =>
    obtain ⟨rfl, hq⟩ := ite_some hq
    rw [vr_i hx, vr_i hy]
    simp only at hq
    simp only [Instr.sameNow, if_true, ← hq, eqI_eq]
  case s.string.s.s =>
    obtain ⟨p, rfl, rfl⟩ := vr_s hx
    obtain ⟨q, rfl, rfl⟩ := vr_s hy
    rw [Option.some.injEq] at hq
    simp only [Instr.sameNow, ← hq, eqL_eq]
    rw [beq_toListBytes, eq_bytes]
theorem checkKey_ok {kk : KK} {t : TypeId} {d : TypeDesc} (hd : P.underlying t = some d) (hf : kk.fits d = true) (b : Bool) (n : Nat) (v : Value) : (Instr.checkKey b (n + 1) t v).run P w = .ok () w := by
  cases kk <;> cases d <;> simp only [KK.fits, Bool.false_eq_true] at hf <;> simp [Instr.checkKey, run_underlying hd]
theorem find_sound {kk : KK} {d : TypeDesc} (hf : kk.fits d = true) {k : AV} {kv : Value} (hk : VR ρ k kv) : ∀ {l : List (AV × AV)} {es : List MapEntry} {r : Option AV} (i : Nat), MRs ρ l es → findA kk k l = some r →
    match r with
    | none => Instr.findNow d kv es i = some none
    | some v => ∃ j x, Instr.findNow d kv es i = some (some (j, x)) ∧ VR ρ v x
  | [], es, r, i, hm, hq => by
    simp only [MRs] at hm; subst hm
    simp only [findA, Option.some.injEq] at hq; subst hq
    rfl
  | (a, v) :: l, es, r, i, hm, hq => by
    simp only [MRs] at hm
    obtain ⟨en, rest, rfl, h1, h2, h3⟩ := hm
    simp only [findA] at hq
    cases hkey : eqKey kk k a with
    | none => rw [hkey] at hq; cases hq
    | some b =>
      have hs := key_sound hf hk h1 hkey
      cases b with
      | true =>
        rw [hkey] at hq; simp only [Option.some.injEq] at hq; subst hq
        exact ⟨i, en.val, by simp only [Instr.findNow, hs], h2⟩
      | false =>
        rw [hkey] at hq
        have := find_sound hf hk (i + 1) h3 hq
        cases r with
        | none => simp only [Instr.findNow, hs]; exact this
        | some v' => obtain ⟨j, x, h4, h5⟩ := this; exact ⟨j, x, by simp only [Instr.findNow, hs]; exact h4, h5⟩
theorem eqKey_apart {kk : KK} {k a b : AV} (h : eqKey kk k a = some true) (hne : a ≠ b) (hs : sameKind a b = true) : eqKey kk k b = some false := by
  cases kk <;> cases k <;> cases a <;> simp only [eqKey, reduceCtorEq] at h <;> cases b <;> simp only [sameKind, Bool.false_eq_true] at hs
  case b.b.b.b x y z =>
    simp only [eqKey, Option.some.injEq] at h ⊢
    cases x <;> cases y <;> cases z <;> simp at h hne ⊢
  case i.i.i.i j m k n l q =>
    simp only [eqKey] at h ⊢
    by_cases hjk : j = k
    · subst hjk
      have hkl : j = l := by simpa using hs
      subst hkl
      rw [if_pos rfl] at h ⊢
      rw [Option.some.injEq, eqI_eq] at h ⊢
      have hmn : m = n := by simpa using h
      subst hmn
      cases hq : (m == q) with
      | false => rfl
      | true => exact (hne (by rw [eq_of_beq hq])).elim
    · rw [if_neg hjk] at h; cases h
  case s.s.s.s x y z =>
    simp only [eqKey, Option.some.injEq, eqL_eq] at h ⊢
    have hxy : x = y := by simpa using h
    subst hxy
    cases hq : decide (x = z) with
    | false => rfl
    | true => exact (hne (by rw [of_decide_eq_true hq])).elim
theorem eqKey_true_eq {kk : KK} {k a : AV} (h : eqKey kk k a = some true) : k = a := by
  cases kk <;> cases k <;> cases a <;> simp only [eqKey, reduceCtorEq] at h
  case b.b.b x y => simp only [Option.some.injEq, beq_iff_eq] at h; rw [h]
  case i.i.i j m k n =>
    by_cases hjk : j = k
    · subst hjk
      rw [if_pos rfl, Option.some.injEq, eqI_eq] at h
      have : m = n := by simpa using h
      rw [this]
    · rw [if_neg hjk] at h; cases h
  case s.s.s x y =>
    rw [Option.some.injEq, eqL_eq] at h
    rw [of_decide_eq_true h]
theorem findA_perm {kk : KK} {k : AV} {l l' : List (AV × AV)} (hp : l.Perm l') : UKeys l → ∀ r, findA kk k l = some r → findA kk k l' = some r := by
  induction hp with
  | nil => exact fun _ _ h => h
  | @cons p l l' _ ih =>
    intro hu r h
    obtain ⟨a, x⟩ := p
    simp only [findA] at h ⊢
    split at h
    · exact h
    · exact ih (List.pairwise_cons.1 hu).2 r h
    · cases h
  | @swap p q l =>
    intro hu r h
    obtain ⟨a, x⟩ := p
    obtain ⟨b, y⟩ := q
    have hab := (List.pairwise_cons.1 hu).1 (a, x) (by simp)
    simp only [findA] at h ⊢
    cases hb : eqKey kk k b with
    | none => rw [hb] at h; cases h
    | some v =>
      rw [hb] at h
      cases v with
      | true =>
        rw [eqKey_apart hb hab.1 hab.2]
        exact h
      | false =>
        simp only at h ⊢
        cases ha : eqKey kk k a with
        | none => rw [ha] at h; cases h
        | some u =>
          rw [ha] at h
          cases u with
          | true => exact h
          | false => exact h
  | trans h1 _ ih1 ih2 => exact fun hu r h => ih2 (hu.perm h1) r (ih1 hu r h)
theorem lookup_sound (hr : HR P good ρ h w) {t kt el : TypeId} {x k : Operand} {ok : Bool} {o : Oper} (ho : o.op = .lookup t x k ok) (hd : P.underlying t = some (.map kt el)) {kk : KK} (hkk : keyT P kt = some kk) {z : AV} (hz : zeroT P el = some z)
    {e : Operand → Value} {as : List AV} {v : AV} (ha : VRs ρ as [e x, e k]) (hv : rLookup kk z ok h as = some v) : ∃ v', (execOp e o).run P w = .ok (.value v') w ∧ VR ρ v v' := by
  obtain ⟨a, b, rfl, hx, hy⟩ := vrs_pair ha
  obtain ⟨kd, hkd, hkf⟩ := keyT_some hkk
  obtain ⟨zv, hz1, hz2⟩ := zeroT_sound (ρ := ρ) hz w
  have fin : ∀ (es : List MapEntry) (l : List (AV × AV)) (r : Option AV), (e x = .map none ∧ es = []) ∨ (∃ m clock, e x = .map (some m) ∧ w.heap[m]? = some (.map es.toArray clock)) → MRs ρ l es → findA kk b l = some r →
      ∃ v', (execOp e o).run P w = .ok (.value v') w ∧ VR ρ (match r with | some v => if ok then .tup [v, .b true] else v | none => if ok then .tup [z, .b false] else z) v' := by
    intro es l r hget hm hfind
    have hfs := find_sound hkf hy 0 hm hfind
    have hck : (Instr.checkKey es.toArray.isEmpty 10000 kt (e k)).run P w = .ok () w := checkKey_ok hkd hkf _ 9999 _
    have hexec : ∀ (vv : Value) (okv : Bool), (match r with | some v => ∃ j, Instr.findNow kd (e k) es 0 = some (some (j, vv)) ∧ okv = true | none => Instr.findNow kd (e k) es 0 = some none ∧ vv = zv ∧ okv = false) →
        (execOp e o).run P w = .ok (.value (if ok then .tuple #[vv, .bool okv] else vv)) w := by
      intro vv okv hcase
      simp only [execOp, ho]
      refine run_v ?_
      have hfk : ∀ q, Instr.findNow kd (e k) es 0 = some q → (Instr.findKey kt (e k) es).run P w = .ok q w := fun q hq => by
        simp only [Instr.findKey, Sem.run_bind, run_underlying hkd, Result.andThen_ok, hq, Sem.run_pure]
      have hrest : ∀ q, Instr.findNow kd (e k) es 0 = some q → (q = none ∧ vv = zv ∧ okv = false ∨ ∃ j, q = some (j, vv) ∧ okv = true) → (Instr.lookup t (e x) (e k) ok).run P w = .ok (if ok then .tuple #[vv, .bool okv] else vv) w := by
        intro q hq hcs
        have h1 := hfk q hq
        simp only [Instr.lookup, Sem.run_bind, run_underlying hd, Result.andThen_ok]
        rcases hget with ⟨he, rfl⟩ | ⟨m, clock, he, hh⟩
        · rw [he]
          simp only [pure_bind, Sem.run_bind, Result.andThen_ok, hck]
          rw [h1]
          rcases hcs with ⟨rfl, rfl, rfl⟩ | ⟨j, rfl, rfl⟩
          · simp [hz1]
          · simp
        · rw [he]
          have hobj : (getObj m).run P w = .ok (.map es.toArray clock) w := by simp only [getObj, Sem.run, hh]
          simp only [Sem.run_bind, hobj, Result.andThen_ok, pure_bind, hck]
          rw [h1]
          rcases hcs with ⟨rfl, rfl, rfl⟩ | ⟨j, rfl, rfl⟩
          · simp [hz1]
          · simp
      cases r with
      | some v0 =>
        obtain ⟨j, h1, rfl⟩ := hcase
        exact hrest _ h1 (.inr ⟨j, rfl, rfl⟩)
      | none =>
        obtain ⟨h1, rfl, rfl⟩ := hcase
        exact hrest _ h1 (.inl ⟨rfl, rfl, rfl⟩)
    cases r with
    | none =>
      refine ⟨_, hexec zv false ⟨hfs, rfl, rfl⟩, ?_⟩
      cases ok with
      | true => simp only [if_true, VR, VRs]; exact ⟨_, rfl, _, _, rfl, hz2, _, _, rfl, rfl, rfl⟩
      | false => simpa using hz2
    | some v0 =>
      obtain ⟨j, xv, h1, h2⟩ := hfs
      refine ⟨_, hexec xv true ⟨j, h1, rfl⟩, ?_⟩
      cases ok with
      | true => simp only [if_true, VR, VRs]; exact ⟨_, rfl, _, _, rfl, h2, _, _, rfl, rfl, rfl⟩
      | false => simpa using h2
  unfold rLookup at hv
  split at hv <;> (try (simp only [reduceCtorEq] at hv))
  · rename_i hc; simp only [List.cons.injEq, and_true] at hc
    obtain ⟨rfl, rfl⟩ := hc
    simp only [VR] at hx
    have := fin [] [] none (.inl ⟨hx, rfl⟩) (by simp [MRs]) rfl
    simp only [Option.some.injEq] at hv; subst hv
    exact this
  · rename_i ob kx hc; simp only [List.cons.injEq, and_true] at hc
    obtain ⟨rfl, rfl⟩ := hc
    split at hv <;> (try (simp only [reduceCtorEq] at hv))
    rename_i es hg
    obtain ⟨r, h1, h2⟩ := opt_map_some hv
    simp only [VR] at hx
    obtain ⟨L, hL, hx⟩ := hx
    obtain ⟨ents, clock, es', h3, h4, h5, h6⟩ := hr.obj _ _ _ hL hg
    have := fin ents.toList es' r (.inr ⟨L.blk, clock, hx, by simpa using h3⟩) h4 (findA_perm h5.symm h6 r h1)
    rw [← h2]
    exact this
end
end Go.Ai
