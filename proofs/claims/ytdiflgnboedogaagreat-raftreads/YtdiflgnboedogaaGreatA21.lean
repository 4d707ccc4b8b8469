/- An interpreter on abstract values: what writes, held against the model's. -/
import Derived.Test.YtdiflgnboedogaaGreatA20
import Derived.MapKept
namespace Go.Ai
section
variable {P : Program} {good : Nat → Code → Prop} {ρ : Rho} {h : Hp} {w : World}

theorem run_u {s : Sem Unit} {w' : World} (h : s.run P w = .ok () w') : ((do s; pure Next.skip) : Sem Next).run P w = .ok .skip w' := by
  simp [h]

theorem store_sound (hr : HR P good ρ h w) {t : TypeId} {a x : Operand} {n : Nat} {o : Oper} (ho : o.op = .store t a x) (hn : sizeT P t = some n) {e : Operand → Value} {as : List AV} {v : AV} {h' : Hp} (ha : VRs ρ as [e a, e x]) (hv : eStore n h as = some (v, h')) :
    ∃ w', (execOp e o).run P w = .ok .skip w' ∧ v = .u ∧ HR P good ρ h' w' ∧ Ext ρ h w ρ h' w' := by
  obtain ⟨p, y, rfl, hp, hy⟩ := vrs_pair ha
  unfold eStore at hv
  split at hv <;> (try (simp only [reduceCtorEq] at hv))
  rename_i ob off y' hc
  simp only [List.cons.injEq, and_true] at hc
  obtain ⟨rfl, rfl⟩ := hc
  split at hv <;> (try (simp only [reduceCtorEq] at hv))
  rename_i cs hg
  obtain ⟨vc, hvc, hv⟩ := opt_bind_some hv
  obtain ⟨hl, hv⟩ := ite_some hv
  have hl := Nat.eq_of_beq_eq_true hl
  rw [len_eq] at hl
  obtain ⟨c, hput, hv⟩ := opt_bind_some hv
  rw [Hp.updK_eq] at hv
  obtain ⟨rfl, rfl⟩ := Prod.mk.inj (Option.some.inj hv)
  simp only [VR] at hp
  obtain ⟨L, hL, hp⟩ := hp
  obtain ⟨h1, h2⟩ := hy.cells hvc
  obtain ⟨w', h3, h4, h5⟩ := hr.lay hL hg hput h1 h2
  refine ⟨w', ?_, rfl, h4, h5⟩
  simp only [execOp, ho]
  refine run_u ?_
  have hsz : (e x).cells.size = n := by have := h1.length; simp at this; omega
  rw [hp]
  simp only [Instr.storeAt, Instr.sureAddr, pure_bind, storeVar, Sem.run_bind, run_sizeOf' hn, Result.andThen_ok, hsz, ne_eq, not_true_eq_false, if_false]
  exact h3

/-- The first cells, fewer than there are. -/
theorem cellsOf_first (hr : HR P good ρ h w) {y : AV} {yv : Value} {es m : Nat} {new : List AV} (hy : VR ρ y yv) (hc : cellsOf es h y = some (m, new)) {k : Nat} (hk : k ≤ m) :
    ∃ b c vs, yv = .slice b m c ∧ (Builtin.firstCells es k yv).run P w = .ok (vs : List Value).toArray w ∧ VRs ρ (new.take (k * es)) vs ∧ (∀ v ∈ vs, v.oneCell' = true) := by
  unfold cellsOf at hc
  split at hc
  · simp only [Option.some.injEq, Prod.mk.injEq] at hc
    obtain ⟨rfl, rfl⟩ := hc
    simp only [VR] at hy; subst hy
    exact ⟨none, 0, [], rfl, by simp [Builtin.firstCells], by simp [VRs], by simp⟩
  · rename_i o off n es' full
    split at hc
    · rename_i fz cs hg
      obtain ⟨hb, hc⟩ := ite_some hc
      have hb := Nat.le_of_ble_eq_true hb
      rw [len_eq] at hb
      simp only [Option.some.injEq, Prod.mk.injEq] at hc
      obtain ⟨rfl, rfl⟩ := hc
      simp only [VR] at hy
      obtain ⟨L, a, cap, h1, rfl, h3, h4, h5, _⟩ := hy
      have hkn : k * es ≤ n * es := Nat.mul_le_mul_right _ hk
      obtain ⟨xs, h6, h7, h8, h9⟩ := row_cells (n := k * es) (off := off) (hr.obj _ _ _ h1 hg) (by omega)
      rw [tak_eq, drp_eq, List.take_take, Nat.min_eq_left hkn]
      refine ⟨some a, cap, xs, rfl, ?_, h7, h8⟩
      rcases h5 with ⟨h5, _⟩ | h5
      · subst h5
        have := run_loadN (P := P) h9
        rw [h6] at this
        simpa [Builtin.firstCells] using this
      · have hn : k = 0 := by omega
        subst hn
        have hxs : xs = [] := List.eq_nil_of_length_eq_zero (by rw [h6]; simp)
        subst hxs
        simp [Builtin.firstCells, loadCells, loadCellsFrom]
    · cases hc
  · cases hc

/-- Cells laid at a slice's head. -/
theorem layA_sound (hr : HR P good ρ h w) {o off n es : Nat} {full : Bool} {xv : Value} (hx : VR ρ (.sl o off n es full) xv) {new : List AV} {vs : List Value} {h' : Hp} (hl : layA h o off new = some h') (hv : VRs ρ new vs) (h1 : ∀ v ∈ vs, v.oneCell' = true) (hn : n = 0 → vs = []) :
    ∃ a cap w', xv = .slice (some a) n cap ∧ (storeCells a vs).run P w = .ok () w' ∧ HR P good ρ h' w' ∧ Ext ρ h w ρ h' w' := by
  simp only [VR] at hx
  obtain ⟨L, a, cap, hL, rfl, hcap, _, haddr, _⟩ := hx
  unfold layA at hl
  split at hl <;> (try (simp only [reduceCtorEq] at hl))
  rename_i cs hg
  obtain ⟨c, hput, hl⟩ := opt_bind_some hl
  rw [Hp.updK_eq] at hl
  cases hl
  obtain ⟨w', h3, h4, h5⟩ := hr.lay hL hg hput hv h1
  refine ⟨a, cap, w', rfl, ?_, h4, h5⟩
  rcases haddr with ⟨rfl, _⟩ | h0
  · exact h3
  · have : vs = [] := hn (by omega)
    subst this
    simpa only [storeCells, Sem.run_pure] using h3

theorem copy_sound (hr : HR P good ρ h w) {t u ty el : TypeId} {es : Nat} (hd : P.underlying t = some (.slice el)) (hes : sizeT P el = some es) {x y : AV} {xv yv : Value} (hx : VR ρ x xv) (hy : VR ρ y yv) {v : AV} {h' : Hp} (hv : eCopy es h [x, y] = some (v, h')) :
    ∃ v' w', (Builtin.copy_ #[t, u] ty #[xv, yv]).run P w = .ok v' w' ∧ VR ρ v v' ∧ HR P good ρ h' w' ∧ Ext ρ h w ρ h' w' := by
  unfold eCopy at hv
  split at hv <;> (try (simp only [reduceCtorEq] at hv))
  · rename_i y' hc
    simp only [List.cons.injEq, and_true] at hc
    obtain ⟨rfl, rfl⟩ := hc
    obtain ⟨q, hq, hv⟩ := opt_map_some hv
    obtain ⟨rfl, rfl⟩ := Prod.mk.inj hv
    simp only [VR] at hx; subst hx
    obtain ⟨b, c, vs, rfl, h1, h2, h3⟩ := cellsOf_first hr hy hq (Nat.zero_le _)
    refine ⟨.int .i64 0, w, ?_, by simp [VR], hr, Ext.refl ρ h w⟩
    have e0 : Nat.min q.1 0 = 0 := Nat.min_eq_right (Nat.zero_le _)
    simp only [Builtin.copy_, List.getElem?_toArray, List.getElem?_cons_zero, List.getElem?_cons_succ, Sem.run_bind, run_underlying hd, Result.andThen_ok, Builtin.lenOf, Sem.run_pure, run_sizeOf' hes, e0, h1]
    simp [goInt]
  · rename_i o off n es' full y' hc
    simp only [List.cons.injEq, and_true] at hc
    obtain ⟨rfl, rfl⟩ := hc
    obtain ⟨q, hq, hv⟩ := opt_bind_some hv
    obtain ⟨h2', hl, hv⟩ := opt_map_some hv
    obtain ⟨rfl, rfl⟩ := Prod.mk.inj hv
    obtain ⟨b, c, vs, rfl, h1, h2, h3⟩ := cellsOf_first hr hy hq (k := Nat.min q.1 n) (Nat.min_le_left _ _)
    rw [tak_eq] at hl
    obtain ⟨a, cap, w', rfl, h4, h5, h6⟩ := layA_sound hr hx hl h2 h3 (fun h0 => by
      subst h0
      have e0 : Nat.min q.1 0 = 0 := Nat.min_eq_right (Nat.zero_le _)
      rw [e0] at h2
      simpa [VRs] using h2)
    refine ⟨.int .i64 (Nat.min q.1 n : Nat), w', ?_, by simp [VR], h5, h6⟩
    simp only [Builtin.copy_, List.getElem?_toArray, List.getElem?_cons_zero, List.getElem?_cons_succ, Sem.run_bind, run_underlying hd, Result.andThen_ok, Builtin.lenOf, Sem.run_pure, run_sizeOf' hes, h1, h4]
    rfl

theorem clear_sound (hr : HR P good ρ h w) {t ty el : TypeId} (hd : P.underlying t = some (.slice el)) {z : List AV} (hz : zeroC P el = some z) {x : AV} {xv : Value} (hx : VR ρ x xv) {v : AV} {h' : Hp} (hv : eClear z h [x] = some (v, h')) :
    ∃ v' w', (Builtin.clear_ #[t] ty #[xv]).run P w = .ok v' w' ∧ VR ρ v v' ∧ HR P good ρ h' w' ∧ Ext ρ h w ρ h' w' := by
  obtain ⟨zv, hz1, hz2, hz3, hz4⟩ := zeroC_sound (ρ := ρ) hz w
  unfold eClear at hv
  split at hv <;> (try (simp only [reduceCtorEq] at hv))
  · rename_i hc
    simp only [List.cons.injEq, and_true] at hc; subst hc
    obtain ⟨rfl, rfl⟩ := Prod.mk.inj (Option.some.inj hv)
    simp only [VR] at hx; subst hx
    refine ⟨.tuple #[], w, ?_, by simp [VR], hr, Ext.refl ρ h w⟩
    simp [Builtin.clear_, run_underlying hd]
  · rename_i o off n es' full hc
    simp only [List.cons.injEq, and_true] at hc; subst hc
    cases n with
    | zero =>
      obtain ⟨rfl, rfl⟩ := Prod.mk.inj (Option.some.inj hv)
      simp only [VR] at hx
      obtain ⟨L, a, cap, hL, rfl, _⟩ := hx
      refine ⟨.tuple #[], w, ?_, by simp [VR], hr, Ext.refl ρ h w⟩
      simp [Builtin.clear_, run_underlying hd]
    | succ n =>
      obtain ⟨h2', hl, hv⟩ := opt_map_some hv
      obtain ⟨rfl, rfl⟩ := Prod.mk.inj hv
      have hrep : (Builtin.zeroCells zv.cells (n + 1)).toList = (List.replicate (n + 1) zv.cells.toList).flatten := range_map_rep zv.cells (n + 1)
      obtain ⟨a, cap, w', rfl, h4, h5, h6⟩ := layA_sound hr hx (vs := (Builtin.zeroCells zv.cells (n + 1)).toList) hl (by rw [hrep]; exact vrs_rep hz2 _) (by
        rw [hrep]
        intro y hy
        simp only [List.mem_flatten] at hy
        obtain ⟨l, hl1, hl2⟩ := hy
        rw [List.eq_of_mem_replicate hl1] at hl2
        exact hz3 y hl2) (fun h0 => by cases h0)
      refine ⟨.tuple #[], w', ?_, by simp [VR], h5, h6⟩
      simp [Builtin.clear_, run_underlying hd, hz1, h4]

/-! ### Maps -/
theorem sameBits_of {kk : KK} {x y : AV} {a b : Value} (hx : VR ρ x a) (hy : VR ρ y b) (hq : eqKey kk x y = some true) : Instr.sameBits 10000 b a = true := by
  cases kk <;> cases x <;> cases y <;> simp only [eqKey, reduceCtorEq] at hq
  case b.b.b =>
    rw [vr_b hx, vr_b hy]
    simp only [Option.some.injEq, beq_iff_eq] at hq
    simp [Instr.sameBits, hq]
  case i.i.i j m k n =>
    by_cases hjk : j = k
    · rw [if_pos hjk, Option.some.injEq, eqI_eq] at hq
      subst hjk
      rw [vr_i hx, vr_i hy]
      have : m = n := by simpa using hq
      simp [Instr.sameBits, this]
    · rw [if_neg hjk] at hq; cases hq
  case s.s.s =>
    obtain ⟨p, rfl, rfl⟩ := vr_s hx
    obtain ⟨q, rfl, rfl⟩ := vr_s hy
    rw [Option.some.injEq, eqL_eq] at hq
    simp only [Instr.sameBits]
    rw [beq_toListBytes, eq_bytes]
    simpa using (of_decide_eq_true hq).symm
theorem setA_sound {kk : KK} {d : TypeDesc} (hf : kk.fits d = true) {k v : AV} {kv vv : Value} (hk : VR ρ k kv) (hv : VR ρ v vv) : ∀ {l l' : List (AV × AV)} {es : List MapEntry} (i : Nat), MRs ρ l es → setA kk k v l = some l' →
    (Instr.findNow d kv es i = some none ∧ ∀ en : MapEntry, en.key = kv → en.val = vv → MRs ρ l' (es ++ [en])) ∨
    (∃ j x, Instr.findNow d kv es i = some (some (i + j, x)) ∧ MRs ρ l' (es.modify j fun e => { e with key := kv, val := vv }) ∧ ∃ en, es[j]? = some en ∧ Instr.sameBits 10000 en.key kv = true)
  | [], l', es, i, hm, hq => by
    simp only [MRs] at hm; subst hm
    simp only [setA, Option.some.injEq] at hq; subst hq
    refine .inl ⟨rfl, fun en h1 h2 => ?_⟩
    simp only [MRs, List.nil_append]
    exact ⟨en, [], rfl, by rw [h1]; exact hk, by rw [h2]; exact hv, rfl⟩
  | (a, x) :: l, l', es, i, hm, hq => by
    simp only [MRs] at hm
    obtain ⟨en, rest, rfl, h1, h2, h3⟩ := hm
    simp only [setA] at hq
    cases hkey : eqKey kk k a with
    | none => rw [hkey] at hq; cases hq
    | some b =>
      have hs := key_sound hf hk h1 hkey
      cases b with
      | true =>
        rw [hkey] at hq; simp only [Option.some.injEq] at hq; subst hq
        refine .inr ⟨0, en.val, by simp only [Instr.findNow, hs, Nat.add_zero], ?_, en, rfl, ?_⟩
        · simp only [List.modify_zero_cons, MRs]
          exact ⟨_, _, rfl, hk, hv, h3⟩
        · exact sameBits_of hk h1 hkey
      | false =>
        rw [hkey] at hq
        obtain ⟨l2, hl2, rfl⟩ := opt_map_some hq
        rcases setA_sound hf hk hv (i + 1) h3 hl2 with ⟨h4, h5⟩ | ⟨j, y, h4, h5, en', h6, h7⟩
        · refine .inl ⟨by simp only [Instr.findNow, hs]; exact h4, fun en' e1 e2 => ?_⟩
          simp only [List.cons_append, MRs]
          exact ⟨en, _, rfl, h1, h2, h5 en' e1 e2⟩
        · refine .inr ⟨j + 1, y, by simp only [Instr.findNow, hs]; rw [h4]; congr 3; omega, ?_, en', by simpa using h6, h7⟩
          simp only [List.modify_succ_cons, MRs]
          exact ⟨en, _, rfl, h1, h2, h5⟩

theorem eqKey_false {kk : KK} {k a : AV} (h : eqKey kk k a = some false) : k ≠ a ∧ sameKind k a = true := by
  cases kk <;> cases k <;> cases a <;> simp only [eqKey, reduceCtorEq] at h
  case b.b.b x y =>
    refine ⟨fun e => ?_, rfl⟩
    cases e
    simp at h
  case i.i.i j m k n =>
    by_cases hjk : j = k
    · subst hjk
      rw [if_pos rfl, Option.some.injEq, eqI_eq] at h
      exact ⟨fun e => by cases e; simp at h, by simp [sameKind]⟩
    · rw [if_neg hjk] at h; cases h
  case s.s.s x y =>
    rw [Option.some.injEq, eqL_eq] at h
    exact ⟨fun e => by cases e; simp at h, rfl⟩
theorem setA_keys {kk : KK} {k v : AV} : ∀ {l l' : List (AV × AV)}, setA kk k v l = some l' → UKeys l → UKeys l' ∧ ∀ q ∈ l', q.1 = k ∨ ∃ p ∈ l, p.1 = q.1
  | [], l', h, _ => by
    simp only [setA, Option.some.injEq] at h; subst h
    exact ⟨List.pairwise_singleton _ _, fun q hq => .inl (by simp at hq; rw [hq])⟩
  | (a, x) :: l, l', h, hu => by
    simp only [setA] at h
    have hu' := List.pairwise_cons.1 hu
    split at h
    · rename_i hk
      simp only [Option.some.injEq] at h; subst h
      have := eqKey_true_eq hk
      subst this
      refine ⟨List.pairwise_cons.2 ⟨fun q hq => hu'.1 q hq, hu'.2⟩, fun q hq => ?_⟩
      rcases List.mem_cons.1 hq with rfl | hq
      · exact .inl rfl
      · exact .inr ⟨q, by simp [hq], rfl⟩
    · rename_i hk
      obtain ⟨l2, hl2, rfl⟩ := opt_map_some h
      obtain ⟨h1, h2⟩ := setA_keys hl2 hu'.2
      have hka := eqKey_false hk
      refine ⟨List.pairwise_cons.2 ⟨fun q hq => ?_, h1⟩, fun q hq => ?_⟩
      · rcases h2 q hq with e | ⟨p, hp, e⟩
        · exact ⟨by rw [e]; exact hka.1.symm, by rw [e]; exact sameKind_symm hka.2⟩
        · have := hu'.1 p hp
          exact ⟨by rw [← e]; exact this.1, by rw [← e]; exact this.2⟩
      · rcases List.mem_cons.1 hq with rfl | hq
        · exact .inr ⟨(a, x), by simp, rfl⟩
        · rcases h2 q hq with e | ⟨p, hp, e⟩
          · exact .inl e
          · exact .inr ⟨p, by simp [hp], e⟩
    · cases h
theorem setA_perm {kk : KK} {k v : AV} {l l' : List (AV × AV)} (hp : l.Perm l') : UKeys l → ∀ r, setA kk k v l = some r → ∃ r', setA kk k v l' = some r' ∧ r.Perm r' := by
  induction hp with
  | nil => exact fun _ r h => ⟨r, h, .refl _⟩
  | @cons p l l' hll ih =>
    intro hu r h
    obtain ⟨a, x⟩ := p
    simp only [setA] at h ⊢
    split at h
    · rename_i hk
      simp only [Option.some.injEq] at h; subst h
      exact ⟨_, rfl, hll.cons _⟩
    · rename_i hk
      obtain ⟨r0, h0, rfl⟩ := opt_map_some h
      obtain ⟨r', h1, h2⟩ := ih (List.pairwise_cons.1 hu).2 r0 h0
      exact ⟨(a, x) :: r', by simp [h1], h2.cons _⟩
    · cases h
  | @swap p q l =>
    intro hu r h
    obtain ⟨a, x⟩ := p
    obtain ⟨b, y⟩ := q
    have hab := (List.pairwise_cons.1 hu).1 (a, x) (by simp)
    simp only [setA] at h ⊢
    cases hb : eqKey kk k b with
    | none => rw [hb] at h; cases h
    | some u =>
      rw [hb] at h
      cases u with
      | true =>
        rw [eqKey_apart hb hab.1 hab.2]
        simp only [Option.some.injEq] at h; subst h
        exact ⟨_, rfl, .swap _ _ _⟩
      | false =>
        simp only at h ⊢
        cases ha : eqKey kk k a with
        | none => rw [ha] at h; cases h
        | some u =>
          rw [ha] at h
          cases u with
          | true =>
            simp only [Option.map_some, Option.some.injEq] at h ⊢; subst h
            exact ⟨_, rfl, .swap _ _ _⟩
          | false =>
            simp only at h ⊢
            obtain ⟨r0, h0, rfl⟩ := opt_map_some h
            obtain ⟨r1, h1, rfl⟩ := opt_map_some h0
            exact ⟨_, by simp [h1], .swap _ _ _⟩
  | trans h1 _ ih1 ih2 =>
    intro hu r h
    obtain ⟨r1, h2, h3⟩ := ih1 hu r h
    obtain ⟨r2, h4, h5⟩ := ih2 (hu.perm h1) r1 h2
    exact ⟨r2, h4, h3.trans h5⟩

theorem mapSet_sound (hr : HR P good ρ h w) {t kt el : TypeId} {m k x : Operand} {o : Oper} (ho : o.op = .mapUpdate t m k x ∨ o.op = .insert t m k x) (hd : P.underlying t = some (.map kt el)) {kk : KK} (hkk : keyT P kt = some kk)
    {e : Operand → Value} {as : List AV} {v : AV} {h' : Hp} (ha : VRs ρ as [e m, e k, e x]) (hv : eMapSet kk h as = some (v, h')) :
    ∃ w', (execOp e o).run P w = .ok .skip w' ∧ v = .u ∧ HR P good ρ h' w' ∧ Ext ρ h w ρ h' w' := by
  obtain ⟨kd, hkd, hkf⟩ := keyT_some hkk
  unfold eMapSet at hv
  split at hv <;> (try (simp only [reduceCtorEq] at hv))
  rename_i ob k' v'
  split at hv <;> (try (simp only [reduceCtorEq] at hv))
  rename_i l hg
  obtain ⟨l', hl', hv⟩ := opt_bind_some hv
  rw [Hp.updK_eq] at hv
  obtain ⟨rfl, rfl⟩ := Prod.mk.inj (Option.some.inj hv)
  obtain ⟨mv, kv, vv, e1, h1, h2, h3⟩ := vrs_three ha
  simp only [List.cons.injEq, and_true] at e1
  obtain ⟨rfl, rfl, rfl⟩ := e1
  simp only [VR] at h1
  obtain ⟨L, hL, h1⟩ := h1
  obtain ⟨ents, clock, es0, hb, hm, hpm, huk⟩ := hr.obj _ _ _ hL hg
  have huk' := (setA_keys hl' huk).1
  obtain ⟨l0, hl0, hp0⟩ := setA_perm hpm.symm huk l' hl'
  have hlt : L.blk < w.heap.size := (Array.getElem?_eq_some_iff.1 hb).1
  have hck : (Instr.checkKey false 10000 kt (e k)).run P w = .ok () w := checkKey_ok hkd hkf _ 9999 _
  have hfk : ∀ q, Instr.findNow kd (e k) ents.toList 0 = some q → (Instr.findKey kt (e k) ents.toList).run P w = .ok q w := fun q hq => by
    simp only [Instr.findKey, Sem.run_bind, run_underlying hkd, Result.andThen_ok, hq, Sem.run_pure]
  have htu : ∀ B, Turned w { w with heap := w.heap.setIfInBounds L.blk B } L.blk := fun B => ⟨fun q hq => by simp [Ne.symm hq], by simp, rfl, rfl, rfl⟩
  have hnew : ∀ B, ({ w with heap := w.heap.setIfInBounds L.blk B } : World).heap[L.blk]? = some B := fun B => by simp [hlt]
  have hexec : ∀ w', (Instr.mapUpdate t (e m) (e k) (e x)).run P w = .ok () w' → (execOp e o).run P w = .ok .skip w' := fun w' hrun => by
    rcases ho with ho | ho <;> (simp only [execOp, ho]; exact run_u hrun)
  rcases setA_sound hkf h2 h3 0 hm hl0 with ⟨h4, h5⟩ | ⟨j, y, h4, h5, en, h6, h7⟩
  · obtain ⟨q1, q2⟩ := hr.upd (w' := { w with heap := w.heap.setIfInBounds L.blk (.map (ents.push { key := e k, val := e x, born := clock }) (clock + 1)) }) hL hg (htu _) (ob' := .map l') ⟨_, _, l0, hnew _, by simpa using h5 { key := e k, val := e x, born := clock } rfl rfl, hp0.symm, huk'⟩
    refine ⟨_, hexec _ ?_, rfl, q1, q2⟩
    simp only [Instr.mapUpdate, Sem.run_bind, run_underlying hd, Result.andThen_ok, h1, MapKept.run_getObj_map hb, hck, hfk _ h4, MapKept.run_setObj_map _ hb]
  · rw [Nat.zero_add] at h4
    obtain ⟨q1, q2⟩ := hr.upd (w' := { w with heap := w.heap.setIfInBounds L.blk (.map (ents.modify j fun en => { en with key := e k, val := e x }) clock) }) hL hg (htu _) (ob' := .map l') ⟨_, _, l0, hnew _, by simpa [Array.toList_modify] using h5, hp0.symm, huk'⟩
    refine ⟨_, hexec _ ?_, rfl, q1, q2⟩
    have h6' : ents[j]? = some en := by simpa using h6
    have hks : (Instr.keyThatStays en.key (e k)).run P w = .ok (e k) w := by simp only [Instr.keyThatStays, h7, if_true, Sem.run_pure]
    simp only [Instr.mapUpdate, Sem.run_bind, run_underlying hd, Result.andThen_ok, h1, MapKept.run_getObj_map hb, hck, hfk _ h4, h6', Option.map_some, Option.getD_some, hks, MapKept.run_setObj_map _ hb]

theorem builtin_eff {b : Builtin} {ts : List TypeId} {r : EOp} (hc : builtinC P b ts = some (.e r)) :
    (∃ t u el ul n z, b = .append ∧ ts = [t, u] ∧ P.underlying t = some (.slice el) ∧ P.underlying u = some (.slice ul) ∧ small P el = true ∧ zeroC P el = some z ∧ sizeT P el = some n ∧ r = .append n) ∨
    (∃ t u el n, b = .copy ∧ ts = [t, u] ∧ P.underlying t = some (.slice el) ∧ sizeT P el = some n ∧ r = .copy n) ∨
    (∃ t el z, b = .clear ∧ ts = [t] ∧ P.underlying t = some (.slice el) ∧ zeroC P el = some z ∧ r = .clear z) := by
  unfold builtinC at hc
  split at hc
  · split at hc <;> (try (simp at hc; done))
    split at hc <;> simp at hc
  · simp at hc
  · simp at hc
  · rename_i t u
    cases hd : P.underlying t with
    | none => rw [hd] at hc; cases hc
    | some d =>
      cases hu : P.underlying u with
      | none => rw [hd, hu] at hc; cases d <;> cases hc
      | some d2 =>
        rw [hd, hu] at hc
        cases d <;> cases d2 <;> simp only [reduceCtorEq] at hc
        obtain ⟨hsm, hc⟩ := ite_some hc
        obtain ⟨z, hz, hc⟩ := opt_bind_some hc
        obtain ⟨n, hn, hc⟩ := opt_bind_some hc
        obtain ⟨_, hc⟩ := ite_some hc
        simp only [Option.some.injEq, AOp.e.injEq] at hc
        exact .inl ⟨t, u, _, _, n, z, rfl, rfl, hd, hu, hsm, hz, hn, hc.symm⟩
  · rename_i t u
    cases hd : P.underlying t with
    | none => rw [hd] at hc; cases hc
    | some d =>
      cases hu : P.underlying u with
      | none => rw [hd, hu] at hc; cases d <;> cases hc
      | some d2 =>
        rw [hd, hu] at hc
        cases d <;> cases d2 <;> simp only [reduceCtorEq] at hc
        obtain ⟨n, hn, hc⟩ := opt_bind_some hc
        obtain ⟨_, hc⟩ := ite_some hc
        simp only [Option.some.injEq, AOp.e.injEq] at hc
        exact .inr (.inl ⟨t, u, _, n, rfl, rfl, hd, hn, hc.symm⟩)
  · rename_i t
    cases hd : P.underlying t with
    | none => rw [hd] at hc; cases hc
    | some d =>
      rw [hd] at hc
      cases d <;> simp only [reduceCtorEq] at hc
      obtain ⟨z, hz, hc⟩ := opt_map_some hc
      simp only [AOp.e.injEq] at hc
      exact .inr (.inr ⟨t, _, z, rfl, rfl, hd, hz, hc.symm⟩)
  · cases hc

/-- What writes, all kinds. -/
theorem eff_sound (hr : HR P good ρ h w) {o : Oper} {r : EOp} {xs : List Operand} (hc : opC P o = some (.e r, xs)) {e : Operand → Value} {as : List AV} {v : AV} {h' : Hp} (ha : VRs ρ as (xs.map e)) (hv : evalE r h as = some (v, h')) :
    ∃ x w' ρ', (execOp e o).run P w = .ok x w' ∧ ((x = .skip ∧ v = .u) ∨ ∃ y, x = .value y ∧ VR ρ' v y) ∧ HR P good ρ' h' w' ∧ Ext ρ h w ρ' h' w' := by
  rcases opC_eff hc with ⟨t, a, x, n, ho, rfl, hn, rfl⟩ | ⟨t, kt, el, m, k, x, kk, ho, rfl, hd, hkk, rfl⟩ | ⟨c, b, ho, hb, rfl, hcb⟩
  · obtain ⟨w', h1, h2, h3, h4⟩ := store_sound hr ho hn ha hv
    exact ⟨_, w', ρ, h1, .inl ⟨rfl, h2⟩, h3, h4⟩
  · obtain ⟨w', h1, h2, h3, h4⟩ := mapSet_sound hr ho hd hkk ha hv
    exact ⟨_, w', ρ, h1, .inl ⟨rfl, h2⟩, h3, h4⟩
  · obtain ⟨cs, hex⟩ := call_builtin ho hb e
    rw [hex]
    rcases builtin_eff hcb with ⟨t, u, el, ul, n, z, rfl, hts, hd, hu, hsm, hz, hn, rfl⟩ | ⟨t, u, el, n, rfl, hts, hd, hn, rfl⟩ | ⟨t, el, z, rfl, hts, hd, hz, rfl⟩
    · simp only [evalE] at hv
      match as, ha, hv with
      | [x, y], ha, hv =>
        obtain ⟨xv, yv, e1, h1, h2⟩ := vrs_two ha
        simp only [eAppend] at hv
        obtain ⟨q, hq, hv⟩ := opt_bind_some hv
        obtain ⟨b, c', vs, rfl, h3, h4, h5, h6⟩ := cellsOf_sound hr h2 hq
        obtain ⟨v', w', ρ', h7, h8, h9, h10⟩ := appendA_sound (ty := o.type) hr hd hu hn hsm hz h1 h3 h4 h5 h6 hv
        rw [args_two e1, types_two hts]
        exact ⟨_, w', ρ', by simp only [builtin]; exact run_v h7, .inr ⟨v', rfl, h8⟩, h9, h10⟩
    · simp only [evalE] at hv
      match as, ha, hv with
      | [x, y], ha, hv =>
        obtain ⟨xv, yv, e1, h1, h2⟩ := vrs_two ha
        obtain ⟨v', w', h7, h8, h9, h10⟩ := copy_sound (u := u) (ty := o.type) hr hd hn h1 h2 hv
        rw [args_two e1, types_two hts]
        exact ⟨_, w', ρ, by simp only [builtin]; exact run_v h7, .inr ⟨v', rfl, h8⟩, h9, h10⟩
      | [], ha, hv => simp [eCopy] at hv
      | [_], ha, hv => simp [eCopy] at hv
      | _ :: _ :: _ :: _, ha, hv => simp [eCopy] at hv
    · simp only [evalE] at hv
      match as, ha, hv with
      | [x], ha, hv =>
        have e1 := ha
        simp only [VRs] at e1
        obtain ⟨xv, l, e2, h1, rfl⟩ := e1
        obtain ⟨v', w', h7, h8, h9, h10⟩ := clear_sound (ty := o.type) hr hd hz h1 hv
        rw [args_one e2, types_one hts]
        exact ⟨_, w', ρ, by simp only [builtin]; exact run_v h7, .inr ⟨v', rfl, h8⟩, h9, h10⟩
      | [], ha, hv => simp [eClear] at hv
      | _ :: _ :: _, ha, hv => simp [eClear] at hv
end
end Go.Ai
