/- An interpreter on abstract values: what makes memory, held against the model's. -/
import Derived.Test.YtdiflgnboedogaaGreatA15
namespace Go.Ai
section
variable {P : Program} {good : Nat → Code → Prop} {ρ : Rho} {w : World}

/-- A new block in the model, and the object that it stands for. -/
def Makes (P : Program) (good : Nat → Code → Prop) (ρ : Rho) (w : World) (s : Sem Next) (ob : AO) (mk : Mk) : Prop :=
  ∃ B v' L, s.run P w = .ok (.value v') { w with heap := w.heap.push B } ∧ L.blk = w.heap.size ∧
    ∀ id, ρ id = none → VR (ρ.put id L) (mk.val id) v' ∧ OR P good (ρ.put id L) L { w with heap := w.heap.push B } ob

theorem push_get (w : World) (B : Obj) : ({ w with heap := w.heap.push B } : World).heap[w.heap.size]? = some B := by simp

theorem makes_row {s : Sem Next} {t : TypeId} {arr : Array Value} {cs : List AV} {mk : Mk} {v' : Value} (hrun : s.run P w = .ok (.value v') { w with heap := w.heap.push (.cells arr t) }) (hcs : VRs ρ cs (arr.toList.take cs.length)) (hle : cs.length ≤ arr.size)
    (h1 : ∀ x ∈ arr.toList, x.oneCell' = true) (hv : ∀ id, ρ id = none → VR (ρ.put id ⟨w.heap.size, 0, arr.size⟩) (mk.val id) v') : Makes P good ρ w s (.row false cs) mk := by
  refine ⟨.cells arr t, v', ⟨w.heap.size, 0, arr.size⟩, hrun, rfl, fun id hid => ⟨hv id hid, ?_⟩⟩
  refine ⟨arr, t, (0, 0), push_get w _, fun j a hj => ?_, by simpa using hle, Nat.le_refl _, h1, fun k _ => by simp⟩
  obtain ⟨x, hx, hxv⟩ := (hcs.mono (Rho.put_le hid)).get hj
  refine ⟨x, ?_, hxv⟩
  rw [List.getElem?_take] at hx
  split at hx
  · simpa using hx
  · cases hx
theorem makes_ptr {s : Sem Next} {t : TypeId} {v : Value} {cs : List AV} (hrun : s.run P w = .ok (.value (.pointer (some ⟨w.heap.size, 0, none⟩))) { w with heap := w.heap.push (.cells v.cells t) }) (hcs : VRs ρ cs v.cells.toList)
    (h1 : ∀ x ∈ v.cells.toList, x.oneCell' = true) : Makes P good ρ w s (.row false cs) .p := by
  have hl : cs.length = v.cells.size := by have := hcs.length; simpa using this.symm
  refine makes_row hrun (by rw [hl, List.take_of_length_le (by simp)]; exact hcs) (by omega) h1 fun id hid => ?_
  simp only [Mk.val, VR]
  exact ⟨_, Rho.put_same _ _ _, rfl⟩

theorem rep_list (z : List AV) (n : Nat) : rep z n = (List.replicate n z).flatten := by
  induction n with
  | zero => rfl
  | succ n ih => rw [List.replicate_succ, List.flatten_cons, ← ih]; exact app_eq _ _
theorem rep_length (z : List AV) (n : Nat) : (rep z n).length = n * z.length := by
  rw [rep_list]; simp
theorem vrs_rep {z : List AV} {zs : List Value} (h : VRs ρ z zs) (n : Nat) : VRs ρ (rep z n) (List.replicate n zs).flatten := by
  induction n with
  | zero => simp [rep, VRs]
  | succ n ih =>
    rw [rep_list, List.replicate_succ, List.flatten_cons, List.replicate_succ, List.flatten_cons, ← rep_list]
    exact h.app ih
/-- The model's way to write so many zeros. -/
theorem range_map_rep (zs : Array Value) (n : Nat) : ((Array.range (n * zs.size)).map (fun i => zs[i % zs.size]!)).toList = (List.replicate n zs.toList).flatten := by
  have key : ∀ n, (List.range (n * zs.size)).map (fun i => zs[i % zs.size]!) = (List.replicate n zs.toList).flatten := by
    intro n
    induction n with
    | zero => simp
    | succ n ih =>
      rw [Nat.succ_mul, List.range_add, List.map_append, ih, List.replicate_succ', List.flatten_append]
      congr 1
      simp only [List.flatten_cons, List.flatten_nil, List.append_nil, List.map_map]
      apply List.ext_getElem
      · simp
      · intro i h1 h2
        simp only [List.length_map, List.length_range] at h1
        simp only [List.getElem_map, List.getElem_range, Function.comp_apply]
        rw [Nat.mul_add_mod_self_right, Nat.mod_eq_of_lt h1, getElem!_pos zs i h1]
        simp
  simpa using key n

theorem alloc_makes {t : TypeId} {o : Oper} (ho : o.op = .alloc t) {z : List AV} (hz : zeroC P t = some z) (e : Operand → Value) : Makes P good ρ w (execOp e o) (.row false z) .p := by
  obtain ⟨zv, h1, h2, h3, _⟩ := zeroC_sound (ρ := ρ) hz w
  refine makes_ptr (t := t) (v := zv) ?_ h2 h3
  simp only [execOp, ho]
  refine run_v ?_
  simp only [Instr.alloc, Sem.run_bind, h1, Result.andThen_ok, newVar, newRow, run_newObj, Sem.run_pure]
theorem box_makes {t : TypeId} {x : Operand} {o : Oper} (ho : o.op = .box t x) {e : Operand → Value} {a : AV} {c : List AV} (ha : VR ρ a (e x)) (hc : a.cells = some c) : Makes P good ρ w (execOp e o) (.row false c) .p := by
  obtain ⟨h2, h3⟩ := ha.cells hc
  refine makes_ptr (t := t) (v := e x) ?_ h2 h3
  simp only [execOp, ho]
  refine run_v ?_
  simp only [Instr.box, Sem.run_bind, Result.andThen_ok, newVar, newRow, run_newObj, Sem.run_pure]
theorem map_makes {t : TypeId} {r : Option Operand} {o : Oper} {d1 d2 : TypeId} (ho : o.op = .makeMap t r) (hd : P.underlying t = some (.map d1 d2)) {e : Operand → Value} {as : List AV} {q : AO × Mk} (ha : VRs ρ as ((optL r).map e)) (hv : lMap as = some q) :
    Makes P good ρ w (execOp e o) q.1 q.2 := by
  have hrun : (execOp e o).run P w = .ok (.value (.map (some w.heap.size))) { w with heap := w.heap.push (.map #[] 0) } ∧ q = (.map [], .m) := by
    unfold lMap at hv
    split at hv <;> simp only [Option.some.injEq, reduceCtorEq] at hv
    · subst hv
      have hr : r = none := by
        cases r with
        | none => rfl
        | some x => simp [optL, VRs] at ha
      subst hr
      refine ⟨?_, rfl⟩
      simp only [execOp, ho]
      refine run_v ?_
      simp [Instr.makeMap]
    · subst hv
      cases r with
      | none => simp [optL, VRs] at ha
      | some x =>
        obtain ⟨y, e1, h1⟩ := vrs_one ha
        simp only [optL, List.map_cons, List.map_nil, List.cons.injEq, and_true] at e1
        refine ⟨?_, rfl⟩
        simp only [execOp, ho]
        refine run_v ?_
        have := vr_i h1
        simp [Instr.makeMap, run_underlying hd, e1, this, asInt, asIntOf]
  obtain ⟨hrun, rfl⟩ := hrun
  refine ⟨_, _, ⟨w.heap.size, 0, 0⟩, hrun, rfl, fun id hid => ⟨?_, ?_⟩⟩
  · simp only [Mk.val, VR]; exact ⟨_, Rho.put_same _ _ _, rfl⟩
  · exact ⟨#[], 0, [], push_get w _, by simp [MRs], .refl _, List.Pairwise.nil⟩
theorem bslice_makes {t el : TypeId} {n es : Nat} {ps : Array (Nat × Operand)} {o : Oper} (ho : o.op = .buildSlice t n ps) (hd : P.underlying t = some (.slice el)) {z : List AV} (hz : zeroC P el = some z) (hes : sizeT P el = some es) (h0 : 0 < es) (hbig : n * es ≤ 16777216)
    {e : Operand → Value} {as : List AV} {q : AO × Mk} (ha : VRs ρ as ((mapl (·.2) ps.toList).map e)) (hv : lBslice es n (rep z n) (mapl (fun q : Nat × Operand => (q.1 * es, es)) ps.toList) as = some q) : Makes P good ρ w (execOp e o) q.1 q.2 := by
  obtain ⟨zv, hz1, hz2, hz3, hz4⟩ := zeroC_sound (ρ := ρ) hz w
  have hzl : z.length = es := by rw [hes] at hz4; exact (Option.some.inj hz4).symm
  have hzvl : zv.cells.size = es := by have := hz2.length; simp at this; omega
  unfold lBslice at hv
  obtain ⟨c, hf, rfl⟩ := opt_map_some hv
  have hvals : VRs ρ as (((ps.map fun (i, x) => (i, e x)).toList).map (·.2)) := by
    rw [mapl_eq, List.map_map] at ha
    simpa [Function.comp_def] using ha
  have hrange : ((Array.range (n * es)).map (fun i => zv.cells[i % zv.cells.size]!)).toList = (List.replicate n zv.cells.toList).flatten := by rw [← hzvl]; exact range_map_rep zv.cells n
  obtain ⟨cells', h1, h2, h3⟩ := fill_sound (ρ := ρ) (place := fun i => some (i * es, es)) (ps := (ps.map fun (i, x) => (i, e x)).toList) (pl := mapl (fun q : Nat × Operand => (q.1 * es, es)) ps.toList) (vs := as)
    (cells := (Array.range (n * es)).map (fun i => zv.cells[i % zv.cells.size]!)) (ac := rep z n) (c := c) (by rw [mapl_eq]; simp) (fun j q hq => by
      simp only [Array.toList_map, List.getElem?_map, Option.map_eq_some_iff] at hq
      obtain ⟨q0, hq1, rfl⟩ := hq
      rw [mapl_eq, List.getElem?_map, hq1]; rfl) hvals (by rw [hrange]; exact vrs_rep hz2 n) (by
      rw [hrange]
      intro x hx
      rw [List.mem_flatten] at hx
      obtain ⟨l, hl, hx⟩ := hx
      rw [List.mem_replicate] at hl
      rw [hl.2] at hx
      exact hz3 x hx) hf
  have hcl : c.length = cells'.size := by have := h2.length; simpa using this.symm
  refine makes_row (t := el) (arr := cells') (v' := .slice (some ⟨w.heap.size, 0, none⟩) n n) ?_ (by rw [hcl, List.take_of_length_le (by simp)]; exact h2) (by omega) h3 fun id hid => ?_
  · simp only [execOp, ho]
    refine run_v ?_
    have hg : ¬ (n * es > 2 ^ 24) := by have : (2 : Nat) ^ 24 = 16777216 := by decide
                                        omega
    simp only [Instr.buildSlice, Sem.run_bind, run_underlying hd, Result.andThen_ok, run_sizeOf' hes]
    rw [if_neg hg]
    by_cases hn : n * es = 0
    · rw [if_pos hn]
      have hfill : Instr.fill (fun i => some (i * es, es)) ((Array.range (n * es)).map (fun i => (#[] : Array Value)[i % (#[] : Array Value).size]!)) (ps.map fun (i, x) => (i, e x)).toList = some cells' := by
        have h0 : ∀ f : Nat → Value, (Array.range 0).map f = #[] := fun f => by simp
        rw [← h1, hn, h0, h0]
      simp only [pure_bind]
      rw [hfill]
      simp [newRow]
    · rw [if_neg hn]
      simp only [Sem.run_bind, hz1, Result.andThen_ok, pure_bind]
      rw [h1]
      simp [newRow]
  · simp only [Mk.val, VR]
    refine ⟨_, _, n, Rho.put_same _ _ _, rfl, Nat.le_refl _, fun _ => rfl, .inl ⟨rfl, ?_⟩, by have := Nat.le_mul_of_pos_right n h0; omega⟩
    show 0 + 0 + n * es ≤ cells'.size
    have hfl : ∀ {ps : List (Nat × Value)} {cells cells' : Array Value}, Instr.fill (fun i => some (i * es, es)) cells ps = some cells' → cells'.size = cells.size := by
      intro ps
      induction ps with
      | nil => intro cells cells' hh; simp only [Instr.fill, Option.some.injEq] at hh; rw [hh]
      | cons q ps ih =>
        intro cells cells' hh
        simp only [Instr.fill] at hh
        split at hh
        · cases hh
        · rw [ih hh]
          rw [← Array.foldl_toList]
          generalize q.2.cells.zipIdx.toList = l
          have : ∀ (l : List (Value × Nat)) (cs : Array Value), (l.foldl (fun cs (x : Value × Nat) => cs.setIfInBounds (q.1 * es + x.2) x.1) cs).size = cs.size := by
            intro l
            induction l with
            | nil => intro cs; rfl
            | cons y l ih2 => intro cs; rw [List.foldl_cons, ih2]; simp
          exact this l cells
    rw [hfl h1]; simp
theorem wrap64_nat {n : Nat} (h : n ≤ 9223372036854775807) : IntKind.i64.wrap (n : Int) = n := by
  rw [← wrapA_eq]
  show Bool.rec (motive := fun _ => Int) (IntKind.i64.wrap (.ofNat n)) (.ofNat n) (Nat.ble n (topOf .i64)) = _
  rw [Nat.ble_eq_true_of_le (show n ≤ topOf .i64 from h)]
  rfl
theorem mkSlice_makes {t el : TypeId} {es : Nat} {l c : Operand} {o : Oper} (ho : o.op = .makeSlice t l c) (hd : P.underlying t = some (.slice el)) (hsm : small P el = true) {z : List AV} (hz : zeroC P el = some z) (hes : sizeT P el = some es) (_h0 : 0 < es)
    {e : Operand → Value} {as : List AV} {q : AO × Mk} (ha : VRs ρ as [e l, e c]) (hv : lSlice es z as = some q) : Makes P good ρ w (execOp e o) q.1 q.2 := by
  obtain ⟨zv, hz1, hz2, hz3, hz4⟩ := zeroC_sound (ρ := ρ) hz w
  have hzl : z.length = es := by rw [hes] at hz4; exact (Option.some.inj hz4).symm
  have hzvl : zv.cells.size = es := by have := hz2.length; simp at this; omega
  unfold lSlice at hv
  split at hv <;> (try (simp only [reduceCtorEq] at hv))
  rename_i n m
  obtain ⟨hb, hv⟩ := ite_some hv
  rw [Bool.and_eq_true] at hb
  have hnm := Nat.le_of_ble_eq_true hb.1
  have hm := Nat.le_of_ble_eq_true hb.2
  simp only [Option.some.injEq] at hv; subst hv
  obtain ⟨x, y, e1, hx, hy⟩ := vrs_two ha
  simp only [List.cons.injEq, and_true] at e1
  obtain ⟨rfl, rfl⟩ := e1
  unfold small at hsm
  cases hi : P.info? el with
  | none => rw [hi] at hsm; cases hsm
  | some i =>
    rw [hi] at hsm
    have hby := Nat.le_of_ble_eq_true hsm
    have hrange : ((Array.range (m * es)).map (fun i => zv.cells[i % zv.cells.size]!)).toList = (List.replicate m zv.cells.toList).flatten := by rw [← hzvl]; exact range_map_rep zv.cells m
    refine makes_row (t := el) (arr := (Array.range (m * es)).map (fun i => zv.cells[i % zv.cells.size]!)) (v' := .slice (some ⟨w.heap.size, 0, none⟩) n m) ?_ ?_ ?_ ?_ fun id hid => ?_
    · simp only [execOp, ho]
      refine run_v ?_
      rw [nat_i hx, nat_i hy]
      have hwn : IntKind.i64.wrap (n : Int) = n := wrap64_nat (by omega)
      have hwm : IntKind.i64.wrap (m : Int) = m := wrap64_nat (by omega)
      have hbm : (i.bytes : Int) * (m : Int) ≤ 68719476736 := by
        have h1 : i.bytes * m ≤ 65536 * 1048576 := Nat.mul_le_mul hby hm
        have h2 : ((i.bytes * m : Nat) : Int) ≤ ((65536 * 1048576 : Nat) : Int) := Int.ofNat_le.2 h1
        rw [Int.natCast_mul] at h2
        omega
      have hpow : (2 : Int) ^ 48 = 281474976710656 := by decide
      have hcond : ¬ ((decide ((m : Int) < 0) || decide ((i.bytes : Int) * (m : Int) > 2 ^ 48)) = true ∨ (n : Int) < 0 ∨ (n : Int) > (m : Int)) := by
        rw [hpow]
        simp only [Bool.or_eq_true, decide_eq_true_eq]
        omega
      simp only [Instr.makeSlice, Sem.run_bind, run_underlying hd, Result.andThen_ok, asInt, asIntOf, pure_bind, typeInfo, run_program, hi, Sem.run_pure, hwn, hwm]
      rw [if_neg (by simpa only [Bool.or_eq_true, decide_eq_true_eq, or_assoc] using hcond)]
      simp only [Sem.run_bind, run_askRoom, Result.andThen_ok, run_sizeOf' hes, Int.toNat_natCast]
      by_cases hn : m * es = 0
      · rw [if_pos hn]
        have h0' : ∀ f : Nat → Value, (Array.range 0).map f = #[] := fun f => by simp
        simp only [Sem.run_bind, hn, h0']
        simp [newRow]
      · rw [if_neg hn]
        simp only [Sem.run_bind, hz1, Result.andThen_ok, Sem.run_pure]
        simp [newRow]
    · rw [hrange, rep_length, hzl]
      have hle : n * es ≤ m * es := Nat.mul_le_mul_right _ hnm
      have hsplit : (List.replicate m zv.cells.toList).flatten = (List.replicate n zv.cells.toList).flatten ++ (List.replicate (m - n) zv.cells.toList).flatten := by
        rw [← List.flatten_append, List.replicate_append_replicate]; congr 2; omega
      rw [hsplit, List.take_left' (by simp [hzvl])]
      exact vrs_rep hz2 n
    · rw [rep_length, hzl, Array.size_map, Array.size_range]; exact Nat.mul_le_mul_right _ hnm
    · rw [hrange]
      intro x hx
      rw [List.mem_flatten] at hx
      obtain ⟨l, hl, hx⟩ := hx
      rw [List.mem_replicate] at hl
      rw [hl.2] at hx
      exact hz3 x hx
    · simp only [Mk.val, VR]
      refine ⟨_, _, m, Rho.put_same _ _ _, rfl, hnm, fun hf => (Nat.eq_of_beq_eq_true hf).symm, .inl ⟨rfl, ?_⟩, by omega⟩
      show 0 + 0 + m * es ≤ _
      simp
end
end Go.Ai
