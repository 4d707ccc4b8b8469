/- An interpreter on abstract values: slices.Insert at []int, by the shelf's contracts. -/
import Derived.Test.YtdiflgnboedogaaGreatA32
import Derived.Shelf.Spec.SlicesInsert
import Derived.Shelf.Spec.SlicesInsertGrow
namespace Go.Ai
open Go.Proofs Go.Shelf
noncomputable def insA (h : Hp) (o n m : Nat) (full : Bool) (new : List AV) : Option (AV × Hp) :=
  if full then h.addK (.row false new) fun h' => some (.sl h.next 0 (n + m) 1 false, h')
  else h.updK o none fun h1 => h1.addK (.row false new) fun h' => some (.sl h.next 0 (n + m) 1 false, h')
noncomputable def primIns (h : Hp) : List AV → Option (AV × Hp)
  | [.nsl, .i .i64 (.ofNat k), .sl o2 off2 m es2 _] =>
    match h.get o2 with
    | some (.row false cs2) => if Nat.beq k 0 && (Nat.beq es2 1 && (Nat.ble (off2 + m) (len cs2) && (Nat.blt 0 m && Nat.ble m 1048576))) then
        h.addK (.row false (tak (drp cs2 off2) m)) fun h' => some (.sl h.next 0 m 1 false, h') else none
    | _ => none
  | [.sl o off n es full, .i .i64 (.ofNat k), .sl o2 off2 m es2 _] =>
    match h.get o, h.get o2 with
    | some (.row false cs), some (.row false cs2) =>
      if !Nat.beq o o2 && (Nat.beq es 1 && (Nat.beq es2 1 && (Nat.ble (off + n) (len cs) && (Nat.ble (off2 + m) (len cs2) && (Nat.ble k n && (Nat.blt 0 m && Nat.ble (n + m) 1048576)))))) then
        insA h o n m full (app (tak (tak (drp cs off) n) k) (app (tak (drp cs2 off2) m) (drp (tak (drp cs off) n) k)))
      else none
    | _, _ => none
  | _ => none
section
variable {P : Program}

theorem setCells_blk {b : Nat} {t : TypeId} {fr : Nat × Nat} : ∀ (vs : List Value) (o : Nat) (arr : Array Value) (w : World), w.heap[b]? = some (.cells arr t fr) → o + vs.length ≤ arr.size →
    ∃ arr', (w.setCells b o vs).heap[b]? = some (.cells arr' t fr) ∧ arr'.toList = arr.toList.take o ++ vs ++ arr.toList.drop (o + vs.length) ∧ Turned w (w.setCells b o vs) b
  | [], o, arr, w, hb, _ => ⟨arr, hb, by simp, Turned.refl w b⟩
  | v :: vs, o, arr, w, hb, hl => by
    simp only [List.length_cons] at hl
    obtain ⟨h2, h3⟩ := setCell_block (k := o) hb v
    obtain ⟨arr', h5, h6, h7⟩ := setCells_blk vs (o + 1) (arr.setIfInBounds o v) (w.setCell ⟨b, o, none⟩ v) h2 (by simp; omega)
    refine ⟨arr', h5, ?_, h3.trans h7⟩
    rw [h6]
    simp only [Array.toList_setIfInBounds, List.length_cons]
    have e1 : (arr.toList.set o v).take (o + 1) = arr.toList.take o ++ [v] := by
      rw [List.take_add_one, List.take_set, List.getElem?_set]
      have : o < arr.toList.length := by simp; omega
      simp only [this, if_true]
      rw [List.set_eq_of_length_le (by simp; omega)]
      simp
    have e2 : (arr.toList.set o v).drop (o + 1 + vs.length) = arr.toList.drop (o + (vs.length + 1)) := by
      rw [List.drop_set_of_lt (by omega)]
      congr 1; omega
    rw [e1, e2]; simp
theorem push_of_turned {w W W' : World} {b : Nat} {B B' : Obj} (hW : W.heap = w.heap.push B) (hb : b = w.heap.size) (ht : Turned W W' b) (hB : W'.heap[b]? = some B') : W'.heap = w.heap.push B' := by
  apply Array.ext_getElem?
  intro i
  by_cases hi : i = b
  · subst hi; rw [hB, hb]; simp
  · rw [ht.other i hi, hW, Array.getElem?_push, Array.getElem?_push, if_neg (by omega), if_neg (by omega)]

theorem two_sets {A V D : List Value} {i : Nat} (hi : i ≤ A.length) :
    (A.take i ++ V ++ A.drop (i + V.length)).take (i + V.length) ++ D ++ (A.take i ++ V ++ A.drop (i + V.length)).drop (i + V.length + D.length) = A.take i ++ (V ++ D) ++ A.drop (i + V.length + D.length) := by
  have hl : (A.take i ++ V).length = i + V.length := by simp; omega
  rw [List.take_left' hl, List.drop_append, hl]
  have h1 : (A.take i ++ V).drop (i + V.length + D.length) = [] := List.drop_eq_nil_of_le (by omega)
  rw [h1, List.nil_append, List.drop_drop]
  have : i + V.length + (i + V.length + D.length - (i + V.length)) = i + V.length + D.length := by omega
  rw [this]; simp
theorem two_sets' {A V D : List Value} {i : Nat} (hi : i + V.length ≤ A.length) :
    (A.take (i + V.length) ++ D ++ A.drop (i + V.length + D.length)).take i ++ V ++ (A.take (i + V.length) ++ D ++ A.drop (i + V.length + D.length)).drop (i + V.length) = A.take i ++ (V ++ D) ++ A.drop (i + V.length + D.length) := by
  have hl : (A.take (i + V.length)).length = i + V.length := by simp; omega
  have h1 : (A.take (i + V.length) ++ D ++ A.drop (i + V.length + D.length)).take i = A.take i := by
    rw [List.append_assoc, List.take_append_of_le_length (by omega), List.take_take]
    congr 1; omega
  have h2 : (A.take (i + V.length) ++ D ++ A.drop (i + V.length + D.length)).drop (i + V.length) = D ++ A.drop (i + V.length + D.length) := by
    rw [List.append_assoc, List.drop_left' hl]
  rw [h1, h2]; simp
theorem cap_cut (w : World) (need old : Nat) (e : TypeId) (hn : need ≤ 1073741824) : grownCap w need old e ≤ 9223372036854775807 ∧ need ≤ grownCap w need old e := by
  have h63 : (2 : Nat) ^ 63 = 9223372036854775808 := by decide
  have h0 : 0 < 2 ^ 63 - need := by omega
  have := Nat.mod_lt (w.tape w.drawn (.appendCap need old e)) h0
  simp only [grownCap, Question.cut]
  omega
theorem zero_one {n : Nat} : ∀ x ∈ (Builtin.zeroCells (Value.int .i64 0).cells n).toList, x.oneCell' = true := by
  intro x hx
  have hrep : (Builtin.zeroCells (Value.int .i64 0).cells n).toList = (List.replicate n (Value.int .i64 0).cells.toList).flatten := range_map_rep (Value.int .i64 0).cells n
  rw [hrep, List.mem_flatten] at hx
  obtain ⟨l, hl, hx⟩ := hx
  rw [List.eq_of_mem_replicate hl] at hx
  have : x = .int .i64 0 := by simpa [Value.cells] using hx
  rw [this]; rfl

variable {ρ : Rho} {h : Hp} {w : World}
/-- What a row's slice is, when it has room. -/
theorem sl_room {o off n : Nat} {full : Bool} {cs : List AV} {xv : Value} (hr : HR P (Good P) ρ h w) (hx : VR ρ (.sl o off n 1 full) xv) (hg : h.get o = some (.row false cs)) (hfit : off + n ≤ cs.length) :
    ∃ L a cap arr elem fr xs, ρ o = some L ∧ xv = .slice (some a) n cap ∧ n ≤ cap ∧ (full = true → cap = n) ∧ cap ≤ 9223372036854775807 ∧ (0 < cap → a = ⟨L.blk, L.off + off, none⟩ ∧ L.off + off + cap ≤ L.fin) ∧
      w.heap[L.blk]? = some (.cells arr elem fr) ∧ L.fin ≤ arr.size ∧ (∀ x ∈ arr.toList, x.oneCell' = true) ∧ (∀ k, L.off ≤ k → (decide (fr.1 ≤ k) && decide (k < fr.2)) = false) ∧ (∀ k, L.off ≤ k → w.frozen? ⟨L.blk, k, none⟩ = false) ∧ L.off + cs.length ≤ L.fin ∧
      xs.length = n ∧ VRs ρ ((cs.drop off).take n) xs ∧ (∀ x ∈ xs, x.oneCell' = true) ∧ (∀ (j : Nat) (v : Value), xs[j]? = some v → w.cell? ⟨L.blk, L.off + off + j, none⟩ = some v) := by
  simp only [VR] at hx
  obtain ⟨L, a, cap, hL, hxv, h1, h2, h3, h4⟩ := hx
  have ho := hr.obj o L _ hL hg
  obtain ⟨xs, g1, g2, g3, g4⟩ := row_cells ho hfit
  obtain ⟨arr, elem, fr, b1, b2, b3, b4, b5, b6⟩ := ho
  refine ⟨L, a, cap, arr, elem, fr, xs, hL, hxv, h1, h2, h4, fun hc => ?_, b1, b4, b5, fun k hk => b6 k (by simpa using hk), fun k hk => ?_, b3, g1, g2, g3, fun j v e => ?_⟩
  · rcases h3 with ⟨h3, h5⟩ | h3
    · exact ⟨h3, by omega⟩
    · omega
  · have := b6 k (by simpa using hk)
    simpa [World.frozen?, b1] using this
  · have := g4 j v e
    rwa [add_addr] at this

theorem insA_sound {ρl : Ren} (L2 : Lays2.n21 P ρl) (hfn : ∃ fn, P.funcs[ρl.f 21]? = some fn ∧ (fn.name == "runtime.NumGoroutine") = false ∧ fn.body.isNone = false) {args : List AV} {h' : Hp} {v : AV} (hp : primIns h args = some (v, h')) : PrimS P (ρl.f 21) args h v h' := by
  obtain ⟨fn, hf, hname, hbody⟩ := hfn
  have hcall : ∀ (vals : Array Value) (w : World), (callFunc (ρl.f 21) vals).run P w = .ok (.enter (ρl.f 21) vals) w := fun vals w => by
    simp only [callFunc, Sem.run_bind, run_program, Result.andThen_ok, hf, hname, hbody, Bool.false_eq_true, if_false, Sem.run_pure]
  unfold primIns at hp
  split at hp
  · rename_i k o2 off2 m es2 f2
    split at hp <;> (try (simp only [reduceCtorEq] at hp))
    rename_i cs2 hg2
    obtain ⟨hb, hp2⟩ := ite_some hp
    clear hp
    simp only [Bool.and_eq_true] at hb
    obtain ⟨b1, b2, b3, b4, b5⟩ := hb
    have b1 := Nat.eq_of_beq_eq_true b1
    have b2 := Nat.eq_of_beq_eq_true b2
    have b3 := Nat.le_of_ble_eq_true b3
    rw [Nat.blt_eq] at b4
    have b5 := Nat.le_of_ble_eq_true b5
    rw [len_eq] at b3
    subst b1; subst b2
    rw [Hp.addK_eq] at hp2
    obtain ⟨rfl, rfl⟩ := Prod.mk.inj (Option.some.inj hp2)
    refine ⟨.add _ _, fun ρ w vals hvs hr => ⟨_, w, hcall _ w, ?_⟩⟩
    obtain ⟨xv, iv, yv, rfl, hx, hi, hy⟩ := vrs_three hvs
    simp only [VR] at hx; subst hx
    have hi := vr_i hi; subst hi
    obtain ⟨L2', a2, cap2, arr2, elem2, fr2, ys, q1, rfl, q3, q4, q5, q6, q7, q8, q9, _, q10, q11, q12, q13, q14, q15⟩ := sl_room hr hy hg2 b3
    obtain ⟨rfl, q6'⟩ := q6 (by omega)
    have hc := Any2.slices_Insert_int_end_grow L2 none 0 0 L2'.blk (L2'.off + off2) m cap2 [] ys w b4 (Nat.le_refl _) (by omega) (by omega) rfl q12 (fun _ => rfl) (fun a e => by cases e) q15 q14
    simp only [Nat.zero_add] at hc
    simp only [EntR]
    refine CallsIn.mono (callsIn_wide.2 hc) fun e w' he => ?_
    obtain ⟨rfl, rfl⟩ := he
    obtain ⟨i0, hi0, hz0, hzs, hzb⟩ := info_parts L2.i3
    have hcut : grownCap w m 0 (ρl.t 3) ≤ 9223372036854775807 ∧ m ≤ grownCap w m 0 (ρl.t 3) := cap_cut _ _ _ _ (by omega)
    obtain ⟨ρ', g10, g11, g12⟩ := row_new (P := P) (good := Good P) hr hr rfl (fun q _ _ => .inl rfl) (fz := false) (n := m) (es := 1) (vs := ys) (newCap := grownCap w m 0 (ρl.t 3)) (el := ρl.t 3)
      (arr := (([] : List Value) ++ ys).toArray ++ Builtin.zeroCells (Value.int .i64 0).cells (grownCap w m 0 (ρl.t 3) - m)) (w' := w.drew.alloc (.cells ((([] : List Value) ++ ys).toArray ++ Builtin.zeroCells (Value.int .i64 0).cells (grownCap w m 0 (ρl.t 3) - m)) (ρl.t 3)))
      rfl rfl rfl rfl (cs := tak (drp cs2 off2) m) (by rw [tak_eq, drp_eq]; exact q13) (by omega) (by omega) hcut.1 (by simp [size_zeroCells, Value.cells]; omega) (by simp; rw [List.take_left' (by omega)]) (by
        intro x hx
        simp only [List.nil_append, Array.toList_append, List.mem_append] at hx
        rcases hx with hx | hx
        · exact q14 x (by simpa using hx)
        · exact zero_one x hx)
    refine ⟨ρ', ?_, g11, g12⟩
    exact g10
  · rename_i o off n es full k o2 off2 m es2 f2
    split at hp
    · rename_i cs cs2 hg hg2
      obtain ⟨hb, hp2⟩ := ite_some hp
      clear hp
      simp only [Bool.and_eq_true] at hb
      obtain ⟨b0, b1, b2, b3, b4, b5, b6, b7⟩ := hb
      have b1 := Nat.eq_of_beq_eq_true b1
      have b2 := Nat.eq_of_beq_eq_true b2
      have b3 := Nat.le_of_ble_eq_true b3
      have b4 := Nat.le_of_ble_eq_true b4
      have b5 := Nat.le_of_ble_eq_true b5
      rw [Nat.blt_eq] at b6
      have b7 := Nat.le_of_ble_eq_true b7
      rw [len_eq] at b3 b4
      subst b1; subst b2
      have hoo : o ≠ o2 := fun e => by subst e; simp at b0
      rw [app_eq, app_eq, tak_eq, drp_eq, tak_eq, drp_eq, tak_eq, drp_eq] at hp2
      unfold insA at hp2
      have hgrow : Grow h h' := by
        split at hp2
        · rw [Hp.addK_eq] at hp2
          obtain ⟨_, rfl⟩ := Prod.mk.inj (Option.some.inj hp2)
          exact .add _ _
        · rw [Hp.updK_eq, Hp.addK_eq] at hp2
          obtain ⟨_, rfl⟩ := Prod.mk.inj (Option.some.inj hp2)
          exact (Grow.upd hg none).trans (.add _ _)
      refine ⟨hgrow, fun ρ w vals hvs hr => ⟨_, w, hcall _ w, ?_⟩⟩
      obtain ⟨xv, iv, yv, rfl, hx, hi, hy⟩ := vrs_three hvs
      have hi := vr_i hi; subst hi
      obtain ⟨L, a, cap, arr, elem, fr, xs, p1, rfl, p3, p5, p6, p7, p8, pfin, p9', p10, p11, p12, p13, p14, p15, p16⟩ := sl_room hr hx hg b3
      obtain ⟨L', a', cap', arr', elem', fr', ys, q1, rfl, q3, q4, q5, q6, q7, q8, q9, q10, q11, q12, q13, q14, q15, q16⟩ := sl_room hr hy hg2 b4
      obtain ⟨rfl, q6'⟩ := q6 (by omega)
      have hne : L'.blk ≠ L.blk := hr.inj o2 L' o L q1 p1 (by rw [hg2]; simp) (by rw [hg]; simp) (Ne.symm hoo)
      have hnew : VRs ρ ((cs.drop off |>.take n).take k ++ ((cs2.drop off2).take m ++ (cs.drop off |>.take n).drop k)) (xs.take k ++ (ys ++ xs.drop k)) := (p14.take k).app (q14.app (p14.drop k))
      have hone : ∀ v ∈ xs.take k ++ (ys ++ xs.drop k), v.oneCell' = true := fun v hv => by
        simp only [List.mem_append] at hv
        rcases hv with hv | hv | hv
        · exact p15 v (List.mem_of_mem_take hv)
        · exact q15 v hv
        · exact p15 v (List.mem_of_mem_drop hv)
      have hlen : (xs.take k ++ (ys ++ xs.drop k)).length = n + m := by simp; omega
      simp only [EntR]
      -- a new row
      have newcase : cap < n + m → ∀ h1 : Hp, HR P (Good P) ρ h1 w → h1.next = h.next → (∀ q, ρ q = none → q < h.next → h1.get q = h.get q ∨ h1.get q = none) →
          CallsIn Fence.wide 0 P (ρl.f 21) [Value.slice (some a) n cap, .int .i64 (Int.ofNat k), .slice (some ⟨L'.blk, L'.off + off2, none⟩) m cap'].toArray w (retR (Post P (Good P) ρ h w (.sl h.next 0 (n + m) 1 false) (h1.add (.row false ((cs.drop off |>.take n).take k ++ ((cs2.drop off2).take m ++ (cs.drop off |>.take n).drop k)))))) := by
        intro hlt h1 hr1 hn1 hk1
        have fin : ∀ (w' : World) (B : Array Value), w'.heap = w.heap.push (.cells B (ρl.t 3)) → w'.tape = w.tape → w'.os = w.os → w'.output = w.output → B.size = grownCap w (n + m) cap (ρl.t 3) → B.toList.take (n + m) = xs.take k ++ (ys ++ xs.drop k) → (∀ x ∈ B.toList, x.oneCell' = true) →
            Post P (Good P) ρ h w (.sl h.next 0 (n + m) 1 false) (h1.add (.row false ((cs.drop off |>.take n).take k ++ ((cs2.drop off2).take m ++ (cs.drop off |>.take n).drop k)))) (.slice (some ⟨w.heap.size, 0, none⟩) (n + m) (grownCap w (n + m) cap (ρl.t 3))) w' := by
          intro w' B e1 e2 e3 e4 e5 e6 e7
          have hcut := cap_cut w (n + m) cap (ρl.t 3) (by omega)
          exact row_new (P := P) (good := Good P) hr hr1 hn1 hk1 (fz := false) (n := n + m) (es := 1) e1 e2 e3 e4 hnew (by rw [hlen]; omega) hcut.2 hcut.1 (by rw [e5]; omega) (by rw [Nat.mul_one]; exact e6) e7
        by_cases hkn : k = n
        · subst hkn
          have htk : xs.take k = xs := List.take_of_length_le (by omega)
          have hdk : xs.drop k = [] := List.drop_eq_nil_of_le (by omega)
          have hc := Any2.slices_Insert_int_end_grow L2 (some a) k cap L'.blk (L'.off + off2) m cap' xs ys w b6 p3 hlt (by omega) p13 q13 (fun e => by cases e) (fun a1 e j v hj => by
            cases e
            have hj' : j < k := by have := (List.getElem?_eq_some_iff.1 hj).1; omega
            obtain ⟨ha, _⟩ := p7 (by omega)
            rw [ha, add_addr]; exact p16 j v hj) q16 q15
          refine CallsIn.mono (callsIn_wide.2 hc) fun e w' he => ?_
          obtain ⟨rfl, rfl⟩ := he
          refine fin _ _ rfl rfl rfl rfl ?_ ?_ ?_
          · have := cap_cut w (k + m) cap (ρl.t 3) (by omega)
            simp [size_zeroCells, Value.cells]; omega
          · rw [htk, hdk]; simp; rw [← List.append_assoc, List.take_left' (by simp; omega)]
          · intro x hx
            simp only [Array.toList_append, List.mem_append] at hx
            rcases hx with hx | hx
            · rcases hx with hx | hx
              · exact p15 x hx
              · exact q15 x hx
            · exact zero_one x hx
        · have hkn' : k < n := by omega
          obtain ⟨ha, _⟩ := p7 (by omega)
          subst ha
          have hc := Any2.slices_Insert_int_grow L2 L.blk (L.off + off) n cap k L'.blk (L'.off + off2) m cap' xs ys w hkn' b6 p3 hlt (by omega) p13 q13 p16 q16 p15 q15
          refine CallsIn.mono (callsIn_wide.2 hc) fun e w' he => ?_
          obtain ⟨rfl, rfl⟩ := he
          have hcut := cap_cut w (n + m) cap (ρl.t 3) (by omega)
          generalize hA0 : (xs.take k).toArray ++ Builtin.zeroCells (Value.int .i64 0).cells (n + m - k) ++ Builtin.zeroCells (Value.int .i64 0).cells (grownCap w (n + m) cap (ρl.t 3) - (n + m)) = A0
          have hA0s : A0.size = grownCap w (n + m) cap (ρl.t 3) := by
            rw [← hA0]; simp [size_zeroCells, Value.cells]; omega
          have hA0t : A0.toList.take k = xs.take k := by
            rw [← hA0]; simp only [Array.toList_append, List.append_assoc]
            rw [List.take_left' (by simp; omega)]
          have hA0o : ∀ x ∈ A0.toList, x.oneCell' = true := by
            rw [← hA0]
            intro x hx
            simp only [Array.toList_append, List.mem_append] at hx
            rcases hx with (hx | hx) | hx
            · exact p15 x (List.mem_of_mem_take hx)
            · exact zero_one x hx
            · exact zero_one x hx
          let W0 : World := (w.alloc (.cells A0 (ρl.t 3))).drew
          have hW0 : W0.heap = w.heap.push (.cells A0 (ρl.t 3)) := rfl
          have hW0b : W0.heap[w.heap.size]? = some (.cells A0 (ρl.t 3)) := by rw [hW0]; simp
          obtain ⟨A1, s1, s2, s3⟩ := setCells_blk ys k A0 W0 hW0b (by omega)
          have hA1s : A1.size = A0.size := by
            have : A1.toList.length = A0.toList.length := by rw [s2]; simp; omega
            simpa using this
          let W1 : World := (W0.setCells w.heap.size k ys).drew
          have hW1b : W1.heap[w.heap.size]? = some (.cells A1 (ρl.t 3)) := s1
          have hdl : (xs.drop k).length = n - k := by simp; omega
          obtain ⟨A2, r1, r2, r3⟩ := setCells_blk (xs.drop k) (k + m) A1 W1 hW1b (by omega)
          have hT : Turned W0 (W1.setCells w.heap.size (k + m) (xs.drop k)) w.heap.size := by
            refine Turned.trans (w' := W1) ?_ r3
            exact ⟨s3.other, s3.size, s3.tape, s3.os, s3.output⟩
          have hfinal : A2.toList = A0.toList.take k ++ (ys ++ xs.drop k) ++ A0.toList.drop (k + ys.length + (xs.drop k).length) := by
            rw [r2, s2, ← q13]
            exact two_sets (by simp; omega)
          refine fin _ A2 (push_of_turned hW0 rfl hT r1) (by rw [hT.tape]; rfl) (by rw [hT.os]; rfl) (by rw [hT.output]; rfl) ?_ ?_ ?_
          · have : A2.toList.length = A0.toList.length := by rw [hfinal]; simp; omega
            rw [← hA0s]; simpa using this
          · rw [hfinal, hA0t, List.take_left' hlen]
          · rw [hfinal]
            intro x hx
            simp only [List.mem_append] at hx
            rcases hx with (hx | hx | hx) | hx
            · exact hA0o x (List.mem_of_mem_take hx)
            · exact q15 x hx
            · exact p15 x (List.mem_of_mem_drop hx)
            · exact hA0o x (List.mem_of_mem_drop hx)
      split at hp2
      · rename_i hfu
        rw [Hp.addK_eq] at hp2
        obtain ⟨rfl, rfl⟩ := Prod.mk.inj (Option.some.inj hp2)
        have := p5 hfu
        exact newcase (by omega) h hr rfl (fun q _ _ => .inl rfl)
      · rw [Hp.updK_eq, Hp.addK_eq] at hp2
        obtain ⟨rfl, rfl⟩ := Prod.mk.inj (Option.some.inj hp2)
        by_cases hroom : n + m ≤ cap
        · obtain ⟨ha, hcf⟩ := p7 (by omega)
          subst ha
          have fin : ∀ (w' : World) (B : Array Value), w'.heap[L.blk]? = some (.cells B elem fr) → Turned w w' L.blk → B.toList = arr.toList.take (L.off + off + k) ++ (ys ++ xs.drop k) ++ arr.toList.drop (L.off + off + k + ys.length + (xs.drop k).length) →
              Post P (Good P) ρ h w (.sl h.next 0 (n + m) 1 false) ((h.upd o none).add (.row false ((cs.drop off |>.take n).take k ++ ((cs2.drop off2).take m ++ (cs.drop off |>.take n).drop k)))) (.slice (some ⟨L.blk, L.off + off, none⟩) (n + m) cap) w' := by
            intro w' B e1 e2 e3
            have hBs : B.size = arr.size := by
              have : B.toList.length = arr.toList.length := by rw [e3]; simp; omega
              simpa using this
            have hle := Rho.put_le (L := ⟨L.blk, L.off + off, L.fin⟩) hr.none_next
            have hnl := hnew.length
            have hrow : OR P (Good P) (ρ.put h.next ⟨L.blk, L.off + off, L.fin⟩) ⟨L.blk, L.off + off, L.fin⟩ w' (.row false ((cs.drop off |>.take n).take k ++ ((cs2.drop off2).take m ++ (cs.drop off |>.take n).drop k))) := by
              refine ⟨B, elem, fr, e1, fun j q hj => ?_, by show L.off + off + _ ≤ L.fin; omega, by show L.fin ≤ B.size; omega, ?_, fun j hj => p10 j (Nat.le_trans (Nat.le_add_right _ _) (show L.off + off ≤ j by simpa using hj))⟩
              · obtain ⟨x, hx1, hx2⟩ := hnew.get hj
                refine ⟨x, ?_, hx2.mono hle⟩
                show B[L.off + off + j]? = some x
                rw [← Array.getElem?_toList, e3]
                by_cases hjk : j < k
                · rw [List.getElem?_append_left (by simp; omega), List.getElem?_take, if_pos hjk] at hx1
                  have hcell := p16 j x hx1
                  rw [List.append_assoc, List.getElem?_append_left (by simp; omega), List.getElem?_take, if_pos (by omega)]
                  have : w.cell? ⟨L.blk, L.off + off + j, none⟩ = arr[L.off + off + j]? := by simp [World.cell?, p8]
                  rw [this] at hcell
                  simpa using hcell
                · rw [List.getElem?_append_right (by simp; omega)] at hx1
                  have hjl : j - k < (ys ++ xs.drop k).length := by
                    have := (List.getElem?_eq_some_iff.1 hx1).1
                    simp at this ⊢; omega
                  rw [List.append_assoc, List.getElem?_append_right (by simp; omega), List.getElem?_append_left (by simp at hjl ⊢; omega), ← hx1]
                  congr 1; simp; omega
              · rw [e3]
                intro x hx
                simp only [List.mem_append] at hx
                rcases hx with (hx | hx | hx) | hx
                · exact p9' x (List.mem_of_mem_take hx)
                · exact q15 x hx
                · exact p15 x (List.mem_of_mem_drop hx)
                · exact p9' x (List.mem_of_mem_drop hx)
            obtain ⟨g1, g2⟩ := hr.move (M := ⟨L.blk, L.off + off, L.fin⟩) p1 hg e2 rfl hrow
            refine ⟨_, ?_, g1, g2⟩
            simp only [VR]
            exact ⟨_, _, cap, Rho.put_same _ _ _, rfl, hroom, (fun hf => by cases hf), .inl ⟨rfl, by show L.off + off + 0 + cap * 1 ≤ L.fin; omega⟩, p6⟩
          by_cases hkn : k = n
          · subst hkn
            have hdk : xs.drop k = [] := List.drop_eq_nil_of_le (by omega)
            have hc := Any2.slices_Insert_int_end_room L2 L.blk (L.off + off) k cap L'.blk (L'.off + off2) m cap' ys w b6 hroom p6 q13 (fun j hj => by simp [World.cell?, p8]; omega) (fun j hj => p11 _ (by omega)) q16 q15
            refine CallsIn.mono (callsIn_wide.2 hc) fun e w' he => ?_
            obtain ⟨rfl, rfl⟩ := he
            obtain ⟨B, s1, s2, s3⟩ := setCells_blk ys (L.off + off + k) arr w p8 (by omega)
            exact fin _ B s1 s3 (by rw [s2, hdk]; simp)
          · have hkn' : k < n := by omega
            have hdl : (xs.drop k).length = n - k := by simp; omega
            have hc := Any2.slices_Insert_int_shift L2 L.blk (L.off + off) n cap k L'.blk (L'.off + off2) m cap' xs ys w hkn' b6 hroom p6 hne p13 q13 p16 (fun j hj => by simp [World.cell?, p8]; omega) (fun j hj => p11 _ (by omega)) q16 p15 q15
              elem' elem arr'.size arr.size (by simp [World.shape?, q7]) (by simp [World.shape?, p8]) (by omega) (q11 _ (by omega)) (q11 _ (by omega))
            refine CallsIn.mono (callsIn_wide.2 hc) fun e w' he => ?_
            obtain ⟨rfl, rfl⟩ := he
            obtain ⟨A1, s1, s2, s3⟩ := setCells_blk (xs.drop k) (L.off + off + (k + m)) arr w.drew p8 (by omega)
            have hA1s : A1.size = arr.size := by
              have : A1.toList.length = arr.toList.length := by rw [s2]; simp; omega
              simpa using this
            obtain ⟨A2, r1, r2, r3⟩ := setCells_blk ys (L.off + off + k) A1 _ s1 (by omega)
            have hT : Turned w ((w.drew.setCells L.blk (L.off + off + (k + m)) (xs.drop k)).setCells L.blk (L.off + off + k) ys) L.blk := by
              have h0 := s3.trans r3
              exact ⟨h0.other, h0.size, h0.tape, h0.os, h0.output⟩
            refine fin _ A2 r1 hT ?_
            rw [r2, s2, ← q13, ← Nat.add_assoc]
            exact two_sets' (by simp; omega)
        · refine newcase (by omega) (h.upd o none) (hr.drop o) rfl (fun q _ _ => ?_)
          rw [get_upd]
          by_cases hqo : q = o
          · rw [if_pos hqo]; exact .inr rfl
          · rw [if_neg hqo]; exact .inl rfl
    · cases hp
  · cases hp
end
end Go.Ai
