/- An interpreter on abstract values: what a region's run is, said of its steps. -/
import Derived.Test.YtdiflgnboedogaaGreatA21
import Derived.OrdersIn
import Derived.RangeFuncIn
namespace Go.Ai

theorem evalR_ext {h h' : Hp} (hx : ∀ o x, h.get o = some x → h'.get o = some x) {op : ROp} {as : List AV} {v : AV} (hv : evalR op h as = some v) : evalR op h' as = some v := by
  cases op with
  | load1 =>
    simp only [evalR] at hv ⊢
    unfold rLoad1 at hv ⊢
    split at hv <;> (try (simp only [reduceCtorEq] at hv))
    split at hv <;> (try (simp only [reduceCtorEq] at hv))
    rename_i hg
    simp only [hx _ _ hg]; exact hv
  | loadN n =>
    simp only [evalR] at hv ⊢
    unfold rLoadN at hv ⊢
    split at hv <;> (try (simp only [reduceCtorEq] at hv))
    split at hv <;> (try (simp only [reduceCtorEq] at hv))
    rename_i hg
    simp only [hx _ _ hg]; exact hv
  | lookup kk z ok =>
    simp only [evalR] at hv ⊢
    unfold rLookup at hv ⊢
    split at hv <;> (try (simp only [reduceCtorEq] at hv))
    · exact hv
    · split at hv <;> (try (simp only [reduceCtorEq] at hv))
      rename_i hg
      simp only [hx _ _ hg]; exact hv
  | lenMap =>
    simp only [evalR] at hv ⊢
    unfold rLenMap at hv ⊢
    split at hv <;> (try (simp only [reduceCtorEq] at hv))
    · exact hv
    · split at hv <;> (try (simp only [reduceCtorEq] at hv))
      rename_i hg
      simp only [hx _ _ hg]; exact hv
  | toStr =>
    simp only [evalR] at hv ⊢
    unfold rToStr at hv ⊢
    split at hv <;> (try (simp only [reduceCtorEq] at hv))
    · exact hv
    · split at hv <;> (try (simp only [reduceCtorEq] at hv))
      rename_i hg
      simp only [hx _ _ hg]; exact hv
  | sliceArr n es lo hi =>
    simp only [evalR] at hv ⊢
    unfold rSliceArr at hv ⊢
    split at hv <;> (try (simp only [reduceCtorEq] at hv))
    split at hv <;> (try (simp only [reduceCtorEq] at hv))
    rename_i hg
    simp only [hx _ _ hg]; exact hv

theorem sameOne_eq {x y : AV} (h : sameOne x y = true) : x = y := by
  unfold sameOne at h
  split at h <;> (try (simp only [Bool.false_eq_true] at h)) <;> (try rfl)
  · simp at h; rw [h]
  · rw [eqI_eq] at h; simp at h; rw [h]
  · rw [eqI_eq] at h; simp at h; rw [h]
  · rw [eqI_eq] at h; simp at h; rw [h]
  · rw [eqI_eq] at h; simp at h; rw [h]
  · simp only [Bool.and_eq_true] at h
    rw [Nat.eq_of_beq_eq_true h.1, Nat.eq_of_beq_eq_true h.2]
  · simp only [Bool.and_eq_true, beq_iff_eq] at h
    obtain ⟨h1, h2, h3, h4, h5⟩ := h
    rw [Nat.eq_of_beq_eq_true h1, Nat.eq_of_beq_eq_true h2, Nat.eq_of_beq_eq_true h3, Nat.eq_of_beq_eq_true h4, h5]
  · rw [Nat.eq_of_beq_eq_true h]
theorem sameLeaf_eq {x y : AV} (h : sameLeaf x y = true) : x = y := by
  unfold sameLeaf at h
  split at h
  · rw [eqL_eq] at h; rw [of_decide_eq_true h]
  · exact sameOne_eq h
theorem sameList_eq : ∀ {a b : List AV}, sameList sameLeaf a b = true → a = b
  | [], [], _ => rfl
  | x :: xs, y :: ys, h => by
    simp only [sameList, Bool.and_eq_true] at h
    rw [sameLeaf_eq h.1, sameList_eq h.2]
  | [], _ :: _, h => by simp [sameList] at h
  | _ :: _, [], h => by simp [sameList] at h
theorem sameA_eq {x y : AV} (h : sameA x y = true) : x = y := by
  unfold sameA at h
  split at h
  · rw [sameList_eq h]
  · exact sameLeaf_eq h

/-! ### Heaps grow -/
def Fresh (h : Hp) : Prop := ∀ o, h.next ≤ o → h.get o = none
structure Grow (h h' : Hp) : Prop where
  next : h.next ≤ h'.next
  fresh : Fresh h → Fresh h'
theorem Grow.refl (h : Hp) : Grow h h := ⟨Nat.le_refl _, id⟩
theorem Grow.trans {a b c : Hp} (x : Grow a b) (y : Grow b c) : Grow a c := ⟨Nat.le_trans x.next y.next, fun f => y.fresh (x.fresh f)⟩
theorem Grow.add (h : Hp) (ob : AO) : Grow h (h.add ob) := ⟨by simp, fun f o ho => by rw [next_add] at ho; rw [get_add, if_neg (by omega)]; exact f o (by omega)⟩
theorem Grow.upd {h : Hp} {o : Nat} {x : AO} (hg : h.get o = some x) (y : Option AO) : Grow h (h.upd o y) := ⟨Nat.le_refl _, fun f q hq => by
  rw [next_upd] at hq
  rw [get_upd]
  by_cases hqo : q = o
  · subst hqo; rw [f q hq] at hg; cases hg
  · rw [if_neg hqo]; exact f q hq⟩
theorem layA_grow {h h' : Hp} {o off : Nat} {new : List AV} (hv : layA h o off new = some h') : Grow h h' := by
  unfold layA at hv
  split at hv <;> (try (simp only [reduceCtorEq] at hv))
  rename_i hg
  obtain ⟨c, _, hv⟩ := opt_bind_some hv
  rw [Hp.updK_eq] at hv
  cases hv; exact .upd hg _
theorem appendA_grow {h h' : Hp} {es m : Nat} {x v : AV} {new : List AV} (hv : appendA es h x m new = some (v, h')) : Grow h h' := by
  unfold appendA at hv
  split at hv
  · cases m with
    | zero => obtain ⟨_, rfl⟩ := Prod.mk.inj (Option.some.inj hv); exact .refl _
    | succ m =>
      obtain ⟨_, hv⟩ := ite_some hv
      rw [Hp.addK_eq] at hv
      obtain ⟨_, rfl⟩ := Prod.mk.inj (Option.some.inj hv)
      exact .add _ _
  · cases m with
    | zero => obtain ⟨_, rfl⟩ := Prod.mk.inj (Option.some.inj hv); exact .refl _
    | succ m =>
      simp only at hv
      split at hv
      · rename_i hg
        obtain ⟨_, hv⟩ := ite_some hv
        split at hv
        · rw [Hp.addK_eq] at hv
          obtain ⟨_, rfl⟩ := Prod.mk.inj (Option.some.inj hv)
          exact .add _ _
        · rw [Hp.updK_eq, Hp.addK_eq] at hv
          obtain ⟨_, rfl⟩ := Prod.mk.inj (Option.some.inj hv)
          exact (Grow.upd hg none).trans (.add _ _)
      · cases hv
  · cases hv
theorem evalE_grow {op : EOp} {h h' : Hp} {as : List AV} {v : AV} (hv : evalE op h as = some (v, h')) : Grow h h' := by
  cases op with
  | store n =>
    simp only [evalE] at hv
    unfold eStore at hv
    split at hv <;> (try (simp only [reduceCtorEq] at hv))
    split at hv <;> (try (simp only [reduceCtorEq] at hv))
    rename_i hg
    obtain ⟨_, _, hv⟩ := opt_bind_some hv
    obtain ⟨_, hv⟩ := ite_some hv
    obtain ⟨_, _, hv⟩ := opt_bind_some hv
    rw [Hp.updK_eq] at hv
    obtain ⟨_, rfl⟩ := Prod.mk.inj (Option.some.inj hv)
    exact .upd hg _
  | append es =>
    simp only [evalE] at hv
    unfold eAppend at hv
    split at hv <;> (try (simp only [reduceCtorEq] at hv))
    obtain ⟨_, _, hv⟩ := opt_bind_some hv
    exact appendA_grow hv
  | appendStr =>
    simp only [evalE] at hv
    unfold eAppendStr at hv
    split at hv <;> (try (simp only [reduceCtorEq] at hv))
    exact appendA_grow hv
  | copy es =>
    simp only [evalE] at hv
    unfold eCopy at hv
    split at hv <;> (try (simp only [reduceCtorEq] at hv))
    · obtain ⟨_, _, hv⟩ := opt_map_some hv
      obtain ⟨_, rfl⟩ := Prod.mk.inj hv; exact .refl _
    · obtain ⟨_, _, hv⟩ := opt_bind_some hv
      obtain ⟨_, hl, hv⟩ := opt_map_some hv
      obtain ⟨_, rfl⟩ := Prod.mk.inj hv
      exact layA_grow hl
  | copyStr =>
    simp only [evalE] at hv
    unfold eCopyStr at hv
    split at hv <;> (try (simp only [reduceCtorEq] at hv))
    · obtain ⟨_, rfl⟩ := Prod.mk.inj (Option.some.inj hv); exact .refl _
    · obtain ⟨_, hl, hv⟩ := opt_map_some hv
      obtain ⟨_, rfl⟩ := Prod.mk.inj hv
      exact layA_grow hl
  | clear z =>
    simp only [evalE] at hv
    unfold eClear at hv
    split at hv <;> (try (simp only [reduceCtorEq] at hv))
    · obtain ⟨_, rfl⟩ := Prod.mk.inj (Option.some.inj hv); exact .refl _
    · rename_i o off n es full
      cases n with
      | zero => obtain ⟨_, rfl⟩ := Prod.mk.inj (Option.some.inj hv); exact .refl _
      | succ n =>
        obtain ⟨_, hl, hv⟩ := opt_map_some hv
        obtain ⟨_, rfl⟩ := Prod.mk.inj hv
        exact layA_grow hl
  | mapSet kk =>
    simp only [evalE] at hv
    unfold eMapSet at hv
    split at hv <;> (try (simp only [reduceCtorEq] at hv))
    split at hv <;> (try (simp only [reduceCtorEq] at hv))
    rename_i hg
    obtain ⟨_, _, hv⟩ := opt_bind_some hv
    rw [Hp.updK_eq] at hv
    obtain ⟨_, rfl⟩ := Prod.mk.inj (Option.some.inj hv)
    exact .upd hg _
  | mapDel kk =>
    simp only [evalE] at hv
    unfold eMapDel at hv
    split at hv <;> (try (simp only [reduceCtorEq] at hv))
    · obtain ⟨_, rfl⟩ := Prod.mk.inj (Option.some.inj hv); exact .refl _
    · split at hv <;> (try (simp only [reduceCtorEq] at hv))
      rename_i hg
      obtain ⟨_, _, hv⟩ := opt_bind_some hv
      rw [Hp.updK_eq] at hv
      obtain ⟨_, rfl⟩ := Prod.mk.inj (Option.some.inj hv)
      exact .upd hg _
  | next =>
    simp only [evalE] at hv
    unfold eNext at hv
    split at hv <;> (try (simp only [reduceCtorEq] at hv))
    split at hv <;> (try (simp only [reduceCtorEq] at hv))
    rename_i hg
    split at hv <;> (try (simp only [reduceCtorEq] at hv))
    · obtain ⟨_, hv⟩ := ite_some hv
      rw [Hp.updK_eq] at hv
      obtain ⟨_, rfl⟩ := Prod.mk.inj (Option.some.inj hv)
      exact .upd hg _
    · obtain ⟨_, rfl⟩ := Prod.mk.inj (Option.some.inj hv); exact .refl _

/-! ### What a call has to do -/
def Fr (r : Option Nat) : Fence := { Fence.wide with round := r }
def retR (R : Value → World → Prop) : Ending → World → Prop
  | .returned v, w => R v w
  | _, _ => False
def EntR (P : Program) (R : Value → World → Prop) : Next → World → Prop
  | .value v, w => R v w
  | .enter f args, w => CallsIn Fence.wide 0 P f args w (retR R)
  | .round l f tmps assign body, w => RoundIn Fence.wide 0 P l f tmps assign body w (retR R)
  | _, _ => False
def goCall (f : Value) (args : Array Value) : Sem Next := do
  let d ← Deferred.ofValue f args
  invoke d.target d.args

section
variable (P : Program) (good : Nat → Code → Prop)
def Post (ρ : Rho) (h : Hp) (w : World) (v : AV) (h' : Hp) (v' : Value) (w' : World) : Prop := ∃ ρ', VR ρ' v v' ∧ HR P good ρ' h' w' ∧ Ext ρ h w ρ' h' w'
def ValSound (fv : AV) (as : List AV) (h : Hp) (v : AV) (h' : Hp) : Prop :=
  Grow h h' ∧ ∀ (ρ : Rho) (w : World) (f : Value) (args : List Value), VR ρ fv f → VRs ρ as args → HR P good ρ h w →
    ∃ x w1, (goCall f args.toArray).run P w = .ok x w1 ∧ EntR P (Post P good ρ h w v h') x w1

noncomputable def OpR (i : AI) (r : Regs) (h : Hp) (v : AV) (h' : Hp) : Prop :=
  match i.op with
  | .p op => evalP op (evs r i.args) = some v ∧ h' = h
  | .r op => evalR op h (evs r i.args) = some v ∧ h' = h
  | .l op => ∃ q, evalL op (evs r i.args) = some q ∧ v = q.2.val h.next ∧ h' = h.add q.1
  | .e op => evalE op h (evs r i.args) = some (v, h') ∧ rereads (setDst r i.dst v) h' i.chk = true
  | .call => ∃ f as, evs r i.args = f :: as ∧ ValSound P good f as h v h' ∧ rereads (setDst r i.dst v) h' i.chk = true
/-- A step of a region: what is laid down, and by what. -/
noncomputable def StepR (i : AI) (r : Regs) (h : Hp) (v : AV) (h' : Hp) : Prop :=
  match wantA r i.guard with
  | some true => OpR P good i r h v h'
  | some false => v = .tup [] ∧ h' = h
  | none => False
structure TraceR (l : List AI) (rr : Nat → Regs) (vv : Nat → AV) (hh : Nat → Hp) : Prop where
  step : ∀ k i, l[k]? = some i → StepR P good i (rr k) (hh k) (vv k) (hh (k + 1))
  regs : ∀ k i, l[k]? = some i → rr (k + 1) = setDst (rr k) i.dst (vv k)
end

section
variable {P : Program} {good : Nat → Code → Prop} {ρ : Rho} {h : Hp} {w : World}
theorem TraceR.nil (r : Regs) (h : Hp) : TraceR P good [] (fun _ => r) (fun _ => .u) (fun _ => h) := ⟨fun k i e => by simp at e, fun k i e => by simp at e⟩
theorem TraceR.cons {i : AI} {l : List AI} {rr : Nat → Regs} {vv : Nat → AV} {hh : Nat → Hp} {r : Regs} {h : Hp} {v : AV} (ht : TraceR P good l rr vv hh) (hs : StepR P good i r h v (hh 0)) (hr : rr 0 = setDst r i.dst v) :
    TraceR P good (i :: l) (fun k => match k with | 0 => r | k + 1 => rr k) (fun k => match k with | 0 => v | k + 1 => vv k) (fun k => match k with | 0 => h | k + 1 => hh k) := by
  refine ⟨fun k j e => ?_, fun k j e => ?_⟩
  · cases k with
    | zero => simp at e; subst e; exact hs
    | succ k => exact ht.step k j (by simpa using e)
  · cases k with
    | zero => simp at e; subst e; exact hr
    | succ k => exact ht.regs k j (by simpa using e)

theorem StepR.grow {i : AI} {r : Regs} {h h' : Hp} {v : AV} (hs : StepR P good i r h v h') : Grow h h' := by
  unfold StepR at hs
  split at hs
  · unfold OpR at hs
    split at hs
    · rw [hs.2]; exact .refl _
    · rw [hs.2]; exact .refl _
    · obtain ⟨q, _, _, rfl⟩ := hs; exact .add _ _
    · exact evalE_grow hs.1
    · obtain ⟨f, as, _, h1, _⟩ := hs; exact h1.1
  · rw [hs.2]; exact .refl _
  · exact hs.elim

/-! ### The heaps side by side, on -/
theorem Ext.addAbs {ρ0 : Rho} {h0 : Hp} {w0 : World} (he : Ext ρ0 h0 w0 ρ h w) (ob : AO) : Ext ρ0 h0 w0 ρ (h.add ob) w := by
  refine ⟨he.le, he.new, fun o h1 h2 => ?_, by rw [next_add]; have := he.next; omega, he.frame, he.size, he.tape, he.os, he.output⟩
  have := he.next
  rw [get_add, if_neg (by omega)]
  exact he.keep o h1 h2
/-- A new block for an object laid ahead. -/
theorem ext_mk {ρ0 : Rho} {h0 : Hp} {w0 : World} (he : Ext ρ0 h0 w0 ρ h w) {id : Nat} {L : Loc} {w' : World} {B : Obj} (hid : ρ id = none) (hge : h0.next ≤ id) (hb : L.blk = w.heap.size) (hw : w'.heap = w.heap.push B) (ht : w'.tape = w.tape) (hos : w'.os = w.os) (hout : w'.output = w.output) :
    Ext ρ0 h0 w0 (ρ.put id L) h w' := by
  have hs := he.size
  refine ⟨he.le.trans (Rho.put_le hid), fun o M h1 h2 => ?_, he.keep, he.next, fun b h1 h2 => ?_, by rw [hw]; simp; omega, by rw [ht, he.tape], by rw [hos, he.os], by rw [hout, he.output]⟩
  · unfold Rho.put at h2
    by_cases ho : o = id
    · rw [if_pos ho] at h2; cases h2; subst ho; exact ⟨hge, .inl (by omega)⟩
    · rw [if_neg ho] at h2; exact he.new o M h1 h2
  · rw [hw, Array.getElem?_push, if_neg (by omega)]
    exact he.frame b h1 h2

/-! ### Operands -/
theorem opd_sound {x : Operand} {o : Opd} (hc : opdC x = some o) {r : Regs} {e : Operand → Value} (ht : ∀ t, x = .tmp t → t < 1024 → VR ρ (Regs.get r (slot t)) (e x)) (hcst : ∀ v, e (.const v) = v) (hfn : ∀ f, e (.func f) = .func (.func f) #[] #[]) : VR ρ (o.ev r) (e x) := by
  cases x with
  | tmp t =>
    simp only [opdC] at hc
    obtain ⟨hlt, hc⟩ := ite_some hc
    cases hc
    exact ht t rfl (by simpa [Nat.blt_eq] using hlt)
  | const v =>
    simp only [opdC] at hc
    obtain ⟨a, ha, hc⟩ := opt_map_some hc
    subst hc
    rw [hcst]
    exact absV_sound ha
  | func f =>
    simp only [opdC, Option.some.injEq] at hc
    subst hc
    rw [hfn]
    simp only [Opd.ev, VR]
    exact ⟨_, _, _, rfl, rfl, by simp [VRs], by simp [VRs]⟩
  | global g => simp [opdC] at hc
theorem opds_sound {e : Operand → Value} {r : Regs} (hcst : ∀ v, e (.const v) = v) (hfn : ∀ f, e (.func f) = .func (.func f) #[] #[]) : ∀ {xs : List Operand} {os : List Opd}, opdsC xs = some os → (∀ t, .tmp t ∈ xs → t < 1024 → VR ρ (Regs.get r (slot t)) (e (.tmp t))) → VRs ρ (evs r os) (xs.map e)
  | [], os, hc, _ => by
    simp only [opdsC, allSome, Option.some.injEq] at hc
    subst hc
    simp [evs, VRs, mapl]
  | x :: xs, os, hc, ht => by
    simp only [opdsC, allSome] at hc
    obtain ⟨o, ho, hc⟩ := opt_bind_some hc
    obtain ⟨os', hos, hc⟩ := opt_map_some hc
    subst hc
    have h1 := opd_sound ho (r := r) (e := e) (fun t hx hlt => by subst hx; exact ht t (by simp) hlt) hcst hfn
    have h2 := opds_sound hcst hfn (xs := xs) hos (fun t hm hlt => ht t (by simp [hm]) hlt)
    simp only [List.map_cons]
    exact ⟨_, _, rfl, h1, h2⟩
end
end Go.Ai
