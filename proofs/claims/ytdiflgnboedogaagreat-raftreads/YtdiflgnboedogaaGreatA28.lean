/- An interpreter on abstract values: its runs mean what the model does (code). -/
import Derived.Test.YtdiflgnboedogaaGreatA27
import Derived.LoopNIn
namespace Go.Ai
section
variable {P : Program}

theorem HR.less {good : Nat → Code → Prop} {ρ : Rho} {h h1 : Hp} {w : World} (hr : HR P good ρ h w) (hl : Less h1 h) : HR P good ρ h1 w := by
  have sub : ∀ o x, h1.get o = some x → h.get o = some x := fun o x e => by
    rcases hl.2 o with h2 | h2
    · rw [← h2]; exact e
    · rw [h2] at e; cases e
  have subn : ∀ o, h1.get o ≠ none → h.get o ≠ none := fun o e => by
    cases hg : h1.get o with
    | none => exact (e hg).elim
    | some x => rw [sub o x hg]; simp
  refine ⟨fun o L e => by rw [hl.1]; exact hr.dom o L e, fun o L x e g => hr.obj o L x e (sub o x g), fun o L o' L' e e' g g' => hr.inj o L o' L' e e' (subn o g) (subn o' g'), fun o ho => ?_⟩
  rcases hl.2 o with h2 | h2
  · rw [h2]; exact hr.fresh o (by rw [← hl.1]; exact ho)
  · exact h2
theorem Ext.less {ρ ρ' : Rho} {h h1 h' : Hp} {w w' : World} (he : Ext ρ h1 w ρ' h' w') (hl : Less h1 h) : Ext ρ h w ρ' h' w' := by
  refine ⟨he.le, fun o L h2 h3 => by rw [← hl.1]; exact he.new o L h2 h3, fun o h2 h3 => ?_, by rw [← hl.1]; exact he.next, he.frame, he.size, he.tape, he.os, he.output⟩
  rcases he.keep o h2 (by rw [hl.1]; exact h3) with h4 | h4
  · rw [h4]; exact hl.2 o
  · exact .inr h4
theorem Grow.less {h h1 h' : Hp} (hg : Grow h1 h') (hl : Less h1 h) : Grow h h' := by
  refine ⟨by rw [← hl.1]; exact hg.next, fun f => hg.fresh fun o ho => ?_⟩
  rcases hl.2 o with h2 | h2
  · rw [h2]; exact f o (by rw [← hl.1]; exact ho)
  · exact h2

/-- The weakest condition, a loop's with the number of its rounds. -/
def WP (n : Nat) (F : Fence) (P : Program) (Q : Exit → Act → World → Prop) (a : Act) (w : World) : Code → Prop
  | .loop x => Code.roundsIn F 0 P x Q n a w
  | c => c.wpIn F 0 P Q a w
theorem WP.wp {n : Nat} {F : Fence} {Q : Exit → Act → World → Prop} {a : Act} {w : World} {c : Code} (h : WP n F P Q a w c) : c.wpIn F 0 P Q a w := by
  cases c with
  | loop x => exact wpIn_loop_rounds n h
  | _ => exact h
variable (P) in
def CodeN (n : Nat) (c : AC) (r : Regs) (h : Hp) (e : Ex) (r' : Regs) (h' : Hp) : Prop :=
  ∀ (c' : Code) (m : Nat) (rnd : Option Nat) (ρ : Rho) (a : Act) (w : World) (base : Nat) (Q : Exit → Act → World → Prop),
    codeC P c' = c → goodC P m c' = true → (rnd.isSome = true → noRange c' = true) → m ≤ a.tmps.size → FR ρ r a.tmps → HR P (Good P) ρ h w → base ≤ w.heap.size → Marks base ρ w a.defers →
    (∀ a' w' ρ', a'.tmps.size = a.tmps.size → FR ρ' r' a'.tmps → HR P (Good P) ρ' h' w' → Ext ρ h w ρ' h' w' → Marks base ρ' w' a'.defers → Q (exOf e) a' w') → WP n (Fr rnd) P Q a w c'
variable (P) in
def CodeL (c : AC) (r : Regs) (h : Hp) (e : Ex) (r' : Regs) (h' : Hp) : Prop := Grow h h' ∧ ∃ n, CodeN P n c r h e r' h'
theorem CodeL.s {c : AC} {r r' : Regs} {h h' : Hp} {e : Ex} (hc : CodeL P c r h e r' h') : CodeS P c r h e r' h' := by
  obtain ⟨h1, n, h2⟩ := hc
  exact ⟨h1, fun c' m rnd ρ a w base Q a1 a2 a3 a4 a5 a6 a7 a8 a9 => (h2 c' m rnd ρ a w base Q a1 a2 a3 a4 a5 a6 a7 a8 a9).wp⟩

theorem then_x {K : Act → World → Prop} {Q : Exit → Act → World → Prop} {e : Ex} (he : e ≠ .norm) (a : Act) (w : World) : Exit.then K Q (exOf e) a w = Q (exOf e) a w := by
  cases e with
  | norm => exact (he rfl).elim
  | exit id => rfl
  | ret => rfl

theorem code_skip (r : Regs) (h : Hp) : CodeL P .skip r h .norm r h := ⟨.refl _, 0, fun c' m rnd ρ a w base Q hc hg _ _ hf hr _ hm hQ => by
  have hq := hQ a w ρ rfl hf hr (Ext.refl _ _ _) hm
  rcases inv_skip hc hg with rfl | ⟨l, rfl⟩
  · exact wpIn_skip hq
  · exact wpIn_label hq⟩
theorem code_ret (r : Regs) (h : Hp) : CodeL P .ret r h .ret r h := ⟨.refl _, 0, fun c' m rnd ρ a w base Q hc hg _ _ hf hr _ hm hQ => by
  have hq := hQ a w ρ rfl hf hr (Ext.refl _ _ _) hm
  have := inv_ret hc hg; subst this
  exact wpIn_ret hq⟩
theorem code_exit (id : Nat) (r : Regs) (h : Hp) : CodeL P (.exit id) r h (.exit id) r h := ⟨.refl _, 0, fun c' m rnd ρ a w base Q hc hg _ _ hf hr _ hm hQ => by
  have hq := hQ a w ρ rfl hf hr (Ext.refl _ _ _) hm
  have := inv_exit hc hg; subst this
  exact wpIn_exit hq⟩
theorem code_reg (hmx : P.follows .mixedOrders = true) {l : List AI} {r r' : Regs} {h h' : Hp} (ho : OpsS P l r h r' h') : CodeL P (.reg l) r h .norm r' h' := by
  obtain ⟨hg, rr, vv, hh, ht, e1, e2, e3, e4⟩ := ho
  refine ⟨hg, 0, fun c' m rnd ρ a w base Q hc hgd _ hsz hf hr _ hm hQ => ?_⟩
  obtain ⟨id, ops, d, rfl, hrc, hgr⟩ := inv_reg hc hgd
  obtain ⟨I, lit, hd⟩ := regD_of P hrc hgr
  have := region_sound (r := rnd) (Q := Q) (a := a) (w := w) (ρ := ρ) hmx hd ht hsz (by rw [e1]; exact hf) (by rw [e2]; exact hr) id d fun a' w' ρ' h1 h2 h3 h4 h5 => ?_
  · simpa [WP] using this
  · rw [e3] at h3
    rw [e4] at h4 h5
    rw [e2] at h5
    exact hQ a' w' ρ' h1 h3 h4 h5 (by rw [h2]; exact hm.ext h5)
theorem code_seq {a b : AC} {r r1 r2 : Regs} {h h1 h2 : Hp} {e : Ex} (sa : CodeL P a r h .norm r1 h1) (sb : CodeL P b r1 h1 e r2 h2) : CodeL P (.seq a b) r h e r2 h2 := by
  refine ⟨sa.1.trans sb.1, 0, fun c' m rnd ρ ac w base Q hc hg hn hsz hf hr hb hm hQ => ?_⟩
  obtain ⟨x, y, rfl, hx, hy, gx, gy⟩ := inv_seq hc hg
  simp only [noRange, Bool.and_eq_true] at hn
  refine wpIn_seq (sa.s.2 x m rnd ρ ac w base _ hx gx (fun q => (hn q).1) hsz hf hr hb hm fun a1 w1 ρ1 s1 f1 r1' e1 m1 => ?_)
  exact sb.s.2 y m rnd ρ1 a1 w1 base Q hy gy (fun q => (hn q).2) (by omega) f1 r1' (Nat.le_trans hb e1.size) m1 fun a2 w2 ρ2 s2 f2 r2' e2 m2 => hQ a2 w2 ρ2 (s2.trans s1) f2 r2' (e1.trans e2) m2
theorem code_seqX {a b : AC} {r r1 : Regs} {h h1 : Hp} {e : Ex} (sa : CodeL P a r h e r1 h1) (he : e ≠ .norm) : CodeL P (.seq a b) r h e r1 h1 := by
  refine ⟨sa.1, 0, fun c' m rnd ρ ac w base Q hc hg hn hsz hf hr hb hm hQ => ?_⟩
  obtain ⟨x, y, rfl, hx, hy, gx, gy⟩ := inv_seq hc hg
  simp only [noRange, Bool.and_eq_true] at hn
  refine wpIn_seq (sa.s.2 x m rnd ρ ac w base _ hx gx (fun q => (hn q).1) hsz hf hr hb hm fun a1 w1 ρ1 s1 f1 r1' e1 m1 => ?_)
  rw [then_x he]
  exact hQ a1 w1 ρ1 s1 f1 r1' e1 m1
theorem code_cond {o : Opd} {a b : AC} {r r1 : Regs} {h h1 : Hp} {e : Ex} (t : Bool) (hv : o.ev r = .b t) (s : CodeL P (if t then a else b) r h e r1 h1) : CodeL P (.cond o a b) r h e r1 h1 := by
  refine ⟨s.1, 0, fun c' m rnd ρ ac w base Q hc hg hn hsz hf hr hb hm hQ => ?_⟩
  rcases inv_cond hc hg with ⟨q, x, y, rfl, hq, hx, hy, gx, gy⟩ | rfl
  · simp only [noRange, Bool.and_eq_true] at hn
    have hev : ac.eval q = .bool t := by
      have := opd_sound (ρ := ρ) hq (r := r) (e := ac.eval) (fun u hu hlt => by subst hu; exact hf u hlt) (fun _ => rfl) (fun _ => rfl)
      rw [hv] at this
      simpa [VR] using this
    refine wpIn_cond hev ?_
    cases t with
    | true => exact s.s.2 x m rnd ρ ac w base Q hx gx (fun q => (hn q).1) hsz hf hr hb hm hQ
    | false => exact s.s.2 y m rnd ρ ac w base Q hy gy (fun q => (hn q).2) hsz hf hr hb hm hQ
  · cases hv
theorem code_block {id : Nat} {c : AC} {r r1 : Regs} {h h1 : Hp} {e : Ex} (s : CodeL P c r h e r1 h1) : CodeL P (.block id c) r h (blkEx id e) r1 h1 := by
  refine ⟨s.1, 0, fun c' m rnd ρ ac w base Q hc hg hn hsz hf hr hb hm hQ => ?_⟩
  obtain ⟨x, rfl, hx, gx⟩ := inv_block hc hg
  refine wpIn_block (s.s.2 x m rnd ρ ac w base _ hx gx hn hsz hf hr hb hm fun a1 w1 ρ1 s1 f1 r1' e1 m1 => ?_)
  have hq := hQ a1 w1 ρ1 s1 f1 r1' e1 m1
  cases e with
  | norm => exact hq
  | ret => exact hq
  | exit j =>
    simp only [exOf, Exit.inBlock]
    by_cases hj : j = id
    · rw [if_pos hj]
      have : blkEx id (.exit j) = .norm := by simp [blkEx, hj]
      rw [this] at hq; exact hq
    · rw [if_neg hj]
      have : blkEx id (.exit j) = .exit j := by simp [blkEx, hj]
      rw [this] at hq; exact hq
theorem code_loop {c : AC} {r r1 r2 : Regs} {h h1 h2 : Hp} {e : Ex} (sa : CodeL P c r h .norm r1 h1) (sb : CodeL P (.loop c) r1 h1 e r2 h2) : CodeL P (.loop c) r h e r2 h2 := by
  obtain ⟨g, n, hn2⟩ := sb
  refine ⟨sa.1.trans g, n + 1, fun c' m rnd ρ ac w base Q hc hg hn hsz hf hr hb hm hQ => ?_⟩
  obtain ⟨x, rfl, hx, gx⟩ := inv_loop hc hg
  simp only [noRange] at hn
  show Code.roundsIn (Fr rnd) 0 P x Q (n + 1) ac w
  rw [roundsIn_succ]
  refine sa.s.2 x m rnd ρ ac w base _ hx gx hn hsz hf hr hb hm fun a1 w1 ρ1 s1 f1 r1' e1 m1 => ?_
  exact hn2 (.loop x) m rnd ρ1 a1 w1 base Q hc hg hn (by omega) f1 r1' (Nat.le_trans hb e1.size) m1 fun a2 w2 ρ2 s2 f2 r2' e2 m2 => hQ a2 w2 ρ2 (s2.trans s1) f2 r2' (e1.trans e2) m2
theorem code_loopX {c : AC} {r r1 : Regs} {h h1 : Hp} {e : Ex} (sa : CodeL P c r h e r1 h1) (he : e ≠ .norm) : CodeL P (.loop c) r h e r1 h1 := by
  refine ⟨sa.1, 1, fun c' m rnd ρ ac w base Q hc hg hn hsz hf hr hb hm hQ => ?_⟩
  obtain ⟨x, rfl, hx, gx⟩ := inv_loop hc hg
  simp only [noRange] at hn
  show Code.roundsIn (Fr rnd) 0 P x Q (0 + 1) ac w
  rw [roundsIn_succ]
  refine sa.s.2 x m rnd ρ ac w base _ hx gx hn hsz hf hr hb hm fun a1 w1 ρ1 s1 f1 r1' e1 m1 => ?_
  rw [then_x he]
  exact hQ a1 w1 ρ1 s1 f1 r1' e1 m1
theorem FR.less {ρ : Rho} {r r' : Regs} {tmps : Array Value} (hf : FR ρ r tmps) (hl : LessR r' r) : FR ρ r' tmps := fun t ht => by
  rcases hl (slot t) with h | h
  · rw [h]; exact hf t ht
  · rw [h]; simp [VR]
theorem code_gc {c : AC} {r rl r1 : Regs} {h hl h1 : Hp} {e : Ex} (hls : Less hl h) (hlr : LessR rl r) (s : CodeL P c rl hl e r1 h1) : CodeL P c r h e r1 h1 := by
  obtain ⟨g, n, hs⟩ := s
  exact ⟨g.less hls, n, fun c' m rnd ρ a w base Q hc hg hn hsz hf hr hb hm hQ =>
    hs c' m rnd ρ a w base Q hc hg hn hsz (hf.less hlr) (hr.less hls) hb hm fun a1 w1 ρ1 s1 f1 r1' e1 m1 => hQ a1 w1 ρ1 s1 f1 r1' (e1.less hls) m1⟩

/-! ### The operations of a region, one after another -/
theorem ops_nil (r : Regs) (h : Hp) : OpsS P [] r h r h := ⟨.refl _, _, _, _, TraceR.nil r h, rfl, rfl, rfl, rfl⟩
theorem ops_cons {i : AI} {l : List AI} {r r' : Regs} {h h1 h' : Hp} {v : AV} (hs : StepR P (Good P) i r h v h1) (ho : OpsS P l (setDst r i.dst v) h1 r' h') : OpsS P (i :: l) r h r' h' := by
  obtain ⟨g, rr, vv, hh, ht, e1, e2, e3, e4⟩ := ho
  refine ⟨hs.grow.trans g, _, _, _, TraceR.cons (v := v) ht (by rw [e2]; exact hs) e1, rfl, rfl, ?_, ?_⟩
  · simpa using e3
  · simpa using e4

/-! ### What a function hands back -/
theorem cell_run {good : Nat → Code → Prop} {ρ : Rho} {h : Hp} {w : World} (hr : HR P good ρ h w) {t : TypeId} {n : Nat} (hn : sizeT P t = some n) {d : TypeDesc} (hd : P.underlying t = some d) {x : AV} {xv : Value} (hx : VR ρ x xv) {v : AV} (hv : (if aggT P t then rLoadN n h [x] else rLoad1 h [x]) = some v) :
    ∃ v', (do loadVar t (← asAddr xv) : Sem Value).run P w = .ok v' w ∧ VR ρ v v' := by
  have hk : kindT P t = some (aggT P t) := by simp [kindT, hd]
  let o : Oper := { (default : Oper) with op := .load t (.const xv) }
  obtain ⟨v', h1, h2⟩ := load_sound (P := P) hr (t := t) (x := .const xv) (o := o) rfl hk (n := n) (fun _ => hn) (e := fun q => match q with | .const v => v | _ => undef) (as := [x]) (v := v) (by simp only [VRs]; exact ⟨_, _, rfl, hx, rfl⟩) hv
  refine ⟨v', ?_, h2⟩
  have hp : ∃ a, xv = .pointer (some a) := by
    have : ∃ ob off, x = .p ob off := by
      split at hv
      · unfold rLoadN at hv
        split at hv <;> (try (simp only [reduceCtorEq] at hv))
        rename_i hc; simp only [List.cons.injEq, and_true] at hc; exact ⟨_, _, hc⟩
      · unfold rLoad1 at hv
        split at hv <;> (try (simp only [reduceCtorEq] at hv))
        rename_i hc; simp only [List.cons.injEq, and_true] at hc; exact ⟨_, _, hc⟩
    obtain ⟨ob, off, rfl⟩ := this
    simp only [VR] at hx
    obtain ⟨L, _, hx⟩ := hx
    exact ⟨_, hx⟩
  obtain ⟨a, rfl⟩ := hp
  simp only [execOp, o, Instr.loadAt, Instr.sureAddr, pure_bind, Sem.run_bind] at h1
  simp only [asAddr, pure_bind]
  generalize hq : (loadVar t a).run P w = q at h1
  cases q with
  | ok y w1 =>
    simp only [Result.andThen_ok, Sem.run_pure, Result.ok.injEq, Next.value.injEq] at h1
    rw [h1.1, h1.2]
  | halt y w1 => simp [Result.andThen] at h1
end
end Go.Ai
