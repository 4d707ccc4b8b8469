/- An interpreter on abstract values: all that is derived in the large holds of the model. -/
import Derived.Test.YtdiflgnboedogaaGreatA30
namespace Go.Ai
section
variable {P : Program}

def PrimS (P : Program) (f : Nat) (args : List AV) (h : Hp) (v : AV) (h' : Hp) : Prop :=
  Grow h h' ∧ ∀ (ρ : Rho) (w : World) (vals : List Value), VRs ρ args vals → HR P (Good P) ρ h w → ∃ x w1, (callFunc f vals.toArray).run P w = .ok x w1 ∧ EntR P (Post P (Good P) ρ h w v h') x w1
theorem val_prim {f : Nat} {first cap args : List AV} {h h' : Hp} {v : AV} (hs : PrimS P f (app first (app args cap)) h v h') : ValSound P (Good P) (.f (.func f) first cap) args h v h' := by
  refine ⟨hs.1, fun ρ w fv vals hfv hvs hr => ?_⟩
  simp only [VR] at hfv
  obtain ⟨g, xs, ys, rfl, rfl, hx, hy⟩ := hfv
  have hall : VRs ρ (app first (app args cap)) (xs.toList ++ (vals ++ ys.toList)) := by
    rw [app_eq, app_eq]; exact hx.app (hvs.app hy)
  obtain ⟨x, w1, h1, h2⟩ := hs.2 ρ w _ hall hr
  have harr : xs ++ vals.toArray ++ ys = (xs.toList ++ (vals ++ ys.toList)).toArray := by
    apply Array.ext'; simp
  refine ⟨x, w1, ?_, h2⟩
  simp only [goCall, Deferred.ofValue, pure_bind, invoke, harr]
  exact h1

def MeansL (P : Program) : Job → Res → Prop
  | .code c r h, .cd e r' h' => CodeL P c r h e r' h'
  | .ops l r h, .cd e r' h' => e = .norm ∧ OpsS P l r h r' h'
  | .fn f args h, .vl v h' => FnS P f args h v h'
  | .val fv args h, .vl v h' => ValSound P (Good P) fv args h v h'
  | _, _ => True

theorem B_sound {ft : T FEnt} {prim : Nat → Hp → List AV → Option (AV × Hp)} (hmx : P.follows .mixedOrders = true) (hft : ∀ f fn, T.get ft f = some (.code fn) → FnOK P f fn)
    (hpr : ∀ f n, T.get ft f = some (.prim n) → ∀ args h v h', prim n h args = some (v, h') → PrimS P f args h v h') {j : Job} {q : Res} (hb : B ft prim j q) : MeansL P j q := by
  induction hb with
  | skip r h => exact code_skip r h
  | ret r h => exact code_ret r h
  | exit id r h => exact code_exit id r h
  | @reg l r h q _ ih =>
    cases q with
    | cd e r' h' => obtain ⟨rfl, ho⟩ := ih; exact code_reg hmx ho
    | vl v h' => trivial
  | @seq a b r h r1 h1 q _ _ iha ihb =>
    cases q with
    | cd e r' h' => exact code_seq iha ihb
    | vl v h' => trivial
  | seqX _ he ih => exact code_seqX ih he
  | @condT o a b r h q hv _ ih =>
    cases q with
    | cd e r' h' => exact code_cond true hv ih
    | vl v h' => trivial
  | @condF o a b r h q hv _ ih =>
    cases q with
    | cd e r' h' => exact code_cond false hv ih
    | vl v h' => trivial
  | block _ ih => exact code_block ih
  | @loop c r h r1 h1 q _ _ iha ihb =>
    cases q with
    | cd e r' h' => exact code_loop iha ihb
    | vl v h' => trivial
  | loopX _ he ih => exact code_loopX ih he
  | range hv _ hg hst ih => exact code_range hv ih hg hst
  | @gc c r r1 h h1 q hl hlr _ ih =>
    cases q with
    | cd e r' h' => exact code_gc hl hlr ih
    | vl v h' => trivial
  | opsN r h => exact ⟨rfl, ops_nil r h⟩
  | @opsS i rest r h q hw _ ih =>
    cases q with
    | cd e r' h' =>
      obtain ⟨rfl, ho⟩ := ih
      refine ⟨rfl, ops_cons ?_ ho⟩
      unfold StepR; rw [hw]; exact ⟨rfl, rfl⟩
    | vl v h' => trivial
  | @opsP i op rest r h v q hw hi hv _ ih =>
    cases q with
    | cd e r' h' =>
      obtain ⟨rfl, ho⟩ := ih
      refine ⟨rfl, ops_cons ?_ ho⟩
      unfold StepR; rw [hw]; simp only; unfold OpR; rw [hi]; exact ⟨hv, rfl⟩
    | vl v h' => trivial
  | @opsR i op rest r h v q hw hi hv _ ih =>
    cases q with
    | cd e r' h' =>
      obtain ⟨rfl, ho⟩ := ih
      refine ⟨rfl, ops_cons ?_ ho⟩
      unfold StepR; rw [hw]; simp only; unfold OpR; rw [hi]; exact ⟨hv, rfl⟩
    | vl v h' => trivial
  | @opsL i op rest r h p q hw hi hv _ ih =>
    cases q with
    | cd e r' h' =>
      obtain ⟨rfl, ho⟩ := ih
      refine ⟨rfl, ops_cons ?_ ho⟩
      unfold StepR; rw [hw]; simp only; unfold OpR; rw [hi]; exact ⟨p, hv, rfl, rfl⟩
    | vl v h' => trivial
  | @opsE i op rest r h v h1 q hw hi hv hre _ ih =>
    cases q with
    | cd e r' h' =>
      obtain ⟨rfl, ho⟩ := ih
      refine ⟨rfl, ops_cons ?_ ho⟩
      unfold StepR; rw [hw]; simp only; unfold OpR; rw [hi]; exact ⟨hv, hre⟩
    | vl v h' => trivial
  | @opsC i rest r h f as v h1 q hw hi hev _ hre _ ihc ih =>
    cases q with
    | cd e r' h' =>
      obtain ⟨rfl, ho⟩ := ih
      refine ⟨rfl, ops_cons ?_ ho⟩
      unfold StepR; rw [hw]; simp only; unfold OpR; rw [hi]; exact ⟨f, as, hev, ihc, hre⟩
    | vl v h' => trivial
  | fn hf hb _ hne hv ih => exact fn_sound (hft _ _ hf) hb ih hne hv
  | @valF f first cap args h q _ ih =>
    cases q with
    | cd e r' h' => trivial
    | vl v h' => exact val_fn ih
  | valP hf hp => exact val_prim (hpr _ _ hf _ _ _ _ hp)
  | valY hg hb _ hg2 _ hg3 iha ihb => exact val_yield hg hb iha hg2 ihb hg3
end

/-! ### From the machine's steps -/
section
variable (ft : T FEnt) (prim : Nat → Hp → List AV → Option (AV × Hp))
inductive Goes : Nat → St → AV → Hp → Prop where
  | done (v h) : Goes 0 (.val v h []) v h
  | step {n s s' v h} : step ft prim s = some s' → Goes n s' v h → Goes (n + 1) s v h
  | gc {n c r r1 h h1 k v h'} : Less h1 h → LessR r1 r → Goes n (.code c r1 h1 k) v h' → Goes (n + 1) (.code c r h k) v h'
  | memo {n f args h k s v1 h1 v h'} : callC ft f args h k = some s → B ft prim (.fn f args h) (.vl v1 h1) → Goes n (.val v1 h1 k) v h' → Goes (n + 2) s v h'
end
section
variable {ft : T FEnt} {prim : Nat → Hp → List AV → Option (AV × Hp)}
theorem goes_run {s' : St} {v : AV} {h : Hp} {m : Nat} (hg : Goes ft prim m s' v h) : ∀ (n : Nat) (s : St), run ft prim n s = some s' → ∃ m', Goes ft prim m' s v h
  | 0, s, hr => by
    have : s = s' := Option.some.inj hr
    subst this; exact ⟨m, hg⟩
  | n + 1, s, hr => by
    have hd : run ft prim (n + 1) s = match step ft prim s with | none => none | some s1 => run ft prim n s1 := by
      show Option.rec (motive := fun _ => Option St) none (fun s' => goOn (run ft prim n) s') (step ft prim s) = _
      cases step ft prim s <;> rfl
    rw [hd] at hr
    cases hs : step ft prim s with
    | none => rw [hs] at hr; cases hr
    | some s1 =>
      rw [hs] at hr
      obtain ⟨m', h'⟩ := goes_run hg n s1 hr
      exact ⟨m' + 1, .step hs h'⟩

variable (ft prim) in
def HasC (n : Nat) : Prop := ∀ c r h k v h', Goes ft prim n (.code c r h k) v h' → ∃ e r1 h1 m, m < n ∧ B ft prim (.code c r h) (.cd e r1 h1) ∧ Goes ft prim m (.bck e r1 h1 k) v h'
variable (ft prim) in
def HasO (n : Nat) : Prop := ∀ l r h k v h', Goes ft prim n (.ops l r h k) v h' → ∃ r1 h1 m, m < n ∧ B ft prim (.ops l r h) (.cd .norm r1 h1) ∧ Goes ft prim m (.bck .norm r1 h1 k) v h'
variable (ft prim) in
def HasL (n : Nat) : Prop := ∀ c r h k v h', Goes ft prim n (.code c r h (.lp c :: k)) v h' → ∃ e r1 h1 m, m < n ∧ B ft prim (.code (.loop c) r h) (.cd e r1 h1) ∧ Goes ft prim m (.bck e r1 h1 k) v h'

theorem callC_some {f : Nat} {args : List AV} {h : Hp} {k : List K} {s : St} (hs : callC ft f args h k = some s) : ∃ fn r, T.get ft f = some (.code fn) ∧ bindArgs u6 fn.params args = some r ∧ s = .code fn.body r h (.ret fn.results :: k) := by
  unfold callC at hs
  split at hs
  · rename_i fn hf
    obtain ⟨r, hr, hs⟩ := opt_map_some hs
    exact ⟨fn, r, hf, hr, hs.symm⟩
  · cases hs
theorem bck_step {n : Nat} {e : Ex} {r : Regs} {h : Hp} {x : K} {k : List K} {v : AV} {h' : Hp} (hg : Goes ft prim n (.bck e r h (x :: k)) v h') : ∃ m s, n = m + 1 ∧ bckK e r h k x = some s ∧ Goes ft prim m s v h' := by
  cases hg with
  | step hs hg => exact ⟨_, _, rfl, hs, hg⟩
  | memo hs _ _ => obtain ⟨_, _, _, _, e⟩ := callC_some hs; cases e
theorem val_step {n : Nat} {uu : AV} {h : Hp} {x : K} {k : List K} {v : AV} {h' : Hp} (hg : Goes ft prim n (.val uu h (x :: k)) v h') : ∃ m s, n = m + 1 ∧ valK uu h k x = some s ∧ Goes ft prim m s v h' := by
  cases hg with
  | step hs hg => exact ⟨_, _, rfl, hs, hg⟩
  | memo hs _ _ => obtain ⟨_, _, _, _, e⟩ := callC_some hs; cases e

/-- A function that is entered. -/
theorem callC_goes {n : Nat} (hc : HasC ft prim n) {f : Nat} {args : List AV} {h : Hp} {k : List K} {s : St} {v : AV} {h' : Hp} (hs : callC ft f args h k = some s) (hg : Goes ft prim n s v h') :
    ∃ v1 h1 m, m ≤ n ∧ B ft prim (.fn f args h) (.vl v1 h1) ∧ Goes ft prim m (.val v1 h1 k) v h' := by
  unfold callC at hs
  split at hs
  · rename_i fn hf
    obtain ⟨r, hr, hs⟩ := opt_map_some hs
    subst hs
    obtain ⟨e, r1, h1, m, hm, hb, hg⟩ := hc _ _ _ _ _ _ hg
    obtain ⟨m', s, rfl, hs, hg⟩ := bck_step hg
    simp only [bckK] at hs
    split at hs
    · cases hs
    · rename_i hne
      obtain ⟨uu, hu, hs⟩ := opt_map_some hs
      subst hs
      exact ⟨uu, h1, m', by omega, .fn hf hr hb (fun id he => hne id he) hu, hg⟩
  · cases hs
theorem callV_goes {n : Nat} (hc : ∀ m, m ≤ n → HasC ft prim m) {fv : AV} {args : List AV} {h : Hp} {k : List K} {s : St} {v : AV} {h' : Hp} (hs : callV ft prim args h k fv = some s) (hg : Goes ft prim n s v h') :
    ∃ v1 h1 m, m ≤ n ∧ B ft prim (.val fv args h) (.vl v1 h1) ∧ Goes ft prim m (.val v1 h1 k) v h' := by
  unfold callV at hs
  split at hs
  · rename_i f first cap
    unfold callF at hs
    cases hf : T.get ft f with
    | none => rw [hf] at hs; cases hs
    | some en =>
      rw [hf] at hs
      cases en with
      | code fn =>
        simp only at hs
        have hs' : callC ft f (app first (app args cap)) h k = some s := by unfold callC; rw [hf]; exact hs
        obtain ⟨v1, h1, m, hm, hb, hg⟩ := callC_goes (hc n (Nat.le_refl _)) hs' hg
        exact ⟨v1, h1, m, hm, .valF hb, hg⟩
      | prim q =>
        simp only at hs
        obtain ⟨p, hp, hs⟩ := opt_map_some hs
        subst hs
        exact ⟨p.1, p.2, n, Nat.le_refl _, .valP hf hp, hg⟩
  · rename_i l
    unfold callY at hs
    split at hs
    · rename_i p r ps a b hgl
      obtain ⟨r1, hr1, hs⟩ := opt_map_some hs
      subst hs
      obtain ⟨e, r2, h2, m, hm, hb, hg⟩ := hc n (Nat.le_refl _) _ _ _ _ _ _ hg
      obtain ⟨m', s, rfl, hs, hg⟩ := bck_step hg
      simp only [bckK] at hs
      split at hs
      · rename_i p' r' ps' a' b' hgl2
        rw [Hp.updK_eq] at hs
        cases hs
        obtain ⟨e3, r3, h3, m3, hm3, hb3, hg⟩ := hc m' (by omega) _ _ _ _ _ _ hg
        obtain ⟨m4, s, rfl, hs, hg⟩ := bck_step hg
        simp only [bckK] at hs
        split at hs
        · rename_i p'' r'' ps'' a'' b'' hgl3
          cases e3 with
          | norm =>
            simp only [Hp.updK_eq, Option.some.injEq] at hs
            subst hs
            exact ⟨_, _, m4, by omega, .valY (e := .norm) hgl hr1 hb hgl2 hb3 hgl3, hg⟩
          | exit id =>
            simp only [Hp.updK_eq, Option.some.injEq] at hs
            subst hs
            exact ⟨_, _, m4, by omega, .valY (e := .exit id) hgl hr1 hb hgl2 hb3 hgl3, hg⟩
          | ret =>
            simp only [Hp.updK_eq, Option.some.injEq] at hs
            subst hs
            exact ⟨_, _, m4, by omega, .valY (e := .ret) hgl hr1 hb hgl2 hb3 hgl3, hg⟩
        · cases hs
      · cases hs
    · cases hs
  · cases hs

/-- The operations of a region. -/
theorem stepOps_goes {n : Nat} (hc : ∀ m, m ≤ n → HasC ft prim m) (ho : ∀ m, m ≤ n → HasO ft prim m) : ∀ {l : List AI} {r : Regs} {h : Hp} {k : List K} {s : St} {v : AV} {h' : Hp}, stepOps ft prim l r h k = some s → Goes ft prim n s v h' →
    ∃ r1 h1 m, m ≤ n ∧ B ft prim (.ops l r h) (.cd .norm r1 h1) ∧ Goes ft prim m (.bck .norm r1 h1 k) v h'
  | [], r, h, k, s, v, h', hs, hg => by
    have : St.bck .norm r h k = s := Option.some.inj hs
    subst this
    exact ⟨r, h, n, Nat.le_refl _, .opsN r h, hg⟩
  | i :: rest, r, h, k, s, v, h', hs, hg => by
    have hs : oneOp ft prim i rest (stepOps ft prim rest) r h k = some s := hs
    unfold oneOp at hs
    split at hs
    · rename_i hw
      unfold doOp at hs
      split at hs
      · rename_i op hi
        unfold doP at hs
        split at hs
        · rename_i uu hu
          rw [setDstK_eq] at hs
          obtain ⟨r1, h1, m, hm, hb, hg⟩ := stepOps_goes hc ho hs hg
          exact ⟨r1, h1, m, hm, .opsP hw hi hu hb, hg⟩
        · cases hs
      · rename_i op hi
        unfold doR at hs
        split at hs
        · rename_i uu hu
          rw [setDstK_eq] at hs
          obtain ⟨r1, h1, m, hm, hb, hg⟩ := stepOps_goes hc ho hs hg
          exact ⟨r1, h1, m, hm, .opsR hw hi hu hb, hg⟩
        · cases hs
      · rename_i op hi
        unfold doL at hs
        split at hs
        · rename_i q hq
          rw [setDstK_eq, Hp.addK_eq] at hs
          obtain ⟨r1, h1, m, hm, hb, hg⟩ := stepOps_goes hc ho hs hg
          exact ⟨r1, h1, m, hm, .opsL hw hi hq hb, hg⟩
        · cases hs
      · rename_i op hi
        unfold doE at hs
        split at hs
        · rename_i q hq
          rw [setDstK_eq] at hs
          split at hs
          · rename_i hre
            obtain ⟨r1, h1, m, hm, hb, hg⟩ := stepOps_goes hc ho hs hg
            exact ⟨r1, h1, m, hm, .opsE (v := q.1) (h1 := q.2) hw hi hq hre hb, hg⟩
          · cases hs
        · cases hs
      · rename_i hi
        unfold doCall at hs
        split at hs
        · rename_i f args hev
          obtain ⟨v1, h1, m, hm, hb, hg⟩ := callV_goes hc hs hg
          obtain ⟨m', s', rfl, hs', hg⟩ := val_step hg
          simp only [valK, setDstK_eq] at hs'
          split at hs'
          · rename_i hre
            cases hs'
            obtain ⟨r2, h2, m2, hm2, hb2, hg⟩ := ho m' (by omega) _ _ _ _ _ _ hg
            exact ⟨r2, h2, m2, by omega, .opsC hw hi hev hb hre hb2, hg⟩
          · cases hs'
        · cases hs
    · rename_i hw
      rw [setDstK_eq] at hs
      obtain ⟨r1, h1, m, hm, hb, hg⟩ := stepOps_goes hc ho hs hg
      exact ⟨r1, h1, m, hm, .opsS hw hb, hg⟩
    · cases hs

theorem stepCode_goes {n : Nat} (hc : ∀ m, m ≤ n → HasC ft prim m) (ho : ∀ m, m ≤ n → HasO ft prim m) (hl : ∀ m, m ≤ n → HasL ft prim m) : ∀ {c : AC} {r : Regs} {h : Hp} {k : List K} {s : St} {v : AV} {h' : Hp}, stepCode ft prim c r h k = some s → Goes ft prim n s v h' →
    ∃ e r1 h1 m, m ≤ n ∧ B ft prim (.code c r h) (.cd e r1 h1) ∧ Goes ft prim m (.bck e r1 h1 k) v h'
  | .skip, r, h, k, s, v, h', hs, hg => by
    have : St.bck .norm r h k = s := Option.some.inj hs
    subst this
    exact ⟨_, r, h, n, Nat.le_refl _, .skip r h, hg⟩
  | .ret, r, h, k, s, v, h', hs, hg => by
    have : St.bck .ret r h k = s := Option.some.inj hs
    subst this
    exact ⟨_, r, h, n, Nat.le_refl _, .ret r h, hg⟩
  | .exit id, r, h, k, s, v, h', hs, hg => by
    have : St.bck (.exit id) r h k = s := Option.some.inj hs
    subst this
    exact ⟨_, r, h, n, Nat.le_refl _, .exit id r h, hg⟩
  | .reg l, r, h, k, s, v, h', hs, hg => by
    obtain ⟨r1, h1, m, hm, hb, hg⟩ := stepOps_goes hc ho (l := l) hs hg
    exact ⟨_, r1, h1, m, hm, .reg hb, hg⟩
  | .seq a b, r, h, k, s, v, h', hs, hg => by
    obtain ⟨e, r1, h1, m, hm, hb, hg⟩ := stepCode_goes hc ho hl (c := a) (k := .seq b :: k) hs hg
    obtain ⟨m', s', rfl, hs', hg⟩ := bck_step hg
    cases e with
    | norm =>
      simp only [bckK, Option.some.injEq] at hs'; subst hs'
      obtain ⟨e2, r2, h2, m2, hm2, hb2, hg⟩ := hc m' (by omega) _ _ _ _ _ _ hg
      exact ⟨e2, r2, h2, m2, by omega, .seq hb hb2, hg⟩
    | exit id => simp only [bckK, Option.some.injEq] at hs'; subst hs'; exact ⟨_, r1, h1, m', by omega, .seqX hb (by simp), hg⟩
    | ret => simp only [bckK, Option.some.injEq] at hs'; subst hs'; exact ⟨_, r1, h1, m', by omega, .seqX hb (by simp), hg⟩
  | .cond o a b, r, h, k, s, v, h', hs, hg => by
    have hs : condGo o (stepCode ft prim a) (stepCode ft prim b) r h k = some s := hs
    unfold condGo at hs
    split at hs
    · rename_i x hx
      cases x with
      | true =>
        obtain ⟨e, r1, h1, m, hm, hb, hg⟩ := stepCode_goes hc ho hl (c := a) hs hg
        exact ⟨e, r1, h1, m, hm, .condT hx hb, hg⟩
      | false =>
        obtain ⟨e, r1, h1, m, hm, hb, hg⟩ := stepCode_goes hc ho hl (c := b) hs hg
        exact ⟨e, r1, h1, m, hm, .condF hx hb, hg⟩
    · cases hs
  | .block id c, r, h, k, s, v, h', hs, hg => by
    obtain ⟨e, r1, h1, m, hm, hb, hg⟩ := stepCode_goes hc ho hl (c := c) (k := .blk id :: k) hs hg
    obtain ⟨m', s', rfl, hs', hg⟩ := bck_step hg
    refine ⟨_, r1, h1, m', by omega, .block hb, ?_⟩
    cases e with
    | norm => simp only [bckK, Option.some.injEq] at hs'; subst hs'; exact hg
    | ret => simp only [bckK, Option.some.injEq] at hs'; subst hs'; exact hg
    | exit j =>
      simp only [bckK] at hs'
      by_cases hj : Nat.beq j id = true
      · rw [if_pos hj] at hs'; cases hs'
        simp only [blkEx]; rw [if_pos hj]; exact hg
      · rw [if_neg hj] at hs'; cases hs'
        simp only [blkEx]; rw [if_neg hj]; exact hg
  | .loop c, r, h, k, s, v, h', hs, hg => by
    obtain ⟨e, r1, h1, m, hm, hb, hg⟩ := stepCode_goes hc ho hl (c := c) (k := .lp c :: k) hs hg
    obtain ⟨m', s', rfl, hs', hg⟩ := bck_step hg
    cases e with
    | norm =>
      simp only [bckK, Option.some.injEq] at hs'; subst hs'
      obtain ⟨e2, r2, h2, m2, hm2, hb2, hg⟩ := hl m' (by omega) _ _ _ _ _ _ hg
      exact ⟨e2, r2, h2, m2, by omega, .loop hb hb2, hg⟩
    | exit id => simp only [bckK, Option.some.injEq] at hs'; subst hs'; exact ⟨_, r1, h1, m', by omega, .loopX hb (by simp), hg⟩
    | ret => simp only [bckK, Option.some.injEq] at hs'; subst hs'; exact ⟨_, r1, h1, m', by omega, .loopX hb (by simp), hg⟩
  | .rangeF o ps a b, r, h, k, s, v, h', hs, hg => by
    have hs : ranged ft o ps a b r h k = some s := hs
    unfold ranged at hs
    split at hs
    · rename_i f first cap hev
      rw [Hp.addK_eq] at hs
      obtain ⟨v1, h1, m, hm, hb, hg⟩ := callC_goes (hc n (Nat.le_refl _)) hs hg
      obtain ⟨m', s', rfl, hs', hg⟩ := val_step hg
      simp only [valK] at hs'
      split at hs'
      · rename_i p r' ps' a' b' hgl
        rw [Hp.updK_eq] at hs'; cases hs'
        exact ⟨_, _, _, m', by omega, .range hev hb hgl (.inl rfl), hg⟩
      · rename_i p r' ps' a' b' hgl
        rw [Hp.updK_eq] at hs'; cases hs'
        exact ⟨_, _, _, m', by omega, .range hev hb hgl (.inr rfl), hg⟩
      · cases hs'
    · cases hs

theorem has_all : ∀ n, HasC ft prim n ∧ HasO ft prim n ∧ HasL ft prim n := by
  intro n
  induction n using Nat.strongRecOn with
  | _ n ih =>
    have hC : HasC ft prim n := by
      intro c r h k v h' hg
      cases hg with
      | @step m _ s' _ _ hs hg =>
        obtain ⟨e, r1, h1, m', hm, hb, hg⟩ := stepCode_goes (fun q hq => (ih q (by omega)).1) (fun q hq => (ih q (by omega)).2.1) (fun q hq => (ih q (by omega)).2.2) (c := c) hs hg
        exact ⟨e, r1, h1, m', by omega, hb, hg⟩
      | @gc m _ _ _ _ h1' _ _ _ hl hlr hg =>
        obtain ⟨e, r1, h1, m', hm, hb, hg⟩ := (ih m (by omega)).1 _ _ _ _ _ _ hg
        exact ⟨e, r1, h1, m', by omega, .gc hl hlr hb, hg⟩
      | memo hs hb hg =>
        obtain ⟨fn, r', hf, hr', e⟩ := callC_some hs
        cases e
        cases hb with
        | @fn _ _ _ fn2 r2 e r1 h1 _ hf2 hr2 hb2 hne hv =>
          rw [hf] at hf2; cases hf2
          rw [hr'] at hr2; cases hr2
          refine ⟨e, r1, _, _, Nat.lt_succ_self _, hb2, .step ?_ hg⟩
          show bckK e r1 _ _ (.ret fn.results) = _
          simp only [bckK]
          cases e with
          | norm => simp only [hv, Option.map_some]
          | ret => simp only [hv, Option.map_some]
          | exit id => exact (hne id rfl).elim
    refine ⟨hC, ?_, ?_⟩
    · intro l r h k v h' hg
      cases hg with
      | @step m _ s' _ _ hs hg =>
        obtain ⟨r1, h1, m', hm, hb, hg⟩ := stepOps_goes (fun q hq => (ih q (by omega)).1) (fun q hq => (ih q (by omega)).2.1) (l := l) hs hg
        exact ⟨r1, h1, m', by omega, hb, hg⟩
      | memo hs _ _ => obtain ⟨_, _, _, _, e⟩ := callC_some hs; cases e
    · intro c r h k v h' hg
      obtain ⟨e, r1, h1, m, hm, hb, hg⟩ := hC c r h (.lp c :: k) v h' hg
      obtain ⟨m', s', rfl, hs', hg⟩ := bck_step hg
      cases e with
      | norm =>
        simp only [bckK, Option.some.injEq] at hs'; subst hs'
        obtain ⟨e2, r2, h2, m2, hm2, hb2, hg⟩ := (ih m' (by omega)).2.2 _ _ _ _ _ _ hg
        exact ⟨e2, r2, h2, m2, by omega, .loop hb hb2, hg⟩
      | exit id => simp only [bckK, Option.some.injEq] at hs'; subst hs'; exact ⟨_, r1, h1, m', by omega, .loopX hb (by simp), hg⟩
      | ret => simp only [bckK, Option.some.injEq] at hs'; subst hs'; exact ⟨_, r1, h1, m', by omega, .loopX hb (by simp), hg⟩

/-- A run of the machine, from a call. -/
theorem call_goes {n : Nat} {f : Nat} {args : List AV} {h : Hp} {s : St} {v : AV} {h' : Hp} (hs : callC ft f args h [] = some s) (hg : Goes ft prim n s v h') : B ft prim (.fn f args h) (.vl v h') := by
  obtain ⟨v1, h1, m, hm, hb, hg⟩ := callC_goes ((has_all (ft := ft) (prim := prim) n).1) hs hg
  have key : ∀ m v1 h1, Goes ft prim m (.val v1 h1 []) v h' → v1 = v ∧ h1 = h' := by
    intro m
    induction m with
    | zero => intro v1 h1 hg; cases hg; exact ⟨rfl, rfl⟩
    | succ m ih =>
      intro v1 h1 hg
      cases hg with
      | step hs hg =>
        have : St.val v1 h1 [] = _ := Option.some.inj hs
        subst this
        exact ih _ _ hg
      | memo hs _ _ => obtain ⟨_, _, _, _, e⟩ := callC_some hs; cases e
  obtain ⟨rfl, rfl⟩ := key m v1 h1 hg
  exact hb
end
end Go.Ai
