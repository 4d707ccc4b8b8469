/- An interpreter on abstract values: its runs mean what the model does (functions, rounds, loops over functions). -/
import Derived.Test.YtdiflgnboedogaaGreatA28
namespace Go.Ai
section
variable {P : Program}

/-! ### Results -/
def cellsKnown (P : Program) : ResultVar → Bool
  | .cell _ t => (P.underlying t).isSome
  | .tmp _ => true
theorem mapM_run {α : Type} {f : α → Sem Value} {w : World} : ∀ {l : List α} {vs : List Value}, vs.length = l.length → (∀ (k : Nat) (x : α) (v : Value), l[k]? = some x → vs[k]? = some v → (f x).run P w = .ok v w) → (l.mapM f).run P w = .ok vs w
  | [], vs, hl, _ => by
    have : vs = [] := List.eq_nil_of_length_eq_zero (by simpa using hl)
    subst this
    simp
  | x :: l, [], hl, _ => by simp at hl
  | x :: l, v :: vs, hl, h => by
    rw [List.mapM_cons]
    have h1 := h 0 x v rfl rfl
    have h2 := mapM_run (l := l) (vs := vs) (by simpa using hl) fun k y u e1 e2 => h (k + 1) y u (by simpa using e1) (by simpa using e2)
    simp only [Sem.run_bind, h1, Result.andThen_ok, h2, Sem.run_pure]
theorem resOne_sound {ρ : Rho} {h : Hp} {w : World} {r : Regs} {tmps : Array Value} (hf : FR ρ r tmps) (hr : HR P (Good P) ρ h w) {x : ResultVar} {y : ResV} (hc : resC P x = some y) (hk : cellsKnown P x = true) {v : AV} (hv : resOne r h y = some v) :
    ∃ v', (match x with | .tmp t => (pure (tmps.getD t undef) : Sem Value) | .cell a t => do loadVar t (← asAddr (tmps.getD a undef))).run P w = .ok v' w ∧ VR ρ v v' := by
  cases x with
  | tmp t =>
    simp only [resC] at hc
    obtain ⟨hlt, hc⟩ := ite_some hc
    cases hc
    simp only [resOne, Option.some.injEq] at hv
    subst hv
    exact ⟨_, by simp, hf t (by simpa [Nat.blt_eq] using hlt)⟩
  | cell a t =>
    simp only [resC] at hc
    obtain ⟨hlt, hc⟩ := ite_some hc
    obtain ⟨n, hn, hc⟩ := opt_map_some hc
    simp only [cellsKnown] at hk
    obtain ⟨d, hd⟩ := Option.isSome_iff_exists.1 hk
    have ha := hf a (by simpa [Nat.blt_eq] using hlt)
    refine cell_run hr hn hd ha (v := v) ?_
    by_cases hag : aggT P t = true
    · rw [if_pos hag] at hc ⊢; subst hc; exact hv
    · rw [if_neg hag] at hc ⊢; subst hc; exact hv
theorem tie_sound {ρ : Rho} {as : List AV} {vs : List Value} (h : VRs ρ as vs) : VR ρ (tie as) (if h : vs.toArray.size = 1 then vs.toArray[0] else .tuple vs.toArray) := by
  have hl := h.length
  match as, vs, h, hl with
  | [], [], h, _ => simp [tie, VR, VRs]
  | [a], [v], h, _ =>
    simp only [VRs] at h
    obtain ⟨x, xs, h1, h2, h3⟩ := h
    simp only [List.cons.injEq] at h1
    obtain ⟨rfl, _⟩ := h1
    simpa [tie] using h2
  | a :: b :: as, v :: u :: vs, h, _ =>
    simp only [tie, VR]
    refine ⟨(v :: u :: vs).toArray, ?_, by simpa using h⟩
    rw [dif_neg (by simp)]
theorem results_sound {ρ : Rho} {h : Hp} {w : World} {r : Regs} {tmps : Array Value} (hf : FR ρ r tmps) (hr : HR P (Good P) ρ h w) {F : Func} {rs : List ResV} (hc : allSome (resC P) F.results.toList = some rs) (hk : ∀ x ∈ F.results, cellsKnown P x = true) {v : AV} (hv : resVal r h rs = some v) :
    ∃ v', (results F tmps).run P w = .ok v' w ∧ VR ρ v v' := by
  unfold resVal at hv
  obtain ⟨as, has, hv⟩ := opt_map_some hv
  subst hv
  have key : ∀ {l : List ResultVar} {rs : List ResV} {as : List AV}, allSome (resC P) l = some rs → (∀ x ∈ l, cellsKnown P x = true) → resAll r h rs = some as →
      ∃ vs : List Value, VRs ρ as vs ∧ (l.mapM fun (x : ResultVar) => match x with | .tmp t => (pure (tmps.getD t undef) : Sem Value) | .cell a t => do loadVar t (← asAddr (tmps.getD a undef))).run P w = .ok vs w := by
    intro l
    induction l with
    | nil =>
      intro rs as h1 _ h2
      have : rs = [] := by simpa [allSome] using h1.symm
      subst this
      have : as = [] := by simpa [resAll] using h2.symm
      subst this
      exact ⟨[], by simp [VRs], by simp⟩
    | cons x l ih =>
      intro rs as h1 hk h2
      have h1 : ((resC P x).bind fun b => (allSome (resC P) l).map (b :: ·)) = some rs := h1
      obtain ⟨y, hy, h1⟩ := opt_bind_some h1
      obtain ⟨ys, hys, h1⟩ := opt_map_some h1
      subst h1
      simp only [resAll] at h2
      obtain ⟨a, ha, h2⟩ := opt_bind_some h2
      obtain ⟨as', has', h2⟩ := opt_map_some h2
      subst h2
      obtain ⟨v', h3, h4⟩ := resOne_sound hf hr hy (hk x (by simp)) ha
      obtain ⟨vs, h5, h6⟩ := ih hys (fun z hz => hk z (by simp [hz])) has'
      refine ⟨v' :: vs, by simp only [VRs]; exact ⟨_, _, rfl, h4, h5⟩, ?_⟩
      rw [List.mapM_cons]
      simp only [Sem.run_bind, h3, Result.andThen_ok, h6, Sem.run_pure]
  obtain ⟨vs, h1, h2⟩ := key hc (fun x hx => hk x (Array.mem_toList_iff.1 hx)) has
  refine ⟨_, ?_, tie_sound h1⟩
  unfold results
  rw [Array.mapM_eq_mapM_toList]
  simp only [map_eq_pure_bind, Sem.run_bind, Sem.run_pure]
  erw [h2]
  simp only [Result.andThen_ok]

/-! ### Arguments -/
theorem bind_regs {ρ : Rho} : ∀ {n s : Nat} {r r' : Regs} {args : List AV} {vals : List Value}, bindArgs r (mapl (fun q : Nat × Nat => slot q.1) (numberedFrom s (List.replicate n 0))) args = some r' → VRs ρ args vals → s + n ≤ 1024 →
    vals.length = n ∧ ∀ t, t < 1024 → (s ≤ t ∧ t < s + n → VR ρ (Regs.get r' (slot t)) (vals.getD (t - s) undef)) ∧ (¬ (s ≤ t ∧ t < s + n) → Regs.get r' (slot t) = Regs.get r (slot t))
  | 0, s, r, r', args, vals, hb, hv, hle => by
    cases args with
    | nil =>
      have : r = r' := by simpa [bindArgs, mapl, numberedFrom] using hb
      subst this
      have : vals = [] := by simpa [VRs] using hv
      subst this
      exact ⟨rfl, fun t _ => ⟨fun h => by omega, fun _ => rfl⟩⟩
    | cons a as => simp [bindArgs, mapl, numberedFrom] at hb
  | n + 1, s, r, r', args, vals, hb, hv, hle => by
    cases args with
    | nil => simp [bindArgs, mapl, numberedFrom, List.replicate_succ] at hb
    | cons a as =>
      have hb : Regs.setK (slot s) r a (fun r1 => bindArgs r1 (mapl (fun q : Nat × Nat => slot q.1) (numberedFrom (s + 1) (List.replicate n 0))) as) = some r' := hb
      rw [Regs.setK_eq] at hb
      simp only [VRs] at hv
      obtain ⟨x, xs, rfl, hx, hxs⟩ := hv
      obtain ⟨h1, h2⟩ := bind_regs hb hxs (by omega)
      refine ⟨by simp [h1], fun t ht => ⟨fun h => ?_, fun h => ?_⟩⟩
      · by_cases hts : t = s
        · subst hts
          rw [(h2 t ht).2 (by omega), Regs.get_set, if_pos rfl]
          simpa using hx
        · have := (h2 t ht).1 (by omega)
          rw [show t - s = (t - (s + 1)) + 1 by omega]
          simpa using this
      · rw [(h2 t ht).2 (by omega), Regs.get_set, if_neg fun e => ?_]
        have := slot_inj ht (by omega) e
        omega
theorem enter_FR {ρ : Rho} {n nt : Nat} {r : Regs} {args : List AV} {vals : List Value} (hb : bindArgs u6 (slotsUpto n) args = some r) (hv : VRs ρ args vals) (hle : n ≤ 1024) : FR ρ r (vals.toArray ++ Array.replicate (nt - vals.toArray.size) undef) := by
  obtain ⟨h1, h2⟩ := bind_regs (s := 0) hb hv (by omega)
  intro t ht
  by_cases htn : t < n
  · have := (h2 t ht).1 (by omega)
    rw [Array.getD_eq_getD_getElem?, Array.getElem?_append_left (by simp; omega)]
    simpa [List.getD_eq_getElem?_getD] using this
  · rw [(h2 t ht).2 (by omega), get_u6]
    simp [VR]
theorem yield_FR {ρ : Rho} : ∀ {ts : List Tmp} {r r' : Regs} {args : List AV} {vals : List Value} {tmps : Array Value}, bindArgs r (ts.map slot) args = some r' → VRs ρ args vals → (∀ t ∈ ts, t < tmps.size ∧ t < 1024) → FR ρ r tmps →
    vals.length = ts.length ∧ FR ρ r' ((ts.zip vals).foldl (fun tmps (q : Tmp × Value) => tmps.setIfInBounds q.1 q.2) tmps) ∧ ((ts.zip vals).foldl (fun tmps (q : Tmp × Value) => tmps.setIfInBounds q.1 q.2) tmps).size = tmps.size
  | [], r, r', args, vals, tmps, hb, hv, _, hf => by
    cases args with
    | nil =>
      have : r = r' := by simpa [bindArgs] using hb
      subst this
      have : vals = [] := by simpa [VRs] using hv
      subst this
      exact ⟨rfl, hf, rfl⟩
    | cons a as => simp [bindArgs] at hb
  | t :: ts, r, r', args, vals, tmps, hb, hv, hlt, hf => by
    cases args with
    | nil => simp [bindArgs] at hb
    | cons a as =>
      have hb : Regs.setK (slot t) r a (fun r1 => bindArgs r1 (ts.map slot) as) = some r' := hb
      rw [Regs.setK_eq] at hb
      simp only [VRs] at hv
      obtain ⟨x, xs, rfl, hx, hxs⟩ := hv
      have hts := hlt t (by simp)
      have hf1 : FR ρ (Regs.set r (slot t) a) (tmps.setIfInBounds t x) := fun u hu => by
        rw [Regs.get_set, Array.getD_eq_getD_getElem?, Array.getElem?_setIfInBounds]
        by_cases htu : u = t
        · subst htu; simp [hts.1, hx]
        · rw [if_neg fun e => htu (slot_inj hu hts.2 e), if_neg (Ne.symm htu), ← Array.getD_eq_getD_getElem?]
          exact hf u hu
      obtain ⟨h1, h2, h3⟩ := yield_FR hb hxs (fun u hu => by rw [Array.size_setIfInBounds]; exact hlt u (by simp [hu])) hf1
      refine ⟨by simp [h1], ?_, ?_⟩
      · simpa using h2
      · simpa using h3

/-! ### A function -/
structure FnOK (P : Program) (f : Nat) (fn : AFunc) : Prop where
  ex : ∃ (F : Func) (c : Code) (k : Nat), P.funcs[f]? = some F ∧ F.body = some c ∧ (F.name == "runtime.NumGoroutine") = false ∧ fn.body = codeC P c ∧ fn.params = slotsUpto k ∧ k ≤ 1024 ∧ allSome (resC P) F.results.toList = some fn.results ∧ goodC P F.ntmps c = true ∧ ∀ x ∈ F.results, cellsKnown P x = true

theorem leaves_marks {F : Func} {tmps : Array Value} {ρ0 : Rho} {h0 : Hp} {w0 : World} {h' : Hp} {rs : List ResV} {r' : Regs} {v : AV} (hc : allSome (resC P) F.results.toList = some rs) (hk : ∀ x ∈ F.results, cellsKnown P x = true) (hv : resVal r' h' rs = some v) :
    ∀ (bs : List Nat) (ρ' : Rho) (w' : World), bs.Nodup → (∀ b ∈ bs, MarkOK w0.heap.size ρ' w' b) → HR P (Good P) ρ' h' w' → Ext ρ0 h0 w0 ρ' h' w' → FR ρ' r' tmps →
    LeavesInM Fence.wide 0 P F tmps (retR (Post P (Good P) ρ0 h0 w0 v h')) (bs.map fun b => { target := .collected b, args := #[] }) .returning w' := by
  intro bs
  induction bs with
  | nil =>
    intro ρ' w' _ _ hr he hf
    obtain ⟨v', h1, h2⟩ := results_sound hf hr hc hk hv
    exact ⟨v', h1, ρ', h2, hr, he⟩
  | cons b bs ih =>
    intro ρ' w' hn hm hr he hf
    rw [List.nodup_cons] at hn
    have hb := hm b (by simp)
    have hlt : b < w'.heap.size := (Array.getElem?_eq_some_iff.1 hb.blk).1
    have hoth : ∀ k, k ≠ b → (w'.putObj b (.deferred none)).heap[k]? = w'.heap[k]? := fun k hk => World.putObj_heap_other hk
    refine ⟨by simp, .inl ⟨b, w'.putObj b (.deferred none), rfl, run_takeDeferred hb.blk, ?_⟩⟩
    refine ih ρ' _ hn.2 (fun c hc' => ?_) ?_ ?_ hf
    · have hcm := hm c (by simp [hc'])
      have hcb : c ≠ b := fun e => by subst e; exact hn.1 hc'
      exact ⟨hcm.ge, by rw [hoth c hcb]; exact hcm.blk, hcm.away⟩
    · refine ⟨fun o L e => by simp [World.putObj]; exact hr.dom o L e, fun o L x e g => (hr.obj o L x e g).mono (Le.refl ρ') (hoth _ (hb.away o L e)), hr.inj, hr.fresh⟩
    · refine ⟨he.le, he.new, he.keep, he.next, fun k h1 h2 => ?_, by simp [World.putObj]; exact he.size, he.tape, he.os, he.output⟩
      rw [hoth k (by have := hb.ge; omega)]
      exact he.frame k h1 h2

theorem fn_sound {f : Nat} {fn : AFunc} (hok : FnOK P f fn) {args : List AV} {h h1 : Hp} {r r1 : Regs} {e : Ex} {v : AV} (hb : bindArgs u6 fn.params args = some r) (hs : CodeL P fn.body r h e r1 h1) (hne : ∀ id, e ≠ .exit id) (hv : resVal r1 h1 fn.results = some v) : FnS P f args h v h1 := by
  obtain ⟨F, c, k, hF, hbody, hname, e1, e2, hk, e3, hg, hck⟩ := hok.ex
  refine ⟨hs.1, fun ρ w vals hvs hr => ⟨?_, ?_⟩⟩
  · simp only [callFunc, Sem.run_bind, run_program, Result.andThen_ok, hF, hname, Bool.false_eq_true, if_false, hbody, Option.isNone_some, Sem.run_pure]
  · refine callsIn_of_wp_marks hF hbody trivial ?_ rfl
    rw [e2] at hb
    have hfr := enter_FR (nt := F.ntmps) hb hvs hk
    refine hs.s.2 c F.ntmps none ρ _ w w.heap.size _ e1.symm hg (fun q => by cases q) (by simp; omega) hfr hr (Nat.le_refl _) (Marks.nil _ _ _) fun a' w' ρ' hsz hf' hr' he hm => ?_
    obtain ⟨bs, hd, hn, hmk⟩ := hm
    have hl := leaves_marks (F := F) (tmps := a'.tmps) (w0 := w) e3 hck hv bs ρ' w' hn hmk hr' he hf'
    rw [← hd] at hl
    cases e with
    | norm => exact hl
    | ret => exact hl
    | exit id => exact (hne id rfl).elim

/-! ### Function values -/
theorem val_fn {f : Nat} {first cap args : List AV} {h h' : Hp} {v : AV} (hs : FnS P f (app first (app args cap)) h v h') : ValSound P (Good P) (.f (.func f) first cap) args h v h' := by
  refine ⟨hs.1, fun ρ w fv vals hfv hvs hr => ?_⟩
  simp only [VR] at hfv
  obtain ⟨g, xs, ys, rfl, rfl, hx, hy⟩ := hfv
  have hall : VRs ρ (app first (app args cap)) (xs.toList ++ (vals ++ ys.toList)) := by
    rw [app_eq, app_eq]; exact hx.app (hvs.app hy)
  obtain ⟨h1, h2⟩ := hs.2 ρ w _ hall hr
  have harr : xs ++ vals.toArray ++ ys = (xs.toList ++ (vals ++ ys.toList)).toArray := by
    apply Array.ext'; simp
  refine ⟨.enter f (xs.toList ++ (vals ++ ys.toList)).toArray, w, ?_, h2⟩
  simp only [goCall, Deferred.ofValue, pure_bind, invoke, harr]
  exact h1
end
end Go.Ai
