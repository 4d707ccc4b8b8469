/- An interpreter on abstract values: its runs mean what the model does (rounds, and the whole). -/
import Derived.Test.YtdiflgnboedogaaGreatA29
namespace Go.Ai
section
variable {P : Program}

theorem allB_mono {α : Type} {f g : α → Bool} (h : ∀ a, f a = true → g a = true) : ∀ {l : List α}, allB f l = true → allB g l = true
  | [], _ => rfl
  | a :: l, hl => by
    have hl : (f a && allB f l) = true := hl
    rw [Bool.and_eq_true] at hl
    show (g a && allB g l) = true
    rw [Bool.and_eq_true]
    exact ⟨h a hl.1, allB_mono h hl.2⟩
theorem infOk_mono {ops : List Oper} {m m' : Nat} (hm : m ≤ m') {I : List Inf} {x : Inf} (h : infOk ops m I x = true) : infOk ops m' I x = true := by
  unfold infOk at h ⊢
  rw [Bool.and_eq_true, Bool.and_eq_true, Bool.and_eq_true] at h ⊢
  refine ⟨h.1, h.2.1, ?_, h.2.2.2⟩
  have h3 := h.2.2.1
  cases hd : x.dst with
  | none => rfl
  | some d =>
    rw [hd] at h3
    simp only [Nat.blt_eq] at h3 ⊢
    omega
theorem goodReg_mono {m m' : Nat} (hm : m ≤ m') {ops : List Oper} (h : goodReg P m ops = true) : goodReg P m' ops = true := by
  unfold goodReg at h ⊢
  split
  · rename_i ais hais
    rw [hais] at h
    simp only at h
    split
    · rename_i ord hord
      rw [hord] at h
      simp only at h
      split
      · rename_i I hI
        rw [hI] at h
        simp only at h
        unfold regOk at h ⊢
        rw [Bool.and_eq_true, Bool.and_eq_true, Bool.and_eq_true, Bool.and_eq_true] at h ⊢
        exact ⟨⟨h.1.1, h.1.2.1, h.1.2.2.1, allB_mono (fun a ha => infOk_mono hm ha) h.1.2.2.2⟩, h.2⟩
      · rename_i hI
        rw [hI] at h; exact h
    · rfl
  · rfl
theorem goodC_mono {m m' : Nat} (hm : m ≤ m') : ∀ {c : Code}, goodC P m c = true → goodC P m' c = true
  | .skip, _ => rfl
  | .label _, _ => rfl
  | .ret, _ => rfl
  | .exit _, _ => rfl
  | .region _ ops _, h => goodReg_mono hm h
  | .seq a b, h => by
    simp only [goodC, Bool.and_eq_true] at h ⊢
    exact ⟨goodC_mono hm h.1, goodC_mono hm h.2⟩
  | .cond _ a b, h => by
    simp only [goodC, Bool.and_eq_true] at h ⊢
    exact ⟨goodC_mono hm h.1, goodC_mono hm h.2⟩
  | .block _ c, h => by
    simp only [goodC] at h ⊢
    exact goodC_mono hm h
  | .loop c, h => by
    simp only [goodC] at h ⊢
    exact goodC_mono hm h
  | .rangeFunc _ ps a b, h => by
    simp only [goodC, Bool.and_eq_true] at h ⊢
    refine ⟨allB_mono (fun t ht => ?_) h.1, goodC_mono hm h.2.1, goodC_mono hm h.2.2.1, h.2.2.2⟩
    simp only [Bool.and_eq_true, Nat.blt_eq] at ht ⊢
    exact ⟨Nat.lt_of_lt_of_le ht.1 hm, ht.2⟩
  | .scope _, h => by simp [goodC] at h
  | .goto _, h => by simp [goodC] at h
  | .refuse _, h => by simp [goodC] at h

theorem turned_put {w : World} {b : Nat} {o : Obj} : Turned w (w.putObj b o) b :=
  ⟨fun _ hk => World.putObj_heap_other hk, by simp [World.putObj], rfl, rfl, rfl⟩
theorem loop_upd {ρ : Rho} {h : Hp} {w : World} {l : Nat} {L : Loc} {st p r ps a b} (hr : HR P (Good P) ρ h w) (hL : ρ l = some L) (hg : h.get l = some (.loop st p r ps a b)) :
    ∃ lp : Loop, w.heap[L.blk]? = some (.loop lp) ∧ LStR st lp.state ∧ PendR p lp.pending ∧ ∀ (st' : LSt) (p' : Ex) (lp' : Loop), LStR st' lp'.state → PendR p' lp'.pending → lp'.tmps = lp.tmps → lp'.params = lp.params → lp'.assign = lp.assign → lp'.body = lp.body →
      HR P (Good P) ρ (h.upd l (some (.loop st' p' r ps a b))) (w.putObj L.blk (.loop lp')) ∧ Ext ρ h w ρ (h.upd l (some (.loop st' p' r ps a b))) (w.putObj L.blk (.loop lp')) := by
  obtain ⟨lp, h1, h2, h3, h4, h5, h6, h7, h8⟩ := hr.obj l L _ hL hg
  refine ⟨lp, h1, h2, h3, fun st' p' lp' e1 e2 e3 e4 e5 e6 => hr.upd hL hg turned_put ⟨lp', World.putObj_heap_same (Array.getElem?_eq_some_iff.1 h1).1, e1, e2, ?_, ?_, ?_, ?_, ?_⟩⟩
  · rw [e3]; exact h4
  · rw [e4]; exact h5
  · rw [e4, e3]; exact h6
  · rw [e5, e3]; exact h7
  · rw [e6, e3]; exact h8

theorem val_yield {l : Nat} {args : List AV} {h h2 h3 : Hp} {p p' p'' e : Ex} {r r1 r2 r3 r' r'' : Regs} {ps ps' ps'' : List Slot} {a b a' b' a'' b'' : AC} (hg : h.get l = some (.loop .ready p r ps a b)) (hb : bindArgs r ps args = some r1) (sa : CodeL P a r1 h .norm r2 h2)
    (hg2 : h2.get l = some (.loop .ready p' r' ps' a' b')) (sb : CodeL P b r2 (h2.upd l (some (.loop .busy p' r' ps' a' b'))) e r3 h3) (hg3 : h3.get l = some (.loop .busy p'' r'' ps'' a'' b'')) :
    ValSound P (Good P) (.f (.yield l) [] []) args h (.b (isNorm e)) (h3.upd l (some (.loop (endSt e) e r'' ps'' a'' b''))) := by
  refine ⟨((sa.1.trans (.upd hg2 _)).trans sb.1).trans (.upd hg3 _), fun ρ w fv vals hfv hvs hr => ?_⟩
  simp only [VR] at hfv
  obtain ⟨g, xs, ys, rfl, ⟨L, hL, rfl⟩, hx, hy⟩ := hfv
  have hxs : xs = #[] := by apply Array.ext'; simpa [VRs] using hx
  have hys : ys = #[] := by apply Array.ext'; simpa [VRs] using hy
  subst hxs; subst hys
  obtain ⟨lp, g1, g2, g3, g4, g5, g6, g7, g8⟩ := hr.obj l L _ hL hg
  rw [← g5] at hb
  obtain ⟨y1, y2, y3⟩ := yield_FR hb hvs g6 g4
  have hsz : vals.toArray.size = lp.params.size := by simpa using y1
  have hfold : (lp.params.zip vals.toArray).foldl (fun tmps (t, a) => tmps.setIfInBounds t a) lp.tmps = (lp.params.toList.zip vals).foldl (fun tmps (q : Tmp × Value) => tmps.setIfInBounds q.1 q.2) lp.tmps := by
    rw [← Array.foldl_toList, Array.toList_zip]
  have hrun : (goCall (.func (.yield L.blk) #[] #[]) vals.toArray).run P w = .ok (.round L.blk lp.fn ((lp.params.toList.zip vals).foldl (fun tmps (q : Tmp × Value) => tmps.setIfInBounds q.1 q.2) lp.tmps) lp.assign lp.body) w := by
    simp only [goCall, Deferred.ofValue, pure_bind, invoke, Array.empty_append]
    rw [run_yield g1 hsz, hfold]
  refine ⟨_, w, hrun, ?_⟩
  simp only [EntR]
  refine roundIn_of_wpIn trivial ?_
  refine sa.s.2 lp.assign lp.tmps.size (some L.blk) ρ _ w 0 _ g7.eq g7.ok.1 (fun _ => g7.ok.2) (by simp only; rw [y3]; exact Nat.le_refl _) y2 hr (Nat.zero_le _) (Marks.nil _ _ _) fun a1 w1 ρ1 s1 f1 hr1 he1 m1 => ?_
  have hL1 := he1.le l L hL
  obtain ⟨lp2, k1, k2, k3, k4⟩ := loop_upd hr1 hL1 hg2
  obtain ⟨hr2, he2⟩ := k4 .busy p' { lp2 with state := .busy } rfl k3 rfl rfl rfl rfl
  refine ⟨_, run_beginRound k1 k2, ?_⟩
  refine sb.s.2 lp.body lp.tmps.size (some L.blk) ρ1 a1 _ 0 _ g8.eq g8.ok.1 (fun _ => g8.ok.2) (by rw [s1]; simp only; rw [y3]; exact Nat.le_refl _) f1 hr2 (Nat.zero_le _) (m1.ext he2) fun a3 w3 ρ3 s3 f3 hr3 he3 m3 => ?_
  have hL3 := he3.le l L hL1
  obtain ⟨lp3, j1, j2, j3, j4⟩ := loop_upd hr3 hL3 hg3
  have hchain := (he1.trans he2).trans he3
  cases e with
  | norm =>
    obtain ⟨hr4, he4⟩ := j4 .ready .norm { lp3 with state := .ready, pending := none } rfl rfl rfl rfl rfl rfl
    exact ⟨.bool true, _, run_endRound none j1, ρ3, rfl, hr4, hchain.trans he4⟩
  | ret =>
    obtain ⟨hr4, he4⟩ := j4 .done .ret { lp3 with state := .done, pending := some .ret } rfl rfl rfl rfl rfl rfl
    exact ⟨.bool false, _, run_endRound (some .ret) j1, ρ3, rfl, hr4, hchain.trans he4⟩
  | exit id =>
    obtain ⟨hr4, he4⟩ := j4 .done (.exit id) { lp3 with state := .done, pending := some (.exit id) } rfl rfl rfl rfl rfl rfl
    exact ⟨.bool false, _, run_endRound (some (.exit id)) j1, ρ3, rfl, hr4, hchain.trans he4⟩

theorem code_range {o : Opd} {ps ps' : List Slot} {a b a' b' : AC} {r r' : Regs} {h h2 : Hp} {f : Nat} {first cap : List AV} {v : AV} {st : LSt} {p : Ex} (hv : o.ev r = .f (.func f) first cap)
    (hs : FnS P f (app first (app [.f (.yield h.next) [] []] cap)) (h.add (.loop .ready .norm r ps a b)) v h2) (hg : h2.get h.next = some (.loop st p r' ps' a' b')) (hst : st = .ready ∨ st = .done) :
    CodeL P (.rangeF o ps a b) r h p r (h2.upd h.next (some (.loop .over p r' ps' a' b'))) := by
  refine ⟨((Grow.add h _).trans hs.1).trans (.upd hg _), 0, fun c' m rnd ρ ac w base Q hc hgd hn hsz hf hr hb hm hQ => ?_⟩
  obtain ⟨q, ts, x, y, rfl, hq, hts, hlt, hx, hy, gx, gy, nx, ny⟩ := inv_range hc hgd
  have hrnd : rnd = none := by
    cases rnd with
    | none => rfl
    | some l => have := hn rfl; simp [noRange] at this
  subst hrnd
  have hfv := opd_sound (ρ := ρ) hq (r := r) (e := ac.eval) (fun u hu hlt' => by subst hu; exact hf u hlt') (fun _ => rfl) (fun _ => rfl)
  rw [hv] at hfv
  have hfv0 := hfv
  simp only [VR] at hfv
  obtain ⟨g, xs, ys, hev, rfl, hxs, hys⟩ := hfv
  refine wpIn_rangeFunc fun fn _ => ?_
  let lp : Loop := { state := .ready, pending := none, fn, tmps := ac.tmps, params := ts, assign := x, body := y, defers := w.heap.size }
  let w0 : World := w.alloc (.deferred (some []))
  let w1 : World := w0.alloc (.loop lp)
  have hsz0 : w0.heap.size = w.heap.size + 1 := World.size_alloc w _
  have hold0 : ∀ k, k < w.heap.size → w0.heap[k]? = w.heap[k]? := fun k hk => by
    show (w.heap.push _)[k]? = _
    rw [Array.getElem?_push, if_neg (by omega)]
  have hr0 : HR P (Good P) ρ h w0 := ⟨fun o L e => by have := hr.dom o L e; rw [hsz0]; exact ⟨this.1, by omega⟩, fun o L z e g => (hr.obj o L z e g).mono (Le.refl ρ) (hold0 _ (hr.dom o L e).2), hr.inj, hr.fresh⟩
  let L : Loc := ⟨w.heap.size + 1, 0, 0⟩
  have hid := hr.none_next
  have hle := Rho.put_le (L := L) hid
  have hor : OR P (Good P) (ρ.put h.next L) L w1 (.loop .ready .norm r ps a b) := by
    refine ⟨lp, ?_, rfl, rfl, hf.mono hle, hts, fun t ht => ⟨Nat.lt_of_lt_of_le (hlt t ht).1 hsz, (hlt t ht).2⟩, ⟨hx, ?_⟩, ⟨hy, ?_⟩⟩
    · have := World.alloc_heap_new w0 (.loop lp)
      rw [hsz0] at this; exact this
    · exact ⟨goodC_mono hsz gx, nx⟩
    · exact ⟨goodC_mono hsz gy, ny⟩
  have hr1 : HR P (Good P) (ρ.put h.next L) (h.add (.loop .ready .norm r ps a b)) w1 := (hr0.addAbs _).new (id := h.next) (ob := .loop .ready .norm r ps a b) hid (by rw [next_add]; omega) (.inl (by rw [get_add, if_pos rfl])) (by rw [hsz0]) rfl hor
  have he1 : Ext ρ h w (ρ.put h.next L) (h.add (.loop .ready .norm r ps a b)) w1 := by
    refine ⟨hle, fun o M h1 h2 => ?_, fun o h1 h2 => ?_, by simp, fun k hk _ => ?_, by
      have h5 : w1.heap.size = w0.heap.size + 1 := World.size_alloc w0 _
      omega, rfl, rfl, rfl⟩
    · unfold Rho.put at h2
      by_cases ho : o = h.next
      · rw [if_pos ho] at h2; cases h2; exact ⟨by omega, .inl (by show w.heap.size ≤ w.heap.size + 1; omega)⟩
      · rw [if_neg ho] at h2; rw [h1] at h2; cases h2
    · rw [get_add, if_neg (by omega)]; exact .inl rfl
    · have : w1.heap[k]? = w0.heap[k]? := by
        show (w0.heap.push _)[k]? = _
        rw [Array.getElem?_push, if_neg (by omega)]
      rw [this]; exact hold0 k hk
  have hargs : VRs (ρ.put h.next L) (app first (app [.f (.yield h.next) [] []] cap)) (xs.toList ++ ([Value.func (.yield (w.heap.size + 1)) #[] #[]] ++ ys.toList)) := by
    rw [app_eq, app_eq]
    refine (hxs.mono hle).app (VRs.app ?_ (hys.mono hle))
    simp only [VRs, VR]
    exact ⟨_, _, rfl, ⟨_, _, _, rfl, ⟨L, Rho.put_same _ _ _, rfl⟩, by simp, by simp⟩, rfl⟩
  obtain ⟨hcall, hcon⟩ := hs.2 _ w1 _ hargs hr1
  have harr : xs ++ #[Value.func (.yield (w.heap.size + 1)) #[] #[]] ++ ys = (xs.toList ++ ([Value.func (.yield (w.heap.size + 1)) #[] #[]] ++ ys.toList)).toArray := by
    apply Array.ext'; simp
  refine ⟨w.heap.size + 1, [{ target := .collected w.heap.size, args := #[] }], w1, { target := .fn (.func f) ys, args := xs ++ #[Value.func (.yield (w.heap.size + 1)) #[] #[]] }, w1, f, _, w1, run_enterLoop_outer fn ac.tmps ts x y, ?_, fun _ _ => trivial, ?_, fr_depth _ _, CallsIn.mono (F := Fr none) hcon fun e w3 he => ?_⟩
  · have : (rangeCall q (w.heap.size + 1)).args.map ac.eval = #[Value.func (.yield (w.heap.size + 1)) #[] #[]] := by simp [Act.eval]
    simp only [resolve, this, hev, Deferred.ofValue, Sem.run_pure]
  · simp only [invoke, harr]; exact hcall
  · cases e with
    | panicked ch => exact he.elim
    | outgrown => exact he.elim
    | returned v' =>
      obtain ⟨ρ2, _, hr2, he2⟩ := he
      have hL2 := he2.le _ _ (Rho.put_same ρ h.next L)
      obtain ⟨lp2, k1, k2, k3, k4⟩ := loop_upd hr2 hL2 hg
      have hnb : lp2.state ≠ .busy := by
        rcases hst with rfl | rfl
        · rw [k2]; simp
        · rw [k2]; simp
      obtain ⟨hr4, he4⟩ := k4 .over p { lp2 with state := .exhausted } rfl k3 rfl rfl rfl rfl
      refine ⟨lp2.pending, _, run_endLoop k1 hnb, ?_⟩
      have hall := (he1.trans he2).trans he4
      have hmarks : Marks base ρ2 (w3.putObj L.blk (.loop { lp2 with state := .exhausted })) ([{ target := .collected w.heap.size, args := #[] }] ++ ac.defers) := by
        obtain ⟨bs, hd, hnd, hmk⟩ := hm
        refine ⟨w.heap.size :: bs, by rw [hd]; rfl, List.nodup_cons.2 ⟨fun hmem => ?_, hnd⟩, fun b' hb' => ?_⟩
        · have := (Array.getElem?_eq_some_iff.1 (hmk _ hmem).blk).1; omega
        · rcases List.mem_cons.1 hb' with rfl | hb'
          · have hm1 : MarkOK base (ρ.put h.next L) w1 w.heap.size := by
              refine ⟨hb, ?_, fun o M ho => ?_⟩
              · have e1 : w1.heap[w.heap.size]? = w0.heap[w.heap.size]? := by
                  show (w0.heap.push _)[w.heap.size]? = _
                  rw [Array.getElem?_push, if_neg (by omega)]
                rw [e1]; exact World.alloc_heap_new w _
              · unfold Rho.put at ho
                by_cases hoo : o = h.next
                · rw [if_pos hoo] at ho; cases ho; show w.heap.size + 1 ≠ w.heap.size; omega
                · rw [if_neg hoo] at ho; have := (hr.dom o M ho).2; omega
            exact (hm1.ext he2).ext he4
          · exact (hmk b' hb').ext hall
      have hq' := hQ { ac with defers := [{ target := .collected w.heap.size, args := #[] }] ++ ac.defers } _ ρ2 rfl (hf.mono hall.le) hr4 hall hmarks
      generalize lp2.pending = jump at k3 hq' ⊢
      cases p with
      | norm => have hp : jump = none := k3; subst hp; exact hq'
      | ret => have hp : jump = some .ret := k3; subst hp; exact wpIn_ret hq'
      | exit id => have hp : jump = some (.exit id) := k3; subst hp; exact wpIn_exit hq'
end
end Go.Ai
