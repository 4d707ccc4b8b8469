/- An interpreter on abstract values: a region in whatever order (the whole of it). -/
import Derived.Test.YtdiflgnboedogaaGreatA26e
namespace Go.Ai
section
variable {P : Program} {good : Nat → Code → Prop} {ops : List Oper} {m : Nat} {l : List AI} {I : List Inf} {lit : Option Lit} {rr : Nat → Regs} {vv : Nat → AV} {hh : Nat → Hp}
variable {ρ0 : Rho} {w0 : World} {S : Nat → Prop} {c : Nat} {ρ : Rho} {w : World}

/-- All are done. -/
theorem all_done {a0 a : Act} (hd : RegD P ops m l I lit) (ht : TraceR P good l rr vv hh) (hv : Inv P good l I lit rr vv hh a0 m ρ0 w0 S c ρ a w) (hall : ∀ i, i < ops.length → S i) : FR ρ (rr l.length) a.tmps ∧ HR P good ρ (hh l.length) w ∧ Ext ρ0 (hh 0) w0 ρ (hh l.length) w := by
  have hi := hv.regs
  have hp := hv.heap
  have hins : ∀ L, lit = some L → ∀ q ∈ L.ins, S q.1 := fun L hL q hq => by
    obtain ⟨kk, hl⟩ := litF_of P hd hL
    obtain ⟨o, t, kt, el, k', h1, _⟩ := (hl.ins q hq).op
    exact hall _ (List.getElem?_eq_some_iff.1 h1).1
  have hidx : ∀ (k : Nat) (x : Inf), I[k]? = some x → seff lit S x.i := fun k x hx => ⟨hall _ (hd.idx k x hx), fun L hL _ => hins L hL⟩
  have hex : ∀ t, ¬ exf lit S t := fun t ⟨L, hL, _, _, h⟩ => h (hins L hL)
  have hp' := hp.upto hd ht l.length hp.cle (Nat.le_refl _) fun p y h1 _ hy he => hp.out p y hy h1 (by rw [he]; simp) (hidx p y hy)
  refine ⟨fun t hlt => ?_, hp'.heap, hp'.ext⟩
  by_cases hw : ∃ (p : Nat) (y : Inf), I[p]? = some y ∧ y.dst = some t
  · obtain ⟨p, y, hy, hyd⟩ := hw
    have hpl : p < l.length := by rw [← hd.len]; exact (List.getElem?_eq_some_iff.1 hy).1
    rw [reg_written hd ht hlt hy hyd hpl (Nat.le_refl _)]
    exact hi.wr p y hy (hidx p y hy) t hyd
  · have hno : ∀ (q : Nat) (z : Inf), I[q]? = some z → z.dst ≠ some t := fun q z hz hzd => hw ⟨q, z, hz, hzd⟩
    rw [reg_unwritten hd ht hlt (Nat.le_refl _) fun q z _ hz => hno q z hz]
    exact hi.un t hlt (hex t) fun q z hz hzd => (hno q z hz hzd).elim

/-- A region, in whatever order its operations come. -/
theorem region_sound {r : Option Nat} {Q : Exit → Act → World → Prop} {a : Act} (hm : P.follows .mixedOrders = true) (hd : RegD P ops m l I lit) (ht : TraceR P good l rr vv hh) (hwide : m ≤ a.tmps.size) (hf : FR ρ (rr 0) a.tmps) (hr : HR P good ρ (hh 0) w) (id : Nat) (draw : Bool)
    (hQ : ∀ a' w' ρ', a'.tmps.size = a.tmps.size → a'.defers = a.defers → FR ρ' (rr l.length) a'.tmps → HR P good ρ' (hh l.length) w' → Ext ρ (hh 0) w ρ' (hh l.length) w' → Q .normal a' w') : (Code.region id ops.toArray draw).wpIn (Fr r) 0 P Q a w := by
  have hrf := hd.f
  have hedge : ∀ (i : Nat) (o : Oper), ops[i]? = some o → ∀ e ∈ o.after, Region.binds .any e = true → e.on < i := fun i o ho e he hb => by
    obtain ⟨o', ho', hsub⟩ := vops_some (lit := lit) ho
    exact hrf.edge i o' ho' e (hsub e he) hb
  have hstart : ∀ w1 : World, HR P good ρ (hh 0) w1 → Ext ρ (hh 0) w ρ (hh 0) w1 → Inv P good l I lit rr vv hh a m ρ w (fun _ => False) 0 ρ a w1 := fun w1 hr1 he1 =>
    ⟨⟨rfl, hwide, rfl, fun _ _ _ h => h.1.elim, fun t ht _ _ => hf t ht⟩, ⟨Nat.zero_le _, fun k x _ h => by omega, fun _ _ _ _ _ h => h.1, hr1, he1, fun k _ _ _ _ _ _ h => by omega⟩, fun _ _ h => h.elim⟩
  have hfin : ∀ (S : Nat → Prop) (c : Nat) (ρ' : Rho) (a' : Act) (w' : World), Inv P good l I lit rr vv hh a m ρ w S c ρ' a' w' → (∀ i, i < ops.length → S i) → Q .normal a' w' := fun S c ρ' a' w' hi hall => by
    obtain ⟨h1, h2, h3⟩ := all_done hd ht hi hall
    exact hQ a' w' ρ' hi.regs.size hi.regs.defers h1 h2 h3
  cases draw with
  | true =>
    refine wpIn_region_any hm ?_
    have hw1 : HR P good ρ (hh 0) { w with drawn := w.drawn + 1 } := hr.world rfl
    have he1 : Ext ρ (hh 0) w ρ (hh 0) { w with drawn := w.drawn + 1 } := ⟨Le.refl ρ, fun o L h1 h2 => (by rw [h1] at h2; cases h2), fun _ _ _ => .inl rfl, Nat.le_refl _, fun _ _ _ => rfl, Nat.le_refl _, rfl, rfl, rfl⟩
    have hi := hstart _ hw1 he1
    have key : ∀ (fuel : Nat) (listed : Array Bool) (c : Nat) (ρ' : Rho) (a' : Act) (w' : World), listed.size = ops.length → (listed.toList.filter (· == false)).length ≤ fuel → Closed ops (fun i => listed.getD i false = true) →
        Inv P good l I lit rr vv hh a m ρ w (fun i => listed.getD i false = true) c ρ' a' w' → wpAnyIn (Fr r) 0 P .any ops.toArray Q fuel listed a' w' := by
      intro fuel
      induction fuel with
      | zero =>
        intro listed c ρ' a' w' hsz hfu hc hi
        have hall : ∀ i, i < ops.length → listed.getD i false = true := fun i hi => by
          have hlt : i < listed.size := by omega
          have hnil : listed.toList.filter (· == false) = [] := List.eq_nil_of_length_eq_zero (by omega)
          rw [List.filter_eq_nil_iff] at hnil
          have := hnil listed[i] (by simp)
          rw [Array.getD_eq_getD_getElem?, Array.getElem?_eq_getElem hlt]
          simpa using this
        refine ⟨?_, hfin _ c ρ' a' w' hi hall⟩
        rw [List.eq_nil_iff_forall_not_mem]
        intro j hj
        obtain ⟨h1, o, ho, _⟩ := mem_ready.1 hj
        have hlt : j < ops.length := by
          have := (Array.getElem?_eq_some_iff.1 ho).1; simpa using this
        have := hall j hlt
        rw [Array.getD_eq_getD_getElem?, Array.getElem?_eq_getElem (by omega)] at h1 this
        simp at h1 this; rw [h1] at this; cases this
      | succ fuel ih =>
        intro listed c ρ' a' w' hsz hfu hc hi
        refine ⟨fun hnil => hfin _ c ρ' a' w' hi fun i => ?_, fun j hj => ?_⟩
        · -- nothing is ready: all is done
          induction i using Nat.strongRecOn with
          | _ i ihi =>
            intro hlt
            cases hli : listed.getD i false with
            | true => rfl
            | false =>
              exfalso
              have : i ∈ Region.ready .any ops.toArray listed := by
                refine mem_ready.2 ⟨?_, ops[i], by simp [hlt], fun e he hb => ?_⟩
                · rw [Array.getD_eq_getD_getElem?, Array.getElem?_eq_getElem (by omega)] at hli ⊢
                  simpa using hli
                · have := hedge i ops[i] (by simp [hlt]) e he hb
                  exact ihi e.on this (by omega)
              rw [hnil] at this; cases this
        · obtain ⟨h1, o, ho, h3⟩ := mem_ready.1 hj
          have ho' : ops[j]? = some o := by simpa using ho
          have hlt : j < listed.size := by have := (List.getElem?_eq_some_iff.1 ho').1; omega
          have hls : ∀ i, ((listed.setIfInBounds j true).getD i false = true) ↔ (listed.getD i false = true ∨ i = j) := fun i => by
            simp only [Array.getD_eq_getD_getElem?, Array.getElem?_setIfInBounds]
            by_cases hji : j = i
            · subst hji; simp [hlt]
            · rw [if_neg hji]
              constructor
              · exact .inl
              · rintro (h | h)
                · exact h
                · exact (hji h.symm).elim
          have hfun : (fun i => (listed.setIfInBounds j true).getD i false = true) = (fun i => listed.getD i false = true ∨ i = j) := funext fun i => propext (hls i)
          have hlf : listed.getD j false = false := by
            rw [Array.getD_eq_getD_getElem?, Array.getElem?_eq_getElem hlt] at h1 ⊢
            simpa using h1
          have hrd : ReadyAt ops (fun i => listed.getD i false = true) j := ⟨o, ho', fun e he hb => h3 e he hb⟩
          refine inv_step hd ht hr.fresh hi hc hrd (by simp [hlf]) fun a'' w'' c' ρ'' hi' => ih _ c' ρ'' a'' w'' (by simpa using hsz) ?_ ?_ ?_
          · -- one fewer
            have hset : (listed.setIfInBounds j true).toList = listed.toList.set j true := by simp
            rw [hset]
            have hcount : ∀ (q : List Bool) (n : Nat), q[n]? = some false → ((q.set n true).filter (· == false)).length + 1 = (q.filter (· == false)).length := by
              intro q
              induction q with
              | nil => intro n hn; simp at hn
              | cons b q ihq =>
                intro n hn
                cases n with
                | zero => simp at hn; subst hn; simp
                | succ n =>
                  have := ihq n (by simpa using hn)
                  cases b <;> simp <;> simp at this <;> omega
            have := hcount listed.toList j (by
              rw [Array.getD_eq_getD_getElem?, Array.getElem?_eq_getElem hlt] at hlf
              rw [Array.getElem?_toList, Array.getElem?_eq_getElem hlt]
              simpa using hlf)
            omega
          · rw [hfun]; exact hc.put hrd
          · rw [hfun]; exact hi'
    have hls : (fun i => (Array.replicate ops.length false).getD i false = true) = (fun _ => False) := funext fun i => by
      simp [Array.getD_eq_getD_getElem?, Array.getElem?_replicate]
      split <;> simp
    have hsz : ops.toArray.size = ops.length := by simp
    rw [hsz]
    refine key ops.length (Array.replicate ops.length false) 0 ρ a _ (by simp) ?_ ?_ ?_
    · exact Nat.le_trans (List.length_filter_le _ _) (by simp)
    · rw [hls]; exact fun _ _ _ h => h.elim
    · rw [hls]; exact hi
  | false =>
    refine wpIn_region ?_
    have hi := hstart w hr (Ext.refl _ _ _)
    have key : ∀ (n k : Nat) (c : Nat) (ρ' : Rho) (a' : Act) (w' : World), k + n = ops.length → Inv P good l I lit rr vv hh a m ρ w (fun i => i < k) c ρ' a' w' → wpOpsIn (Fr r) 0 P ops.toArray Q (List.range' k n) a' w' := by
      intro n
      induction n with
      | zero =>
        intro k c ρ' a' w' hk hi
        simp only [List.range'_zero, wpOpsIn]
        exact hfin _ c ρ' a' w' hi fun i hlt => by omega
      | succ n ih =>
        intro k c ρ' a' w' hk hi
        rw [List.range'_succ, wpOpsIn_cons]
        have hlt : k < ops.length := by omega
        have hc : Closed ops (fun i => i < k) := fun i o ho h e he hb => by
          have := hedge i o ho e he hb
          show e.on < k
          have h : i < k := h
          omega
        have hrd : ReadyAt ops (fun i => i < k) k := ⟨ops[k], by simp [hlt], fun e he hb => hedge k ops[k] (by simp [hlt]) e he hb⟩
        have hfun : (fun i => i < k ∨ i = k) = (fun i => i < k + 1) := funext fun i => propext ⟨fun h => by omega, fun h => by omega⟩
        refine inv_step hd ht hr.fresh hi hc hrd (by simp) fun a'' w'' c' ρ'' hi' => ih (k + 1) c' ρ'' a'' w'' (by omega) ?_
        rw [← hfun]; exact hi'
    have hsz : ops.toArray.size = ops.length := by simp
    rw [hsz, List.range_eq_range']
    refine key ops.length 0 0 ρ a w (by omega) ?_
    have : (fun i : Nat => i < 0) = (fun _ => False) := funext fun i => by simp
    rw [this]; exact hi
end
end Go.Ai
