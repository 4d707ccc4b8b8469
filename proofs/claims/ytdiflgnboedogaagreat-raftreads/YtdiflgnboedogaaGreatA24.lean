/- An interpreter on abstract values: a region in whatever order (what its checks give). -/
import Derived.Test.YtdiflgnboedogaaGreatA23
namespace Go.Ai
section
variable {P : Program} {ops : List Oper} {m : Nat} {l : List AI} {I : List Inf} {lit : Option Lit}

def Closed (ops : List Oper) (S : Nat → Prop) : Prop := ∀ (i : Nat) (o : Oper), ops[i]? = some o → S i → ∀ e ∈ o.after, Region.binds .any e = true → S e.on
def ReadyAt (ops : List Oper) (S : Nat → Prop) (i : Nat) : Prop := ∃ o, ops[i]? = some o ∧ ∀ e ∈ o.after, Region.binds .any e = true → S e.on

structure RegF (ops : List Oper) (m : Nat) (I : List Inf) : Prop where
  edge : ∀ (i : Nat) (o : Oper), ops[i]? = some o → ∀ e ∈ o.after, Region.binds .any e = true → e.on < i
  all : ∀ (i : Nat) (o : Oper), ops[i]? = some o → ∃ (k : Nat) (x : Inf), I[k]? = some x ∧ x.i = i
  pair : ∀ (p q : Nat) (x y : Inf), p < q → I[p]? = some x → I[q]? = some y → pairOk I x y = true
  inf : ∀ (k : Nat) (x : Inf), I[k]? = some x → infOk ops m I x = true
theorem RegD.f (hd : RegD P ops m l I lit) : RegF (vops lit ops) m I := by
  have h := hd.ok
  unfold regOk at h
  rw [Bool.and_eq_true, Bool.and_eq_true, Bool.and_eq_true] at h
  obtain ⟨h1, h2, h3, h4⟩ := h
  refine ⟨fun i o ho e he hb => ?_, fun i o ho => ?_, fun p q x y hpq hx hy => pairB_get h3 hpq hx hy, fun k x hx => allB_get h4 hx⟩
  · have := allB_get h1 (numbered_get (n := 0) ho)
    unfold edgeOk at this
    have := allB_mem this (Array.mem_toList_iff.2 he)
    rw [hb] at this
    simp only [Bool.not_true, Bool.false_or, Nat.blt_eq] at this
    omega
  · have := allB_get h2 (numbered_get (n := 0) ho)
    obtain ⟨k, x, hk, hx⟩ := anyB_get this
    exact ⟨k, x, hk, by have := Nat.eq_of_beq_eq_true hx; simpa using this⟩

theorem RegF.bits (hf : RegF ops m I) {k : Nat} {x : Inf} (hx : I[k]? = some x) : ∃ o, ops[x.i]? = some o ∧ ∀ z, bitOf x.b z = true → ∃ e ∈ o.after, Region.binds .any e = true ∧ (z = e.on ∨ ∃ (p : Nat) (y : Inf), I[p]? = some y ∧ y.i = e.on ∧ bitOf y.b z = true) := by
  have h := hf.inf k x hx
  unfold infOk at h
  rw [Bool.and_eq_true] at h
  have h := h.1
  rw [nth_eq] at h
  cases ho : ops[x.i]? with
  | none => rw [ho] at h; cases h
  | some o =>
    rw [ho] at h
    have hb := Nat.eq_of_beq_eq_true h
    refine ⟨o, rfl, fun z hz => ?_⟩
    rw [hb] at hz
    obtain ⟨e, he, hbd, hz⟩ := orOf_bit hz
    refine ⟨e, Array.mem_toList_iff.1 he, hbd, hz.imp id fun hz => ?_⟩
    obtain ⟨p, y, h1, h2, h3⟩ := bOf_bit hz
    exact ⟨p, y, h1, h2, by rw [h3]; exact hz⟩
theorem RegF.bit_lt (hf : RegF ops m I) : ∀ (n k : Nat) (x : Inf), x.i = n → I[k]? = some x → ∀ z, bitOf x.b z = true → z < x.i := by
  intro n
  induction n using Nat.strongRecOn with
  | _ n ih =>
    intro k x hn hx z hz
    obtain ⟨o, ho, h⟩ := hf.bits hx
    obtain ⟨e, he, hb, h⟩ := h z hz
    have hlt := hf.edge _ o ho e he hb
    rcases h with h | ⟨p, y, h1, h2, h3⟩
    · omega
    · have := ih y.i (by omega) p y rfl h1 z h3
      omega
theorem RegF.bit_in (hf : RegF ops m I) {S : Nat → Prop} (hc : Closed ops S) : ∀ (n k : Nat) (x : Inf), x.i = n → I[k]? = some x → (∀ o, ops[x.i]? = some o → ∀ e ∈ o.after, Region.binds .any e = true → S e.on) → ∀ z, bitOf x.b z = true → S z := by
  intro n
  induction n using Nat.strongRecOn with
  | _ n ih =>
    intro k x hn hx hs z hz
    obtain ⟨o, ho, h⟩ := hf.bits hx
    obtain ⟨e, he, hb, h⟩ := h z hz
    have hlt := hf.edge _ o ho e he hb
    have hse := hs o ho e he hb
    rcases h with h | ⟨p, y, h1, h2, h3⟩
    · rw [h]; exact hse
    · refine ih y.i (by omega) p y rfl h1 (fun o' ho' e' he' hb' => ?_) z h3
      exact hc y.i o' ho' (by rw [h2]; exact hse) e' he' hb'
theorem RegF.ready_in (hf : RegF ops m I) {S : Nat → Prop} (hc : Closed ops S) {k : Nat} {x : Inf} (hx : I[k]? = some x) (hr : ReadyAt ops S x.i) {z : Nat} (hz : bitOf x.b z = true) : S z := by
  obtain ⟨o, ho, hr⟩ := hr
  exact hf.bit_in hc _ k x rfl hx (fun o' ho' => by rw [ho] at ho'; cases ho'; exact hr) z hz
theorem RegF.done_in (hf : RegF ops m I) {S : Nat → Prop} (hc : Closed ops S) {k : Nat} {x : Inf} (hx : I[k]? = some x) (hs : S x.i) {z : Nat} (hz : bitOf x.b z = true) : S z :=
  hf.bit_in hc _ k x rfl hx (fun o ho => hc _ o ho hs) z hz

theorem RegF.pos_inj (hf : RegF ops m I) {p q : Nat} {x y : Inf} (hx : I[p]? = some x) (hy : I[q]? = some y) (h : x.i = y.i) : p = q := by
  have key : ∀ (p q : Nat) (x y : Inf), p < q → I[p]? = some x → I[q]? = some y → x.i = y.i → False := fun p q x y hpq hx hy h => by
    have := hf.pair p q x y hpq hx hy
    unfold pairOk at this
    rw [Bool.and_eq_true] at this
    have := this.1
    rw [h] at this
    simp at this
  rcases Nat.lt_trichotomy p q with h1 | h1 | h1
  · exact (key p q x y h1 hx hy h).elim
  · exact h1
  · exact (key q p y x h1 hy hx h.symm).elim
theorem RegF.no_later (hf : RegF ops m I) {p q : Nat} {x y : Inf} (hpq : p < q) (hx : I[p]? = some x) (hy : I[q]? = some y) : bitOf x.b y.i = false := by
  have := hf.pair p q x y hpq hx hy
  unfold pairOk at this
  rw [Bool.and_eq_true, Bool.and_eq_true] at this
  simpa using this.2.1
theorem RegF.eff_before (hf : RegF ops m I) {p q : Nat} {x y : Inf} (hpq : p < q) (hx : I[p]? = some x) (hy : I[q]? = some y) (h1 : x.c = .eff) (h2 : y.c ≠ .pure) : bitOf y.b x.i = true := by
  have := hf.pair p q x y hpq hx hy
  unfold pairOk at this
  rw [Bool.and_eq_true, Bool.and_eq_true, Bool.and_eq_true, h1] at this
  have := this.2.2.1
  cases hc : y.c <;> rw [hc] at this h2 <;> first | exact absurd rfl h2 | exact this
theorem RegF.strict (hf : RegF ops m I) {p q : Nat} {x y : Inf} (hpq : p < q) (hx : I[p]? = some x) (hy : I[q]? = some y) (h1 : x.c = .read) (h2 : y.c = .eff) (h3 : bitOf y.b x.i = false) :
    ∀ t ∈ x.uses, ∀ (k : Nat) (z : Inf), I[k]? = some z → z.dst = some t → bitOf x.b z.i = true := by
  have := hf.pair p q x y hpq hx hy
  unfold pairOk at this
  rw [Bool.and_eq_true, Bool.and_eq_true, Bool.and_eq_true, h1, h2] at this
  have := this.2.2.1
  simp only [h3, Bool.false_or] at this
  intro t ht k z hz hd
  unfold strictB at this
  have := allB_get (allB_mem this ht) hz
  rw [hd] at this
  have hd' : dstIs t (some t) = true := by simp [dstIs]
  rw [hd'] at this
  simpa using this
theorem RegF.dst_inj (hf : RegF ops m I) {p q : Nat} {x y : Inf} {t : Tmp} (hx : I[p]? = some x) (hy : I[q]? = some y) (h1 : x.dst = some t) (h2 : y.dst = some t) : p = q := by
  have key : ∀ (p q : Nat) (x y : Inf), p < q → I[p]? = some x → I[q]? = some y → x.dst = some t → y.dst = some t → False := fun p q x y hpq hx hy h1 h2 => by
    have := hf.pair p q x y hpq hx hy
    unfold pairOk at this
    rw [Bool.and_eq_true, Bool.and_eq_true, Bool.and_eq_true, h1, h2] at this
    have := this.2.2.2
    simp [dstIs] at this
  rcases Nat.lt_trichotomy p q with h | h | h
  · exact (key p q x y h hx hy h1 h2).elim
  · exact h
  · exact (key q p y x h hy hx h2 h1).elim
theorem RegF.use (hf : RegF ops m I) {p q : Nat} {x y : Inf} {t : Tmp} (hy : I[q]? = some y) (ht : t ∈ y.uses) (hx : I[p]? = some x) (hd : x.dst = some t) : bitOf y.b x.i = true ∨ bitOf x.b y.i = true ∨ x.i = y.i := by
  have h := hf.inf q y hy
  unfold infOk at h
  rw [Bool.and_eq_true, Bool.and_eq_true] at h
  have h := allB_get (allB_mem h.2.1 ht) hx
  rw [hd] at h
  have hd' : dstIs t (some t) = true := by simp [dstIs]
  rw [hd'] at h
  simp only [Bool.not_true, Bool.false_or, Bool.or_eq_true] at h
  exact h.imp id (Or.imp id Nat.eq_of_beq_eq_true)
theorem RegF.dst_lt (hf : RegF ops m I) {k : Nat} {x : Inf} {t : Tmp} (hx : I[k]? = some x) (hd : x.dst = some t) : t < m := by
  have h := hf.inf k x hx
  unfold infOk at h
  rw [Bool.and_eq_true, Bool.and_eq_true, Bool.and_eq_true, hd] at h
  simpa [Nat.blt_eq] using h.2.2.1
theorem RegF.read_dst (hf : RegF ops m I) {k : Nat} {x : Inf} (hx : I[k]? = some x) (hc : x.c = .read) : ∃ t, x.dst = some t := by
  have h := hf.inf k x hx
  unfold infOk at h
  rw [Bool.and_eq_true, Bool.and_eq_true, Bool.and_eq_true, hc] at h
  have h := h.2.2.2
  cases hd : x.dst with
  | none => rw [hd] at h; simp [noneB] at h
  | some t => exact ⟨t, rfl⟩

/-! ### What the registers hold on the way -/
variable {good : Nat → Code → Prop} {rr : Nat → Regs} {vv : Nat → AV} {hh : Nat → Hp}
theorem dstC_some {d : Option Tmp} {s : Option Slot} (h : dstC d = some s) : (d = none ∧ s = none) ∨ ∃ t, d = some t ∧ t < 1024 ∧ s = some (slot t) := by
  cases d with
  | none => simp only [dstC, Option.some.injEq] at h; exact .inl ⟨rfl, h.symm⟩
  | some t =>
    simp only [dstC] at h
    obtain ⟨hlt, h⟩ := ite_some h
    cases h
    exact .inr ⟨t, rfl, by simpa [Nat.blt_eq] using hlt, rfl⟩
theorem reg_step (hd : RegD P ops m l I lit) (ht : TraceR P good l rr vv hh) {k : Nat} {x : Inf} (hx : I[k]? = some x) {t : Tmp} (hlt : t < 1024) : Regs.get (rr (k + 1)) (slot t) = if x.dst = some t then vv k else Regs.get (rr k) (slot t) := by
  have hk : k < l.length := by rw [← hd.len]; exact (List.getElem?_eq_some_iff.1 hx).1
  have hl := List.getElem?_eq_getElem hk
  obtain ⟨h6, _⟩ := hd.dst k _ x hl hx
  rw [ht.regs k _ hl]
  rcases dstC_some h6 with ⟨e1, e2⟩ | ⟨d, e1, e2, e3⟩
  · rw [e2, e1]; simp [setDst]
  · rw [e3, e1]
    simp only [setDst, Regs.get_set, Option.some.injEq]
    by_cases hdt : d = t
    · subst hdt; simp
    · rw [if_neg hdt, if_neg (fun e => hdt (slot_inj hlt e2 e).symm)]
theorem reg_from (hd : RegD P ops m l I lit) (ht : TraceR P good l rr vv hh) {t : Tmp} (hlt : t < 1024) {p : Nat} : ∀ k, p ≤ k → k ≤ l.length → (∀ (q : Nat) (x : Inf), p ≤ q → q < k → I[q]? = some x → x.dst ≠ some t) → Regs.get (rr k) (slot t) = Regs.get (rr p) (slot t) := by
  intro k
  induction k with
  | zero => intro h1 _ _; have : p = 0 := by omega
            rw [this]
  | succ k ih =>
    intro h1 h2 h3
    by_cases hpk : p = k + 1
    · rw [hpk]
    · have hk : k < I.length := by rw [hd.len]; omega
      have hx := List.getElem?_eq_getElem hk
      rw [reg_step hd ht hx hlt, if_neg (h3 k _ (by omega) (by omega) hx)]
      exact ih (by omega) (by omega) fun q x a b => h3 q x a (by omega)
/-- A register that is written before. -/
theorem reg_written (hd : RegD P ops m l I lit) (ht : TraceR P good l rr vv hh) {t : Tmp} (hlt : t < 1024) {p k : Nat} {x : Inf} (hx : I[p]? = some x) (hdst : x.dst = some t) (hpk : p < k) (hk : k ≤ l.length) : Regs.get (rr k) (slot t) = vv p := by
  rw [reg_from hd ht hlt (p := p + 1) k (by omega) hk (fun q y h1 h2 hy hyd => by have := hd.f.dst_inj hx hy hdst hyd; omega), reg_step hd ht hx hlt, if_pos hdst]
/-- One that is not. -/
theorem reg_unwritten (hd : RegD P ops m l I lit) (ht : TraceR P good l rr vv hh) {t : Tmp} (hlt : t < 1024) {k : Nat} (hk : k ≤ l.length) (h : ∀ (q : Nat) (x : Inf), q < k → I[q]? = some x → x.dst ≠ some t) : Regs.get (rr k) (slot t) = Regs.get (rr 0) (slot t) :=
  reg_from hd ht hlt k (by omega) hk fun q x _ h2 => h q x h2

/-! ### The temporaries, in whatever order -/
structure RegI (I : List Inf) (rr : Nat → Regs) (vv : Nat → AV) (a0 : Act) (m : Nat) (ex : Tmp → Prop) (S : Nat → Prop) (ρ : Rho) (a : Act) : Prop where
  size : a.tmps.size = a0.tmps.size
  wide : m ≤ a0.tmps.size
  defers : a.defers = a0.defers
  wr : ∀ (k : Nat) (x : Inf), I[k]? = some x → S x.i → ∀ t, x.dst = some t → VR ρ (vv k) (a.tmps.getD t undef)
  un : ∀ t, t < 1024 → ¬ ex t → (∀ (k : Nat) (x : Inf), I[k]? = some x → x.dst = some t → ¬ S x.i) → VR ρ (Regs.get (rr 0) (slot t)) (a.tmps.getD t undef)
theorem RegI.see (hd : RegD P ops m l I lit) (ht : TraceR P good l rr vv hh) {a0 a : Act} {ex : Tmp → Prop} {S : Nat → Prop} {ρ : Rho} (hi : RegI I rr vv a0 m ex S ρ a) (hc : Closed (vops lit ops) S) {k : Nat} {x : Inf} (hx : I[k]? = some x) (hr : ReadyAt (vops lit ops) S x.i) (hn : ¬ S x.i) {t : Tmp} (hu : t ∈ x.uses) (hlt : t < 1024) (hex : ¬ ex t) :
    VR ρ (Regs.get (rr k) (slot t)) (a.tmps.getD t undef) := by
  have hf := hd.f
  have hkl : k < l.length := by rw [← hd.len]; exact (List.getElem?_eq_some_iff.1 hx).1
  have hself : bitOf x.b x.i = false := by
    cases hb : bitOf x.b x.i with
    | false => rfl
    | true => have := hf.bit_lt _ k x rfl hx _ hb; omega
  by_cases hw : ∃ (p : Nat) (y : Inf), I[p]? = some y ∧ y.dst = some t
  · obtain ⟨p, y, hy, hyd⟩ := hw
    have later : k ≤ p → ¬ S y.i → VR ρ (Regs.get (rr k) (slot t)) (a.tmps.getD t undef) := fun hkp hns => by
      rw [reg_unwritten hd ht hlt (by omega) fun q z hq hz hzd => by have := hf.dst_inj hy hz hyd hzd; omega]
      exact hi.un t hlt hex fun q z hz hzd => by
        have := hf.dst_inj hy hz hyd hzd; subst this
        rw [hy] at hz; cases hz; exact hns
    rcases hf.use hx hu hy hyd with h | h | h
    · have hpk : p < k := by
        rcases Nat.lt_trichotomy p k with h1 | h1 | h1
        · exact h1
        · subst h1; rw [hx] at hy; cases hy; rw [hself] at h; cases h
        · rw [hf.no_later h1 hx hy] at h; cases h
      rw [reg_written hd ht hlt hy hyd hpk (by omega)]
      exact hi.wr p y hy (hf.ready_in hc hx hr h) t hyd
    · refine later ?_ fun hs => hn (hf.done_in hc hy hs h)
      rcases Nat.lt_or_ge p k with h1 | h1
      · rw [hf.no_later h1 hy hx] at h; cases h
      · exact h1
    · have := hf.pos_inj hy hx h
      subst this
      exact later (Nat.le_refl _) (by rw [h]; exact hn)
  · have hno : ∀ (q : Nat) (z : Inf), I[q]? = some z → z.dst ≠ some t := fun q z hz hzd => hw ⟨q, z, hz, hzd⟩
    rw [reg_unwritten hd ht hlt (by omega) fun q z _ hz => hno q z hz]
    exact hi.un t hlt hex fun q z hz hzd => (hno q z hz hzd).elim

theorem getD_put {a : Act} {d : Option Tmp} {v : Value} (t : Tmp) (hlt : ∀ q, d = some q → q < a.tmps.size) : (a.put d v).tmps.getD t undef = if d = some t then v else a.tmps.getD t undef := by
  cases d with
  | none => simp [Act.put]
  | some q =>
    have hq := hlt q rfl
    simp only [Act.put, Option.some.injEq, Array.getD_eq_getD_getElem?, Array.getElem?_setIfInBounds]
    by_cases h : q = t
    · subst h; simp [hq]
    · simp [h]
theorem RegI.put (hd : RegD P ops m l I lit) {a0 a : Act} {ex : Tmp → Prop} {S : Nat → Prop} {ρ ρ' : Rho} (hi : RegI I rr vv a0 m ex S ρ a) (hle : Le ρ ρ') {k : Nat} {x : Inf} (hx : I[k]? = some x) {v : Value} (hv : VR ρ' (vv k) v) :
    RegI I rr vv a0 m ex (fun i => S i ∨ i = x.i) ρ' (a.put x.dst v) := by
  have hf := hd.f
  have hlt : ∀ q, x.dst = some q → q < a.tmps.size := fun q hq => by rw [hi.size]; exact Nat.lt_of_lt_of_le (hf.dst_lt hx hq) hi.wide
  refine ⟨?_, hi.wide, ?_, fun p y hy hs t hyd => ?_, fun t ht hex hno => ?_⟩
  · rw [← hi.size]; cases x.dst <;> simp [Act.put]
  · rw [← hi.defers]; cases x.dst <;> simp [Act.put]
  · rw [getD_put t hlt]
    by_cases hxt : x.dst = some t
    · rw [if_pos hxt]
      have := hf.dst_inj hx hy hxt hyd
      subst this; exact hv
    · rw [if_neg hxt]
      rcases hs with hs | hs
      · exact (hi.wr p y hy hs t hyd).mono hle
      · have := hf.pos_inj hy hx hs
        subst this
        rw [hx] at hy; cases hy
        exact (hxt hyd).elim
  · rw [getD_put t hlt, if_neg fun hxt => hno k x hx hxt (.inr rfl)]
    exact (hi.un t ht hex fun p y hy hyd hs => hno p y hy hyd (.inl hs)).mono hle
/-- A temporary more that is let out, and whatever it holds. -/
theorem RegI.letOut {a0 a a' : Act} {ex ex' : Tmp → Prop} {S : Nat → Prop} {ρ : Rho} (hi : RegI I rr vv a0 m ex S ρ a) (hex : ∀ t, ex t → ex' t) (hsz : a'.tmps.size = a.tmps.size) (hdf : a'.defers = a.defers)
    (hsame : ∀ t, ¬ ex' t → a'.tmps.getD t undef = a.tmps.getD t undef) (hw : ∀ (k : Nat) (x : Inf), I[k]? = some x → S x.i → ∀ t, x.dst = some t → ¬ ex' t) : RegI I rr vv a0 m ex' S ρ a' :=
  ⟨hsz.trans hi.size, hi.wide, hdf.trans hi.defers, fun k x hx hs t hd => by rw [hsame t (hw k x hx hs t hd)]; exact hi.wr k x hx hs t hd, fun t ht hno hun => by rw [hsame t hno]; exact hi.un t ht (fun e => hno (hex t e)) hun⟩
/-- Operations that lay nothing down, more of them or fewer. -/
theorem RegI.alike {a0 a : Act} {ex : Tmp → Prop} {S S' : Nat → Prop} {ρ : Rho} (hi : RegI I rr vv a0 m ex S ρ a) (h : ∀ (k : Nat) (x : Inf) (t : Tmp), I[k]? = some x → x.dst = some t → (S x.i ↔ S' x.i)) : RegI I rr vv a0 m ex S' ρ a :=
  ⟨hi.size, hi.wide, hi.defers, fun k x hx hs t hd => hi.wr k x hx ((h k x t hx hd).2 hs) t hd, fun t ht hno hun => hi.un t ht hno fun k x hx hd hs => hun k x hx hd ((h k x t hx hd).1 hs)⟩
/-- A temporary that was let out is one again. -/
theorem RegI.letIn (hf : RegF (vops lit ops) m I) {a0 a : Act} {ex ex' : Tmp → Prop} {S : Nat → Prop} {ρ ρ' : Rho} (hi : RegI I rr vv a0 m ex S ρ a) (hle : Le ρ ρ') {k : Nat} {x : Inf} {d : Tmp} (hx : I[k]? = some x) (hd : x.dst = some d) (hex : ∀ t, ex t → ex' t ∨ t = d)
    (hv : VR ρ' (vv k) (a.tmps.getD d undef)) : RegI I rr vv a0 m ex' (fun i => S i ∨ i = x.i) ρ' a := by
  refine ⟨hi.size, hi.wide, hi.defers, fun p y hy hs t hyd => ?_, fun t ht hno hun => ?_⟩
  · rcases hs with hs | hs
    · exact (hi.wr p y hy hs t hyd).mono hle
    · have := hf.pos_inj hy hx hs
      subst this
      rw [hx] at hy; cases hy
      rw [hd] at hyd; cases hyd; exact hv
  · refine (hi.un t ht (fun e => ?_) fun p y hy hyd hs => hun p y hy hyd (.inl hs)).mono hle
    rcases hex t e with e | e
    · exact hno e
    · subst e; exact hun k x hx hd (.inr rfl)
theorem Closed.put {S : Nat → Prop} (hc : Closed ops S) {i : Nat} (hr : ReadyAt ops S i) : Closed ops (fun j => S j ∨ j = i) := fun j o ho hs e he hb => by
  rcases hs with hs | hs
  · exact .inl (hc j o ho hs e he hb)
  · subst hs
    obtain ⟨o', ho', hr⟩ := hr
    rw [ho] at ho'; cases ho'
    exact .inl (hr e he hb)
end
end Go.Ai
