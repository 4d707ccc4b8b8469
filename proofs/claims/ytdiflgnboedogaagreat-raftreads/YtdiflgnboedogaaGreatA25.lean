/- An interpreter on abstract values: a region in whatever order (one operation's step). -/
import Derived.Test.YtdiflgnboedogaaGreatA24
namespace Go.Ai
section
variable {P : Program} {good : Nat → Code → Prop} {ops : List Oper} {m : Nat} {l : List AI} {I : List Inf} {lit : Option Lit} {rr : Nat → Regs} {vv : Nat → AV} {hh : Nat → Hp}

theorem hh_grow (ht : TraceR P good l rr vv hh) {p : Nat} : ∀ q, p ≤ q → q ≤ l.length → Grow (hh p) (hh q) := by
  intro q
  induction q with
  | zero => intro h _; have : p = 0 := by omega
            rw [this]; exact .refl _
  | succ q ih =>
    intro h1 h2
    by_cases hpq : p = q + 1
    · rw [hpq]; exact .refl _
    · exact (ih (by omega) (by omega)).trans (ht.step q _ (List.getElem?_eq_getElem (by omega))).grow

structure HeapI (P : Program) (good : Nat → Code → Prop) (l : List AI) (I : List Inf) (rr : Nat → Regs) (hh : Nat → Hp) (ρ0 : Rho) (w0 : World) (S : Nat → Prop) (c : Nat) (ρ : Rho) (w : World) : Prop where
  cle : c ≤ l.length
  effIn : ∀ (k : Nat) (x : Inf), I[k]? = some x → k < c → x.c = .eff → S x.i
  out : ∀ (k : Nat) (x : Inf), I[k]? = some x → c ≤ k → x.c ≠ .pure → ¬ S x.i
  heap : HR P good ρ (hh c) w
  ext : Ext ρ0 (hh 0) w0 ρ (hh c) w
  lay : ∀ (k : Nat) (x : Inf) (ai : AI) (op : LOp) (q : AO × Mk), I[k]? = some x → l[k]? = some ai → k < c → ¬ S x.i → ai.op = .l op → wantA (rr k) ai.guard = some true → evalL op (evs (rr k) ai.args) = some q →
    ρ (hh k).next = none ∧ ((hh c).get (hh k).next = some q.1 ∨ (hh c).get (hh k).next = none)

/-- A step that writes nothing: the heap stays, or has one object more. -/
theorem step_calm {i : AI} {r : Regs} {h h' : Hp} {v : AV} (hs : StepR P good i r h v h') (hc : clOf i.op ≠ .eff) :
    (h' = h ∧ ∀ op, i.op = .l op → wantA r i.guard ≠ some true) ∨ ∃ op q, i.op = .l op ∧ wantA r i.guard = some true ∧ evalL op (evs r i.args) = some q ∧ v = q.2.val h.next ∧ h' = h.add q.1 := by
  unfold StepR at hs
  split at hs
  · rename_i hw
    unfold OpR at hs
    split at hs
    · rename_i op ho; exact .inl ⟨hs.2, fun op' e => by rw [ho] at e; cases e⟩
    · rename_i op ho; exact .inl ⟨hs.2, fun op' e => by rw [ho] at e; cases e⟩
    · rename_i op ho
      obtain ⟨q, h1, h2, h3⟩ := hs
      exact .inr ⟨op, q, ho, hw, h1, h2, h3⟩
    · rename_i op ho; rw [ho] at hc; exact (hc rfl).elim
    · rename_i ho; rw [ho] at hc; exact (hc rfl).elim
  · rename_i hw
    exact .inl ⟨hs.2, fun op _ e => by rw [hw] at e; cases e⟩
  · exact hs.elim

variable {ρ0 : Rho} {w0 : World} {S : Nat → Prop} {c : Nat} {ρ : Rho} {w : World}
theorem HeapI.adv (hd : RegD P ops m l I lit) (ht : TraceR P good l rr vv hh) (hi : HeapI P good l I rr hh ρ0 w0 S c ρ w) {x : Inf} (hx : I[c]? = some x) (hc : x.c ≠ .eff) : HeapI P good l I rr hh ρ0 w0 S (c + 1) ρ w := by
  have hcl : c < l.length := by rw [← hd.len]; exact (List.getElem?_eq_some_iff.1 hx).1
  have hl := List.getElem?_eq_getElem hcl
  obtain ⟨_, h9⟩ := hd.dst c _ x hl hx
  rw [h9] at hc
  have hs := step_calm (ht.step c _ hl) hc
  have base : (∀ (k : Nat) (x : Inf), I[k]? = some x → k < c + 1 → x.c = .eff → S x.i) ∧ (∀ (k : Nat) (x : Inf), I[k]? = some x → c + 1 ≤ k → x.c ≠ .pure → ¬ S x.i) := by
    refine ⟨fun k y hy hk hyc => ?_, fun k y hy hk => hi.out k y hy (by omega)⟩
    by_cases hkc : k = c
    · subst hkc; rw [hx] at hy; cases hy; rw [h9] at hyc; exact (hc hyc).elim
    · exact hi.effIn k y hy (by omega) hyc
  rcases hs with ⟨he, hno⟩ | ⟨op, q, e1, e2, e3, e4, e5⟩
  · refine ⟨hcl, base.1, base.2, by rw [he]; exact hi.heap, by rw [he]; exact hi.ext, fun k y ai op q hy ha hk hns ho hw hq => ?_⟩
    by_cases hkc : k = c
    · subst hkc
      rw [hl] at ha; cases ha
      exact (hno op ho hw).elim
    · rw [he]; exact hi.lay k y ai op q hy ha (by omega) hns ho hw hq
  · refine ⟨hcl, base.1, base.2, by rw [e5]; exact hi.heap.addAbs _, by rw [e5]; exact hi.ext.addAbs _, fun k y ai op' q' hy ha hk hns ho hw hq => ?_⟩
    by_cases hkc : k = c
    · subst hkc
      rw [hl] at ha; cases ha
      rw [e1] at ho; cases ho
      rw [e3] at hq; cases hq
      exact ⟨hi.heap.none_next, .inl (by rw [e5, get_add, if_pos rfl])⟩
    · have hkc' : k < c := by omega
      have hold := hi.lay k y ai op' q' hy ha hkc' hns ho hw hq
      have hs' := ht.step k _ ha
      have hnext : (hh (k + 1)).next = (hh k).next + 1 := by
        rcases step_calm hs' (by rw [ho]; simp [clOf]) with ⟨_, hno⟩ | ⟨_, _, _, _, _, _, f5⟩
        · exact (hno op' ho hw).elim
        · rw [f5, next_add]
      have hg := (hh_grow ht (p := k + 1) c (by omega) (by omega)).next
      rw [e5, get_add, if_neg (by omega)]
      exact hold
theorem HeapI.upto (hd : RegD P ops m l I lit) (ht : TraceR P good l rr vv hh) (hi : HeapI P good l I rr hh ρ0 w0 S c ρ w) : ∀ k, c ≤ k → k ≤ l.length → (∀ (p : Nat) (y : Inf), c ≤ p → p < k → I[p]? = some y → y.c ≠ .eff) → HeapI P good l I rr hh ρ0 w0 S k ρ w := by
  intro k
  induction k with
  | zero => intro h _ _; have : c = 0 := by omega
            subst this; exact hi
  | succ k ih =>
    intro h1 h2 h3
    by_cases hck : c = k + 1
    · subst hck; exact hi
    · have hk : k < I.length := by rw [hd.len]; omega
      exact (ih (by omega) (by omega) fun p y a b => h3 p y a (by omega)).adv hd ht (List.getElem?_eq_getElem hk) (h3 k _ (by omega) (by omega) (List.getElem?_eq_getElem hk))
theorem HeapI.reach (hd : RegD P ops m l I lit) (ht : TraceR P good l rr vv hh) (hi : HeapI P good l I rr hh ρ0 w0 S c ρ w) (hc : Closed (vops lit ops) S) {k : Nat} {x : Inf} (hx : I[k]? = some x) (hr : ReadyAt (vops lit ops) S x.i) (hcl : x.c ≠ .pure) (hck : c ≤ k) : HeapI P good l I rr hh ρ0 w0 S k ρ w := by
  have hkl : k < l.length := by rw [← hd.len]; exact (List.getElem?_eq_some_iff.1 hx).1
  refine hi.upto hd ht k hck (by omega) fun p y h1 h2 hy he => ?_
  have hb := hd.f.eff_before h2 hy hx he hcl
  exact hi.out p y hy h1 (by rw [he]; simp) (hd.f.ready_in hc hx hr hb)
theorem HeapI.reach' (hd : RegD P ops m l I lit) (ht : TraceR P good l rr vv hh) (hi : HeapI P good l I rr hh ρ0 w0 S c ρ w) (hc : Closed (vops lit ops) S) {k : Nat} {x : Inf} (hx : I[k]? = some x) (hr : ReadyAt (vops lit ops) S x.i) (hcl : x.c ≠ .pure) (hce : x.c ≠ .eff) : ∃ c', k < c' ∧ HeapI P good l I rr hh ρ0 w0 S c' ρ w := by
  rcases Nat.lt_or_ge k c with h | h
  · exact ⟨c, h, hi⟩
  · exact ⟨k + 1, by omega, (hi.reach hd ht hc hx hr hcl h).adv hd ht hx hce⟩
theorem HeapI.put (hd : RegD P ops m l I lit) (hi : HeapI P good l I rr hh ρ0 w0 S c ρ w) {k : Nat} {x : Inf} (hx : I[k]? = some x) (h : k < c ∨ x.c = .pure) : HeapI P good l I rr hh ρ0 w0 (fun i => S i ∨ i = x.i) c ρ w := by
  refine ⟨hi.cle, fun p y hy hp he => .inl (hi.effIn p y hy hp he), fun p y hy hp hyc hs => ?_, hi.heap, hi.ext, fun p y ai op q hy ha hp hns => hi.lay p y ai op q hy ha hp (fun h => hns (.inl h))⟩
  rcases hs with hs | hs
  · exact hi.out p y hy hp hyc hs
  · have := hd.f.pos_inj hy hx hs
    subst this
    rw [hx] at hy; cases hy
    rcases h with h | h
    · omega
    · exact hyc h
theorem HeapI.made (hd : RegD P ops m l I lit) (ht : TraceR P good l rr vv hh) (hi : HeapI P good l I rr hh ρ0 w0 S c ρ w) {k : Nat} {x : Inf} {ai : AI} {op : LOp} {q : AO × Mk} (hx : I[k]? = some x) (hl : l[k]? = some ai) (hkc : k < c) (hns : ¬ S x.i) (ho : ai.op = .l op) (hw : wantA (rr k) ai.guard = some true)
    (hq : evalL op (evs (rr k) ai.args) = some q) {L : Loc} {B : Obj} {w' : World} (hb : L.blk = w.heap.size) (hw' : w'.heap = w.heap.push B) (htp : w'.tape = w.tape) (hos : w'.os = w.os) (hout : w'.output = w.output) (hor : ∀ id, ρ id = none → OR P good (ρ.put id L) L w' q.1) :
    ρ (hh k).next = none ∧ HeapI P good l I rr hh ρ0 w0 (fun i => S i ∨ i = x.i) c (ρ.put (hh k).next L) w' := by
  obtain ⟨hid, hget⟩ := hi.lay k x ai op q hx hl hkc hns ho hw hq
  have wantNext : ∀ (p : Nat) (ap : AI) (op : LOp), l[p]? = some ap → ap.op = .l op → wantA (rr p) ap.guard = some true → (hh (p + 1)).next = (hh p).next + 1 := fun p ap op' hp hop hwp => by
    rcases step_calm (ht.step p _ hp) (by rw [hop]; simp [clOf]) with ⟨_, hno⟩ | ⟨_, _, _, _, _, _, f5⟩
    · exact (hno op' hop hwp).elim
    · rw [f5, next_add]
  have hnk := wantNext k ai op hl ho hw
  have hcle := hi.cle
  have hlt : (hh k).next < (hh c).next := by have := (hh_grow ht (p := k + 1) c (by omega) hcle).next; omega
  refine ⟨hid, hcle, fun p y hy hp he => .inl (hi.effIn p y hy hp he), fun p y hy hp hyc hs => ?_, hi.heap.new hid hlt hget hb hw' (hor _ hid), ext_mk hi.ext hid (hh_grow ht (p := 0) k (by omega) (by omega)).next hb hw' htp hos hout, fun p y ap op' q' hy ha hp hns' hop hwp hqp => ?_⟩
  · rcases hs with hs | hs
    · exact hi.out p y hy hp hyc hs
    · have := hd.f.pos_inj hy hx hs; omega
  · obtain ⟨h1, h2⟩ := hi.lay p y ap op' q' hy ha hp (fun h => hns' (.inl h)) hop hwp hqp
    refine ⟨?_, h2⟩
    have hne : p ≠ k := fun e => by subst e; rw [hx] at hy; cases hy; exact hns' (.inr rfl)
    have hnp := wantNext p ap op' ha hop hwp
    unfold Rho.put
    rw [if_neg ?_]
    · exact h1
    · rcases Nat.lt_or_gt_of_ne hne with h | h
      · have := (hh_grow ht (p := p + 1) k (by omega) (by omega)).next; omega
      · have := (hh_grow ht (p := k + 1) p (by omega) (by omega)).next; omega
theorem HeapI.effected (hd : RegD P ops m l I lit) (ht : TraceR P good l rr vv hh) {k : Nat} (hi : HeapI P good l I rr hh ρ0 w0 S k ρ w) {x : Inf} (hx : I[k]? = some x) (_hc : x.c = .eff) {ρ' : Rho} {w' : World} (hr : HR P good ρ' (hh (k + 1)) w') (he : Ext ρ (hh k) w ρ' (hh (k + 1)) w') :
    HeapI P good l I rr hh ρ0 w0 (fun i => S i ∨ i = x.i) (k + 1) ρ' w' := by
  have hkl : k < l.length := by rw [← hd.len]; exact (List.getElem?_eq_some_iff.1 hx).1
  refine ⟨hkl, fun p y hy hp hyc => ?_, fun p y hy hp hyc hs => ?_, hr, hi.ext.trans he, fun p y ap op q hy ha hp hns hop hwp hqp => ?_⟩
  · by_cases hpk : p = k
    · subst hpk; rw [hx] at hy; cases hy; exact .inr rfl
    · exact .inl (hi.effIn p y hy (by omega) hyc)
  · rcases hs with hs | hs
    · exact hi.out p y hy (by omega) hyc hs
    · have := hd.f.pos_inj hy hx hs; omega
  · have hpk : p ≠ k := fun e => by
      subst e
      rw [hx] at hy; cases hy; exact hns (.inr rfl)
    have hpk' : p < k := by omega
    obtain ⟨h1, h2⟩ := hi.lay p y ap op q hy ha hpk' (fun h => hns (.inl h)) hop hwp hqp
    have hnp : (hh (p + 1)).next = (hh p).next + 1 := by
      rcases step_calm (ht.step p _ ha) (by rw [hop]; simp [clOf]) with ⟨_, hno⟩ | ⟨_, _, _, _, _, _, f5⟩
      · exact (hno op hop hwp).elim
      · rw [f5, next_add]
    have hlt : (hh p).next < (hh k).next := by have := (hh_grow ht (p := p + 1) k (by omega) (by omega)).next; omega
    refine ⟨?_, ?_⟩
    · cases hρ : ρ' (hh p).next with
      | none => rfl
      | some L => have := (he.new _ L h1 hρ).1; omega
    · rcases he.keep _ h1 hlt with h | h
      · rw [h]; exact h2
      · exact .inr h

/-- Operations without memory, more of them or fewer. -/
theorem HeapI.alike (hd : RegD P ops m l I lit) {S' : Nat → Prop} (hi : HeapI P good l I rr hh ρ0 w0 S c ρ w) (h : ∀ (k : Nat) (x : Inf), I[k]? = some x → x.c ≠ .pure → (S x.i ↔ S' x.i)) : HeapI P good l I rr hh ρ0 w0 S' c ρ w := by
  refine ⟨hi.cle, fun k x hx hk he => (h k x hx (by rw [he]; simp)).1 (hi.effIn k x hx hk he), fun k x hx hk hc hs => hi.out k x hx hk hc ((h k x hx hc).2 hs), hi.heap, hi.ext, fun k x ai op q hx ha hk hns ho hw hq => ?_⟩
  by_cases hp : x.c = .pure
  · have := (hd.dst k ai x ha hx).2
    rw [hp, ho] at this; cases this
  · exact hi.lay k x ai op q hx ha hk (fun hs => hns ((h k x hx hp).1 hs)) ho hw hq
/-- A block that no number stands for is turned, or laid. -/
theorem HeapI.aside (hi : HeapI P good l I rr hh ρ0 w0 S c ρ w) {b : Nat} {w' : World} (hno : ∀ o L, ρ o = some L → L.blk ≠ b) (hb : w0.heap.size ≤ b) (hsame : ∀ k, k < w.heap.size → k ≠ b → w'.heap[k]? = w.heap[k]?) (hsz : w.heap.size ≤ w'.heap.size)
    (htp : w'.tape = w.tape) (hos : w'.os = w.os) (hout : w'.output = w.output) : HeapI P good l I rr hh ρ0 w0 S c ρ w' := by
  refine ⟨hi.cle, hi.effIn, hi.out, ⟨fun o L h => ?_, fun o L ob h g => ?_, hi.heap.inj, hi.heap.fresh⟩, ⟨hi.ext.le, hi.ext.new, hi.ext.keep, hi.ext.next, fun k hk hnk => ?_, Nat.le_trans hi.ext.size hsz, htp.trans hi.ext.tape, hos.trans hi.ext.os, hout.trans hi.ext.output⟩, hi.lay⟩
  · have := hi.heap.dom o L h
    exact ⟨this.1, Nat.lt_of_lt_of_le this.2 hsz⟩
  · exact (hi.heap.obj o L ob h g).mono (Le.refl ρ) (hsame _ (hi.heap.dom o L h).2 (hno o L h))
  · rw [hsame k (Nat.lt_of_lt_of_le hk hi.ext.size) (by omega)]
    exact hi.ext.frame k hk hnk
/-- An object laid ahead, for a block that is there. -/
theorem HR.bind {h : Hp} (hr : HR P good ρ h w) {id : Nat} {ob : AO} {L : Loc} (hid : ρ id = none) (hlt : id < h.next) (hg : h.get id = some ob ∨ h.get id = none) (hb : L.blk < w.heap.size) (hno : ∀ o M, ρ o = some M → M.blk ≠ L.blk) (ho : OR P good (ρ.put id L) L w ob) :
    HR P good (ρ.put id L) h w := by
  have hle := Rho.put_le (L := L) hid
  refine ⟨?_, ?_, ?_, hr.fresh⟩
  · intro o M e
    unfold Rho.put at e
    by_cases hk : o = id
    · rw [if_pos hk] at e; cases e; subst hk; exact ⟨hlt, hb⟩
    · rw [if_neg hk] at e; exact hr.dom o M e
  · intro o M ob' e g
    unfold Rho.put at e
    by_cases hk : o = id
    · rw [if_pos hk] at e; cases e; subst hk
      rcases hg with hg | hg
      · rw [hg] at g; cases g; exact ho
      · rw [hg] at g; cases g
    · rw [if_neg hk] at e
      exact (hr.obj o M ob' e g).mono hle rfl
  · intro o M o' M' e e' g g' hne
    unfold Rho.put at e e'
    by_cases hk : o = id
    · rw [if_pos hk] at e; cases e
      have hk' : o' ≠ id := fun x => hne (hk.trans x.symm)
      rw [if_neg hk'] at e'
      exact (hno o' M' e').symm
    · rw [if_neg hk] at e
      by_cases hk' : o' = id
      · rw [if_pos hk'] at e'; cases e'
        exact hno o M e
      · rw [if_neg hk'] at e'; exact hr.inj o M o' M' e e' g g' hne
theorem HeapI.bind (hd : RegD P ops m l I lit) (ht : TraceR P good l rr vv hh) (hi : HeapI P good l I rr hh ρ0 w0 S c ρ w) {k : Nat} {x : Inf} {ai : AI} {op : LOp} {q : AO × Mk} (hx : I[k]? = some x) (hl : l[k]? = some ai) (hkc : k < c) (hns : ¬ S x.i) (ho : ai.op = .l op) (hw : wantA (rr k) ai.guard = some true)
    (hq : evalL op (evs (rr k) ai.args) = some q) {L : Loc} (hb : L.blk < w.heap.size) (hb0 : w0.heap.size ≤ L.blk) (hno : ∀ o M, ρ o = some M → M.blk ≠ L.blk) (hor : ∀ id, ρ id = none → OR P good (ρ.put id L) L w q.1) :
    ρ (hh k).next = none ∧ HeapI P good l I rr hh ρ0 w0 (fun i => S i ∨ i = x.i) c (ρ.put (hh k).next L) w := by
  obtain ⟨hid, hget⟩ := hi.lay k x ai op q hx hl hkc hns ho hw hq
  have wantNext : ∀ (p : Nat) (ap : AI) (op : LOp), l[p]? = some ap → ap.op = .l op → wantA (rr p) ap.guard = some true → (hh (p + 1)).next = (hh p).next + 1 := fun p ap op' hp hop hwp => by
    rcases step_calm (ht.step p _ hp) (by rw [hop]; simp [clOf]) with ⟨_, hno⟩ | ⟨_, _, _, _, _, _, f5⟩
    · exact (hno op' hop hwp).elim
    · rw [f5, next_add]
  have hnk := wantNext k ai op hl ho hw
  have hcle := hi.cle
  have hlt : (hh k).next < (hh c).next := by have := (hh_grow ht (p := k + 1) c (by omega) hcle).next; omega
  have hge : (hh 0).next ≤ (hh k).next := (hh_grow ht (p := 0) k (by omega) (by omega)).next
  have hext : Ext ρ0 (hh 0) w0 (ρ.put (hh k).next L) (hh c) w := by
    refine ⟨hi.ext.le.trans (Rho.put_le hid), fun o M h1 h2 => ?_, hi.ext.keep, hi.ext.next, hi.ext.frame, hi.ext.size, hi.ext.tape, hi.ext.os, hi.ext.output⟩
    unfold Rho.put at h2
    by_cases hk : o = (hh k).next
    · rw [if_pos hk] at h2; cases h2; subst hk; exact ⟨hge, .inl hb0⟩
    · rw [if_neg hk] at h2; exact hi.ext.new o M h1 h2
  refine ⟨hid, hcle, fun p y hy hp he => .inl (hi.effIn p y hy hp he), fun p y hy hp hyc hs => ?_, hi.heap.bind hid hlt hget hb hno (hor _ hid), hext, fun p y ap op' q' hy ha hp hns' hop hwp hqp => ?_⟩
  · rcases hs with hs | hs
    · exact hi.out p y hy hp hyc hs
    · have := hd.f.pos_inj hy hx hs; omega
  · obtain ⟨h1, h2⟩ := hi.lay p y ap op' q' hy ha hp (fun h => hns' (.inl h)) hop hwp hqp
    refine ⟨?_, h2⟩
    have hne : p ≠ k := fun e => by subst e; rw [hx] at hy; cases hy; exact hns' (.inr rfl)
    have hnp := wantNext p ap op' ha hop hwp
    unfold Rho.put
    rw [if_neg ?_]
    · exact h1
    · rcases Nat.lt_or_gt_of_ne hne with h | h
      · have := (hh_grow ht (p := p + 1) k (by omega) (by omega)).next; omega
      · have := (hh_grow ht (p := k + 1) p (by omega) (by omega)).next; omega

/-! ### Reads that come late -/
theorem evs_congr {r r' : Regs} : ∀ {xs : List Operand} {os : List Opd}, opdsC xs = some os → (∀ t ∈ tmpsOf xs, t < 1024 → Regs.get r (slot t) = Regs.get r' (slot t)) → evs r os = evs r' os
  | [], os, hc, _ => by
    have : os = [] := by simpa [opdsC, allSome] using hc.symm
    subst this; rfl
  | x :: xs, os, hc, h => by
    have hc : ((opdC x).bind fun b => (opdsC xs).map (b :: ·)) = some os := hc
    obtain ⟨o, ho, hc⟩ := opt_bind_some hc
    obtain ⟨os', hos, hc⟩ := opt_map_some hc
    subst hc
    have h2 : evs r os' = evs r' os' := evs_congr hos fun t ht => h t (by cases x <;> simp [tmpsOf, ht])
    have h1 : o.ev r = o.ev r' := by
      cases x with
      | tmp t =>
        simp only [opdC] at ho
        obtain ⟨hlt, ho⟩ := ite_some ho
        cases ho
        exact h t (by simp [tmpsOf]) (by simpa [Nat.blt_eq] using hlt)
      | const v => simp only [opdC] at ho; obtain ⟨a, _, ho⟩ := opt_map_some ho; subst ho; rfl
      | func f => simp only [opdC, Option.some.injEq] at ho; subst ho; rfl
      | global g => simp [opdC] at ho
    show o.ev r :: evs r os' = o.ev r' :: evs r' os'
    rw [h1, h2]
theorem rereads_get {r : Regs} {h : Hp} : ∀ {cs : List RI}, rereads r h cs = true → ∀ x ∈ cs, wantA r x.guard = some true → evalR x.op h (evs r x.args) = some (Regs.get r x.dst)
  | c :: cs, hr, x, hx, hw => by
    simp only [rereads] at hr
    rcases List.mem_cons.1 hx with e | e
    · subst e
      rw [hw] at hr
      simp only at hr
      split at hr
      · rename_i v hv
        split at hr
        · rename_i hs
          rw [hv, sameA_eq hs]
        · cases hr
      · cases hr
    · split at hr
      · split at hr
        · split at hr
          · exact rereads_get hr x e hw
          · cases hr
        · cases hr
      · exact rereads_get hr x e hw
      · cases hr
  | [], _, x, hx, _ => by cases hx

theorem guard_congr {r r' : Regs} {g : Option (Nat × Bool)} {s : Option (Slot × Bool)} (hg : guardC ops g = some s) (h : ∀ t ∈ guardT ops g, t < 1024 → Regs.get r (slot t) = Regs.get r' (slot t)) : wantA r s = wantA r' s := by
  cases g with
  | none => simp only [guardC, Option.some.injEq] at hg; subst hg; rfl
  | some q =>
    obtain ⟨j, want⟩ := q
    simp only [guardC] at hg
    obtain ⟨o, ho, hg⟩ := opt_bind_some hg
    obtain ⟨d, hd, hg⟩ := opt_bind_some hg
    obtain ⟨hlt, hg⟩ := ite_some hg
    cases hg
    have := h d (by simp only [guardT, ho, Option.bind_some, hd]; simp) (by simpa [Nat.blt_eq] using hlt)
    simp only [wantA, this]

theorem stable (hd : RegD P ops m l I lit) (ht : TraceR P good l rr vv hh) (hfr : Fresh (hh 0)) {k : Nat} {x : Inf} {ai : AI} {op : ROp} (hx : I[k]? = some x) (hl : l[k]? = some ai) (ho : ai.op = .r op) (hw : wantA (rr k) ai.guard = some true) :
    ∀ c, k < c → c ≤ l.length → (∀ (p : Nat) (y : Inf), k < p → p < c → I[p]? = some y → y.c = .eff → bitOf y.b x.i = false) → evalR op (hh c) (evs (rr k) ai.args) = some (vv k) := by
  obtain ⟨h6, h9⟩ := hd.dst k _ x hl hx
  have hcl : x.c = .read := by rw [h9, ho]; rfl
  have hin : inG lit x.i = false := by
    cases hb : inG lit x.i with
    | false => rfl
    | true =>
      cases lit with
      | none => simp [inG] at hb
      | some L =>
        obtain ⟨_, g1, g2⟩ := hd.grp k _ x L hl hx rfl hb
        by_cases he : x.i = L.last
        · rw [(g1 he).1] at ho; cases ho
        · rw [(g2 he).1] at ho; cases ho
  obtain ⟨o, xs, h2, h3, h4, h5, h7, h8⟩ := hd.at_ k _ x hl hx hin
  intro c
  induction c with
  | zero => intro h; omega
  | succ c ih =>
    intro hkc hcl' hno
    by_cases hck : c = k
    · subst hck
      have hs := ht.step c _ hl
      unfold StepR at hs
      rw [hw] at hs
      simp only at hs
      unfold OpR at hs
      rw [ho] at hs
      simp only at hs
      rw [hs.2]; exact hs.1
    · have hcI : c < I.length := by rw [hd.len]; omega
      have hy := List.getElem?_eq_getElem hcI
      have hlc := List.getElem?_eq_getElem (show c < l.length by omega)
      have hold := ih (by omega) (by omega) fun p y a b => hno p y a (by omega)
      obtain ⟨_, g9⟩ := hd.dst c _ _ hlc hy
      have hs := ht.step c _ hlc
      by_cases hye : (I[c]).c = .eff
      · have hb := hno c _ (by omega) (by omega) hy hye
        unfold StepR at hs
        split at hs
        · rename_i hwc
          -- the reads were made again
          have hre : rereads (setDst (rr c) l[c].dst (vv c)) (hh (c + 1)) l[c].chk = true := by
            unfold OpR at hs
            rw [g9] at hye
            split at hs
            · rename_i op' ho'; rw [ho'] at hye; cases hye
            · rename_i op' ho'; rw [ho'] at hye; cases hye
            · rename_i op' ho'; rw [ho'] at hye; cases hye
            · exact hs.2
            · obtain ⟨_, _, _, _, h⟩ := hs; exact h
          rw [← ht.regs c _ hlc] at hre
          obtain ⟨t, hxt⟩ := hd.f.read_dst hx hcl
          have hdst : ai.dst = some (slot t) ∧ t < 1024 := by
            rcases dstC_some h6 with ⟨e1, e2⟩ | ⟨d, e1, e2, e3⟩
            · rw [e1] at hxt; cases hxt
            · rw [e1] at hxt; cases hxt; exact ⟨e3, e2⟩
          have hri : riOf ai = some { op := op, args := ai.args, dst := slot t, guard := ai.guard } := by
            unfold riOf; rw [ho, hdst.1]
          have hmem := hd.chk c _ _ hlc hy hye k ai x _ (by omega) hl hx hb hri
          have hstrict := hd.f.strict (show k < c by omega) hx hy hcl hye hb
          -- its registers are as they were
          have hsame : ∀ t ∈ x.uses, t < 1024 → Regs.get (rr (c + 1)) (slot t) = Regs.get (rr k) (slot t) := fun u hu hlt => by
            refine reg_from hd ht hlt (p := k) (c + 1) (by omega) (by omega) fun q z hq1 hq2 hz hzd => ?_
            have hbit := hstrict u hu q z hz hzd
            rcases Nat.lt_or_ge k q with h | h
            · rw [hd.f.no_later h hx hz] at hbit; cases hbit
            · have : q = k := by omega
              subst this
              rw [hx] at hz; cases hz
              have := hd.f.bit_lt _ _ _ rfl hx _ hbit; omega
          have hw' : wantA (rr (c + 1)) ai.guard = some true := by
            rw [guard_congr h5 (r' := rr k) fun u hu hlt => hsame u (by rw [h8, app_eq]; simp [hu]) hlt]; exact hw
          have := rereads_get hre _ hmem hw'
          simp only at this
          rw [evs_congr h4 (r' := rr k) fun u hu hlt => hsame u (by rw [h8, app_eq]; simp [hu]) hlt] at this
          rw [this, reg_written hd ht hdst.2 hx hxt (by omega) (by omega)]
        · rw [hs.2]; exact hold
        · exact hs.elim
      · rw [g9] at hye
        rcases step_calm hs hye with ⟨he, _⟩ | ⟨_, q, _, _, _, _, he⟩
        · rw [he]; exact hold
        · rw [he]
          have hfc := (hh_grow ht (p := 0) c (by omega) (by omega)).fresh hfr
          refine evalR_ext (fun ob z hz => ?_) hold
          rw [get_add, if_neg fun e => ?_]
          · exact hz
          · rw [hfc ob (by omega)] at hz; cases hz
end
end Go.Ai
