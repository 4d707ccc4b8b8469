/- An interpreter on abstract values: a region in whatever order (each operation's step, with maps' literals). -/
import Derived.Test.YtdiflgnboedogaaGreatA26c
namespace Go.Ai
section
variable {P : Program} {good : Nat → Code → Prop} {ops : List Oper} {m : Nat} {l : List AI} {I : List Inf} {lit : Option Lit} {rr : Nat → Regs} {vv : Nat → AV} {hh : Nat → Hp}
variable {ρ0 : Rho} {w0 : World} {S : Nat → Prop} {c : Nat} {ρ : Rho} {w : World}

structure Inv (P : Program) (good : Nat → Code → Prop) (l : List AI) (I : List Inf) (lit : Option Lit) (rr : Nat → Regs) (vv : Nat → AV) (hh : Nat → Hp) (a0 : Act) (m : Nat) (ρ0 : Rho) (w0 : World) (S : Nat → Prop) (c : Nat) (ρ : Rho) (a : Act) (w : World) : Prop where
  regs : RegI I rr vv a0 m (exf lit S) (seff lit S) ρ a
  heap : HeapI P good l I rr hh ρ0 w0 (seff lit S) c ρ w
  lit_ : ∀ L, lit = some L → S L.mm → (¬ ∀ q ∈ L.ins, S q.1) → LitI L S ρ a w0 w

/-- The last of a literal's, as it is done here. -/
theorem last_inf {L : Lit} {kk : KK} (hd : RegD P ops m l I (some L)) (hl : LitF P ops I L kk) : ∃ (k : Nat) (x : Inf) (ai : AI), I[k]? = some x ∧ l[k]? = some ai ∧ x.i = L.last ∧ x.c = .mk ∧ ai.guard = none ∧ ai.op = .l (.mapLit (litKeys L)) ∧ opdsC (litVals L) = some ai.args ∧ x.dst = some L.d ∧ x.uses = tmpsOf (litVals L) := by
  obtain ⟨ql, hql, hlast⟩ := hl.last
  obtain ⟨o, t, kt, el, k', h1, _⟩ := (hl.ins ql hql).op
  obtain ⟨o', ho', _⟩ := vops_some (lit := some L) h1
  obtain ⟨k, x, hx, hxi⟩ := hd.f.all _ o' ho'
  have hkl : k < l.length := by rw [← hd.len]; exact (List.getElem?_eq_some_iff.1 hx).1
  have hli := List.getElem?_eq_getElem hkl
  have hin : inG (some L) x.i = true := inG_iff.2 (.inr ⟨ql, hql, hxi.symm⟩)
  obtain ⟨h2, h3, _⟩ := hd.grp k _ x L hli hx rfl hin
  obtain ⟨h4, h5, h6, h7⟩ := h3 (by rw [hxi, hlast])
  refine ⟨k, x, _, hx, hli, by rw [hxi, hlast], ?_, h2, h4, h5, h6, h7⟩
  rw [(hd.dst k _ x hli hx).2, h4]; rfl
/-- Others of a literal's. -/
theorem other_inf {L : Lit} (hd : RegD P ops m l I (some L)) {k : Nat} {x : Inf} (hx : I[k]? = some x) (hin : inG (some L) x.i = true) (hne : x.i ≠ L.last) : x.dst = none ∧ x.c = .pure := by
  have hkl : k < l.length := by rw [← hd.len]; exact (List.getElem?_eq_some_iff.1 hx).1
  have hli := List.getElem?_eq_getElem hkl
  obtain ⟨_, _, h4⟩ := hd.grp k _ x L hli hx rfl hin
  obtain ⟨h5, h6, _⟩ := h4 hne
  refine ⟨h6, ?_⟩
  rw [(hd.dst k _ x hli hx).2, h5]; rfl
theorem d_last {L : Lit} {kk : KK} (hd : RegD P ops m l I (some L)) (hl : LitF P ops I L kk) {k : Nat} {x : Inf} (hx : I[k]? = some x) (h : x.dst = some L.d) : x.i = L.last := by
  obtain ⟨k', x', ai, h1, h2, h3, _, _, _, _, h8, _⟩ := last_inf hd hl
  have := hd.f.dst_inj hx h1 h h8
  subst this
  rw [hx] at h1; cases h1; exact h3
theorem LitF.last_mm {L : Lit} {kk : KK} (hl : LitF P ops I L kk) : L.last ≠ L.mm := by
  obtain ⟨ql, hql, hlast⟩ := hl.last
  rw [← hlast]; exact (hl.ins ql hql).ne
theorem LitF.to_mm {L : Lit} {kk : KK} (hl : LitF P ops I L kk) (hc : Closed ops S) {q : LIns} (hq : q ∈ L.ins) (hs : S q.1) : S L.mm := by
  obtain ⟨o, t, kt, el, k', h1, h2, h3, h4, h5, h6, h7, ⟨e', he', hb', hon'⟩, _⟩ := (hl.ins q hq).op
  have := hc _ o h1 hs e' he' hb'
  rwa [hon'] at this
theorem LitF.same {L : Lit} {kk : KK} (hl : LitF P ops I L kk) : ∀ p ∈ L.ins, ∀ q ∈ L.ins, p.1 = q.1 → p = q := by
  have key : ∀ (l : List LIns), l.Pairwise (fun p q => p.1 ≠ q.1) → ∀ p ∈ l, ∀ q ∈ l, p.1 = q.1 → p = q := by
    intro l
    induction l with
    | nil => intro _ p hp; cases hp
    | cons a l ih =>
      intro hpw p hp q hq h
      have hpw := List.pairwise_cons.1 hpw
      rcases List.mem_cons.1 hp with e1 | hp1 <;> rcases List.mem_cons.1 hq with e2 | hq1
      · rw [e1, e2]
      · exact (hpw.1 q hq1 (by rw [← e1]; exact h)).elim
      · exact (hpw.1 p hp1 (by rw [← e2]; exact h.symm)).elim
      · exact ih hpw.2 p hp1 q hq1 h
  exact key L.ins (hl.apart.imp fun h => h.1)
theorem LitF.keys {L : Lit} {kk : KK} (hl : LitF P ops I L kk) : ∀ p ∈ L.ins, ∀ q ∈ L.ins, p.1 ≠ q.1 → eqKey kk p.2.1 q.2.1 = some false := by
  have key : ∀ (l : List LIns), l.Pairwise (fun p q => p.1 ≠ q.1 ∧ eqKey kk q.2.1 p.2.1 = some false ∧ eqKey kk p.2.1 q.2.1 = some false) → ∀ p ∈ l, ∀ q ∈ l, p.1 ≠ q.1 → eqKey kk p.2.1 q.2.1 = some false := by
    intro l
    induction l with
    | nil => intro _ p hp; cases hp
    | cons a l ih =>
      intro hpw p hp q hq h
      have hpw := List.pairwise_cons.1 hpw
      rcases List.mem_cons.1 hp with e1 | hp1 <;> rcases List.mem_cons.1 hq with e2 | hq1
      · exact (h (by rw [e1, e2])).elim
      · rw [e1]; exact (hpw.1 q hq1).2.2
      · rw [e2]; exact (hpw.1 p hp1).2.1
      · exact ih hpw.2 p hp1 q hq1 h
  exact key L.ins hl.apart

/-- What waits is kept. -/
theorem LitI.keep {L : Lit} {kk : KK} (hd : RegD P ops m l I (some L)) (hl : LitF P ops I L kk) {a a' : Act} {w' : World} {ρ' : Rho} (hi : LitI L S ρ a w0 w) (hc : Closed ops S) {i : Nat} (hin : inG (some L) i = false) (hns : ¬ S i) (hk : Keep I i ρ a w ρ' a' w') : LitI L (fun j => S j ∨ j = i) ρ' a' w0 w' := by
  obtain ⟨b, ents, clock, js, h1, h2, h3, h4, h5, h6, h7, h8⟩ := hi.ex
  have hbl : b < w.heap.size := (Array.getElem?_eq_some_iff.1 h2).1
  obtain ⟨k1, k2⟩ := hk.blk b hbl h4
  refine ⟨b, ents, clock, js, ?_, by rw [k1]; exact h2, h3, k2, h5, fun q => ?_, ?_, h8.mono hk.le⟩
  · rw [hk.tmps L.d fun k x hx hxi hxd => ?_]
    · exact h1
    · have := d_last hd hl hx hxd
      obtain ⟨ql, hql, hlast⟩ := hl.last
      exact (notG hin).2 ql hql (by rw [hlast, ← this, hxi])
  · rw [h6]
    constructor
    · rintro ⟨e1, e2⟩; exact ⟨e1, .inl e2⟩
    · rintro ⟨e1, e2 | e2⟩
      · exact ⟨e1, e2⟩
      · exact ((notG hin).2 q e1 e2).elim
  · rw [h7]
    apply List.map_congr_left
    intro q hq
    obtain ⟨q1, q2⟩ := (h6 q).1 hq
    obtain ⟨o, t, kt, el, k', g1, g2, g3, g4, g5, g6, g7, g8, g9⟩ := (hl.ins q q1).op
    cases hv : q.2.2 with
    | tmp t' =>
      show a.tmps.getD t' undef = a'.tmps.getD t' undef
      rw [hk.tmps t' fun k x hx hxi hxd => ?_]
      obtain ⟨e, he, hb, hon⟩ := (g9 t' hv).2 k x hx hxd
      have := hc _ o g1 q2 e he hb
      rw [hon, hxi] at this
      exact hns this
    | const v => rfl
    | func f => rfl
    | global g => rfl

/-- The map is made. -/
theorem mm_step {r : Option Nat} {Q : Exit → Act → World → Prop} {K : Act → World → Prop} {a0 a : Act} {L : Lit} {kk : KK} (hd : RegD P ops m l I (some L)) (hl : LitF P ops I L kk) (hi : Inv P good l I (some L) rr vv hh a0 m ρ0 w0 S c ρ a w) (hc : Closed ops S) (hn : ¬ S L.mm)
    (hK : ∀ a' w', Inv P good l I (some L) rr vv hh a0 m ρ0 w0 (fun j => S j ∨ j = L.mm) c ρ a' w' → K a' w') : wpOpIn (Fr r) 0 P ops.toArray Q L.mm K a w := by
  obtain ⟨o, t, rs, kt, el, h1, h2, h3, h4, h5, h6, h7⟩ := hl.mm
  have hop : opC P o = some (.l .mkMap, optL rs) := by unfold opC; rw [h2]; simp [h6]
  have hargs : ∃ as, VRs ρ as ((optL rs).map a.eval) ∧ evalL .mkMap as = some (.map [], .m) := by
    cases rs with
    | none => exact ⟨[], by simp [optL, VRs], rfl⟩
    | some x =>
      cases x with
      | const v =>
        cases v with
        | int k n => exact ⟨[.i k n], by simp only [optL, List.map_cons, List.map_nil, VRs]; exact ⟨_, [], rfl, by simp [VR, Act.eval], rfl⟩, rfl⟩
        | _ => simp [plainR] at h3
      | _ => simp [plainR] at h3
  obtain ⟨as, has, hev⟩ := hargs
  obtain ⟨B, v', L', hrun, hb, hnew⟩ := alloc_sound (good := good) (w := w) hop has hev
  have hid := hi.heap.heap.none_next
  obtain ⟨hv, hor⟩ := hnew _ hid
  simp only [Mk.val, VR] at hv
  obtain ⟨L2, hL2, hv⟩ := hv
  rw [Rho.put_same] at hL2; cases hL2
  obtain ⟨ents, clock, es', g1, g2, g3, _⟩ := hor
  have hes : es' = [] := List.Perm.eq_nil g3
  subst hes
  simp only [MRs] at g2
  have hns : ∀ q ∈ L.ins, ¬ S q.1 := fun q hq hs => hn (hl.to_mm hc hq hs)
  obtain ⟨ql, hql, hlast⟩ := hl.last
  have hdlt : L.d < a.tmps.size := by
    obtain ⟨k, x, ai, e1, e2, e3, e4, e5, e6, e7, e8, e9⟩ := last_inf hd hl
    rw [hi.regs.size]; exact Nat.lt_of_lt_of_le (hd.f.dst_lt e1 e8) hi.regs.wide
  have hput : ∀ t, (a.put (some L.d) v').tmps.getD t undef = if some L.d = some t then v' else a.tmps.getD t undef := fun t => getD_put t (fun q hq => by cases hq; exact hdlt)
  unfold wpOpIn
  rw [List.getElem?_toArray, h1]
  simp only
  rw [if_pos (by simp [Region.wanted, h4])]
  unfold Oper.wpIn
  refine ⟨fun _ _ => trivial, ?_⟩
  rw [Oper.semAt_eq _ _ _ (opC_defer hop), hrun]
  simp only [Oper.uponIn]
  rw [h5]
  have hex' : ∀ t, exf (some L) (fun j => S j ∨ j = L.mm) t ↔ t = L.d := fun t => by
    constructor
    · rintro ⟨L3, e1, e2, _⟩; cases e1; exact e2
    · intro e
      refine ⟨L, rfl, e, .inr rfl, fun h => ?_⟩
      rcases h ql hql with h | h
      · exact hns ql hql h
      · exact (hl.ins ql hql).ne h
  have hseff : ∀ j, j ≠ L.mm → (seff (some L) S j ↔ seff (some L) (fun j => S j ∨ j = L.mm) j) := fun j hj => by
    constructor
    · rintro ⟨e1, e2⟩; exact ⟨.inl e1, fun L3 e3 e4 q hq => .inl (e2 L3 e3 e4 q hq)⟩
    · rintro ⟨e1, e2⟩
      rcases e1 with e1 | e1
      · refine ⟨e1, fun L3 e3 e4 q hq => ?_⟩
        cases e3
        rcases e2 L rfl e4 q hq with h | h
        · exact h
        · exact ((hl.ins q hq).ne h).elim
      · exact (hj e1).elim
  have hmmin : inG (some L) L.mm = true := inG_iff.2 (.inl rfl)
  refine hK _ _ ⟨?_, ?_, fun L3 e3 _ _ => ?_⟩
  · refine RegI.alike (hi.regs.letOut (ex' := exf (some L) (fun j => S j ∨ j = L.mm)) (a' := a.put (some L.d) v') (fun t ht => ?_) (by simp [Act.put]) (by simp [Act.put]) (fun t ht => ?_) fun k x hx hs t hd' ht => ?_) fun k x t hx hxd => ?_
    · obtain ⟨L3, e1, e2, e3, _⟩ := ht
      cases e1; exact (hn e3).elim
    · rw [hput, if_neg fun e => ht ((hex' t).2 (by cases e; rfl))]
    · rw [hex'] at ht; subst ht
      have := d_last hd hl hx hd'
      rw [this] at hs
      exact hns ql hql (by rw [hlast]; exact hs.1)
    · refine hseff _ fun e => ?_
      have := (other_inf hd hx (by rw [e]; exact hmmin) (by rw [e]; exact hl.last_mm.symm)).1
      rw [this] at hxd; cases hxd
  · refine HeapI.alike hd (hi.heap.aside (b := L'.blk) (fun q M hq => ?_) ?_ (fun k hk hne => ?_) (by simp) rfl rfl rfl) fun k x hx hxc => ?_
    · have := (hi.heap.heap.dom q M hq).2
      omega
    · have := hi.heap.ext.size; omega
    · show (w.heap.push B)[k]? = w.heap[k]?
      rw [Array.getElem?_push, if_neg (by omega)]
    · refine hseff _ fun e => ?_
      exact hxc (other_inf hd hx (by rw [e]; exact hmmin) (by rw [e]; exact hl.last_mm.symm)).2
  · cases e3
    refine ⟨L'.blk, ents, clock, [], ?_, g1, ?_, fun q M hq => ?_, .nil, fun q => ?_, ?_, ?_⟩
    · rw [hput, if_pos rfl, hv]
    · have := hi.heap.ext.size; omega
    · have := (hi.heap.heap.dom q M hq).2
      omega
    · constructor
      · intro h; cases h
      · rintro ⟨e1, e2 | e2⟩
        · exact (hns q e1 e2).elim
        · exact ((hl.ins q e1).ne e2).elim
    · rw [g2]; rfl
    · simp only [List.map_nil, MRs]; exact g2
end
end Go.Ai
