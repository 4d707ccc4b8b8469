/- An interpreter on abstract values: a region in whatever order (what is put into a map's literal). -/
import Derived.Test.YtdiflgnboedogaaGreatA26d
namespace Go.Ai
noncomputable def aval (r : Regs) (x : Operand) : AV := match opdC x with | some o => o.ev r | none => .u
theorem evs_aval {r : Regs} : ∀ {l : List LIns} {os : List Opd}, opdsC (mapl (fun q : LIns => q.2.2) l) = some os → evs r os = l.map fun q => aval r q.2.2
  | [], os, h => by
    have : os = [] := by simpa [opdsC, allSome, mapl] using h.symm
    subst this; rfl
  | q :: l, os, h => by
    have h : ((opdC q.2.2).bind fun b => (opdsC (mapl (fun q : LIns => q.2.2) l)).map (b :: ·)) = some os := h
    obtain ⟨o, ho, h⟩ := opt_bind_some h
    obtain ⟨os', hos, h⟩ := opt_map_some h
    subst h
    show o.ev r :: evs r os' = _
    rw [evs_aval hos, List.map_cons]
    congr 1
    unfold aval; rw [ho]
theorem zipA_map {f g : LIns → AV} : ∀ (l : List LIns), zipA (l.map f) (l.map g) = some (l.map fun q => (f q, g q))
  | [] => rfl
  | q :: l => by simp [zipA, zipA_map l]
theorem MRs_vals {ρ : Rho} {f : LIns → AV} {e : LIns → Value} : ∀ {js : List LIns} {ents : List MapEntry}, ents.map (·.val) = js.map e → MRs ρ (js.map fun q : LIns => (q.2.1, AV.u)) ents → (∀ q ∈ js, VR ρ (f q) (e q)) → MRs ρ (js.map fun q : LIns => (q.2.1, f q)) ents
  | [], ents, _, hm, _ => by simpa using hm
  | q :: js, ents, hv, hm, h => by
    simp only [List.map_cons, MRs] at hm ⊢
    obtain ⟨en, r, rfl, h1, h2, h3⟩ := hm
    simp only [List.map_cons, List.cons.injEq] at hv
    refine ⟨en, r, rfl, h1, by rw [hv.1]; exact h q (by simp), MRs_vals hv.2 h3 fun q hq => h q (by simp [hq])⟩
section
variable {P : Program} {good : Nat → Code → Prop} {ops : List Oper} {m : Nat} {l : List AI} {I : List Inf} {lit : Option Lit} {rr : Nat → Regs} {vv : Nat → AV} {hh : Nat → Hp}
variable {ρ0 : Rho} {w0 : World} {S : Nat → Prop} {c : Nat} {ρ : Rho} {w : World}

/-- All are there: the map is laid. -/
theorem lit_fire {a0 a : Act} {L : Lit} {kk : KK} {i : Nat} (hd : RegD P ops m l I (some L)) (ht : TraceR P good l rr vv hh) (hl : LitF P ops I L kk) (hi : Inv P good l I (some L) rr vv hh a0 m ρ0 w0 S c ρ a w) (hc : Closed ops S) (hr : ReadyAt ops S i) (hn : ¬ S i)
    {q0 : LIns} (hq0 : q0 ∈ L.ins) (hi0 : q0.1 = i) (hall : ∀ q ∈ L.ins, S q.1 ∨ q.1 = i) {w1 : World} (hp1 : HeapI P good l I rr hh ρ0 w0 (seff (some L) S) c ρ w1) (hlit : LitI L (fun j => S j ∨ j = i) ρ a w0 w1) :
    ∃ c' ρ', Inv P good l I (some L) rr vv hh a0 m ρ0 w0 (fun j => S j ∨ j = i) c' ρ' a w1 := by
  have hf := hd.f
  obtain ⟨k, x, ai, e1, e2, e3, e4, e5, e6, e7, e8, e9⟩ := last_inf hd hl
  obtain ⟨ql, hql, hlast⟩ := hl.last
  have hnl : ¬ seff (some L) S L.last := fun h => hn (by rw [← hi0]; exact h.2 L rfl rfl q0 hq0)
  let T : Nat → Prop := fun j => (S j ∨ j = i) ∧ j ≠ L.last
  have hT : ∀ (p : Nat) (y : Inf), I[p]? = some y → (y.dst ≠ none ∨ y.c ≠ .pure) → (seff (some L) S y.i ↔ T y.i) := fun p y hy hyd => by
    by_cases hyl : y.i = L.last
    · rw [hyl]
      exact ⟨fun h => (hnl h).elim, fun h => (h.2 rfl).elim⟩
    · constructor
      · intro h; exact ⟨.inl h.1, hyl⟩
      · rintro ⟨h, _⟩
        rcases h with h | h
        · exact ⟨h, fun L3 h3 h4 => by cases h3; exact (hyl h4).elim⟩
        · obtain ⟨g1, g2⟩ := other_inf hd hy (inG_iff.2 (.inr ⟨q0, hq0, by rw [hi0, h]⟩)) hyl
          rcases hyd with hyd | hyd
          · exact (hyd g1).elim
          · exact (hyd g2).elim
  have hcT : Closed (vops (some L) ops) T := by
    intro j o' ho' hs e he hb
    obtain ⟨o, ho, h⟩ := vops_spec ho'
    rcases h e he with hm | ⟨L3, hL, hj, _⟩
    · refine ⟨?_, fun hon => ?_⟩
      · rcases hs.1 with h | h
        · exact .inl (hc j o ho h e hm hb)
        · obtain ⟨o2, ho2, h2⟩ := hr
          rw [h] at ho; rw [ho] at ho2; cases ho2
          exact .inl (h2 e hm hb)
      · obtain ⟨e', f1, f2, f3⟩ := hl.no_to hf ho hm hb hon q0 hq0
        have : S q0.1 := by
          rcases hs.1 with h | h
          · have := hc j o ho h e' f1 f2; rwa [f3] at this
          · obtain ⟨o2, ho2, h2⟩ := hr
            rw [h] at ho; rw [ho] at ho2; cases ho2
            have := h2 e' f1 f2; rwa [f3] at this
        rw [hi0] at this; exact hn this
    · cases hL; exact (hs.2 hj).elim
  have hrT : ReadyAt (vops (some L) ops) T x.i := by
    rw [e3]
    obtain ⟨o, t, kt, el, k', h1, _⟩ := (hl.ins ql hql).op
    rw [hlast] at h1
    obtain ⟨o', ho', _⟩ := vops_some (lit := some L) h1
    refine ⟨o', ho', fun e he hb => ?_⟩
    have hlt := hf.edge _ o' ho' e he hb
    obtain ⟨o2, ho2, h⟩ := vops_spec ho'
    rw [h1] at ho2; cases ho2
    refine ⟨?_, by omega⟩
    rcases h e he with hm | ⟨L3, hL, hj, q, hq, hne, hon⟩
    · rcases hall ql hql with h | h
      · rw [hlast] at h
        exact .inl (hc _ o h1 h e hm hb)
      · obtain ⟨o2, ho2, h2⟩ := hr
        rw [← h, hlast, h1] at ho2; cases ho2
        exact .inl (h2 e hm hb)
    · cases hL
      rw [hon]; exact hall q hq
  have hnT : ¬ T x.i := fun h => h.2 e3
  have hpT : HeapI P good l I rr hh ρ0 w0 T c ρ w1 := hp1.alike hd fun p y hy hyc => hT p y hy (.inr hyc)
  have hiT : RegI I rr vv a0 m (exf (some L) S) T ρ a := hi.regs.alike fun p y t hy hyd => hT p y hy (.inl (by rw [hyd]; simp))
  obtain ⟨c', hkc, hp'⟩ := hpT.reach' hd ht hcT e1 hrT (by rw [e4]; simp) (by rw [e4]; simp)
  have hargs : VRs ρ (evs (rr k) ai.args) ((litVals L).map a.eval) := opds_sound (fun _ => rfl) (fun _ => rfl) e7 fun t hm hlt => by
    refine hiT.see hd ht hcT e1 hrT hnT (by rw [e9]; exact mem_tmpsOf hm) hlt ?_
    rintro ⟨L3, h3, h4, _⟩
    cases h3
    rw [litVals, mapl_eq, List.mem_map] at hm
    obtain ⟨q, hq, hqv⟩ := hm
    obtain ⟨o, t', kt, el, k', g1, g2, g3, g4, g5, g6, g7, g8, g9⟩ := (hl.ins q hq).op
    exact (g9 t hqv).1 h4
  have hav := evs_aval (r := rr k) e7
  have hev : evalL (.mapLit (litKeys L)) (evs (rr k) ai.args) = some (.map (L.ins.map fun q => (q.2.1, aval (rr k) q.2.2)), .m) := by
    rw [hav]
    show (zipA (litKeys L) _).map _ = _
    rw [litKeys, mapl_eq, zipA_map]
    rfl
  have hvals : ∀ q ∈ L.ins, VR ρ (aval (rr k) q.2.2) (a.eval q.2.2) := by
    rw [hav, litVals, mapl_eq, List.map_map] at hargs
    intro q hq
    obtain ⟨n, hn'⟩ := List.getElem?_of_mem hq
    obtain ⟨v, hv1, hv2⟩ := hargs.get (j := n) (a := aval (rr k) q.2.2) (by rw [List.getElem?_map, hn']; rfl)
    rw [List.getElem?_map, hn'] at hv1
    simp only [Option.map_some, Function.comp_apply, Option.some.injEq] at hv1
    subst hv1; exact hv2
  obtain ⟨b, ents, clock, js, h1, h2, h3, h4, h5, h6, h7, h8⟩ := hlit.ex
  have hjs : js.Perm L.ins := by
    refine (List.perm_ext_iff_of_nodup h5 ?_).2 fun q => ?_
    · exact hl.apart.imp fun hpq e => hpq.1 (by rw [e])
    · rw [h6]; exact ⟨fun h => h.1, fun h => ⟨h, hall q h⟩⟩
  have hbl : b < w1.heap.size := (Array.getElem?_eq_some_iff.1 h2).1
  obtain ⟨hid, hp''⟩ := hp'.bind hd ht e1 e2 hkc hnT e6 (by rw [e5]; rfl) hev (L := ⟨b, 0, 0⟩) hbl h3 h4 fun id hid => by
    refine ⟨ents, clock, js.map fun q => (q.2.1, aval (rr k) q.2.2), h2, ?_, hjs.map _, ?_⟩
    · exact (MRs_vals h7 h8 fun q hq => hvals q ((h6 q).1 hq).1).mono (Rho.put_le hid)
    · refine List.pairwise_map.2 (hl.apart.imp fun {p q} hpq => ?_)
      exact eqKey_false hpq.2.2
  have hvv : vv k = .m (hh k).next := by
    have hs := ht.step k ai e2
    unfold StepR at hs
    rw [e5] at hs
    simp only [wantA] at hs
    unfold OpR at hs
    rw [e6] at hs
    obtain ⟨q, hq, hv, _⟩ := hs
    rw [hev] at hq; cases hq
    exact hv
  have hset : (fun j => T j ∨ j = x.i) = seff (some L) (fun j => S j ∨ j = i) := by
    funext j
    apply propext
    rw [e3]
    constructor
    · rintro (h | h)
      · exact ⟨h.1, fun L3 h3 h4 => by cases h3; exact (h.2 h4).elim⟩
      · refine ⟨?_, fun L3 h3 h4 q hq => by cases h3; exact hall q hq⟩
        have := hall ql hql
        rw [hlast, ← h] at this; exact this
    · rintro ⟨g1, _⟩
      by_cases hj : j = L.last
      · exact .inr hj
      · exact .inl ⟨g1, hj⟩
  refine ⟨c', ρ.put (hh k).next ⟨b, 0, 0⟩, ?_, ?_, fun L3 h3 _ hne => ?_⟩
  · rw [← hset]
    exact hiT.letIn hf (Rho.put_le hid) e1 e8 (fun t ⟨L3, g3, g4, _⟩ => by cases g3; exact .inr g4) (by
      rw [hvv, h1]
      simp only [VR]
      exact ⟨_, Rho.put_same _ _ _, rfl⟩)
  · rw [← hset]; exact hp''
  · cases h3; exact (hne hall).elim

/-- Something is put into it. -/
theorem ins_step {r : Option Nat} {Q : Exit → Act → World → Prop} {K : Act → World → Prop} {a0 a : Act} {L : Lit} {kk : KK} {q0 : LIns} (hd : RegD P ops m l I (some L)) (ht : TraceR P good l rr vv hh) (hl : LitF P ops I L kk) (hi : Inv P good l I (some L) rr vv hh a0 m ρ0 w0 S c ρ a w) (hc : Closed ops S) (hq0 : q0 ∈ L.ins) (hr : ReadyAt ops S q0.1) (hn : ¬ S q0.1)
    (hK : ∀ w' c' ρ', Inv P good l I (some L) rr vv hh a0 m ρ0 w0 (fun j => S j ∨ j = q0.1) c' ρ' a w' → K a w') : wpOpIn (Fr r) 0 P ops.toArray Q q0.1 K a w := by
  obtain ⟨o, t, kt, el, ko, g1, g2, g3, g4, g5, g6, g7, ⟨em, g8, g8', g8''⟩, g9⟩ := (hl.ins q0 hq0).op
  have hmm : S L.mm := by
    obtain ⟨o2, ho2, h2⟩ := hr
    rw [g1] at ho2; cases ho2
    have := h2 em g8 g8'; rwa [g8''] at this
  have hpend : ¬ ∀ q ∈ L.ins, S q.1 := fun h => hn (h q0 hq0)
  obtain ⟨b, ents, clock, js, h1, h2, h3, h4, h5, h6, h7, h8⟩ := (hi.lit_ L rfl hmm hpend).ex
  have hq0js : q0 ∉ js := fun h => hn ((h6 q0).1 h).2
  have hkey : VR ρ q0.2.1 (a.eval ko) := by
    have := opd_sound (ρ := ρ) (r := rr 0) (e := a.eval) g3 (fun t ht => by subst ht; simp only [opdC] at g3; obtain ⟨_, g3⟩ := ite_some g3; cases g3) (fun _ => rfl) (fun _ => rfl)
    exact this
  have hop : opC P o = some (.e (.mapSet kk), [.tmp L.d, ko, q0.2.2]) := by unfold opC; rw [g2]; simp [g6, g7]
  have hrun := insert_runs (P := P) (ρ := ρ) (w := w) g2 g6 g7 (e := a.eval) h1 h2 hkey h8 fun p hp => by
    rw [List.mem_map] at hp
    obtain ⟨q, hq, rfl⟩ := hp
    obtain ⟨q1, q2⟩ := (h6 q).1 hq
    refine hl.keys q0 hq0 q q1 fun e => ?_
    rw [e] at hn; exact hn q2
  have hbl : b < w.heap.size := (Array.getElem?_eq_some_iff.1 h2).1
  generalize hw' : ({ w with heap := w.heap.setIfInBounds b (.map (ents.push { key := a.eval ko, val := a.eval q0.2.2, born := clock }) (clock + 1)) } : World) = w' at hrun
  have hget : w'.heap[b]? = some (.map (ents.push { key := a.eval ko, val := a.eval q0.2.2, born := clock }) (clock + 1)) := by rw [← hw']; simp [hbl]
  have hp1 : HeapI P good l I rr hh ρ0 w0 (seff (some L) S) c ρ w' := hi.heap.aside (b := b) h4 h3 (fun k _ hne => by rw [← hw']; simp [Ne.symm hne]) (by rw [← hw']; simp) (by rw [← hw']) (by rw [← hw']) (by rw [← hw'])
  have hlit : LitI L (fun j => S j ∨ j = q0.1) ρ a w0 w' := by
    refine ⟨b, _, _, js ++ [q0], h1, hget, h3, h4, ?_, fun q => ?_, ?_, ?_⟩
    · rw [List.nodup_append]
      exact ⟨h5, by simp, fun p hp q hq e => by simp at hq; rw [e, hq] at hp; exact hq0js hp⟩
    · rw [List.mem_append, h6, List.mem_singleton]
      constructor
      · rintro (⟨e1, e2⟩ | e)
        · exact ⟨e1, .inl e2⟩
        · subst e; exact ⟨hq0, .inr rfl⟩
      · rintro ⟨e1, e2 | e2⟩
        · exact .inl ⟨e1, e2⟩
        · exact .inr (hl.same q e1 q0 hq0 e2)
    · simp only [Array.toList_push, List.map_append, List.map_cons, List.map_nil, h7]
    · simp only [Array.toList_push, List.map_append, List.map_cons, List.map_nil]
      exact h8.snoc hkey (by simp [VR])
  unfold wpOpIn
  rw [List.getElem?_toArray, g1]
  simp only
  rw [if_pos (by simp [Region.wanted, g4])]
  unfold Oper.wpIn
  refine ⟨fun _ _ => trivial, ?_⟩
  rw [Oper.semAt_eq _ _ _ (opC_defer hop), hrun]
  simp only [Oper.uponIn]
  rw [g5]
  by_cases hall : ∀ q ∈ L.ins, S q.1 ∨ q.1 = q0.1
  · obtain ⟨c', ρ', hinv⟩ := lit_fire hd ht hl hi hc hr hn hq0 rfl hall hp1 hlit
    exact hK w' c' ρ' hinv
  · have hnl : ∀ S' : Nat → Prop, (∀ j, S' j → S j ∨ j = q0.1) → ¬ seff (some L) S' L.last := fun S' hS' h => hall fun q hq => hS' _ (h.2 L rfl rfl q hq)
    have hT : ∀ (p : Nat) (y : Inf), I[p]? = some y → (y.dst ≠ none ∨ y.c ≠ .pure) → (seff (some L) S y.i ↔ seff (some L) (fun j => S j ∨ j = q0.1) y.i) := fun p y hy hyd => by
      by_cases hyl : y.i = L.last
      · rw [hyl]
        exact ⟨fun h => (hnl S (fun j => .inl) h).elim, fun h => (hnl _ (fun j h => h) h).elim⟩
      · constructor
        · intro h; exact ⟨.inl h.1, fun L3 e3 e4 => by cases e3; exact (hyl e4).elim⟩
        · rintro ⟨h, _⟩
          rcases h with h | h
          · exact ⟨h, fun L3 e3 e4 => by cases e3; exact (hyl e4).elim⟩
          · obtain ⟨f1, f2⟩ := other_inf hd hy (inG_iff.2 (.inr ⟨q0, hq0, h.symm⟩)) hyl
            rcases hyd with hyd | hyd
            · exact (hyd f1).elim
            · exact (hyd f2).elim
    have hex : exf (some L) S = exf (some L) (fun j => S j ∨ j = q0.1) := by
      funext t
      apply propext
      constructor
      · rintro ⟨L3, e3, e4, _, _⟩; cases e3; exact ⟨L, rfl, e4, .inl hmm, hall⟩
      · rintro ⟨L3, e3, e4, _, _⟩; cases e3; exact ⟨L, rfl, e4, hmm, hpend⟩
    refine hK w' c ρ ⟨?_, hp1.alike hd fun p y hy hyc => hT p y hy (.inr hyc), fun L3 e3 _ _ => by cases e3; exact hlit⟩
    rw [← hex]
    exact hi.regs.alike fun p y t hy hyd => hT p y hy (.inl (by rw [hyd]; simp))

/-- One operation of a region, whichever is ready. -/
theorem inv_step {r : Option Nat} {Q : Exit → Act → World → Prop} {K : Act → World → Prop} {a0 a : Act} (hd : RegD P ops m l I lit) (ht : TraceR P good l rr vv hh) (hfr : Fresh (hh 0)) (hi : Inv P good l I lit rr vv hh a0 m ρ0 w0 S c ρ a w) (hc : Closed ops S) {i : Nat} (hr : ReadyAt ops S i) (hn : ¬ S i)
    (hK : ∀ a' w' c' ρ', Inv P good l I lit rr vv hh a0 m ρ0 w0 (fun j => S j ∨ j = i) c' ρ' a' w' → K a' w') : wpOpIn (Fr r) 0 P ops.toArray Q i K a w := by
  cases hin : inG lit i with
  | false =>
    refine op_step hd ht hfr hi.regs hi.heap (seff_closed hd hc) (seff_ready hd hr hin) (fun h => hn h.1) hin (fun k x hx hxi t htu => ?_) fun a' w' c' ρ' h1 h2 h3 => hK a' w' c' ρ' ⟨?_, ?_, fun L hL hm hne => ?_⟩
    · rintro ⟨L, hL, he, hm, hne⟩
      obtain ⟨kk, hl⟩ := litF_of P hd hL
      subst hL
      rcases hl.g k x hx with h | ⟨o, ho, h⟩
      · rw [hxi, hin] at h; cases h
      · rcases h with ⟨_, h⟩ | h
        · exact h (by rw [← he]; exact htu)
        · obtain ⟨o2, ho2, hr2⟩ := hr
          rw [hxi, ho2] at ho; cases ho
          exact hne fun q hq => by
            obtain ⟨e, f1, f2, f3⟩ := h q hq
            have := hr2 e f1 f2; rwa [f3] at this
    · rw [← seff_put hd hin, ← exf_put hin]; exact h1
    · rw [← seff_put hd hin]; exact h2
    · obtain ⟨kk, hl⟩ := litF_of P hd hL
      subst hL
      refine LitI.keep hd hl (hi.lit_ L rfl ?_ fun h => hne fun q hq => .inl (h q hq)) hc hin hn h3
      rcases hm with hm | hm
      · exact hm
      · exact ((notG hin).1 hm.symm).elim
  | true =>
    cases lit with
    | none => simp [inG] at hin
    | some L =>
      obtain ⟨kk, hl⟩ := litF_of P hd rfl
      rw [inG_iff] at hin
      rcases hin with rfl | ⟨q, hq, rfl⟩
      · exact mm_step hd hl hi hc hn fun a' w' h => hK a' w' c ρ h
      · exact ins_step hd ht hl hi hc hq hr hn fun w' c' ρ' h => hK a w' c' ρ' h
end
end Go.Ai
