/- An interpreter on abstract values: a region in whatever order (a map's literal: its operations). -/
import Derived.Test.YtdiflgnboedogaaGreatA26b
namespace Go.Ai

/-- What counts as done: the last of a literal's only where all are. -/
def seff (lit : Option Lit) (S : Nat → Prop) (i : Nat) : Prop := S i ∧ ∀ L, lit = some L → i = L.last → ∀ q ∈ L.ins, S q.1
def exf (lit : Option Lit) (S : Nat → Prop) (t : Tmp) : Prop := ∃ L, lit = some L ∧ t = L.d ∧ S L.mm ∧ ¬ ∀ q ∈ L.ins, S q.1
structure LitI (L : Lit) (S : Nat → Prop) (ρ : Rho) (a : Act) (w0 w : World) : Prop where
  ex : ∃ (b : Nat) (ents : Array MapEntry) (clock : Nat) (js : List LIns), a.tmps.getD L.d undef = .map (some b) ∧ w.heap[b]? = some (.map ents clock) ∧ w0.heap.size ≤ b ∧ (∀ o M, ρ o = some M → M.blk ≠ b) ∧ js.Nodup ∧ (∀ q : LIns, q ∈ js ↔ q ∈ L.ins ∧ S q.1) ∧
    ents.toList.map (·.val) = js.map (fun q : LIns => a.eval q.2.2) ∧ MRs ρ (js.map fun q : LIns => (q.2.1, AV.u)) ents.toList

section
variable {P : Program} {good : Nat → Code → Prop} {ops : List Oper} {m : Nat} {l : List AI} {I : List Inf} {lit : Option Lit} {rr : Nat → Regs} {vv : Nat → AV} {hh : Nat → Hp}
variable {ρ0 : Rho} {w0 : World} {S : Nat → Prop} {c : Nat} {ρ : Rho} {w : World}

theorem LitF.no_to {L : Lit} {kk : KK} (hl : LitF P ops I L kk) (hf : RegF (vops (some L) ops) m I) {i : Nat} {o : Oper} (ho : ops[i]? = some o) {e : Edge} (he : e ∈ o.after) (hb : Region.binds .any e = true) (hon : e.on = L.last) :
    ∀ q ∈ L.ins, ∃ e ∈ o.after, Region.binds .any e = true ∧ e.on = q.1 := by
  obtain ⟨o', ho', hsub⟩ := vops_some (lit := some L) ho
  have hlt := hf.edge i o' ho' e (hsub e he) hb
  obtain ⟨k, x, hx, rfl⟩ := hf.all i o' ho'
  rcases hl.g k x hx with h | ⟨o2, ho2, h⟩
  · exfalso
    rw [inG_iff] at h
    rcases h with h | ⟨q, hq, h⟩
    · obtain ⟨ql, hql, hlast⟩ := hl.last
      obtain ⟨ol, t, kt, el, k', h1, h2, h3, h4, h5, h6, h7, ⟨e', he', hb', hon'⟩, _⟩ := (hl.ins ql hql).op
      obtain ⟨ol', hol', hsub'⟩ := vops_some (lit := some L) h1
      have := hf.edge _ _ hol' e' (hsub' e' he') hb'
      omega
    · have := (hl.ins q hq).le
      omega
  · rw [ho] at ho2; cases ho2
    rcases h with ⟨h, _⟩ | h
    · have hg : inG (some L) e.on = true := by
        rw [inG_iff]
        obtain ⟨ql, hql, hlast⟩ := hl.last
        exact .inr ⟨ql, hql, by rw [hlast, hon]⟩
      rw [h e he hb] at hg; cases hg
    · exact h
theorem seff_closed (hd : RegD P ops m l I lit) (hc : Closed ops S) : Closed (vops lit ops) (seff lit S) := by
  intro i o' ho' hs e he hb
  obtain ⟨o, ho, h⟩ := vops_spec ho'
  rcases h e he with hm | ⟨L, hL, hi, q, hq, hne, hon⟩
  · refine ⟨hc i o ho hs.1 e hm hb, fun L hL hon => ?_⟩
    obtain ⟨kk, hl⟩ := litF_of P hd hL
    have hf := hd.f
    subst hL
    intro q hq
    obtain ⟨e', h1, h2, h3⟩ := hl.no_to hf ho hm hb hon q hq
    have := hc i o ho hs.1 e' h1 h2
    rwa [h3] at this
  · refine ⟨by rw [hon]; exact hs.2 L hL hi q hq, fun L' hL' hon' => ?_⟩
    rw [hL] at hL'; cases hL'
    exact (hne (by rw [← hon]; exact hon')).elim
theorem seff_ready (hd : RegD P ops m l I lit) {i : Nat} (hr : ReadyAt ops S i) (hin : inG lit i = false) : ReadyAt (vops lit ops) (seff lit S) i := by
  obtain ⟨o, ho, hr⟩ := hr
  obtain ⟨o', ho', _⟩ := vops_some (lit := lit) ho
  obtain ⟨o2, ho2, h⟩ := vops_spec ho'
  rw [ho] at ho2; cases ho2
  refine ⟨o', ho', fun e he hb => ?_⟩
  rcases h e he with hm | ⟨L, hL, hi, _⟩
  · refine ⟨hr e hm hb, fun L hL hon => ?_⟩
    obtain ⟨kk, hl⟩ := litF_of P hd hL
    have hf := hd.f
    subst hL
    intro q hq
    obtain ⟨e', h1, h2, h3⟩ := hl.no_to hf ho hm hb hon q hq
    have := hr e' h1 h2
    rwa [h3] at this
  · exfalso
    obtain ⟨kk, hl⟩ := litF_of P hd hL
    obtain ⟨ql, hql, hlast⟩ := hl.last
    have : inG lit i = true := by rw [hL, inG_iff]; exact .inr ⟨ql, hql, by rw [hlast, hi]⟩
    rw [hin] at this; cases this
theorem notG {L : Lit} {i : Nat} (h : inG (some L) i = false) : i ≠ L.mm ∧ ∀ q ∈ L.ins, q.1 ≠ i := by
  refine ⟨fun e => ?_, fun q hq e => ?_⟩
  · have : inG (some L) i = true := inG_iff.2 (.inl e)
    rw [h] at this; cases this
  · have : inG (some L) i = true := inG_iff.2 (.inr ⟨q, hq, e⟩)
    rw [h] at this; cases this
theorem seff_put (hd : RegD P ops m l I lit) {i : Nat} (hin : inG lit i = false) : (fun j => seff lit S j ∨ j = i) = seff lit (fun j => S j ∨ j = i) := by
  funext j
  apply propext
  constructor
  · rintro (h | rfl)
    · exact ⟨.inl h.1, fun L hL hj q hq => .inl (h.2 L hL hj q hq)⟩
    · refine ⟨.inr rfl, fun L hL hj => ?_⟩
      obtain ⟨kk, hl⟩ := litF_of P hd hL
      obtain ⟨ql, hql, hlast⟩ := hl.last
      rw [hL] at hin
      exact ((notG hin).2 ql hql (by rw [hlast, hj])).elim
  · rintro ⟨h, h2⟩
    rcases h with h | h
    · refine .inl ⟨h, fun L hL hj q hq => ?_⟩
      rcases h2 L hL hj q hq with h | h
      · exact h
      · rw [hL] at hin; exact ((notG hin).2 q hq h).elim
    · exact .inr h
theorem exf_put {i : Nat} (hin : inG lit i = false) : exf lit S = exf lit (fun j => S j ∨ j = i) := by
  funext t
  apply propext
  constructor
  · rintro ⟨L, hL, h1, h2, h3⟩
    refine ⟨L, hL, h1, .inl h2, fun h => h3 fun q hq => ?_⟩
    rcases h q hq with h | h
    · exact h
    · rw [hL] at hin; exact ((notG hin).2 q hq h).elim
  · rintro ⟨L, hL, h1, h2, h3⟩
    rw [hL] at hin
    rcases h2 with h2 | h2
    · exact ⟨L, hL, h1, h2, fun h => h3 fun q hq => .inl (h q hq)⟩
    · exact ((notG hin).1 h2.symm).elim

/-! ### Entries -/
theorem findNow_apart {kk : KK} {d : TypeDesc} (hf : kk.fits d = true) {k : AV} {kv : Value} (hk : VR ρ k kv) : ∀ {l : List (AV × AV)} {es : List MapEntry} (i : Nat), MRs ρ l es → (∀ p ∈ l, eqKey kk k p.1 = some false) → Instr.findNow d kv es i = some none
  | [], es, i, hm, _ => by
    simp only [MRs] at hm; subst hm; rfl
  | (a, x) :: l, es, i, hm, h => by
    simp only [MRs] at hm
    obtain ⟨en, rest, rfl, h1, h2, h3⟩ := hm
    have hs := key_sound hf hk h1 (h (a, x) (by simp))
    simp only [Instr.findNow, hs]
    exact findNow_apart hf hk (i + 1) h3 fun p hp => h p (by simp [hp])
theorem MRs.snoc {k v : AV} {en : MapEntry} (hk : VR ρ k en.key) (hv : VR ρ v en.val) : ∀ {l : List (AV × AV)} {es : List MapEntry}, MRs ρ l es → MRs ρ (l ++ [(k, v)]) (es ++ [en])
  | [], es, hm => by
    simp only [MRs] at hm; subst hm
    simp only [List.nil_append, MRs]
    exact ⟨en, [], rfl, hk, hv, rfl⟩
  | (a, x) :: l, es, hm => by
    simp only [MRs] at hm
    obtain ⟨e, r, rfl, h1, h2, h3⟩ := hm
    simp only [List.cons_append, MRs]
    exact ⟨e, _, rfl, h1, h2, MRs.snoc hk hv h3⟩
theorem insert_runs {t kt el : TypeId} {mo k x : Operand} {o : Oper} (ho : o.op = .insert t mo k x) (hd : P.underlying t = some (.map kt el)) {kk : KK} (hkk : keyT P kt = some kk) {e : Operand → Value} {b : Nat} {ents : Array MapEntry} {clock : Nat} {ka : AV} {es : List (AV × AV)}
    (hm : e mo = .map (some b)) (hb : w.heap[b]? = some (.map ents clock)) (hk : VR ρ ka (e k)) (hes : MRs ρ es ents.toList) (hap : ∀ p ∈ es, eqKey kk ka p.1 = some false) :
    (execOp e o).run P w = .ok .skip { w with heap := w.heap.setIfInBounds b (.map (ents.push { key := e k, val := e x, born := clock }) (clock + 1)) } := by
  obtain ⟨kd, hkd, hkf⟩ := keyT_some hkk
  have hck : (Instr.checkKey false 10000 kt (e k)).run P w = .ok () w := checkKey_ok hkd hkf _ 9999 _
  have h4 := findNow_apart hkf hk 0 hes hap
  have hfk : (Instr.findKey kt (e k) ents.toList).run P w = .ok none w := by
    simp only [Instr.findKey, Sem.run_bind, run_underlying hkd, Result.andThen_ok, h4, Sem.run_pure]
  simp only [execOp, ho]
  refine run_u ?_
  simp only [Instr.mapUpdate, Sem.run_bind, run_underlying hd, Result.andThen_ok, hm, MapKept.run_getObj_map hb, hck, hfk, MapKept.run_setObj_map _ hb]
end
end Go.Ai
