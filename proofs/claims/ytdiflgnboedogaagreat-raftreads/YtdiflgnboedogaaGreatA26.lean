/- An interpreter on abstract values: a region in whatever order. -/
import Derived.Test.YtdiflgnboedogaaGreatA25
namespace Go.Ai
section
variable {P : Program} {good : Nat → Code → Prop} {ops : List Oper} {m : Nat} {l : List AI} {I : List Inf} {lit : Option Lit} {rr : Nat → Regs} {vv : Nat → AV} {hh : Nat → Hp}
variable {ρ0 : Rho} {w0 : World} {S : Nat → Prop} {c : Nat} {ρ : Rho} {w : World}

theorem opC_defer {o : Oper} {q : AOp × List Operand} (h : opC P o = some q) : ∀ c, o.op ≠ .defer c := fun c e => by
  unfold opC at h; rw [e] at h; cases h
theorem opC_call {o : Oper} {xs : List Operand} (h : opC P o = some (.call, xs)) : ∃ c f, o.op = .call c ∧ c.callee = .value f ∧ xs = f :: c.args.toList := by
  have nb : ∀ b ts, builtinC P b ts ≠ some .call := by
    intro b ts h
    unfold builtinC at h
    split at h
    · split at h <;> (try (simp at h; done))
      split at h <;> simp at h
    · simp at h
    · simp at h
    · split at h
      · obtain ⟨_, h⟩ := ite_some h
        obtain ⟨_, _, h⟩ := opt_bind_some h
        obtain ⟨_, _, h⟩ := opt_bind_some h
        obtain ⟨_, h⟩ := ite_some h
        simp at h
      · cases h
    · split at h
      · obtain ⟨_, _, h⟩ := opt_bind_some h
        obtain ⟨_, h⟩ := ite_some h
        simp at h
      · cases h
    · split at h
      · obtain ⟨_, _, h⟩ := opt_map_some h; simp at h
      · cases h
    · cases h
  unfold opC at h
  cases ho : o.op with
  | call c =>
    rw [ho] at h; simp only at h
    cases hcal : c.callee with
    | value f => rw [hcal] at h; simp only [Option.some.injEq, Prod.mk.injEq, true_and] at h; exact ⟨c, f, rfl, hcal, h.symm⟩
    | invoke r m => rw [hcal] at h; simp at h
    | builtin b =>
      rw [hcal] at h; simp only at h
      obtain ⟨q, hq, h⟩ := opt_map_some h
      simp only [Prod.mk.injEq] at h
      obtain ⟨rfl, rfl⟩ := h
      exact (nb _ _ hq).elim
  | load t x =>
    rw [ho] at h; simp only at h
    obtain ⟨k, hk, h⟩ := opt_bind_some h
    cases k with
    | true => simp only [if_true] at h; obtain ⟨n, hn, h⟩ := opt_map_some h; simp at h
    | false => simp at h
  | lookup t x k ok =>
    rw [ho] at h; simp only at h
    split at h
    · obtain ⟨kk, hkk, h⟩ := opt_bind_some h
      obtain ⟨z, hz, h⟩ := opt_map_some h
      simp at h
    · cases h
  | move x => rw [ho] at h; simp at h
  | assign x => rw [ho] at h; simp at h
  | pick c a b => rw [ho] at h; simp at h
  | alloc t => rw [ho] at h; simp only at h; obtain ⟨z, _, h⟩ := opt_map_some h; simp at h
  | box t x => rw [ho] at h; simp at h
  | build t ps =>
    rw [ho] at h; simp only at h
    obtain ⟨_, h⟩ := ite_some h
    obtain ⟨_, _, h⟩ := opt_bind_some h
    obtain ⟨_, _, h⟩ := opt_map_some h
    simp at h
  | buildSlice t n ps =>
    rw [ho] at h; simp only at h
    split at h
    · obtain ⟨z, _, h⟩ := opt_bind_some h
      obtain ⟨es, _, h⟩ := opt_bind_some h
      obtain ⟨_, h⟩ := ite_some h
      simp at h
    · cases h
  | store t a x => rw [ho] at h; simp only at h; obtain ⟨n, _, h⟩ := opt_map_some h; simp at h
  | nilCheck x => rw [ho] at h; simp at h
  | binOp op t x y y' =>
    rw [ho] at h; simp only at h
    obtain ⟨q, hq, h⟩ := opt_map_some h
    simp only [Prod.mk.injEq] at h
    obtain ⟨rfl, rfl⟩ := h
    unfold binC at hq
    split at hq <;> (try (simp at hq; done))
    all_goals (split at hq <;> simp at hq)
  | unOp op t x =>
    rw [ho] at h; simp only at h
    obtain ⟨q, hq, h⟩ := opt_map_some h
    simp only [Prod.mk.injEq] at h
    obtain ⟨rfl, rfl⟩ := h
    cases op <;> simp [unC] at hq
  | convert s d x =>
    rw [ho] at h; simp only at h
    obtain ⟨q, hq, h⟩ := opt_map_some h
    simp only [Prod.mk.injEq] at h
    obtain ⟨rfl, rfl⟩ := h
    unfold convC at hq
    split at hq <;> simp at hq
  | makeFunc fn first cap => rw [ho] at h; cases fn <;> simp at h
  | makeMap t r => rw [ho] at h; simp only at h; split at h <;> simp at h
  | makeSlice t l c =>
    rw [ho] at h; simp only at h
    split at h
    · obtain ⟨_, h⟩ := ite_some h
      obtain ⟨z, _, h⟩ := opt_bind_some h
      obtain ⟨es, _, h⟩ := opt_bind_some h
      obtain ⟨_, h⟩ := ite_some h
      simp at h
    · cases h
  | slice t x lo hi mx =>
    rw [ho] at h; simp only at h
    split at h
    · cases mx <;> simp at h
    · obtain ⟨es, _, h⟩ := opt_bind_some h
      obtain ⟨_, h⟩ := ite_some h
      simp at h
    · cases h
  | fieldAddr t x i =>
    rw [ho] at h; simp only at h
    obtain ⟨_, _, h⟩ := opt_bind_some h
    obtain ⟨_, _, h⟩ := opt_bind_some h
    obtain ⟨_, _, h⟩ := opt_bind_some h
    obtain ⟨_, h⟩ := ite_some h
    simp at h
  | field t x i =>
    rw [ho] at h; simp only at h
    obtain ⟨_, _, h⟩ := opt_bind_some h
    obtain ⟨_, _, h⟩ := opt_bind_some h
    obtain ⟨k, _, h⟩ := opt_bind_some h
    cases k
    · simp at h
    · simp only [if_true] at h; obtain ⟨_, _, h⟩ := opt_map_some h; simp at h
  | indexAddr t x j =>
    rw [ho] at h; simp only at h
    split at h
    · obtain ⟨_, _, h⟩ := opt_map_some h; simp at h
    · obtain ⟨_, _, h⟩ := opt_map_some h; simp at h
    · cases h
  | index t x j =>
    rw [ho] at h; simp only at h
    split at h
    · simp at h
    · obtain ⟨_, _, h⟩ := opt_bind_some h
      obtain ⟨k, _, h⟩ := opt_map_some h
      cases k <;> simp at h
    · cases h
  | mapUpdate t m k v' =>
    rw [ho] at h; simp only at h
    split at h
    · obtain ⟨_, _, h⟩ := opt_map_some h; simp at h
    · cases h
  | insert t m k v' =>
    rw [ho] at h; simp only at h
    split at h
    · obtain ⟨_, _, h⟩ := opt_map_some h; simp at h
    · cases h
  | extract x n => rw [ho] at h; simp at h
  | _ => rw [ho] at h; simp at h

theorem wanted_of {a : Act} {r : Regs} {o : Oper} {s : Option (Slot × Bool)} (hg : guardC ops o.guard = some s) (h : ∀ t ∈ guardT ops o.guard, t < 1024 → VR ρ (Regs.get r (slot t)) (a.tmps.getD t undef)) {b : Bool} (hw : wantA r s = some b) : Region.wanted o (yielded ops.toArray a.tmps) = b := by
  unfold Region.wanted
  cases hog : o.guard with
  | none =>
    rw [hog] at hg
    simp only [guardC, Option.some.injEq] at hg; subst hg
    simpa [wantA] using hw
  | some q =>
    obtain ⟨j, want⟩ := q
    rw [hog] at hg h
    simp only [guardC] at hg
    obtain ⟨o', ho, hg⟩ := opt_bind_some hg
    obtain ⟨d, hd, hg⟩ := opt_bind_some hg
    obtain ⟨hlt, hg⟩ := ite_some hg
    cases hg
    have hv := h d (by simp only [guardT, ho, Option.bind_some, hd]; simp) (by simpa [Nat.blt_eq] using hlt)
    rw [nth_eq] at ho
    simp only [wantA] at hw
    simp only [yielded, List.getElem?_toArray, ho, Option.bind_some, hd]
    rw [Array.getD_eq_getD_getElem?] at hv
    split at hw
    · rename_i x hx
      rw [hx] at hv
      simp only [VR] at hv
      cases ht : a.tmps[d]? with
      | none => rw [ht] at hv; simp [undef] at hv
      | some y =>
        rw [ht] at hv
        simp only [Option.getD_some] at hv; subst hv
        simp only [Option.some.injEq] at hw; subst hw
        simp
    · rename_i hx
      rw [hx] at hv
      simp only [VR, VRs] at hv
      obtain ⟨xs, hv, hxs⟩ := hv
      simp only [Option.some.injEq] at hw; subst hw
      cases ht : a.tmps[d]? with
      | none => rfl
      | some y =>
        rw [ht] at hv
        simp only [Option.getD_some] at hv; subst hv
        rfl
    · cases hw

theorem fr_fn (r : Option Nat) (f : FuncId) : (Fr r).fn f := trivial
theorem fr_depth (r : Option Nat) (n : Nat) : (Fr r).depth.isSome = true → 1 ≤ n := fun h => by simp [Fr, Fence.wide] at h

/-- What an operation leaves as it was. -/
structure Keep (I : List Inf) (i : Nat) (ρ : Rho) (a : Act) (w : World) (ρ' : Rho) (a' : Act) (w' : World) : Prop where
  le : Le ρ ρ'
  tmps : ∀ t, (∀ (k : Nat) (x : Inf), I[k]? = some x → x.i = i → x.dst ≠ some t) → a'.tmps.getD t undef = a.tmps.getD t undef
  blk : ∀ b, b < w.heap.size → (∀ o L, ρ o = some L → L.blk ≠ b) → w'.heap[b]? = w.heap[b]? ∧ ∀ o L, ρ' o = some L → L.blk ≠ b
theorem keep_put {a : Act} {w w' : World} {ρ' : Rho} {x : Inf} {k : Nat} {v : Value} (hle : Le ρ ρ') (hx : I[k]? = some x) (hlt : ∀ q, x.dst = some q → q < a.tmps.size)
    (hb : ∀ b, b < w.heap.size → (∀ o L, ρ o = some L → L.blk ≠ b) → w'.heap[b]? = w.heap[b]? ∧ ∀ o L, ρ' o = some L → L.blk ≠ b) : Keep I x.i ρ a w ρ' (a.put x.dst v) w' :=
  ⟨hle, fun t ht => by rw [getD_put t hlt, if_neg (ht k x hx rfl)], hb⟩
theorem ext_blk {h h' : Hp} {w w' : World} {ρ' : Rho} (he : Ext ρ h w ρ' h' w') : ∀ b, b < w.heap.size → (∀ o L, ρ o = some L → L.blk ≠ b) → w'.heap[b]? = w.heap[b]? ∧ ∀ o L, ρ' o = some L → L.blk ≠ b := fun b hb hno => by
  refine ⟨he.frame b hb hno, fun o L ho => ?_⟩
  cases h0 : ρ o with
  | some M =>
    have := he.le o M h0
    rw [ho] at this; cases this
    exact hno o L h0
  | none =>
    rcases (he.new o L h0 ho).2 with h | ⟨q, M, h1, h2⟩
    · omega
    · rw [← h2]; exact hno q M h1
/-- One operation of a region, whichever is ready, that is none of a literal's. -/
theorem op_step {r : Option Nat} {Q : Exit → Act → World → Prop} {K : Act → World → Prop} {a0 a : Act} {ex : Tmp → Prop} (hd : RegD P ops m l I lit) (ht : TraceR P good l rr vv hh) (hfr : Fresh (hh 0)) (hi : RegI I rr vv a0 m ex S ρ a) (hp : HeapI P good l I rr hh ρ0 w0 S c ρ w) (hc : Closed (vops lit ops) S) {i : Nat} (hr : ReadyAt (vops lit ops) S i) (hn : ¬ S i) (hin : inG lit i = false) (hex : ∀ (k : Nat) (x : Inf), I[k]? = some x → x.i = i → ∀ t ∈ x.uses, ¬ ex t)
    (hK : ∀ a' w' c' ρ', RegI I rr vv a0 m ex (fun j => S j ∨ j = i) ρ' a' → HeapI P good l I rr hh ρ0 w0 (fun j => S j ∨ j = i) c' ρ' w' → Keep I i ρ a w ρ' a' w' → K a' w') : wpOpIn (Fr r) 0 P ops.toArray Q i K a w := by
  have hf := hd.f
  obtain ⟨o0, ho0, _⟩ := id hr
  obtain ⟨k, x, hx, rfl⟩ := hf.all i o0 ho0
  have hkI := (List.getElem?_eq_some_iff.1 hx).1
  have hkl : k < l.length := by rw [← hd.len]; exact hkI
  have hl := List.getElem?_eq_getElem hkl
  generalize l[k] = ai at hl
  obtain ⟨h6, h9⟩ := hd.dst k _ x hl hx
  obtain ⟨o, xs, h2, h3, h4, h5, h7, h8⟩ := hd.at_ k _ x hl hx hin
  have hlt : ∀ q, x.dst = some q → q < a.tmps.size := fun q hq => by rw [hi.size]; exact Nat.lt_of_lt_of_le (hf.dst_lt hx hq) hi.wide
  have hsame : ∀ b, b < w.heap.size → (∀ o L, ρ o = some L → L.blk ≠ b) → w.heap[b]? = w.heap[b]? ∧ ∀ o L, ρ o = some L → L.blk ≠ b := fun b _ h => ⟨rfl, h⟩
  have hs := ht.step k _ hl
  have see : ∀ t ∈ x.uses, t < 1024 → VR ρ (Regs.get (rr k) (slot t)) (a.tmps.getD t undef) := fun t hu hlt => hi.see hd ht hc hx hr hn hu hlt (hex k x hx rfl t hu)
  have hwant : ∀ b, wantA (rr k) ai.guard = some b → Region.wanted o (yielded ops.toArray a.tmps) = b := fun b hw => wanted_of h5 (fun t hu hlt => see t (by rw [h8, app_eq]; simp [hu]) hlt) hw
  have hargs : VRs ρ (evs (rr k) ai.args) (xs.map a.eval) := opds_sound (fun _ => rfl) (fun _ => rfl) h4 fun t hm hlt => see t (by rw [h8, app_eq]; exact List.mem_append_right _ (mem_tmpsOf hm)) hlt
  unfold wpOpIn
  rw [List.getElem?_toArray, h2]
  simp only
  rw [← h7]
  have hs0 := hs
  unfold StepR at hs
  split at hs
  · rename_i hw
    rw [if_pos (hwant _ hw)]
    unfold Oper.wpIn
    refine ⟨fun _ _ => trivial, ?_⟩
    rw [Oper.semAt_eq _ _ _ (opC_defer h3)]
    unfold OpR at hs
    split at hs
    · -- a value alone
      rename_i op ho
      rw [ho] at h3 h9
      obtain ⟨v', hrun, hv'⟩ := pure_sound h3 hargs hs.1 w
      rw [hrun]
      simp only [Oper.uponIn]
      rw [← h7]
      exact hK _ _ c ρ (hi.put hd (Le.refl ρ) hx hv') (hp.put hd hx (.inr h9)) (keep_put (Le.refl ρ) hx hlt hsame)
    · -- a read
      rename_i op ho
      have h3' := h3
      rw [ho] at h3 h9
      have hcl : x.c = .read := h9
      obtain ⟨c', hkc, hp'⟩ := hp.reach' hd ht hc hx hr (by rw [hcl]; simp) (by rw [hcl]; simp)
      have hst := stable hd ht hfr hx hl ho hw c' hkc hp'.cle fun p y hkp hpc hy hye => by
        cases hb : bitOf y.b x.i with
        | false => rfl
        | true => exact (hn (hf.done_in hc hy (hp'.effIn p y hy hpc hye) hb)).elim
      obtain ⟨v', hrun, hv'⟩ := read_sound hp'.heap h3 hargs hst
      rw [hrun]
      simp only [Oper.uponIn]
      rw [← h7]
      exact hK _ _ c' ρ (hi.put hd (Le.refl ρ) hx hv') (hp'.put hd hx (.inl hkc)) (keep_put (Le.refl ρ) hx hlt hsame)
    · -- new memory
      rename_i op ho
      obtain ⟨q, hq, hvv, hhe⟩ := hs
      rw [ho] at h3 h9
      have hcl : x.c = .mk := h9
      obtain ⟨c', hkc, hp'⟩ := hp.reach' hd ht hc hx hr (by rw [hcl]; simp) (by rw [hcl]; simp)
      obtain ⟨B, v', L, hrun, hb, hnew⟩ := alloc_sound (good := good) (w := w) h3 hargs hq
      obtain ⟨hid, hp''⟩ := hp'.made hd ht hx hl hkc hn ho hw hq (L := L) (B := B) (w' := { w with heap := w.heap.push B }) hb rfl rfl rfl rfl fun id hid => (hnew id hid).2
      rw [hrun]
      simp only [Oper.uponIn]
      rw [← h7]
      refine hK _ _ c' _ (hi.put hd (Rho.put_le hid) hx ?_) hp'' (keep_put (Rho.put_le hid) hx hlt fun b hb1 hno => ⟨?_, fun q M hq => ?_⟩)
      · rw [hvv]; exact (hnew _ hid).1
      · show (w.heap.push B)[b]? = w.heap[b]?
        rw [Array.getElem?_push, if_neg (by omega)]
      · unfold Rho.put at hq
        by_cases hqi : q = (hh k).next
        · rw [if_pos hqi] at hq; cases hq; omega
        · rw [if_neg hqi] at hq; exact hno q M hq
    · -- a write
      rename_i op ho
      rw [ho] at h3 h9
      have hcl : x.c = .eff := h9
      have hck : c ≤ k := by
        rcases Nat.lt_or_ge k c with h | h
        · exact (hn (hp.effIn k x hx h hcl)).elim
        · exact h
      have hp' := hp.reach hd ht hc hx hr (by rw [hcl]; simp) hck
      obtain ⟨y, w', ρ', hrun, hy, hr', he⟩ := eff_sound hp'.heap h3 hargs hs.1
      rw [hrun]
      have hp'' := hp'.effected hd ht hx hcl hr' he
      rcases hy with ⟨rfl, hvu⟩ | ⟨v', rfl, hv'⟩
      · simp only [Oper.uponIn]
        rw [← h7]
        exact hK _ _ _ ρ' (hi.put hd he.le hx (by rw [hvu]; simp [VR])) hp'' (keep_put he.le hx hlt (ext_blk he))
      · simp only [Oper.uponIn]
        rw [← h7]
        exact hK _ _ _ ρ' (hi.put hd he.le hx hv') hp'' (keep_put he.le hx hlt (ext_blk he))
    · -- a call
      rename_i ho
      rw [ho] at h3 h9
      have hcl : x.c = .eff := h9
      have hck : c ≤ k := by
        rcases Nat.lt_or_ge k c with h | h
        · exact (hn (hp.effIn k x hx h hcl)).elim
        · exact h
      have hp' := hp.reach hd ht hc hx hr (by rw [hcl]; simp) hck
      obtain ⟨f, as, hev, ⟨_, hsound⟩, _⟩ := hs
      obtain ⟨cc, ff, hoc, hcal, hxs⟩ := opC_call h3
      rw [hev, hxs] at hargs
      simp only [List.map_cons, VRs, List.cons.injEq] at hargs
      obtain ⟨fv, avs, ⟨rfl, rfl⟩, hfv, havs⟩ := hargs
      obtain ⟨y, w1, hrun, hent⟩ := hsound ρ w _ _ hfv havs hp'.heap
      have hexec : execOp a.eval o = goCall (a.eval ff) (List.map a.eval cc.args.toList).toArray := by
        simp only [execOp, hoc, resolve, hcal, goCall]
        congr 2
        apply Array.ext'; simp
      rw [hexec, hrun]
      have fin : ∀ v' w', Post P good ρ (hh k) w (vv k) (hh (k + 1)) v' w' → K (a.put x.dst v') w' := fun v' w' ⟨ρ', hv', hr', he⟩ =>
        hK _ _ _ ρ' (hi.put hd he.le hx hv') (hp'.effected hd ht hx hcl hr' he) (keep_put he.le hx hlt (ext_blk he))
      cases y <;> simp only [EntR] at hent
      case value v' =>
        simp only [Oper.uponIn]
        rw [← h7]
        exact fin v' w1 hent
      case enter g args =>
        simp only [Oper.uponIn]
        rw [← h7]
        refine ⟨fr_depth r 0, CallsIn.mono (F := Fr r) hent fun e w'' he => ?_⟩
        cases e with
        | returned v' => exact fin v' w'' he
        | panicked ch => exact he.elim
        | outgrown => exact he.elim
      case round lp g tmps assign body =>
        simp only [Oper.uponIn]
        rw [← h7]
        refine ⟨fr_depth r 0, RoundIn.mono (F := Fr r) hent fun e w'' he => ?_⟩
        cases e with
        | returned v' => exact fin v' w'' he
        | panicked ch => exact he.elim
        | outgrown => exact he.elim
  · rename_i hw
    have hnw : ¬ Region.wanted o (yielded ops.toArray a.tmps) = true := by rw [hwant _ hw]; simp
    rw [if_neg hnw]
    refine ⟨fun _ _ => trivial, ?_⟩
    have hv : VR ρ (vv k) undef := by rw [hs.1]; simp [VR, VRs, undef]
    by_cases hcl : x.c = .eff
    · have hck : c ≤ k := by
        rcases Nat.lt_or_ge k c with h | h
        · exact (hn (hp.effIn k x hx h hcl)).elim
        · exact h
      have hp' := hp.reach hd ht hc hx hr (by rw [hcl]; simp) hck
      refine hK _ _ _ ρ (hi.put hd (Le.refl ρ) hx hv) (hp'.effected hd ht hx hcl ?_ ?_) (keep_put (Le.refl ρ) hx hlt hsame)
      · rw [hs.2]; exact hp'.heap
      · rw [hs.2]; exact Ext.refl _ _ _
    · by_cases hpu : x.c = .pure
      · exact hK _ _ c ρ (hi.put hd (Le.refl ρ) hx hv) (hp.put hd hx (.inr hpu)) (keep_put (Le.refl ρ) hx hlt hsame)
      · obtain ⟨c', hkc, hp'⟩ := hp.reach' hd ht hc hx hr hpu hcl
        exact hK _ _ c' ρ (hi.put hd (Le.refl ρ) hx hv) (hp'.put hd hx (.inl hkc)) (keep_put (Le.refl ρ) hx hlt hsame)
  · exact hs.elim

end
end Go.Ai
