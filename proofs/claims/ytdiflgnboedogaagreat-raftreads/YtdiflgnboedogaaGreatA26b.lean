/- An interpreter on abstract values: a region in whatever order (maps' literals: what is checked of them, and what holds on the way). -/
import Derived.Test.YtdiflgnboedogaaGreatA26
namespace Go.Ai

/-- Edges to a place. -/
theorem edgeTo_spec {o : Oper} {j : Nat} (h : edgeTo o j = true) : ∃ e ∈ o.after, Region.binds .any e = true ∧ e.on = j := by
  unfold edgeTo at h
  obtain ⟨k, e, he, h⟩ := anyB_get h
  rw [Bool.and_eq_true] at h
  exact ⟨e, Array.mem_toList_iff.1 (List.mem_of_getElem? he), h.1, Nat.eq_of_beq_eq_true h.2⟩
theorem inIns_iff {i : Nat} : ∀ {l : List LIns}, inIns i l = true ↔ ∃ q ∈ l, q.1 = i
  | [] => by
    have : inIns i [] = false := rfl
    rw [this]; simp
  | p :: l => by
    have : inIns i (p :: l) = (Nat.beq p.1 i || inIns i l) := rfl
    rw [this, Bool.or_eq_true, inIns_iff]
    constructor
    · rintro (h | ⟨q, h1, h2⟩)
      · exact ⟨p, by simp, Nat.eq_of_beq_eq_true h⟩
      · exact ⟨q, by simp [h1], h2⟩
    · rintro ⟨q, h1, h2⟩
      rcases List.mem_cons.1 h1 with rfl | h1
      · exact .inl (by rw [h2]; simp)
      · exact .inr ⟨q, h1, h2⟩
theorem inG_iff {L : Lit} {i : Nat} : inG (some L) i = true ↔ i = L.mm ∨ ∃ q ∈ L.ins, q.1 = i := by
  have : inG (some L) i = (Nat.beq i L.mm || inIns i L.ins) := rfl
  rw [this, Bool.or_eq_true, inIns_iff]
  constructor
  · rintro (h | h)
    · exact .inl (Nat.eq_of_beq_eq_true h)
    · exact .inr h
  · rintro (h | h)
    · exact .inl (by rw [h]; simp)
    · exact .inr h
theorem mem_insEdges {L : Lit} {e : Edge} : ∀ {l : List LIns}, e ∈ insEdges L l → ∃ q ∈ l, q.1 ≠ L.last ∧ e.on = q.1
  | [], h => by cases h
  | q :: l, h => by
    simp only [insEdges] at h
    split at h
    · obtain ⟨p, h1, h2⟩ := mem_insEdges h
      exact ⟨p, by simp [h1], h2⟩
    · rename_i hb
      rcases List.mem_cons.1 h with h | h
      · subst h
        exact ⟨q, by simp, fun e => hb (by rw [e]; simp), rfl⟩
      · obtain ⟨p, h1, h2⟩ := mem_insEdges h
        exact ⟨p, by simp [h1], h2⟩
theorem vops_spec {lit : Option Lit} {ops : List Oper} {i : Nat} {o' : Oper} (h : (vops lit ops)[i]? = some o') :
    ∃ o, ops[i]? = some o ∧ (∀ e ∈ o'.after, e ∈ o.after ∨ ∃ L, lit = some L ∧ i = L.last ∧ ∃ q ∈ L.ins, q.1 ≠ L.last ∧ e.on = q.1) := by
  cases lit with
  | none => exact ⟨o', h, fun e he => .inl he⟩
  | some L =>
    have h : (mapl (vop L) (numberedFrom 0 ops))[i]? = some o' := h
    rw [mapl_eq, List.getElem?_map] at h
    cases hn : (numberedFrom 0 ops)[i]? with
    | none => rw [hn] at h; cases h
    | some p =>
      rw [hn] at h
      simp only [Option.map_some, Option.some.injEq] at h
      cases ho : ops[i]? with
      | none =>
        have hlen : (numberedFrom 0 ops).length = ops.length := by
          have : ∀ (l : List Oper) (n : Nat), (numberedFrom n l).length = l.length := by
            intro l
            induction l with
            | nil => intro n; rfl
            | cons a l ih => intro n; simp [numberedFrom, ih]
          exact this ops 0
        have h1 := (List.getElem?_eq_some_iff.1 hn).1
        rw [List.getElem?_eq_none_iff] at ho
        omega
      | some o =>
        have := numbered_get (n := 0) ho
        rw [hn] at this
        simp only [Nat.zero_add, Option.some.injEq] at this
        subst this
        refine ⟨o, rfl, fun e he => ?_⟩
        subst h
        unfold vop at he
        split at he
        · rename_i hb
          have hb := Nat.eq_of_beq_eq_true hb
          simp only [app_eq, ← Array.mem_toList_iff, List.mem_append] at he
          rcases he with he | he
          · exact .inl (Array.mem_toList_iff.1 he)
          · exact .inr ⟨L, rfl, hb, mem_insEdges he⟩
        · exact .inl he
theorem vops_some {lit : Option Lit} {ops : List Oper} {i : Nat} {o : Oper} (h : ops[i]? = some o) : ∃ o', (vops lit ops)[i]? = some o' ∧ ∀ e ∈ o.after, e ∈ o'.after := by
  cases lit with
  | none => exact ⟨o, h, fun e he => he⟩
  | some L =>
    refine ⟨vop L (i, o), ?_, fun e he => ?_⟩
    · show (mapl (vop L) (numberedFrom 0 ops))[i]? = _
      rw [mapl_eq, List.getElem?_map, numbered_get (n := 0) h]
      simp
    · unfold vop
      split
      · simp only [app_eq, ← Array.mem_toList_iff, List.mem_append]
        exact .inl (Array.mem_toList_iff.2 he)
      · exact he

section
variable (P : Program)
structure LitIns (ops : List Oper) (I : List Inf) (L : Lit) (kk : KK) (q : LIns) : Prop where
  ne : q.1 ≠ L.mm
  le : q.1 ≤ L.last
  op : ∃ o t kt el k, ops[q.1]? = some o ∧ o.op = .insert t (.tmp L.d) k q.2.2 ∧ opdC k = some (.c q.2.1) ∧ o.guard = none ∧ o.dst = none ∧ P.underlying t = some (.map kt el) ∧ keyT P kt = some kk ∧
    (∃ e ∈ o.after, Region.binds .any e = true ∧ e.on = L.mm) ∧
    ∀ t', q.2.2 = .tmp t' → t' ≠ L.d ∧ ∀ (k : Nat) (x : Inf), I[k]? = some x → x.dst = some t' → ∃ e ∈ o.after, Region.binds .any e = true ∧ e.on = x.i
structure LitF (ops : List Oper) (I : List Inf) (L : Lit) (kk : KK) : Prop where
  mm : ∃ o t r kt el, ops[L.mm]? = some o ∧ o.op = .makeMap t r ∧ plainR r = true ∧ o.guard = none ∧ o.dst = some L.d ∧ P.underlying t = some (.map kt el) ∧ keyT P kt = some kk
  ins : ∀ q ∈ L.ins, LitIns P ops I L kk q
  apart : L.ins.Pairwise fun p q => p.1 ≠ q.1 ∧ eqKey kk q.2.1 p.2.1 = some false ∧ eqKey kk p.2.1 q.2.1 = some false
  last : ∃ q ∈ L.ins, q.1 = L.last
  g : ∀ (k : Nat) (x : Inf), I[k]? = some x → inG (some L) x.i = true ∨ ∃ o, ops[x.i]? = some o ∧ (((∀ e ∈ o.after, Region.binds .any e = true → inG (some L) e.on = false) ∧ L.d ∉ x.uses) ∨ ∀ q ∈ L.ins, ∃ e ∈ o.after, Region.binds .any e = true ∧ e.on = q.1)
theorem pairB_pairwise {α : Type} {f : α → α → Bool} : ∀ {l : List α}, pairB f l = true → l.Pairwise fun a b => f a b = true
  | [], _ => .nil
  | a :: l, h => by
    have h : (allB (f a) l && pairB f l) = true := h
    rw [Bool.and_eq_true] at h
    exact .cons (fun b hb => allB_mem h.1 hb) (pairB_pairwise h.2)
theorem anyB_false {α : Type} {f : α → Bool} : ∀ {l : List α}, anyB f l = false → ∀ a ∈ l, f a = false
  | [], _, a, h => by cases h
  | x :: l, h, a, ha => by
    have h : (f x || anyB f l) = false := h
    rw [Bool.or_eq_false_iff] at h
    rcases List.mem_cons.1 ha with rfl | ha
    · exact h.1
    · exact anyB_false h.2 a ha
theorem kkOf_some {t : TypeId} {kk : KK} (h : kkOf P t = some kk) : ∃ kt el, P.underlying t = some (.map kt el) ∧ keyT P kt = some kk := by
  unfold kkOf at h
  split at h
  · rename_i kt el hd; exact ⟨kt, el, hd, h⟩
  · cases h
theorem noGuard_eq {g : Option (Nat × Bool)} (h : noGuard g = true) : g = none := by cases g <;> simp [noGuard] at h ⊢
theorem litF_of {ops : List Oper} {m : Nat} {l : List AI} {I : List Inf} {lit : Option Lit} (hd : RegD P ops m l I lit) {L : Lit} (hL : lit = some L) : ∃ kk, LitF P ops I L kk := by
  have h := hd.lok
  subst hL
  unfold litOk at h
  simp only at h
  cases ho : nth ops L.mm with
  | none => rw [ho] at h; cases h
  | some o =>
    rw [ho] at h
    simp only at h
    cases hm : mmOk P o L.d with
    | none => rw [hm] at h; cases h
    | some kk =>
      rw [hm] at h
      simp only [Bool.and_eq_true] at h
      obtain ⟨h1, h2, h3, h4⟩ := h
      refine ⟨kk, ?_, fun q hq => ?_, ?_, ?_, fun k x hx => ?_⟩
      · unfold mmOk at hm
        split at hm
        · rename_i t r hop
          obtain ⟨hb, hm⟩ := ite_some hm
          simp only [Bool.and_eq_true] at hb
          obtain ⟨kt, el, hd1, hd2⟩ := kkOf_some P hm
          refine ⟨o, t, r, kt, el, by rw [← nth_eq]; exact ho, hop, hb.1, noGuard_eq hb.2.1, ?_, hd1, hd2⟩
          have := hb.2.2
          cases hdst : o.dst with
          | none => rw [hdst] at this; cases this
          | some d => rw [hdst] at this; rw [Nat.eq_of_beq_eq_true this]
        · cases hm
      · have := allB_mem h1 hq
        simp only [Bool.and_eq_true, Bool.not_eq_true'] at this
        obtain ⟨e1, e2, e3⟩ := this
        obtain ⟨o', ho', hkv⟩ := hd.litins L rfl q hq
        rw [nth_eq, ho'] at e3
        simp only [Bool.and_eq_true] at e3
        obtain ⟨e3, e4, e5⟩ := e3
        refine ⟨fun e => by rw [e] at e1; simp at e1, Nat.le_of_ble_eq_true e2, ?_⟩
        unfold insOk at e3
        split at e3
        · rename_i t m k v hop
          simp only [Bool.and_eq_true] at e3
          obtain ⟨f1, f2, f3, f4⟩ := e3
          have f1 := Nat.eq_of_beq_eq_true f1
          subst f1
          unfold insKV at hkv
          rw [hop] at hkv
          simp only at hkv
          split at hkv
          · rename_i a hk
            simp only [Option.some.injEq] at hkv
            split at f4
            · rename_i kk' hkk
              have := kkB_eq f4
              subst this
              obtain ⟨kt, el, hd1, hd2⟩ := kkOf_some P hkk
              have hv : q.2.2 = v := by rw [← hkv]
              have hkq : q.2.1 = a := by rw [← hkv]
              refine ⟨o', t, kt, el, k, ho', by rw [hv]; exact hop, by rw [hkq]; exact hk, noGuard_eq f2, ?_, hd1, hd2, edgeTo_spec e4, fun t' ht' => ?_⟩
              · cases hdst : o'.dst with
                | none => rfl
                | some d => rw [hdst] at f3; cases f3
              · rw [ht'] at e5
                simp only [valOk, Bool.and_eq_true, Bool.not_eq_true'] at e5
                refine ⟨fun e => by rw [e] at e5; simp at e5, fun k x hx hxd => ?_⟩
                have := allB_get e5.2 hx
                rw [hxd] at this
                have hd' : dstIs t' (some t') = true := by simp [dstIs]
                rw [hd'] at this
                simp only [Bool.not_true, Bool.false_or] at this
                exact edgeTo_spec this
            · cases f4
          · cases hkv
        · cases e3
      · refine (pairB_pairwise h2).imp fun {p q} hpq => ?_
        simp only [Bool.and_eq_true, Bool.not_eq_true'] at hpq
        refine ⟨fun e => by rw [e] at hpq; simp at hpq, ?_⟩
        have := hpq.2
        unfold apartK at this
        split at this
        · rename_i e1 e2; exact ⟨e1, e2⟩
        · cases this
      · obtain ⟨k, q, hk, hq⟩ := anyB_get h3
        exact ⟨q, List.mem_of_getElem? hk, Nat.eq_of_beq_eq_true hq⟩
      · have := allB_get h4 hx
        unfold gOk at this
        rw [Bool.or_eq_true] at this
        rcases this with h | h
        · exact .inl h
        · refine .inr ?_
          rw [nth_eq] at h
          cases hox : ops[x.i]? with
          | none => rw [hox] at h; cases h
          | some o' =>
            rw [hox] at h
            simp only [Bool.or_eq_true, Bool.and_eq_true, Bool.not_eq_true'] at h
            refine ⟨o', rfl, h.imp (fun h => ⟨fun e he hb => ?_, fun hu => ?_⟩) fun h q hq => ?_⟩
            · have := anyB_false h.1 e (Array.mem_toList_iff.2 he)
              rw [hb] at this
              simpa using this
            · have := anyB_false h.2 _ hu
              simp at this
            · exact edgeTo_spec (allB_mem h hq)
end
end Go.Ai
