/- An interpreter on abstract values: the heaps side by side. -/
import Derived.Test.YtdiflgnboedogaaGreatA5
namespace Go.Ai

def MRs (ρ : Rho) : List (AV × AV) → List MapEntry → Prop
  | [], es => es = []
  | (k, v) :: l, es => ∃ e r, es = e :: r ∧ VR ρ k e.key ∧ VR ρ v e.val ∧ MRs ρ l r
theorem MRs.mono {ρ ρ' : Rho} (h : Le ρ ρ') : ∀ {l : List (AV × AV)} {es : List MapEntry}, MRs ρ l es → MRs ρ' l es
  | [], _, hv => by simpa [MRs] using hv
  | (k, v) :: l, _, hv => by
    simp only [MRs] at hv ⊢
    obtain ⟨e, r, h1, h2, h3, h4⟩ := hv
    exact ⟨e, r, h1, h2.mono h, h3.mono h, MRs.mono h h4⟩

/-- Keys that are of one kind. -/
def sameKind : AV → AV → Bool
  | .b _, .b _ => true
  | .i j _, .i k _ => j == k
  | .s _, .s _ => true
  | _, _ => false
def KeysApart (p q : AV × AV) : Prop := p.1 ≠ q.1 ∧ sameKind p.1 q.1 = true
def UKeys (es : List (AV × AV)) : Prop := es.Pairwise KeysApart
theorem sameKind_symm {a b : AV} (h : sameKind a b = true) : sameKind b a = true := by
  cases a <;> cases b <;> simp [sameKind] at h ⊢
  exact h.symm
theorem KeysApart.symm {p q : AV × AV} (h : KeysApart p q) : KeysApart q p := ⟨h.1.symm, sameKind_symm h.2⟩
theorem UKeys.perm {l l' : List (AV × AV)} (h : UKeys l) (hp : l.Perm l') : UKeys l' := hp.pairwise h (fun h => h.symm)

def FR (ρ : Rho) (r : Regs) (tmps : Array Value) : Prop := ∀ t, t < 1024 → VR ρ (Regs.get r (slot t)) (tmps.getD t undef)
theorem FR.mono {ρ ρ' : Rho} (h : Le ρ ρ') {r : Regs} {tmps : Array Value} (hf : FR ρ r tmps) : FR ρ' r tmps :=
  fun t ht => (hf t ht).mono h

def LStR : LSt → LoopState → Prop
  | .ready, s => s = .ready
  | .busy, s => s = .busy
  | .done, s => s = .done
  | .over, s => s = .exhausted
def PendR : Ex → Option Code → Prop
  | .norm, c => c = none
  | .ret, c => c = some .ret
  | .exit id, c => c = some (.exit id)

/-- What a program's code must meet (said where the regions are treated). -/
structure CodeR (P : Program) (good : Nat → Code → Prop) (m : Nat) (c : Code) (a : AC) : Prop where
  eq : codeC P c = a
  ok : good m c

def OR (P : Program) (good : Nat → Code → Prop) (ρ : Rho) (L : Loc) (w : World) : AO → Prop
  | .row fz cs => ∃ arr elem fr, w.heap[L.blk]? = some (.cells arr elem fr) ∧ (∀ (j : Nat) (a : AV), cs[j]? = some a → ∃ x, arr[L.off + j]? = some x ∧ VR ρ a x) ∧
      L.off + cs.length ≤ L.fin ∧ L.fin ≤ arr.size ∧ (∀ x ∈ arr.toList, x.oneCell' = true) ∧
      (∀ k : Nat, L.off + (if fz then cs.length else 0) ≤ k → (decide (fr.1 ≤ k) && decide (k < fr.2)) = false)
  | .map es => ∃ ents clock es', w.heap[L.blk]? = some (.map ents clock) ∧ MRs ρ es' ents.toList ∧ es'.Perm es ∧ UKeys es
  | .loop st pend r ps assign body => ∃ lp : Loop, w.heap[L.blk]? = some (.loop lp) ∧ LStR st lp.state ∧ PendR pend lp.pending ∧ FR ρ r lp.tmps ∧
      lp.params.toList.map slot = ps ∧ (∀ t ∈ lp.params.toList, t < lp.tmps.size ∧ t < 1024) ∧ CodeR P good lp.tmps.size lp.assign assign ∧ CodeR P good lp.tmps.size lp.body body
  | .iter l pos => ∃ bs : ByteArray, w.heap[L.blk]? = some (.stringIter bs pos) ∧ l = bs.data.toList.map UInt8.toNat ∧ L.off = 0

theorem OR.mono {P : Program} {good : Nat → Code → Prop} {ρ ρ' : Rho} (h : Le ρ ρ') {L : Loc} {w w' : World} (hw : w'.heap[L.blk]? = w.heap[L.blk]?) {o : AO} (ho : OR P good ρ L w o) : OR P good ρ' L w' o := by
  cases o with
  | row fz cs =>
    obtain ⟨arr, elem, fr, h1, h2, h3⟩ := ho
    exact ⟨arr, elem, fr, hw.trans h1, fun j a ha => let ⟨x, hx, hv⟩ := h2 j a ha; ⟨x, hx, hv.mono h⟩, h3⟩
  | map es =>
    obtain ⟨ents, clock, es', h1, h2, h3⟩ := ho
    exact ⟨ents, clock, es', hw.trans h1, h2.mono h, h3⟩
  | loop st pend r ps assign body =>
    obtain ⟨lp, h1, h2, h3, h4, h5⟩ := ho
    exact ⟨lp, hw.trans h1, h2, h3, h4.mono h, h5⟩
  | iter l pos =>
    obtain ⟨bs, h1, h2⟩ := ho
    exact ⟨bs, hw.trans h1, h2⟩
theorem OR.lt {P : Program} {good : Nat → Code → Prop} {ρ : Rho} {L : Loc} {w : World} {o : AO} (ho : OR P good ρ L w o) : L.blk < w.heap.size := by
  have key : ∀ x, w.heap[L.blk]? = some x → L.blk < w.heap.size := fun x hx => (Array.getElem?_eq_some_iff.1 hx).1
  cases o with
  | row fz cs => obtain ⟨arr, elem, fr, h1, _⟩ := ho; exact key _ h1
  | map es => obtain ⟨ents, clock, _, h1, _⟩ := ho; exact key _ h1
  | loop st pend r ps assign body => obtain ⟨lp, h1, _⟩ := ho; exact key _ h1
  | iter l pos => obtain ⟨bs, h1, _⟩ := ho; exact key _ h1

structure HR (P : Program) (good : Nat → Code → Prop) (ρ : Rho) (h : Hp) (w : World) : Prop where
  dom : ∀ o L, ρ o = some L → o < h.next ∧ L.blk < w.heap.size
  obj : ∀ o L ob, ρ o = some L → h.get o = some ob → OR P good ρ L w ob
  inj : ∀ o L o' L', ρ o = some L → ρ o' = some L' → h.get o ≠ none → h.get o' ≠ none → o ≠ o' → L.blk ≠ L'.blk
  fresh : ∀ o, h.next ≤ o → h.get o = none

structure Ext (ρ : Rho) (h : Hp) (w : World) (ρ' : Rho) (h' : Hp) (w' : World) : Prop where
  le : Le ρ ρ'
  new : ∀ o L, ρ o = none → ρ' o = some L → h.next ≤ o ∧ (w.heap.size ≤ L.blk ∨ ∃ q M, ρ q = some M ∧ M.blk = L.blk)
  keep : ∀ o, ρ o = none → o < h.next → h'.get o = h.get o ∨ h'.get o = none
  next : h.next ≤ h'.next
  frame : ∀ b, b < w.heap.size → (∀ o L, ρ o = some L → L.blk ≠ b) → w'.heap[b]? = w.heap[b]?
  size : w.heap.size ≤ w'.heap.size
  tape : w'.tape = w.tape
  os : w'.os = w.os
  output : w'.output = w.output

theorem Ext.refl (ρ : Rho) (h : Hp) (w : World) : Ext ρ h w ρ h w :=
  ⟨Le.refl ρ, fun o L h1 h2 => (by rw [h1] at h2; cases h2), fun _ _ _ => .inl rfl, Nat.le_refl _, fun _ _ _ => rfl, Nat.le_refl _, rfl, rfl, rfl⟩
theorem Ext.trans {ρ ρ' ρ'' : Rho} {h h' h'' : Hp} {w w' w'' : World} (a : Ext ρ h w ρ' h' w') (b : Ext ρ' h' w' ρ'' h'' w'') : Ext ρ h w ρ'' h'' w'' := by
  refine ⟨a.le.trans b.le, ?_, ?_, Nat.le_trans a.next b.next, ?_, Nat.le_trans a.size b.size, b.tape.trans a.tape, b.os.trans a.os, b.output.trans a.output⟩
  · intro o L h0 h2
    cases h1 : ρ' o with
    | none =>
      obtain ⟨h3, h4⟩ := b.new o L h1 h2
      refine ⟨Nat.le_trans a.next h3, ?_⟩
      rcases h4 with h4 | ⟨q, M, hq, hM⟩
      · exact .inl (Nat.le_trans a.size h4)
      · cases hq0 : ρ q with
        | some M0 =>
          have := a.le q M0 hq0
          rw [hq] at this; cases this
          exact .inr ⟨q, M, hq0, hM⟩
        | none =>
          obtain ⟨_, h6⟩ := a.new q M hq0 hq
          rcases h6 with h6 | ⟨q', M', hq', hM'⟩
          · exact .inl (hM ▸ h6)
          · exact .inr ⟨q', M', hq', hM'.trans hM⟩
    | some L1 =>
      have := b.le o L1 h1
      rw [h2] at this; cases this
      exact a.new o L h0 h1
  · intro o h0 hlt
    have h1 : ρ' o = none := by
      cases h1 : ρ' o with
      | none => rfl
      | some L => have := (a.new o L h0 h1).1; omega
    rcases b.keep o h1 (Nat.lt_of_lt_of_le hlt a.next) with e | e
    · rw [e]; exact a.keep o h0 hlt
    · exact .inr e
  · intro blk hlt hno
    have h1 := a.frame blk hlt hno
    rw [← h1]
    refine b.frame blk (Nat.lt_of_lt_of_le hlt a.size) fun o L ho => ?_
    cases h0 : ρ o with
    | some L0 =>
      have := a.le o L0 h0
      rw [ho] at this; cases this
      exact hno o L h0
    | none =>
      obtain ⟨_, h6⟩ := a.new o L h0 ho
      rcases h6 with h6 | ⟨q, M, hq, hM⟩
      · omega
      · rw [← hM]; exact hno q M hq

/-- A world that has drawn, or marked, alone. -/
theorem HR.world {P : Program} {good : Nat → Code → Prop} {ρ : Rho} {h : Hp} {w w' : World} (hr : HR P good ρ h w) (hh : w'.heap = w.heap) : HR P good ρ h w' :=
  ⟨fun o L e => by rw [hh]; exact hr.dom o L e, fun o L ob e g => (hr.obj o L ob e g).mono (Le.refl ρ) (by rw [hh]), hr.inj, hr.fresh⟩

theorem get_add (h : Hp) (o : AO) (k : Nat) : (h.add o).get k = if k = h.next then some o else h.get k := T.get_set _ _ _ _
theorem get_upd (h : Hp) (o : Option AO) (j k : Nat) : (h.upd j o).get k = if k = j then o else h.get k := T.get_set _ _ _ _
@[simp] theorem next_add (h : Hp) (o : AO) : (h.add o).next = h.next + 1 := rfl
@[simp] theorem next_upd (h : Hp) (j : Nat) (o : Option AO) : (h.upd j o).next = h.next := rfl

/-- One number more. -/
def Rho.put (ρ : Rho) (o : Nat) (L : Loc) : Rho := fun k => if k = o then some L else ρ k
theorem Rho.put_le {ρ : Rho} {o : Nat} {L : Loc} (h : ρ o = none) : Le ρ (ρ.put o L) := fun k M e => by
  unfold Rho.put
  by_cases hk : k = o
  · subst hk; rw [h] at e; cases e
  · rw [if_neg hk]; exact e
theorem Rho.put_same (ρ : Rho) (o : Nat) (L : Loc) : (ρ.put o L) o = some L := by simp [Rho.put]

/-- A new object on a new block. The abstract one may be there already (laid ahead), or be gone. -/
theorem HR.new {P : Program} {good : Nat → Code → Prop} {ρ : Rho} {h : Hp} {w w' : World} (hr : HR P good ρ h w) {id : Nat} {ob : AO} {L : Loc} {B : Obj} (hid : ρ id = none) (hlt : id < h.next)
    (hg : h.get id = some ob ∨ h.get id = none) (hb : L.blk = w.heap.size) (hw : w'.heap = w.heap.push B) (ho : OR P good (ρ.put id L) L w' ob) : HR P good (ρ.put id L) h w' := by
  have hle := Rho.put_le (L := L) hid
  have hold : ∀ b, b < w.heap.size → w'.heap[b]? = w.heap[b]? := fun b hb => by rw [hw, Array.getElem?_push]; rw [if_neg (by omega)]
  have hsz : w'.heap.size = w.heap.size + 1 := by rw [hw]; simp
  refine ⟨?_, ?_, ?_, hr.fresh⟩
  · intro o M e
    unfold Rho.put at e
    by_cases hk : o = id
    · rw [if_pos hk] at e; cases e; subst hk; exact ⟨hlt, by omega⟩
    · rw [if_neg hk] at e; have := hr.dom o M e; exact ⟨this.1, by omega⟩
  · intro o M ob' e g
    unfold Rho.put at e
    by_cases hk : o = id
    · rw [if_pos hk] at e; cases e; subst hk
      rcases hg with hg | hg
      · rw [hg] at g; cases g; exact ho
      · rw [hg] at g; cases g
    · rw [if_neg hk] at e
      exact (hr.obj o M ob' e g).mono hle (hold _ (hr.dom o M e).2)
  · intro o M o' M' e e' g g' hne
    unfold Rho.put at e e'
    by_cases hk : o = id
    · rw [if_pos hk] at e; cases e
      have hk' : o' ≠ id := fun x => hne (hk.trans x.symm)
      rw [if_neg hk'] at e'
      have := (hr.dom o' M' e').2; omega
    · rw [if_neg hk] at e
      by_cases hk' : o' = id
      · rw [if_pos hk'] at e'; cases e'
        have := (hr.dom o M e).2; omega
      · rw [if_neg hk'] at e'; exact hr.inj o M o' M' e e' g g' hne
end Go.Ai
