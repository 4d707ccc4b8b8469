/- An interpreter on abstract values: what writes, held against the model's. -/
import Derived.Test.YtdiflgnboedogaaGreatA16
namespace Go.Ai
section
variable {P : Program} {good : Nat → Code → Prop} {ρ : Rho} {h : Hp} {w : World}

def frz (fr : Nat × Nat) (k : Nat) : Bool := decide (fr.1 ≤ k) && decide (k < fr.2)
/-- One block turned, nothing else. -/
structure Turned (w w' : World) (b : Nat) : Prop where
  other : ∀ k, k ≠ b → w'.heap[k]? = w.heap[k]?
  size : w'.heap.size = w.heap.size
  tape : w'.tape = w.tape
  os : w'.os = w.os
  output : w'.output = w.output
theorem Turned.refl (w : World) (b : Nat) : Turned w w b := ⟨fun _ _ => rfl, rfl, rfl, rfl, rfl⟩
theorem Turned.trans {w w' w'' : World} {b : Nat} (a : Turned w w' b) (c : Turned w' w'' b) : Turned w w'' b :=
  ⟨fun k hk => (c.other k hk).trans (a.other k hk), c.size.trans a.size, c.tape.trans a.tape, c.os.trans a.os, c.output.trans a.output⟩

theorem setCell_block {b k : Nat} {arr : Array Value} {t : TypeId} {fr : Nat × Nat} (hb : w.heap[b]? = some (.cells arr t fr)) (v : Value) :
    (w.setCell ⟨b, k, none⟩ v).heap[b]? = some (.cells (arr.setIfInBounds k v) t fr) ∧ Turned w (w.setCell ⟨b, k, none⟩ v) b := by
  have hlt := (Array.getElem?_eq_some_iff.1 hb).1
  constructor
  · simp [World.setCell, Array.getElem?_modify, hb]
  · refine ⟨fun q hq => ?_, ?_, rfl, rfl, rfl⟩
    · simp [World.setCell, Array.getElem?_modify, Ne.symm hq]
    · simp [World.setCell]
theorem storeCells_run {b off : Nat} {t : TypeId} {fr : Nat × Nat} : ∀ (vs : List Value) (i : Nat) (arr : Array Value) (w : World), w.heap[b]? = some (.cells arr t fr) → off + i + vs.length ≤ arr.size →
    (∀ k, off + i ≤ k → k < off + i + vs.length → frz fr k = false) → (∀ v ∈ vs, v.oneCell' = true) →
    ∃ w' arr', (storeCells ⟨b, off, none⟩ vs i).run P w = .ok () w' ∧ w'.heap[b]? = some (.cells arr' t fr) ∧ arr'.toList = arr.toList.take (off + i) ++ vs ++ arr.toList.drop (off + i + vs.length) ∧ Turned w w' b
  | [], i, arr, w, hb, _, _, _ => ⟨w, arr, rfl, hb, by simp, Turned.refl w b⟩
  | v :: vs, i, arr, w, hb, hl, hf, h1 => by
    simp only [List.length_cons] at hl
    have hlt : off + i < arr.size := by omega
    obtain ⟨h2, h3⟩ := setCell_block (k := off + i) hb v
    obtain ⟨w', arr', h4, h5, h6, h7⟩ := storeCells_run (b := b) (off := off) vs (i + 1) (arr.setIfInBounds (off + i) v) (w.setCell ⟨b, off + i, none⟩ v) h2 (by simp; omega)
      (fun k hk1 hk2 => hf k (by omega) (by simp only [List.length_cons]; omega)) (fun x hx => h1 x (by simp [hx]))
    refine ⟨w', arr', ?_, h5, ?_, h3.trans h7⟩
    · have hc : w.cell? ⟨b, off + i, none⟩ = some arr[off + i] := by simp [World.cell?, hb, hlt]
      have hz : w.frozen? ⟨b, off + i, none⟩ = false := by
        have := hf (off + i) (Nat.le_refl _) (by simp)
        simpa [World.frozen?, hb, frz] using this
      have hst : (store ((⟨b, off, none⟩ : Addr).add i) v).run P w = .ok () (w.setCell ⟨b, off + i, none⟩ v) := by
        rw [add_addr, run_store P w _ v _ (h1 v (by simp)), hc]
        simp only [hz, Bool.false_eq_true, if_false]
      simp only [storeCells, Sem.run_bind, hst, Result.andThen_ok]
      exact h4
    · rw [h6]
      simp only [Array.toList_setIfInBounds, List.length_cons]
      have e1 : (arr.toList.set (off + i) v).take (off + (i + 1)) = arr.toList.take (off + i) ++ [v] := by
        rw [← Nat.add_assoc, List.take_add_one, List.take_set, List.getElem?_set]
        have : off + i < arr.toList.length := by simpa using hlt
        simp only [this, if_true]
        rw [List.set_eq_of_length_le (by simp; omega)]
        simp
      have e2 : (arr.toList.set (off + i) v).drop (off + (i + 1) + vs.length) = arr.toList.drop (off + i + (vs.length + 1)) := by
        rw [List.drop_set_of_lt (by omega)]
        congr 1; omega
      rw [e1, e2]; simp

theorem HR.upd (hr : HR P good ρ h w) {o : Nat} {L : Loc} {ob ob' : AO} {w' : World} (hL : ρ o = some L) (hg : h.get o = some ob) (ht : Turned w w' L.blk) (ho : OR P good ρ L w' ob') :
    HR P good ρ (h.upd o (some ob')) w' ∧ Ext ρ h w ρ (h.upd o (some ob')) w' := by
  refine ⟨⟨fun q M e => by rw [next_upd, ht.size]; exact hr.dom q M e, ?_, ?_, ?_⟩, ⟨Le.refl ρ, fun q M h1 h2 => (by rw [h1] at h2; cases h2), ?_, Nat.le_refl _, ?_, by rw [ht.size]; exact Nat.le_refl _, ht.tape, ht.os, ht.output⟩⟩
  · intro q M x e g
    rw [get_upd] at g
    by_cases hq : q = o
    · rw [if_pos hq] at g; cases g; subst hq
      rw [hL] at e; cases e; exact ho
    · rw [if_neg hq] at g
      exact (hr.obj q M x e g).mono (Le.refl ρ) (ht.other _ (hr.inj q M o L e hL (by rw [g]; simp) (by rw [hg]; simp) hq))
  · intro q M q' M' e e' g g' hne
    rw [get_upd] at g g'
    refine hr.inj q M q' M' e e' ?_ ?_ hne
    · by_cases hq : q = o
      · subst hq; rw [hg]; simp
      · rwa [if_neg hq] at g
    · by_cases hq : q' = o
      · subst hq; rw [hg]; simp
      · rwa [if_neg hq] at g'
  · intro q hq
    rw [get_upd]
    have := (hr.dom o L hL).1
    rw [if_neg (by rw [next_upd] at hq; omega)]
    exact hr.fresh q hq
  · intro q h1 _
    rw [get_upd, if_neg (fun e => by subst e; rw [hL] at h1; cases h1)]
    exact .inl rfl
  · intro b _ hno
    exact ht.other b (fun e => hno o L hL e.symm)

/-- New cells laid over an object's. -/
theorem HR.lay (hr : HR P good ρ h w) {o off : Nat} {L : Loc} {cs new c : List AV} {vs : List Value} (hL : ρ o = some L) (hg : h.get o = some (.row false cs)) (hp : put cs new off = some c) (hv : VRs ρ new vs) (h1 : ∀ v ∈ vs, v.oneCell' = true) :
    ∃ w', (storeCells ⟨L.blk, L.off + off, none⟩ vs).run P w = .ok () w' ∧ HR P good ρ (h.upd o (some (.row false c))) w' ∧ Ext ρ h w ρ (h.upd o (some (.row false c))) w' := by
  obtain ⟨arr, elem, fr, h2, h3, h4, h5, h6, h7⟩ := hr.obj o L _ hL hg
  rw [put_eq] at hp
  by_cases hfit : off + new.length ≤ cs.length
  · rw [if_pos hfit, Option.some.injEq] at hp; subst hp
    have hl := hv.length
    obtain ⟨w', arr', h8, h9, h10, h11⟩ := storeCells_run (P := P) (b := L.blk) (off := L.off + off) (t := elem) (fr := fr) vs 0 arr w h2 (by omega)
      (fun k hk1 hk2 => h7 k (by simp; omega)) h1
    simp only [Nat.add_zero] at h10
    have hsz : arr'.size = arr.size := by
      have : arr'.toList.length = arr.toList.length := by rw [h10]; simp; omega
      simpa using this
    refine ⟨w', h8, hr.upd hL hg h11 ⟨arr', elem, fr, h9, ?_, by simp; omega, by omega, ?_, ?_⟩⟩
    · intro j a hj
      have hget : arr'[L.off + j]? = (arr.toList.take (L.off + off) ++ vs ++ arr.toList.drop (L.off + off + vs.length))[L.off + j]? := by rw [← h10]; simp
      rw [hget]
      by_cases hj1 : j < off
      · rw [List.append_assoc, List.getElem?_append_left (by simp; omega)] at hj
        rw [List.getElem?_take, if_pos hj1] at hj
        obtain ⟨x, hx, hxv⟩ := h3 j a hj
        refine ⟨x, ?_, hxv⟩
        rw [List.append_assoc, List.getElem?_append_left (by simp; omega), List.getElem?_take, if_pos (by omega)]
        simpa using hx
      · by_cases hj2 : j < off + new.length
        · rw [List.append_assoc, List.getElem?_append_right (by simp; omega), List.getElem?_append_left (by simp; omega)] at hj
          obtain ⟨x, hx, hxv⟩ := hv.get hj
          refine ⟨x, ?_, hxv⟩
          rw [List.append_assoc, List.getElem?_append_right (by simp; omega), List.getElem?_append_left (by simp; omega), ← hx]
          congr 1; simp; omega
        · rw [List.getElem?_append_right (by simp; omega), List.getElem?_drop] at hj
          obtain ⟨x, hx, hxv⟩ := h3 _ a hj
          refine ⟨x, ?_, hxv⟩
          rw [List.getElem?_append_right (by simp; omega), List.getElem?_drop]
          have : L.off + off + vs.length + (L.off + j - (arr.toList.take (L.off + off) ++ vs).length) = L.off + (off + new.length + (j - (cs.take off ++ new).length)) := by simp; omega
          rw [this]
          simpa using hx
    · rw [h10]
      intro x hx
      simp only [List.mem_append] at hx
      rcases hx with (hx | hx) | hx
      · exact h6 x (List.mem_of_mem_take hx)
      · exact h1 x hx
      · exact h6 x (List.mem_of_mem_drop hx)
    · intro k hk1
      exact h7 k hk1
  · rw [if_neg hfit] at hp; cases hp
end
end Go.Ai
