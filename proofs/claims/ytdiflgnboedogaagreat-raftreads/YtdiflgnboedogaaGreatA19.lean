/- An interpreter on abstract values: append, held against the model's (with the heaps). -/
import Derived.Test.YtdiflgnboedogaaGreatA18
namespace Go.Ai
section
variable {P : Program} {good : Nat → Code → Prop} {ρ : Rho} {h : Hp} {w : World}

theorem HR.addAbs (hr : HR P good ρ h w) (ob : AO) : HR P good ρ (h.add ob) w := by
  refine ⟨fun o L e => ?_, fun o L x e g => ?_, fun o L o' L' e e' g g' => ?_, fun o ho => ?_⟩
  · have := hr.dom o L e; rw [next_add]; exact ⟨by omega, this.2⟩
  · have := (hr.dom o L e).1
    rw [get_add, if_neg (by omega)] at g
    exact hr.obj o L x e g
  · have h1 := (hr.dom o L e).1
    have h2 := (hr.dom o' L' e').1
    rw [get_add, if_neg (by omega)] at g
    rw [get_add, if_neg (by omega)] at g'
    exact hr.inj o L o' L' e e' g g'
  · rw [next_add] at ho
    rw [get_add, if_neg (by omega)]
    exact hr.fresh o (by omega)
theorem HR.none_next (hr : HR P good ρ h w) : ρ h.next = none := by
  cases he : ρ h.next with
  | none => rfl
  | some L => have := (hr.dom _ L he).1; omega
/-- An object dropped. -/
theorem HR.drop (hr : HR P good ρ h w) (o : Nat) : HR P good ρ (h.upd o none) w := by
  refine ⟨fun q L e => by rw [next_upd]; exact hr.dom q L e, fun q L x e g => ?_, fun q L q' L' e e' g g' => ?_, fun q hq => ?_⟩
  · rw [get_upd] at g
    by_cases hqo : q = o
    · rw [if_pos hqo] at g; cases g
    · rw [if_neg hqo] at g; exact hr.obj q L x e g
  · rw [get_upd] at g g'
    have h1 : q ≠ o := fun e => by rw [if_pos e] at g; exact g rfl
    have h2 : q' ≠ o := fun e => by rw [if_pos e] at g'; exact g' rfl
    rw [if_neg h1] at g; rw [if_neg h2] at g'
    exact hr.inj q L q' L' e e' g g'
  · rw [get_upd]
    by_cases hqo : q = o
    · rw [if_pos hqo]
    · rw [if_neg hqo]; exact hr.fresh q hq
/-- A new object on a new block, and what else may have gone. -/
theorem ext_new {h' : Hp} {w' : World} {L : Loc} {B : Obj} (hr : HR P good ρ h w) (hb : L.blk = w.heap.size) (hw : w'.heap = w.heap.push B) (ht : w'.tape = w.tape) (hos : w'.os = w.os) (hout : w'.output = w.output)
    (hn : h'.next = h.next + 1) (hk : ∀ q, ρ q = none → q < h.next → h'.get q = h.get q ∨ h'.get q = none) : Ext ρ h w (ρ.put h.next L) h' w' := by
  have hid := hr.none_next
  refine ⟨Rho.put_le hid, ?_, hk, by omega, ?_, by rw [hw]; simp, ht, hos, hout⟩
  · intro o M h1 h2
    unfold Rho.put at h2
    by_cases ho : o = h.next
    · rw [if_pos ho] at h2; cases h2; exact ⟨by omega, .inl (by omega)⟩
    · rw [if_neg ho] at h2; rw [h1] at h2; cases h2
  · intro b hlt _
    rw [hw, Array.getElem?_push, if_neg (by omega)]

/-- An object gone over to a new number, on the same block. -/
theorem HR.move (hr : HR P good ρ h w) {o : Nat} {L M : Loc} {ob ob' : AO} {w' : World} (hL : ρ o = some L) (hg : h.get o = some ob) (ht : Turned w w' L.blk) (hM : M.blk = L.blk) (ho : OR P good (ρ.put h.next M) M w' ob') :
    HR P good (ρ.put h.next M) ((h.upd o none).add ob') w' ∧ Ext ρ h w (ρ.put h.next M) ((h.upd o none).add ob') w' := by
  have hid := hr.none_next
  have hle := Rho.put_le (L := M) hid
  have hlt := (hr.dom o L hL)
  refine ⟨⟨fun q K e => ?_, ?_, ?_, ?_⟩, ⟨hle, ?_, ?_, by simp, ?_, by rw [ht.size]; exact Nat.le_refl _, ht.tape, ht.os, ht.output⟩⟩
  · unfold Rho.put at e
    rw [next_add, next_upd, ht.size]
    by_cases hq : q = h.next
    · rw [if_pos hq] at e; cases e; rw [hM]; exact ⟨by omega, hlt.2⟩
    · rw [if_neg hq] at e; have := hr.dom q K e; exact ⟨by omega, this.2⟩
  · intro q K x e g
    rw [get_add, next_upd] at g
    unfold Rho.put at e
    by_cases hq : q = h.next
    · rw [if_pos hq] at e g; cases e; cases g; exact ho
    · rw [if_neg hq] at e g
      rw [get_upd] at g
      by_cases hqo : q = o
      · rw [if_pos hqo] at g; cases g
      · rw [if_neg hqo] at g
        exact (hr.obj q K x e g).mono hle (ht.other _ (hr.inj q K o L e hL (by rw [g]; simp) (by rw [hg]; simp) hqo))
  · have key : ∀ q K, ρ q = some K → q ≠ h.next → (if q = h.next then some ob' else (h.upd o none).get q) ≠ none → K.blk ≠ L.blk := by
      intro q K e hq g
      rw [if_neg hq, get_upd] at g
      by_cases hqo : q = o
      · rw [if_pos hqo] at g; exact absurd rfl g
      · rw [if_neg hqo] at g
        exact hr.inj q K o L e hL g (by rw [hg]; simp) hqo
    intro q K q' K' e e' g g' hne
    rw [get_add, next_upd] at g g'
    unfold Rho.put at e e'
    by_cases hq : q = h.next
    · rw [if_pos hq] at e; cases e
      have hq' : q' ≠ h.next := fun x => hne (hq.trans x.symm)
      rw [if_neg hq'] at e'
      rw [hM]; exact (key q' K' e' hq' g').symm
    · rw [if_neg hq] at e
      by_cases hq' : q' = h.next
      · rw [if_pos hq'] at e'; cases e'
        rw [hM]; exact key q K e hq g
      · rw [if_neg hq'] at e'
        rw [if_neg hq, get_upd] at g
        rw [if_neg hq', get_upd] at g'
        have h1 : q ≠ o := fun x => by rw [if_pos x] at g; exact g rfl
        have h2 : q' ≠ o := fun x => by rw [if_pos x] at g'; exact g' rfl
        rw [if_neg h1] at g; rw [if_neg h2] at g'
        exact hr.inj q K q' K' e e' g g' hne
  · intro q hq
    rw [next_add, next_upd] at hq
    rw [get_add, next_upd, if_neg (by omega), get_upd, if_neg (by omega)]
    exact hr.fresh q (by omega)
  · intro q K h1 h2
    unfold Rho.put at h2
    by_cases hq : q = h.next
    · rw [if_pos hq] at h2; cases h2; exact ⟨by omega, .inr ⟨o, L, hL, hM.symm⟩⟩
    · rw [if_neg hq] at h2; rw [h1] at h2; cases h2
  · intro q h1 h2
    rw [get_add, next_upd, if_neg (by omega), get_upd, if_neg (fun e => by subst e; rw [hL] at h1; cases h1)]
    exact .inl rfl
  · intro b _ hno
    exact ht.other b (fun e => hno o L hL e.symm)

/-- A new object of a row's, on a new block. -/
theorem row_new (hr : HR P good ρ h w) {h1 : Hp} (hr1 : HR P good ρ h1 w) (hn1 : h1.next = h.next) (hk1 : ∀ q, ρ q = none → q < h.next → h1.get q = h.get q ∨ h1.get q = none) {fz : Bool} {cs : List AV} {vs : List Value} {arr : Array Value} {el : TypeId} {newCap n es : Nat} {w' : World}
    (hw : w'.heap = w.heap.push (.cells arr el)) (ht : w'.tape = w.tape) (hos : w'.os = w.os) (hout : w'.output = w.output) (hv : VRs ρ cs vs) (hl : vs.length = n * es) (hcap : n ≤ newCap) (h63 : newCap ≤ 9223372036854775807) (hsz : arr.size = newCap * es) (htake : arr.toList.take (n * es) = vs) (h1' : ∀ x ∈ arr.toList, x.oneCell' = true) :
    ∃ ρ', VR ρ' (.sl h.next 0 n es false) (.slice (some ⟨w.heap.size, 0, none⟩) n newCap) ∧ HR P good ρ' (h1.add (.row fz cs)) w' ∧ Ext ρ h w ρ' (h1.add (.row fz cs)) w' := by
  have hid := hr.none_next
  have hid1 := hr1.none_next
  refine ⟨ρ.put h.next ⟨w.heap.size, 0, arr.size⟩, ?_, ?_, ?_⟩
  · simp only [VR]
    exact ⟨_, _, newCap, Rho.put_same _ _ _, rfl, hcap, (fun hf => by cases hf), .inl ⟨rfl, by show 0 + 0 + newCap * es ≤ arr.size; omega⟩, h63⟩
  · refine (hr1.addAbs (.row fz cs)).new (id := h.next) (ob := .row fz cs) hid (by rw [next_add]; omega) (.inl (by rw [get_add, if_pos hn1.symm])) rfl hw ?_
    refine ⟨arr, el, (0, 0), by rw [hw]; simp, fun j a hj => ?_, ?_, Nat.le_refl _, h1', fun k _ => by simp⟩
    · obtain ⟨x, hx, hxv⟩ := (hv.mono (Rho.put_le hid)).get hj
      refine ⟨x, ?_, hxv⟩
      rw [← htake, List.getElem?_take] at hx
      split at hx
      · simpa using hx
      · cases hx
    · have := hv.length
      have hle : n * es ≤ newCap * es := Nat.mul_le_mul_right _ hcap
      show 0 + cs.length ≤ arr.size
      omega
  · refine ext_new hr rfl hw ht hos hout (by rw [next_add, hn1]) fun q hq hlt => ?_
    rw [get_add, if_neg (by omega)]
    exact hk1 q hq hlt

theorem VRs.oneCell {cs : List AV} {xs : List Value} (_ : VRs ρ cs xs) (h1 : ∀ x ∈ xs, x.oneCell' = true) : ∀ x ∈ xs, x.oneCell' = true := h1

theorem appendA_sound (hr : HR P good ρ h w) {t u ty el ul : TypeId} {es : Nat} (hd : P.underlying t = some (.slice el)) (hu : P.underlying u = some (.slice ul)) (hes : sizeT P el = some es) (hsm : small P el = true) {z : List AV} (hz : zeroC P el = some z)
    {x v : AV} {xv : Value} {m : Nat} {new : List AV} {h' : Hp} (hx : VR ρ x xv) {b : Option Addr} {c : Nat} {vs : List Value} (hf : ∀ w' : World, w'.heap = w.heap → (Builtin.firstCells es m (.slice b m c)).run P w' = .ok vs.toArray w')
    (hv : VRs ρ new vs) (hv1 : ∀ v ∈ vs, v.oneCell' = true) (hvl : vs.length = m * es) (ha : appendA es h x m new = some (v, h')) :
    ∃ v' w' ρ', (Builtin.append_ #[t, u] ty #[xv, .slice b m c]).run P w = .ok v' w' ∧ VR ρ' v v' ∧ HR P good ρ' h' w' ∧ Ext ρ h w ρ' h' w' := by
  unfold appendA at ha
  split at ha
  · simp only [VR] at hx; subst hx
    cases m with
    | zero =>
      obtain ⟨rfl, rfl⟩ := Prod.mk.inj (Option.some.inj ha)
      have hvs : vs = [] := List.eq_nil_of_length_eq_zero (by rw [hvl]; simp)
      subst hvs
      exact ⟨_, w, ρ, append_none hd hu hes (hf w rfl) (Nat.le_refl _), rfl, hr, Ext.refl ρ h w⟩
    | succ m =>
      obtain ⟨hb, ha⟩ := ite_some ha
      have hb := Nat.le_of_ble_eq_true hb
      rw [Hp.addK_eq] at ha
      simp only [Option.some.injEq, Prod.mk.injEq] at ha
      obtain ⟨rfl, rfl⟩ := ha
      obtain ⟨arr, newCap, w', h1, h2, h3, h4, h5, h6, h63, h7, h8, h9⟩ := append_new (a := none) (n := 0) (cap := 0) (old := []) (ty := ty) hd hu hes hsm hz (fun w' _ => by simp [Builtin.firstCells]) hf (by simp) hvl (by omega) (by omega)
      simp only [Nat.zero_add, List.nil_append] at h1 h6 h8
      obtain ⟨ρ', h10, h11, h12⟩ := row_new hr hr rfl (fun q _ _ => .inl rfl) (fz := false) (n := m + 1) h2 h3 h4 h5 hv hvl h6 h63 h7 h8 (h9 (by simp) hv1)
      exact ⟨_, w', ρ', h1, h10, h11, h12⟩
  · rename_i o off n es' full
    have hx' := hx
    simp only [VR] at hx'
    obtain ⟨L, a, cap, hL, rfl, hcap, hfull, haddr, h63⟩ := hx'
    cases m with
    | zero =>
      obtain ⟨rfl, rfl⟩ := Prod.mk.inj (Option.some.inj ha)
      have hvs : vs = [] := List.eq_nil_of_length_eq_zero (by rw [hvl]; simp)
      subst hvs
      exact ⟨_, w, ρ, append_none hd hu hes (hf w rfl) hcap, hx, hr, Ext.refl ρ h w⟩
    | succ m =>
      split at ha
      · rename_i fz cs hg
        obtain ⟨hb, ha⟩ := ite_some ha
        rw [Bool.and_eq_true, Bool.and_eq_true, Bool.and_eq_true] at hb
        obtain ⟨he, hbig, hfit, hfz⟩ := hb
        have he := Nat.eq_of_beq_eq_true he
        subst he
        have hbig := Nat.le_of_ble_eq_true hbig
        have hcells : cellsOf es' h (.sl o off n es' full) = some (n, tak (drp cs off) (n * es')) := by
          unfold cellsOf; simp only [hg, hfit, if_true]
        have hfit := Nat.le_of_ble_eq_true hfit
        rw [len_eq] at hfit
        obtain ⟨b2, c2, old, e2, hold, hov, ho1, hol⟩ := cellsOf_sound hr hx hcells
        have hall : VRs ρ (app (tak (drp cs off) (n * es')) new) (old ++ vs) := by rw [app_eq]; exact hov.app hv
        have hlen : (old ++ vs).length = (n + (m + 1)) * es' := by rw [List.length_append, hol, hvl, ← Nat.add_mul]
        have newcase : cap < n + (m + 1) → ∀ h1 : Hp, HR P good ρ h1 w → h1.next = h.next → (∀ q, ρ q = none → q < h.next → h1.get q = h.get q ∨ h1.get q = none) → ∀ f : Bool,
            ∃ v' w' ρ', (Builtin.append_ #[t, u] ty #[.slice (some a) n cap, .slice b (m + 1) c]).run P w = .ok v' w' ∧ VR ρ' (.sl h.next 0 (n + (m + 1)) es' false) v' ∧ HR P good ρ' (h1.add (.row f (app (tak (drp cs off) (n * es')) new))) w' ∧ Ext ρ h w ρ' (h1.add (.row f (app (tak (drp cs off) (n * es')) new))) w' := by
          intro hlt h1 hr1 hn1 hk1 f
          obtain ⟨arr, newCap, w', g1, g2, g3, g4, g5, g6, g63, g7, g8, g9⟩ := append_new (ty := ty) hd hu hes hsm hz hold hf hol hvl hlt hbig
          obtain ⟨ρ', g10, g11, g12⟩ := row_new hr hr1 hn1 hk1 (fz := f) (n := n + (m + 1)) g2 g3 g4 g5 hall hlen g6 g63 g7 g8 (g9 ho1 hv1)
          exact ⟨_, w', ρ', g1, g10, g11, g12⟩
        split at ha
        · rename_i hfu
          rw [Hp.addK_eq] at ha
          simp only [Option.some.injEq, Prod.mk.injEq] at ha
          obtain ⟨rfl, rfl⟩ := ha
          have := hfull hfu
          exact newcase (by omega) h hr rfl (fun q _ _ => .inl rfl) false
        · rw [Hp.updK_eq, Hp.addK_eq] at ha
          simp only [Option.some.injEq, Prod.mk.injEq] at ha
          obtain ⟨rfl, rfl⟩ := ha
          by_cases hroom : n + (m + 1) ≤ cap
          · rcases haddr with ⟨rfl, hcapfin⟩ | h0
            · obtain ⟨arr, elem, fr, b1, b3, b4, b5, b6, b7⟩ := hr.obj o L _ hL hg
              have hm1 : (n + (m + 1)) * es' ≤ cap * es' := Nat.mul_le_mul_right _ hroom
              have hsum : (n + (m + 1)) * es' = n * es' + (m + 1) * es' := Nat.add_mul _ _ _
              rw [Bool.or_eq_true] at hfz
              have hfz' : ∀ f, fz = f → L.off + (if f then cs.length else 0) ≤ L.off + off + n * es' := by
                intro f hf'
                subst hf'
                cases fz with
                | false => simp; omega
                | true =>
                  rcases hfz with hfz | hfz
                  · cases hfz
                  · have := Nat.eq_of_beq_eq_true hfz
                    rw [len_eq] at this
                    simp; omega
              obtain ⟨w', arr', s1, s2, s3, s4⟩ := storeCells_run (P := P) (b := L.blk) (off := L.off + off + n * es') (t := elem) (fr := fr) vs 0 arr w b1 (by omega)
                (fun k hk1 hk2 => b7 k (by have := hfz' fz rfl; omega)) hv1
              simp only [Nat.add_zero] at s3
              have hsz : arr'.size = arr.size := by
                have : arr'.toList.length = arr.toList.length := by rw [s3]; simp; omega
                simpa using this
              have hrow : OR P good (ρ.put h.next ⟨L.blk, L.off + off, L.fin⟩) ⟨L.blk, L.off + off, L.fin⟩ w' (.row fz (app (tak (drp cs off) (n * es')) new)) := by
                have hle := Rho.put_le (L := ⟨L.blk, L.off + off, L.fin⟩) hr.none_next
                rw [app_eq, tak_eq, drp_eq]
                have hlt : (List.take (n * es') (List.drop off cs)).length = n * es' := by simp; omega
                have hnl := hv.length
                refine ⟨arr', elem, fr, s2, fun j q hj => ?_, by simp only [List.length_append, hlt]; omega, by show L.fin ≤ arr'.size; omega, ?_, ?_⟩
                · have hget : arr'[L.off + off + j]? = (arr.toList.take (L.off + off + n * es') ++ vs ++ arr.toList.drop (L.off + off + n * es' + vs.length))[L.off + off + j]? := by rw [← s3]; simp
                  show ∃ x, arr'[L.off + off + j]? = some x ∧ _
                  rw [hget]
                  by_cases hj1 : j < n * es'
                  · rw [List.getElem?_append_left (by rw [hlt]; exact hj1), List.getElem?_take, if_pos hj1, List.getElem?_drop] at hj
                    obtain ⟨x, hx1, hx2⟩ := b3 _ q hj
                    refine ⟨x, ?_, hx2.mono hle⟩
                    rw [List.append_assoc, List.getElem?_append_left (by simp; omega), List.getElem?_take, if_pos (by omega)]
                    rw [← Nat.add_assoc] at hx1
                    simpa using hx1
                  · rw [List.getElem?_append_right (by rw [hlt]; omega), hlt] at hj
                    obtain ⟨x, hx1, hx2⟩ := hv.get hj
                    have hjl : j - n * es' < vs.length := (List.getElem?_eq_some_iff.1 hx1).1
                    refine ⟨x, ?_, hx2.mono hle⟩
                    rw [List.append_assoc, List.getElem?_append_right (by simp; omega), List.getElem?_append_left (by simp; omega), ← hx1]
                    congr 1; simp; omega
                · rw [s3]
                  intro x hx1
                  simp only [List.mem_append] at hx1
                  rcases hx1 with (hx1 | hx1) | hx1
                  · exact b6 x (List.mem_of_mem_take hx1)
                  · exact hv1 x hx1
                  · exact b6 x (List.mem_of_mem_drop hx1)
                · intro k hk1
                  refine b7 k ?_
                  have := hfz' fz rfl
                  cases fz with
                  | false => simp at hk1 ⊢; omega
                  | true =>
                    simp only [if_true, List.length_append, hlt] at hk1 this ⊢
                    omega
              obtain ⟨q1, q2⟩ := hr.move (M := ⟨L.blk, L.off + off, L.fin⟩) hL hg s4 rfl hrow
              refine ⟨_, w', _, append_room (a := ⟨L.blk, L.off + off, none⟩) (ty := ty) hd hu hes (hf w rfl) hroom (by rw [add_addr]; exact s1), ?_, q1, q2⟩
              simp only [VR]
              exact ⟨_, _, cap, Rho.put_same _ _ _, rfl, hroom, (fun hf => by cases hf), .inl ⟨rfl, by show L.off + off + 0 + cap * es' ≤ L.fin; omega⟩, h63⟩
            · omega
          · refine newcase (by omega) (h.upd o none) (hr.drop o) rfl (fun q hq _ => ?_) fz
            rw [get_upd]
            by_cases hqo : q = o
            · rw [if_pos hqo]; exact .inr rfl
            · rw [if_neg hqo]; exact .inl rfl
      · cases ha
  · cases ha
end
end Go.Ai
