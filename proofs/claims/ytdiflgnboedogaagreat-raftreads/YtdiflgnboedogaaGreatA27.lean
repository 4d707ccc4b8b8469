/- An interpreter on abstract values: what its runs are in the large, and what they have to mean. -/
import Derived.Test.YtdiflgnboedogaaGreatA26f
import Derived.RangeFuncRecord
import Derived.RangeFuncLeaves
namespace Go.Ai
section
variable (P : Program)

def noRange : Code → Bool
  | .rangeFunc _ _ _ _ => false
  | .seq a b => noRange a && noRange b
  | .cond _ t e => noRange t && noRange e
  | .block _ c => noRange c
  | .loop c => noRange c
  | .scope c => noRange c
  | _ => true
noncomputable def goodC (m : Nat) : Code → Bool
  | .skip => true
  | .label _ => true
  | .ret => true
  | .exit _ => true
  | .region _ ops _ => goodReg P m ops.toList
  | .seq a b => goodC m a && goodC m b
  | .cond _ t e => goodC m t && goodC m e
  | .block _ c => goodC m c
  | .loop c => goodC m c
  | .rangeFunc _ ps a b => allB (fun t => Nat.blt t m && Nat.blt t 1024) ps.toList && (goodC m a && (goodC m b && (noRange a && noRange b)))
  | .scope _ => false
  | .goto _ => false
  | .refuse _ => false
abbrev Good : Nat → Code → Prop := fun m c => goodC P m c = true ∧ noRange c = true

variable {P}
theorem inv_badAC {c : Code} {x : AC} (h : codeC P c = x) (hx : ∀ c t e, x ≠ .cond c t e) : codeC P c ≠ badAC := fun e => by
  rw [h] at e; exact hx _ _ _ e
theorem inv_seq {c : Code} {a b : AC} {m : Nat} (h : codeC P c = .seq a b) (hg : goodC P m c = true) : ∃ x y, c = .seq x y ∧ codeC P x = a ∧ codeC P y = b ∧ goodC P m x = true ∧ goodC P m y = true := by
  cases c with
  | seq x y =>
    simp only [codeC, AC.seq.injEq] at h
    simp only [goodC, Bool.and_eq_true] at hg
    exact ⟨x, y, rfl, h.1, h.2, hg.1, hg.2⟩
  | region id ops d => simp only [codeC] at h; split at h <;> simp [badAC] at h
  | cond c t e => simp only [codeC] at h; split at h <;> simp [badAC] at h
  | rangeFunc f ps a b => simp only [codeC] at h; split at h <;> simp [badAC] at h
  | scope c => simp [goodC] at hg
  | _ => simp [codeC, badAC] at h
theorem inv_block {c : Code} {id : Nat} {a : AC} {m : Nat} (h : codeC P c = .block id a) (hg : goodC P m c = true) : ∃ x, c = .block id x ∧ codeC P x = a ∧ goodC P m x = true := by
  cases c with
  | block i x =>
    simp only [codeC, AC.block.injEq] at h
    simp only [goodC] at hg
    exact ⟨x, by rw [h.1], h.2, hg⟩
  | region id ops d => simp only [codeC] at h; split at h <;> simp [badAC] at h
  | cond c t e => simp only [codeC] at h; split at h <;> simp [badAC] at h
  | rangeFunc f ps a b => simp only [codeC] at h; split at h <;> simp [badAC] at h
  | scope c => simp [goodC] at hg
  | _ => simp [codeC, badAC] at h
theorem inv_loop {c : Code} {a : AC} {m : Nat} (h : codeC P c = .loop a) (hg : goodC P m c = true) : ∃ x, c = .loop x ∧ codeC P x = a ∧ goodC P m x = true := by
  cases c with
  | loop x =>
    simp only [codeC, AC.loop.injEq] at h
    simp only [goodC] at hg
    exact ⟨x, rfl, h, hg⟩
  | region id ops d => simp only [codeC] at h; split at h <;> simp [badAC] at h
  | cond c t e => simp only [codeC] at h; split at h <;> simp [badAC] at h
  | rangeFunc f ps a b => simp only [codeC] at h; split at h <;> simp [badAC] at h
  | scope c => simp [goodC] at hg
  | _ => simp [codeC, badAC] at h
theorem inv_exit {c : Code} {id : Nat} {m : Nat} (h : codeC P c = .exit id) (hg : goodC P m c = true) : c = .exit id := by
  cases c with
  | exit i => simp only [codeC, AC.exit.injEq] at h; rw [h]
  | region id ops d => simp only [codeC] at h; split at h <;> simp [badAC] at h
  | cond c t e => simp only [codeC] at h; split at h <;> simp [badAC] at h
  | rangeFunc f ps a b => simp only [codeC] at h; split at h <;> simp [badAC] at h
  | scope c => simp [goodC] at hg
  | _ => simp [codeC, badAC] at h
theorem inv_ret {c : Code} {m : Nat} (h : codeC P c = .ret) (hg : goodC P m c = true) : c = .ret := by
  cases c with
  | ret => rfl
  | region id ops d => simp only [codeC] at h; split at h <;> simp [badAC] at h
  | cond c t e => simp only [codeC] at h; split at h <;> simp [badAC] at h
  | rangeFunc f ps a b => simp only [codeC] at h; split at h <;> simp [badAC] at h
  | scope c => simp [goodC] at hg
  | _ => simp [codeC, badAC] at h
theorem inv_skip {c : Code} {m : Nat} (h : codeC P c = .skip) (hg : goodC P m c = true) : c = .skip ∨ ∃ l, c = .label l := by
  cases c with
  | skip => exact .inl rfl
  | label l => exact .inr ⟨l, rfl⟩
  | region id ops d => simp only [codeC] at h; split at h <;> simp [badAC] at h
  | cond c t e => simp only [codeC] at h; split at h <;> simp [badAC] at h
  | rangeFunc f ps a b => simp only [codeC] at h; split at h <;> simp [badAC] at h
  | scope c => simp [goodC] at hg
  | _ => simp [codeC, badAC] at h
theorem inv_reg {c : Code} {l : List AI} {m : Nat} (h : codeC P c = .reg l) (hg : goodC P m c = true) : ∃ id ops d, c = .region id ops d ∧ regC P ops.toList = some l ∧ goodReg P m ops.toList = true := by
  cases c with
  | region id ops d =>
    simp only [codeC] at h
    simp only [goodC] at hg
    cases hr : regC P ops.toList with
    | none => rw [hr] at h; simp [badAC] at h
    | some l' => rw [hr] at h; simp only [AC.reg.injEq] at h; subst h; exact ⟨id, ops, d, rfl, hr, hg⟩
  | cond c t e => simp only [codeC] at h; split at h <;> simp [badAC] at h
  | rangeFunc f ps a b => simp only [codeC] at h; split at h <;> simp [badAC] at h
  | scope c => simp [goodC] at hg
  | _ => simp [codeC, badAC] at h
theorem inv_cond {c : Code} {o : Opd} {a b : AC} {m : Nat} (h : codeC P c = .cond o a b) (hg : goodC P m c = true) : (∃ q x y, c = .cond q x y ∧ opdC q = some o ∧ codeC P x = a ∧ codeC P y = b ∧ goodC P m x = true ∧ goodC P m y = true) ∨ o = .c .u := by
  cases c with
  | cond q x y =>
    simp only [codeC] at h
    simp only [goodC, Bool.and_eq_true] at hg
    cases hq : opdC q with
    | none => rw [hq] at h; simp only [badAC, AC.cond.injEq] at h; exact .inr h.1.symm
    | some o' => rw [hq] at h; simp only [AC.cond.injEq] at h; exact .inl ⟨q, x, y, rfl, by rw [hq, h.1], h.2.1, h.2.2, hg.1, hg.2⟩
  | region id ops d =>
    simp only [codeC] at h
    split at h
    · simp at h
    · simp only [badAC, AC.cond.injEq] at h; exact .inr h.1.symm
  | rangeFunc f ps a b =>
    simp only [codeC] at h
    split at h
    · simp at h
    · simp only [badAC, AC.cond.injEq] at h; exact .inr h.1.symm
  | scope c => simp [goodC] at hg
  | goto l => simp [goodC] at hg
  | refuse s => simp [goodC] at hg
  | _ => simp [codeC] at h
theorem inv_range {c : Code} {f : Opd} {ps : List Slot} {a b : AC} {m : Nat} (h : codeC P c = .rangeF f ps a b) (hg : goodC P m c = true) :
    ∃ q ts x y, c = .rangeFunc q ts x y ∧ opdC q = some f ∧ ts.toList.map slot = ps ∧ (∀ t ∈ ts.toList, t < m ∧ t < 1024) ∧ codeC P x = a ∧ codeC P y = b ∧ goodC P m x = true ∧ goodC P m y = true ∧ noRange x = true ∧ noRange y = true := by
  cases c with
  | rangeFunc q ts x y =>
    simp only [codeC] at h
    simp only [goodC, Bool.and_eq_true] at hg
    split at h
    · rename_i f' l hq hl
      simp only [AC.rangeF.injEq] at h
      obtain ⟨rfl, rfl, rfl, rfl⟩ := h
      have hlt : ∀ t ∈ ts.toList, t < m ∧ t < 1024 := fun t ht => by
        have := allB_mem hg.1 ht
        simpa [Nat.blt_eq] using this
      refine ⟨q, ts, x, y, rfl, hq, ?_, hlt, rfl, rfl, hg.2.1, hg.2.2.1, hg.2.2.2.1, hg.2.2.2.2⟩
      have key : ∀ {ts : List Tmp} {l : List Slot}, allSome (fun t => if Nat.blt t 1024 then some (slot t) else none) ts = some l → ts.map slot = l := by
        intro ts
        induction ts with
        | nil => intro l h; have : l = [] := by simpa [allSome] using h.symm
                 subst this; rfl
        | cons t ts ih =>
          intro l h
          have h : ((if Nat.blt t 1024 then some (slot t) else none).bind fun b => (allSome (fun t => if Nat.blt t 1024 then some (slot t) else none) ts).map (b :: ·)) = some l := h
          obtain ⟨s, hs, h⟩ := opt_bind_some h
          obtain ⟨_, hs⟩ := ite_some hs
          cases hs
          obtain ⟨l', hl', h⟩ := opt_map_some h
          subst h
          rw [List.map_cons, ih hl']
      exact key hl
    · simp [badAC] at h
  | region id ops d => simp only [codeC] at h; split at h <;> simp [badAC] at h
  | cond c t e => simp only [codeC] at h; split at h <;> simp [badAC] at h
  | scope c => simp [goodC] at hg
  | _ => simp [codeC, badAC] at h
end

/-! ### Runs in the large -/
def Less (h1 h : Hp) : Prop := h1.next = h.next ∧ ∀ o, h1.get o = h.get o ∨ h1.get o = none
/-- Registers that are forgotten. -/
def LessR (r1 r : Regs) : Prop := ∀ s, Regs.get r1 s = Regs.get r s ∨ Regs.get r1 s = .u
inductive Job where
  | code (c : AC) (r : Regs) (h : Hp)
  | ops (l : List AI) (r : Regs) (h : Hp)
  | fn (f : Nat) (args : List AV) (h : Hp)
  | val (fv : AV) (args : List AV) (h : Hp)
inductive Res where
  | cd (e : Ex) (r : Regs) (h : Hp)
  | vl (v : AV) (h : Hp)
def isNorm : Ex → Bool
  | .norm => true
  | _ => false
def endSt : Ex → LSt
  | .norm => .ready
  | _ => .done
def blkEx (id : Nat) : Ex → Ex
  | .exit j => if Nat.beq j id then .norm else .exit j
  | e => e
section
variable (ft : T FEnt) (prim : Nat → Hp → List AV → Option (AV × Hp))
inductive B : Job → Res → Prop where
  | skip (r h) : B (.code .skip r h) (.cd .norm r h)
  | ret (r h) : B (.code .ret r h) (.cd .ret r h)
  | exit (id r h) : B (.code (.exit id) r h) (.cd (.exit id) r h)
  | reg {l r h q} : B (.ops l r h) q → B (.code (.reg l) r h) q
  | seq {a b r h r1 h1 q} : B (.code a r h) (.cd .norm r1 h1) → B (.code b r1 h1) q → B (.code (.seq a b) r h) q
  | seqX {a b r h e r1 h1} : B (.code a r h) (.cd e r1 h1) → e ≠ .norm → B (.code (.seq a b) r h) (.cd e r1 h1)
  | condT {o : Opd} {a b r h q} : o.ev r = .b true → B (.code a r h) q → B (.code (.cond o a b) r h) q
  | condF {o : Opd} {a b r h q} : o.ev r = .b false → B (.code b r h) q → B (.code (.cond o a b) r h) q
  | block {id c r h e r1 h1} : B (.code c r h) (.cd e r1 h1) → B (.code (.block id c) r h) (.cd (blkEx id e) r1 h1)
  | loop {c r h r1 h1 q} : B (.code c r h) (.cd .norm r1 h1) → B (.code (.loop c) r1 h1) q → B (.code (.loop c) r h) q
  | loopX {c r h e r1 h1} : B (.code c r h) (.cd e r1 h1) → e ≠ .norm → B (.code (.loop c) r h) (.cd e r1 h1)
  | range {o : Opd} {ps a b r h f first cap v h2 st p r' ps' a' b'} : o.ev r = .f (.func f) first cap → B (.fn f (app first (app [.f (.yield h.next) [] []] cap)) (h.add (.loop .ready .norm r ps a b))) (.vl v h2) →
      h2.get h.next = some (.loop st p r' ps' a' b') → (st = .ready ∨ st = .done) → B (.code (.rangeF o ps a b) r h) (.cd p r (h2.upd h.next (some (.loop .over p r' ps' a' b'))))
  | gc {c r r1 h h1 q} : Less h1 h → LessR r1 r → B (.code c r1 h1) q → B (.code c r h) q
  | opsN (r h) : B (.ops [] r h) (.cd .norm r h)
  | opsS {i rest r h q} : wantA r i.guard = some false → B (.ops rest (setDst r i.dst (.tup [])) h) q → B (.ops (i :: rest) r h) q
  | opsP {i : AI} {op rest r h v q} : wantA r i.guard = some true → i.op = .p op → evalP op (evs r i.args) = some v → B (.ops rest (setDst r i.dst v) h) q → B (.ops (i :: rest) r h) q
  | opsR {i : AI} {op rest r h v q} : wantA r i.guard = some true → i.op = .r op → evalR op h (evs r i.args) = some v → B (.ops rest (setDst r i.dst v) h) q → B (.ops (i :: rest) r h) q
  | opsL {i : AI} {op rest r h p q} : wantA r i.guard = some true → i.op = .l op → evalL op (evs r i.args) = some p → B (.ops rest (setDst r i.dst (p.2.val h.next)) (h.add p.1)) q → B (.ops (i :: rest) r h) q
  | opsE {i : AI} {op rest r h v h1 q} : wantA r i.guard = some true → i.op = .e op → evalE op h (evs r i.args) = some (v, h1) → rereads (setDst r i.dst v) h1 i.chk = true → B (.ops rest (setDst r i.dst v) h1) q → B (.ops (i :: rest) r h) q
  | opsC {i : AI} {rest r h f as v h1 q} : wantA r i.guard = some true → i.op = .call → evs r i.args = f :: as → B (.val f as h) (.vl v h1) → rereads (setDst r i.dst v) h1 i.chk = true → B (.ops rest (setDst r i.dst v) h1) q → B (.ops (i :: rest) r h) q
  | fn {f args h fn r e r1 h1 v} : T.get ft f = some (.code fn) → bindArgs u6 fn.params args = some r → B (.code fn.body r h) (.cd e r1 h1) → (∀ id, e ≠ .exit id) → resVal r1 h1 fn.results = some v → B (.fn f args h) (.vl v h1)
  | valF {f first cap args h q} : B (.fn f (app first (app args cap)) h) q → B (.val (.f (.func f) first cap) args h) q
  | valP {f first cap args h n v h1} : T.get ft f = some (.prim n) → prim n h (app first (app args cap)) = some (v, h1) → B (.val (.f (.func f) first cap) args h) (.vl v h1)
  | valY {l args h p r ps a b r1 r2 h2 p' r' ps' a' b' e r3 h3 p'' r'' ps'' a'' b''} : h.get l = some (.loop .ready p r ps a b) → bindArgs r ps args = some r1 → B (.code a r1 h) (.cd .norm r2 h2) → h2.get l = some (.loop .ready p' r' ps' a' b') →
      B (.code b r2 (h2.upd l (some (.loop .busy p' r' ps' a' b')))) (.cd e r3 h3) → h3.get l = some (.loop .busy p'' r'' ps'' a'' b'') →
      B (.val (.f (.yield l) [] []) args h) (.vl (.b (isNorm e)) (h3.upd l (some (.loop (endSt e) e r'' ps'' a'' b''))))
end

/-! ### What they mean -/
def exOf : Ex → Exit
  | .norm => .normal
  | .exit id => .exit id
  | .ret => .ret
structure MarkOK (base : Nat) (ρ : Rho) (w : World) (b : Nat) : Prop where
  ge : base ≤ b
  blk : w.heap[b]? = some (.deferred (some []))
  away : ∀ o L, ρ o = some L → L.blk ≠ b
def Marks (base : Nat) (ρ : Rho) (w : World) (ds : List Deferred) : Prop := ∃ bs : List Nat, ds = bs.map (fun b => { target := .collected b, args := #[] }) ∧ bs.Nodup ∧ ∀ b ∈ bs, MarkOK base ρ w b
theorem Marks.nil (base : Nat) (ρ : Rho) (w : World) : Marks base ρ w [] := ⟨[], rfl, List.nodup_nil, fun b hb => by cases hb⟩
theorem MarkOK.ext {base b : Nat} {ρ ρ' : Rho} {h h' : Hp} {w w' : World} (hm : MarkOK base ρ w b) (he : Ext ρ h w ρ' h' w') : MarkOK base ρ' w' b := by
  have hlt : b < w.heap.size := (Array.getElem?_eq_some_iff.1 hm.blk).1
  refine ⟨hm.ge, (he.frame b hlt hm.away).trans hm.blk, fun o L ho => ?_⟩
  cases h0 : ρ o with
  | some M =>
    have := he.le o M h0
    rw [ho] at this; cases this
    exact hm.away o _ h0
  | none =>
    obtain ⟨_, h1⟩ := he.new o L h0 ho
    rcases h1 with h1 | ⟨q, M, h1, h2⟩
    · omega
    · rw [← h2]; exact hm.away q M h1
theorem Marks.ext {base : Nat} {ρ ρ' : Rho} {h h' : Hp} {w w' : World} {ds : List Deferred} (hm : Marks base ρ w ds) (he : Ext ρ h w ρ' h' w') : Marks base ρ' w' ds := by
  obtain ⟨bs, h1, h2, h3⟩ := hm
  exact ⟨bs, h1, h2, fun b hb => (h3 b hb).ext he⟩

section
variable (P : Program)
def CodeS (c : AC) (r : Regs) (h : Hp) (e : Ex) (r' : Regs) (h' : Hp) : Prop :=
  Grow h h' ∧ ∀ (c' : Code) (m : Nat) (rnd : Option Nat) (ρ : Rho) (a : Act) (w : World) (base : Nat) (Q : Exit → Act → World → Prop),
    codeC P c' = c → goodC P m c' = true → (rnd.isSome = true → noRange c' = true) → m ≤ a.tmps.size → FR ρ r a.tmps → HR P (Good P) ρ h w → base ≤ w.heap.size → Marks base ρ w a.defers →
    (∀ a' w' ρ', a'.tmps.size = a.tmps.size → FR ρ' r' a'.tmps → HR P (Good P) ρ' h' w' → Ext ρ h w ρ' h' w' → Marks base ρ' w' a'.defers → Q (exOf e) a' w') → c'.wpIn (Fr rnd) 0 P Q a w
def OpsS (l : List AI) (r : Regs) (h : Hp) (r' : Regs) (h' : Hp) : Prop :=
  Grow h h' ∧ ∃ rr vv hh, TraceR P (Good P) l rr vv hh ∧ rr 0 = r ∧ hh 0 = h ∧ rr l.length = r' ∧ hh l.length = h'
def FnS (f : Nat) (args : List AV) (h : Hp) (v : AV) (h' : Hp) : Prop :=
  Grow h h' ∧ ∀ (ρ : Rho) (w : World) (vals : List Value), VRs ρ args vals → HR P (Good P) ρ h w →
    (callFunc f vals.toArray).run P w = .ok (.enter f vals.toArray) w ∧ CallsIn Fence.wide 0 P f vals.toArray w (retR (Post P (Good P) ρ h w v h'))
def Means : Job → Res → Prop
  | .code c r h, .cd e r' h' => CodeS P c r h e r' h'
  | .ops l r h, .cd e r' h' => e = .norm ∧ OpsS P l r h r' h'
  | .fn f args h, .vl v h' => FnS P f args h v h'
  | .val fv args h, .vl v h' => ValSound P (Good P) fv args h v h'
  | _, _ => True
end
end Go.Ai
