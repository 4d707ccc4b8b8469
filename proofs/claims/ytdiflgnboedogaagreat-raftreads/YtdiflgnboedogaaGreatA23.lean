/- An interpreter on abstract values: what is asked of a region's orders, and what a region's form says of its operations. -/
import Derived.Test.YtdiflgnboedogaaGreatA22
namespace Go.Ai

structure Inf where
  i : Nat
  b : Nat
  c : Cl
  dst : Option Tmp
  uses : List Tmp
def clB : Cl → Cl → Bool
  | .pure, .pure | .read, .read | .mk, .mk | .eff, .eff => true
  | _, _ => false
theorem clB_eq {a b : Cl} (h : clB a b = true) : a = b := by cases a <;> cases b <;> first | rfl | simp [clB] at h
noncomputable def tmpsOf : List Operand → List Tmp
  | [] => []
  | .tmp t :: xs => t :: tmpsOf xs
  | _ :: xs => tmpsOf xs
theorem mem_tmpsOf {t : Tmp} : ∀ {xs : List Operand}, .tmp t ∈ xs → t ∈ tmpsOf xs
  | [], h => by cases h
  | x :: xs, h => by
    rcases List.mem_cons.1 h with h | h
    · subst h; simp [tmpsOf]
    · have := mem_tmpsOf h
      cases x <;> simp [tmpsOf, this]
noncomputable def guardT (ops : List Oper) : Option (Nat × Bool) → List Tmp
  | none => []
  | some (j, _) => match (nth ops j).bind (·.dst) with | some d => [d] | none => []
noncomputable def dstIs (t : Tmp) : Option Tmp → Bool
  | some d => Nat.beq d t
  | none => false
noncomputable def noneB : Option Tmp → Bool
  | none => true
  | some _ => false

noncomputable def allB {α : Type} (f : α → Bool) (l : List α) : Bool := List.rec (motive := fun _ => Bool) true (fun a _ ih => f a && ih) l
noncomputable def anyB {α : Type} (f : α → Bool) (l : List α) : Bool := List.rec (motive := fun _ => Bool) false (fun a _ ih => f a || ih) l
noncomputable def pairB {α : Type} (f : α → α → Bool) (l : List α) : Bool := List.rec (motive := fun _ => Bool) true (fun a l ih => allB (f a) l && ih) l
theorem allB_get {α : Type} {f : α → Bool} : ∀ {l : List α}, allB f l = true → ∀ {k : Nat} {a : α}, l[k]? = some a → f a = true
  | [], _, k, a, e => by simp at e
  | x :: l, h, k, a, e => by
    have h : (f x && allB f l) = true := h
    rw [Bool.and_eq_true] at h
    cases k with
    | zero => simp at e; subst e; exact h.1
    | succ k => exact allB_get h.2 (k := k) (by simpa using e)
theorem allB_mem {α : Type} {f : α → Bool} {l : List α} (h : allB f l = true) {a : α} (ha : a ∈ l) : f a = true := by
  obtain ⟨k, hk⟩ := List.getElem?_of_mem ha
  exact allB_get h hk
theorem anyB_get {α : Type} {f : α → Bool} : ∀ {l : List α}, anyB f l = true → ∃ (k : Nat) (a : α), l[k]? = some a ∧ f a = true
  | [], h => by cases h
  | x :: l, h => by
    have h : (f x || anyB f l) = true := h
    rw [Bool.or_eq_true] at h
    rcases h with h | h
    · exact ⟨0, x, rfl, h⟩
    · obtain ⟨k, a, e, hf⟩ := anyB_get h; exact ⟨k + 1, a, by simpa using e, hf⟩
theorem pairB_get {α : Type} {f : α → α → Bool} : ∀ {l : List α}, pairB f l = true → ∀ {p q : Nat} {a b : α}, p < q → l[p]? = some a → l[q]? = some b → f a b = true
  | [], _, p, q, a, b, _, e, _ => by simp at e
  | x :: l, h, p, q, a, b, hpq, ea, eb => by
    have h : (allB (f x) l && pairB f l) = true := h
    rw [Bool.and_eq_true] at h
    obtain ⟨q, rfl⟩ : ∃ r, q = r + 1 := ⟨q - 1, by omega⟩
    have eb' : l[q]? = some b := by simpa using eb
    cases p with
    | zero => simp at ea; subst ea; exact allB_get h.1 eb'
    | succ p => exact pairB_get h.2 (p := p) (q := q) (by omega) (by simpa using ea) eb'

noncomputable def bOf (I : List Inf) (i : Nat) : Nat := List.rec (motive := fun _ => Nat) 0 (fun x _ ih => if Nat.beq x.i i then x.b else ih) I
noncomputable def orOf (I : List Inf) (l : List Edge) : Nat := List.rec (motive := fun _ => Nat) 0 (fun e _ ih => if Region.binds .any e then Nat.lor (2 ^ e.on) (Nat.lor (bOf I e.on) ih) else ih) l
noncomputable def strictB (I : List Inf) (x : Inf) : Bool := allB (fun t => allB (fun w => !dstIs t w.dst || bitOf x.b w.i) I) x.uses
noncomputable def pairOk (I : List Inf) (x y : Inf) : Bool :=
  !Nat.beq x.i y.i && (!bitOf x.b y.i && ((match x.c, y.c with | .eff, .pure => true | .eff, _ => bitOf y.b x.i | .read, .eff => bitOf y.b x.i || strictB I x | _, _ => true) &&
    (match x.dst with | none => true | some d => !dstIs d y.dst)))
noncomputable def useOk (I : List Inf) (y : Inf) : Bool := allB (fun t => allB (fun x => !dstIs t x.dst || (bitOf y.b x.i || (bitOf x.b y.i || Nat.beq x.i y.i))) I) y.uses
noncomputable def infOk (ops : List Oper) (m : Nat) (I : List Inf) (x : Inf) : Bool :=
  (match nth ops x.i with | some o => Nat.beq x.b (orOf I o.after.toList) | none => false) && (useOk I x && ((match x.dst with | none => true | some d => Nat.blt d m) && (match x.c with | .read => !noneB x.dst | _ => true)))
noncomputable def edgeOk (q : Nat × Oper) : Bool := allB (fun e => !Region.binds .any e || Nat.blt e.on q.1) q.2.after.toList
noncomputable def regOk (ops : List Oper) (m : Nat) (I : List Inf) : Bool :=
  allB edgeOk (numberedFrom 0 ops) && (allB (fun q : Nat × Oper => anyB (fun x => Nat.beq x.i q.1) I) (numberedFrom 0 ops) && (pairB (pairOk I) I && allB (infOk ops m I) I))

theorem numbered_get {α : Type} : ∀ {l : List α} {n k : Nat} {a : α}, l[k]? = some a → (numberedFrom n l)[k]? = some (n + k, a)
  | [], n, k, a, e => by simp at e
  | x :: l, n, k, a, e => by
    cases k with
    | zero => simp at e; subst e; simp [numberedFrom]
    | succ k =>
      have := numbered_get (l := l) (n := n + 1) (k := k) (a := a) (by simpa using e)
      simp only [numberedFrom, List.getElem?_cons_succ]
      rw [this]; congr 2; omega
theorem bitOf_eq (m i : Nat) : bitOf m i = m.testBit i := by
  unfold bitOf Nat.testBit
  rw [Bool.eq_iff_iff, Nat.beq_eq]
  show Nat.land (m >>> i) 1 = 1 ↔ _
  have : Nat.land (m >>> i) 1 = (m >>> i) &&& 1 := rfl
  rw [this, Nat.and_comm]
  simp [Nat.one_and_eq_mod_two]
theorem orOf_bit {I : List Inf} {z : Nat} : ∀ {l : List Edge}, bitOf (orOf I l) z = true → ∃ e ∈ l, Region.binds .any e = true ∧ (z = e.on ∨ bitOf (bOf I e.on) z = true)
  | [], h => by
    rw [bitOf_eq] at h
    have : orOf I [] = 0 := rfl
    rw [this] at h; simp at h
  | e :: l, h => by
    have hd : orOf I (e :: l) = if Region.binds .any e then Nat.lor (2 ^ e.on) (Nat.lor (bOf I e.on) (orOf I l)) else orOf I l := rfl
    rw [hd] at h
    by_cases hb : Region.binds .any e = true
    · rw [if_pos hb, bitOf_eq] at h
      have hl : ∀ a b : Nat, Nat.lor a b = a ||| b := fun _ _ => rfl
      rw [hl, hl, Nat.testBit_or, Nat.testBit_or, Bool.or_eq_true, Bool.or_eq_true] at h
      rcases h with h | h | h
      · rw [Nat.testBit_two_pow] at h
        exact ⟨e, by simp, hb, .inl (of_decide_eq_true h).symm⟩
      · exact ⟨e, by simp, hb, .inr (by rw [bitOf_eq]; exact h)⟩
      · obtain ⟨e', h1, h2⟩ := orOf_bit (l := l) (by rw [bitOf_eq]; exact h)
        exact ⟨e', by simp [h1], h2⟩
    · rw [if_neg hb] at h
      obtain ⟨e', h1, h2⟩ := orOf_bit h
      exact ⟨e', by simp [h1], h2⟩
theorem bOf_bit {I : List Inf} {i z : Nat} (h : bitOf (bOf I i) z = true) : ∃ (k : Nat) (x : Inf), I[k]? = some x ∧ x.i = i ∧ x.b = bOf I i := by
  induction I with
  | nil =>
    have : bOf [] i = 0 := rfl
    rw [this, bitOf_eq] at h; simp at h
  | cons x I ih =>
    have hd : bOf (x :: I) i = if Nat.beq x.i i then x.b else bOf I i := rfl
    rw [hd] at h ⊢
    by_cases hx : Nat.beq x.i i = true
    · rw [if_pos hx]; exact ⟨0, x, rfl, Nat.eq_of_beq_eq_true hx, rfl⟩
    · rw [if_neg hx] at h ⊢
      obtain ⟨k, y, h1, h2⟩ := ih h
      exact ⟨k + 1, y, by simpa using h1, h2⟩

section
variable (P : Program)
noncomputable def kkOf (t : TypeId) : Option KK :=
  match P.underlying t with
  | some (.map kt _) => keyT P kt
  | _ => none
def kkB : KK → KK → Bool
  | .b, .b | .i, .i | .s, .s => true
  | _, _ => false
theorem kkB_eq {x y : KK} (h : kkB x y = true) : x = y := by cases x <;> cases y <;> first | rfl | simp [kkB] at h
noncomputable def noGuard : Option (Nat × Bool) → Bool
  | none => true
  | some _ => false
def plainR : Option Operand → Bool
  | none => true
  | some (.const (.int _ _)) => true
  | _ => false
/-- Whether an operation has an edge that binds to a place. -/
noncomputable def edgeTo (o : Oper) (j : Nat) : Bool := anyB (fun e => Region.binds .any e && Nat.beq e.on j) o.after.toList
noncomputable def edgesAll (o : Oper) (l : List LIns) : Bool := allB (fun q : LIns => edgeTo o q.1) l
noncomputable def mmOk (o : Oper) (d : Tmp) : Option KK :=
  match o.op with
  | .makeMap t r => if plainR r && (noGuard o.guard && dstIs d o.dst) then kkOf P t else none
  | _ => none
noncomputable def insOk (o : Oper) (d : Tmp) (kk : KK) : Bool :=
  match o.op with
  | .insert t (.tmp m) _ _ => Nat.beq m d && (noGuard o.guard && (noneB o.dst && (match kkOf P t with | some k => kkB k kk | none => false)))
  | _ => false
noncomputable def apartK (kk : KK) (p q : LIns) : Bool :=
  match eqKey kk q.2.1 p.2.1, eqKey kk p.2.1 q.2.1 with
  | some false, some false => true
  | _, _ => false
noncomputable def valOk (I : List Inf) (o : Oper) (d : Tmp) : Operand → Bool
  | .tmp t => !Nat.beq t d && allB (fun x : Inf => !dstIs t x.dst || edgeTo o x.i) I
  | _ => true
noncomputable def gOk (ops : List Oper) (L : Lit) (x : Inf) : Bool :=
  inG (some L) x.i || (match nth ops x.i with
    | some o => (!anyB (fun e => Region.binds .any e && inG (some L) e.on) o.after.toList && !anyB (fun t => Nat.beq t L.d) x.uses) || edgesAll o L.ins
    | none => false)
noncomputable def litOk (ops : List Oper) (I : List Inf) : Option Lit → Bool
  | none => true
  | some L =>
    match nth ops L.mm with
    | some o =>
      match mmOk P o L.d with
      | some kk => allB (fun q : LIns => !Nat.beq q.1 L.mm && (Nat.ble q.1 L.last && (match nth ops q.1 with | some o => insOk P o L.d kk && (edgeTo o L.mm && valOk I o L.d q.2.2) | none => false))) L.ins &&
          (pairB (fun p q : LIns => !Nat.beq p.1 q.1 && apartK kk p q) L.ins && (anyB (fun q : LIns => Nat.beq q.1 L.last) L.ins && allB (gOk ops L) I))
      | none => false
    | none => false

/-- How a region's form goes with its operations. -/
structure RegD (ops : List Oper) (m : Nat) (l : List AI) (I : List Inf) (lit : Option Lit) : Prop where
  len : I.length = l.length
  idx : ∀ (k : Nat) (x : Inf), I[k]? = some x → x.i < ops.length
  dst : ∀ (k : Nat) (ai : AI) (x : Inf), l[k]? = some ai → I[k]? = some x → dstC x.dst = some ai.dst ∧ x.c = clOf ai.op
  at_ : ∀ (k : Nat) (ai : AI) (x : Inf), l[k]? = some ai → I[k]? = some x → inG lit x.i = false → ∃ (o : Oper) (xs : List Operand), ops[x.i]? = some o ∧ opC P o = some (ai.op, xs) ∧ opdsC xs = some ai.args ∧ guardC ops o.guard = some ai.guard ∧ x.dst = o.dst ∧
    x.uses = app (guardT ops o.guard) (tmpsOf xs)
  grp : ∀ (k : Nat) (ai : AI) (x : Inf) (L : Lit), l[k]? = some ai → I[k]? = some x → lit = some L → inG lit x.i = true → ai.guard = none ∧
    (x.i = L.last → ai.op = .l (.mapLit (litKeys L)) ∧ opdsC (litVals L) = some ai.args ∧ x.dst = some L.d ∧ x.uses = tmpsOf (litVals L)) ∧
    (x.i ≠ L.last → ai.op = .p .mov ∧ x.dst = none ∧ x.uses = [])
  chk : ∀ (k : Nat) (ai : AI) (x : Inf), l[k]? = some ai → I[k]? = some x → x.c = .eff → ∀ (p : Nat) (a : AI) (y : Inf) (ri : RI), p < k → l[p]? = some a → I[p]? = some y → bitOf x.b y.i = false → riOf a = some ri → ri ∈ ai.chk
  ok : regOk (vops lit ops) m I = true
  lok : litOk P ops I lit = true
  litins : ∀ L, lit = some L → ∀ q ∈ L.ins, ∃ o, ops[q.1]? = some o ∧ insKV o = some q.2

noncomputable def infG (L : Lit) (q : Nat × Nat × Cl) : Option Inf :=
  if Nat.beq q.1 L.last then (if clB q.2.2 .mk then some { i := q.1, b := q.2.1, c := q.2.2, dst := some L.d, uses := tmpsOf (litVals L) } else none)
  else (if clB q.2.2 .pure then some { i := q.1, b := q.2.1, c := q.2.2, dst := none, uses := [] } else none)
noncomputable def infC (lit : Option Lit) (ops : List Oper) (q : Nat × Nat × Cl) : Option Inf :=
  (nth ops q.1).bind fun o =>
    match (match lit with | some L => if inG (some L) q.1 then some (infG L q) else none | none => none) with
    | some r => r
    | none => (opC P o).bind fun p => if clB q.2.2 (clOf p.1) then some { i := q.1, b := q.2.1, c := q.2.2, dst := o.dst, uses := app (guardT ops o.guard) (tmpsOf p.2) } else none
noncomputable def ordC (ops : List Oper) (ais : List AI) : Option (List (Nat × Nat × Cl)) :=
  orderI (mapl (fun q : Nat × Nat × AI => (q.1, q.2.1, clOf q.2.2.op)) (numberedFrom 0 ((Region.before (vops (litR ops) ops).toArray).toList.zip ais))) (len ops) 0
noncomputable def goodReg (m : Nat) (ops : List Oper) : Bool :=
  match allSome (fun q => aiG P (litR ops) ops q.1 q.2) (numberedFrom 0 ops) with
  | some ais =>
    match ordC ops ais with
    | some ord =>
      match allSome (infC P (litR ops) ops) ord with
      | some I => regOk (vops (litR ops) ops) m I && litOk P ops I (litR ops)
      | none => false
    | none => true
  | none => true
theorem numbered_mem {α : Type} : ∀ {l : List α} {n : Nat} {q : Nat × α}, q ∈ numberedFrom n l → n ≤ q.1 ∧ l[q.1 - n]? = some q.2
  | [], n, q, h => by simp [numberedFrom] at h
  | a :: l, n, q, h => by
    simp only [numberedFrom, List.mem_cons] at h
    rcases h with rfl | h
    · exact ⟨Nat.le_refl _, by simp⟩
    · obtain ⟨h1, h2⟩ := numbered_mem h
      refine ⟨by omega, ?_⟩
      rw [show q.1 - n = (q.1 - (n + 1)) + 1 by omega]
      simpa using h2
theorem litIns_mem {d : Tmp} : ∀ {l : List (Nat × Oper)} {r : List LIns}, litIns d l = some r → ∀ q ∈ r, ∃ o, (q.1, o) ∈ l ∧ insKV o = some q.2
  | [], r, h, q, hq => by
    simp only [litIns, Option.some.injEq] at h; subst h; cases hq
  | p :: l, r, h, q, hq => by
    simp only [litIns] at h
    split at h
    · obtain ⟨kv, hkv, h⟩ := opt_bind_some h
      obtain ⟨r', hr', h⟩ := opt_map_some h
      subst h
      rcases List.mem_cons.1 hq with rfl | hq
      · exact ⟨p.2, by simp, hkv⟩
      · obtain ⟨o, h1, h2⟩ := litIns_mem hr' q hq
        exact ⟨o, by simp [h1], h2⟩
    · obtain ⟨o, h1, h2⟩ := litIns_mem h q hq
      exact ⟨o, by simp [h1], h2⟩
theorem litOf_ins {all : List (Nat × Oper)} : ∀ {l : List (Nat × Oper)} {L : Lit}, litOf all l = some L → litIns L.d all = some L.ins
  | [], L, h => by simp [litOf] at h
  | p :: l, L, h => by
    simp only [litOf] at h
    split at h
    · split at h
      · rename_i hl
        simp only [Option.some.injEq] at h; subst h
        exact hl
      · exact litOf_ins h
    · exact litOf_ins h
theorem allSome_spec {α β : Type} {f : α → Option β} : ∀ {l : List α} {r : List β}, allSome f l = some r → r.length = l.length ∧ ∀ (k : Nat) (a : α), l[k]? = some a → ∃ b, f a = some b ∧ r[k]? = some b
  | [], r, h => by
    have : r = [] := by simpa [allSome] using h.symm
    subst this; exact ⟨rfl, fun k a e => by simp at e⟩
  | x :: l, r, h => by
    have h : ((f x).bind fun b => (allSome f l).map (b :: ·)) = some r := h
    obtain ⟨b, hb, h⟩ := opt_bind_some h
    obtain ⟨r', hr', h⟩ := opt_map_some h
    subst h
    obtain ⟨h1, h2⟩ := allSome_spec hr'
    refine ⟨by simp [h1], fun k a e => ?_⟩
    cases k with
    | zero => simp at e; subst e; exact ⟨b, hb, rfl⟩
    | succ k => obtain ⟨b', h3, h4⟩ := h2 k a (by simpa using e); exact ⟨b', h3, by simpa using h4⟩
theorem mem_chkC {b : Nat} {a : AI} {ri : RI} (hr : riOf a = some ri) (hb : bitOf b a.ix = false) : ∀ {l : List AI}, a ∈ l → ri ∈ chkC b l
  | [], h => by cases h
  | x :: l, h => by
    simp only [chkC]
    rcases List.mem_cons.1 h with h | h
    · subst h
      rw [if_neg (by rw [hb]; simp), hr]
      simp
    · have := mem_chkC hr hb h
      split
      · exact this
      · split
        · exact List.mem_cons_of_mem _ this
        · exact this
/-- What layC lays. -/
theorem layC_get {ais : List AI} : ∀ {ord : List (Nat × Nat × Cl)} {seen l : List AI}, layC ais ord seen = some l → l.length = ord.length ∧
    ∀ (k : Nat) (q : Nat × Nat × Cl), ord[k]? = some q → ∃ a a', nth ais q.1 = some a ∧ l[k]? = some a' ∧ a'.ix = a.ix ∧ a'.dst = a.dst ∧ a'.guard = a.guard ∧ a'.op = a.op ∧ a'.args = a.args ∧
      (q.2.2 = .eff → (∀ b ∈ seen, bitOf q.2.1 b.ix = false → ∀ ri, riOf b = some ri → ri ∈ a'.chk) ∧ ∀ (p : Nat) (b : AI), p < k → l[p]? = some b → bitOf q.2.1 b.ix = false → ∀ ri, riOf b = some ri → ri ∈ a'.chk)
  | [], seen, l, h => by
    have : l = [] := by simpa [layC] using h.symm
    subst this; exact ⟨rfl, fun k q e => by simp at e⟩
  | (i, b, c) :: ord, seen, l, h => by
    simp only [layC] at h
    obtain ⟨a, ha, h⟩ := opt_bind_some h
    have key : ∃ a' l', l = a' :: l' ∧ layC ais ord (a :: seen) = some l' ∧ a'.ix = a.ix ∧ a'.dst = a.dst ∧ a'.guard = a.guard ∧ a'.op = a.op ∧ a'.args = a.args ∧ (c = .eff → a'.chk = chkC b seen) := by
      cases c with
      | eff => simp only at h; obtain ⟨l', hl', h⟩ := opt_map_some h; exact ⟨_, l', h.symm, hl', rfl, rfl, rfl, rfl, rfl, fun _ => rfl⟩
      | pure => simp only at h; obtain ⟨l', hl', h⟩ := opt_map_some h; exact ⟨_, l', h.symm, hl', rfl, rfl, rfl, rfl, rfl, fun e => by cases e⟩
      | read => simp only at h; obtain ⟨l', hl', h⟩ := opt_map_some h; exact ⟨_, l', h.symm, hl', rfl, rfl, rfl, rfl, rfl, fun e => by cases e⟩
      | mk => simp only at h; obtain ⟨l', hl', h⟩ := opt_map_some h; exact ⟨_, l', h.symm, hl', rfl, rfl, rfl, rfl, rfl, fun e => by cases e⟩
    obtain ⟨a', l', rfl, hl', e1, e2, e3, e4, e5, e6⟩ := key
    obtain ⟨h1, h2⟩ := layC_get hl'
    refine ⟨by simp [h1], fun k q e => ?_⟩
    cases k with
    | zero =>
      simp at e; subst e
      refine ⟨a, a', ha, rfl, e1, e2, e3, e4, e5, fun hc => ⟨fun s hs hb ri hri => ?_, fun p _ hp => by omega⟩⟩
      rw [e6 hc]; exact mem_chkC hri hb hs
    | succ k =>
      obtain ⟨x, x', g1, g2, g3, g4, g5, g6, g7, g8⟩ := h2 k q (by simpa using e)
      refine ⟨x, x', g1, by simpa using g2, g3, g4, g5, g6, g7, fun hc => ⟨fun s hs => (g8 hc).1 s (by simp [hs]), fun p s hp hl hb ri hri => ?_⟩⟩
      cases p with
      | zero =>
        simp at hl; subst hl
        refine (g8 hc).1 a (by simp) (by rw [← e1]; exact hb) ri ?_
        unfold riOf at hri ⊢
        rw [← e4, ← e2, ← e5, ← e3]; exact hri
      | succ p => exact (g8 hc).2 p s (by omega) (by simpa using hl) hb ri hri

theorem regD_of {ops : List Oper} {m : Nat} {l : List AI} (hr : regC P ops = some l) (hg : goodReg P m ops = true) : ∃ I lit, RegD P ops m l I lit := by
  unfold regC at hr
  obtain ⟨ais, hais, hr⟩ := opt_bind_some hr
  obtain ⟨ord, hord, hr⟩ := opt_bind_some hr
  unfold goodReg at hg
  rw [hais] at hg
  simp only at hg
  have hord' : ordC ops ais = some ord := hord
  rw [hord'] at hg
  simp only at hg
  clear hord hord'
  generalize hlit : litR ops = lit at hais hg
  cases hI : allSome (infC P lit ops) ord with
  | none => rw [hI] at hg; cases hg
  | some I =>
    rw [hI] at hg
    simp only [Bool.and_eq_true] at hg
    obtain ⟨h1, h2⟩ := layC_get hr
    obtain ⟨h3, h4⟩ := allSome_spec hI
    obtain ⟨h5, h6⟩ := allSome_spec hais
    have common : ∀ (k : Nat) (q : Nat × Nat × Cl), ord[k]? = some q → ∃ (a a' : AI) (x : Inf) (o : Oper), nth ais q.1 = some a ∧ l[k]? = some a' ∧ I[k]? = some x ∧ ops[q.1]? = some o ∧ x.i = q.1 ∧ x.b = q.2.1 ∧ x.c = q.2.2 ∧ a'.ix = q.1 ∧
        dstC x.dst = some a'.dst ∧ x.c = clOf a'.op ∧
        (inG lit q.1 = false → ∃ xs, opC P o = some (a'.op, xs) ∧ opdsC xs = some a'.args ∧ guardC ops o.guard = some a'.guard ∧ x.dst = o.dst ∧ x.uses = app (guardT ops o.guard) (tmpsOf xs)) ∧
        (∀ L, lit = some L → inG lit q.1 = true → a'.guard = none ∧
          (q.1 = L.last → a'.op = .l (.mapLit (litKeys L)) ∧ opdsC (litVals L) = some a'.args ∧ x.dst = some L.d ∧ x.uses = tmpsOf (litVals L)) ∧
          (q.1 ≠ L.last → a'.op = .p .mov ∧ x.dst = none ∧ x.uses = [])) := by
      intro k q hq
      obtain ⟨a, a', g1, g2, g3, g4, g5, g6, g7, _⟩ := h2 k q hq
      obtain ⟨x, g9, g10⟩ := h4 k q hq
      unfold infC at g9
      obtain ⟨o, ho, g9⟩ := opt_bind_some g9
      rw [nth_eq] at ho
      obtain ⟨a2, g11, g12⟩ := h6 q.1 (0 + q.1, o) (numbered_get ho)
      have g1' := g1
      rw [nth_eq] at g1
      rw [g12] at g1; cases g1
      simp only [Nat.zero_add] at g11
      unfold aiG at g11
      have plain : inG lit q.1 = false → aiC P ops q.1 o = some a → ((opC P o).bind fun p => if clB q.2.2 (clOf p.1) then some { i := q.1, b := q.2.1, c := q.2.2, dst := o.dst, uses := app (guardT ops o.guard) (tmpsOf p.2) } else none) = some x →
          ∃ (a a' : AI) (x : Inf) (o : Oper), nth ais q.1 = some a ∧ l[k]? = some a' ∧ I[k]? = some x ∧ ops[q.1]? = some o ∧ x.i = q.1 ∧ x.b = q.2.1 ∧ x.c = q.2.2 ∧ a'.ix = q.1 ∧
          dstC x.dst = some a'.dst ∧ x.c = clOf a'.op ∧
          (inG lit q.1 = false → ∃ xs, opC P o = some (a'.op, xs) ∧ opdsC xs = some a'.args ∧ guardC ops o.guard = some a'.guard ∧ x.dst = o.dst ∧ x.uses = app (guardT ops o.guard) (tmpsOf xs)) ∧
          (∀ L, lit = some L → inG lit q.1 = true → a'.guard = none ∧
            (q.1 = L.last → a'.op = .l (.mapLit (litKeys L)) ∧ opdsC (litVals L) = some a'.args ∧ x.dst = some L.d ∧ x.uses = tmpsOf (litVals L)) ∧
            (q.1 ≠ L.last → a'.op = .p .mov ∧ x.dst = none ∧ x.uses = [])) := fun hin g11 g9 => by
        obtain ⟨p, hp, g9⟩ := opt_bind_some g9
        obtain ⟨hcl, g9⟩ := ite_some g9
        have hcl := clB_eq hcl
        cases g9
        unfold aiC at g11
        obtain ⟨p2, hp2, g11⟩ := opt_bind_some g11
        rw [hp] at hp2; cases hp2
        obtain ⟨as, has, g11⟩ := opt_bind_some g11
        obtain ⟨g, hgd, g11⟩ := opt_bind_some g11
        obtain ⟨d, hd, g11⟩ := opt_map_some g11
        subst g11
        refine ⟨_, a', _, o, g1', g2, g10, ho, rfl, rfl, rfl, g3, ?_, ?_, fun _ => ⟨p.2, ?_, ?_, ?_, rfl, rfl⟩, fun L _ e => (by rw [hin] at e; cases e)⟩
        · rw [g4, hd]
        · rw [g6]; exact hcl
        · rw [g6, hp]
        · rw [g7, has]
        · rw [g5, hgd]
      cases lit with
      | none => exact plain rfl g11 g9
      | some L =>
        by_cases hin : inG (some L) q.1 = true
        rotate_left
        · have hin : inG (some L) q.1 = false := by simpa using hin
          simp only [hin, Bool.false_eq_true, if_false] at g9 g11
          exact plain hin g11 g9
        · simp only [hin, if_true] at g9 g11
          unfold infG at g9
          unfold litAI at g11
          by_cases hlast : Nat.beq q.1 L.last = true
          · rw [if_pos hlast] at g9 g11
            have hlast := Nat.eq_of_beq_eq_true hlast
            obtain ⟨hcl, g9⟩ := ite_some g9
            have hcl := clB_eq hcl
            cases g9
            obtain ⟨d, hd, g11⟩ := opt_bind_some g11
            obtain ⟨as, has, g11⟩ := opt_map_some g11
            subst g11
            refine ⟨_, a', _, o, g1', g2, g10, ho, rfl, rfl, rfl, g3, ?_, ?_, fun e => (by rw [hin] at e; cases e), fun L' e _ => ?_⟩
            · rw [g4, ← hd]
            · rw [g6]; exact hcl
            · cases e
              exact ⟨g5, fun _ => ⟨g6, by rw [g7, has], rfl, rfl⟩, fun h => (h hlast).elim⟩
          · rw [if_neg hlast] at g9 g11
            have hlast : q.1 ≠ L.last := fun e => hlast (by rw [e]; simp)
            obtain ⟨hcl, g9⟩ := ite_some g9
            have hcl := clB_eq hcl
            cases g9
            cases g11
            refine ⟨_, a', _, o, g1', g2, g10, ho, rfl, rfl, rfl, g3, ?_, ?_, fun e => (by rw [hin] at e; cases e), fun L' e _ => ?_⟩
            · rw [g4]; rfl
            · rw [g6]; exact hcl
            · cases e
              exact ⟨g5, fun h => (hlast h).elim, fun _ => ⟨g6, rfl, rfl⟩⟩
    have ordAt : ∀ (k : Nat) (x : Inf), I[k]? = some x → ∃ q, ord[k]? = some q := fun k x hk => by
      have hlt : k < ord.length := by rw [← h3]; exact (List.getElem?_eq_some_iff.1 hk).1
      exact ⟨ord[k], List.getElem?_eq_getElem hlt⟩
    refine ⟨I, lit, ⟨by rw [h3, h1], fun k x hx => ?_, fun k ai x hk hx => ?_, fun k ai x hk hx hin => ?_, fun k ai x L hk hx hL hin => ?_, fun k ai x hk hx hc p a y ri hp ha hy hb hri => ?_, hg.1, hg.2, fun L hL q hq => ?_⟩⟩
    · obtain ⟨q, hq⟩ := ordAt k x hx
      obtain ⟨a, a', x', o, g1, g2, g3, g4, g5, _⟩ := common k q hq
      rw [hx] at g3; cases g3
      rw [g5]; exact (List.getElem?_eq_some_iff.1 g4).1
    · obtain ⟨q, hq⟩ := ordAt k x hx
      obtain ⟨a, a', x', o, g1, g2, g3, g4, g5, g6, g7, g8, g9, g10, _⟩ := common k q hq
      rw [hx] at g3; cases g3
      rw [hk] at g2; cases g2
      exact ⟨g9, g10⟩
    · obtain ⟨q, hq⟩ := ordAt k x hx
      obtain ⟨a, a', x', o, g1, g2, g3, g4, g5, g6, g7, g8, g9, g10, g11, _⟩ := common k q hq
      rw [hx] at g3; cases g3
      rw [hk] at g2; cases g2
      obtain ⟨xs, e1, e2, e3, e4, e5⟩ := g11 (by rw [← g5]; exact hin)
      exact ⟨o, xs, by rw [g5]; exact g4, e1, e2, e3, e4, e5⟩
    · obtain ⟨q, hq⟩ := ordAt k x hx
      obtain ⟨a, a', x', o, g1, g2, g3, g4, g5, g6, g7, g8, g9, g10, _, g11⟩ := common k q hq
      rw [hx] at g3; cases g3
      rw [hk] at g2; cases g2
      have := g11 L hL (by rw [← g5]; exact hin)
      rw [g5]; exact this
    · obtain ⟨q, hq⟩ := ordAt k x hx
      obtain ⟨_, a', x', _, _, g2, g3, _, g5, g6, g7, _⟩ := common k q hq
      rw [hx] at g3; cases g3
      obtain ⟨q', hq'⟩ := ordAt p y hy
      obtain ⟨_, a2, y', _, _, k2, k3, _, k5, _, _, k8, _⟩ := common p q' hq'
      rw [hy] at k3; cases k3
      rw [ha] at k2; cases k2
      obtain ⟨_, a3, _, f2, _, _, _, _, _, f8⟩ := h2 k q hq
      rw [hk] at f2; cases f2
      refine (f8 (by rw [← g7]; exact hc)).2 p a hp ha ?_ ri hri
      rw [← g6, k8, ← k5]; exact hb
    · rw [hL] at hlit
      obtain ⟨o, h7, h8⟩ := litIns_mem (litOf_ins hlit) q hq
      obtain ⟨_, h9⟩ := numbered_mem h7
      exact ⟨o, by simpa using h9, h8⟩
end
end Go.Ai
