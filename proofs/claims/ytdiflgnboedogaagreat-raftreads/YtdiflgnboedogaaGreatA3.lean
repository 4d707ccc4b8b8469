/- An interpreter on abstract values: the heap, code, the machine, and what its runs mean. -/
import Derived.Test.YtdiflgnboedogaaGreatA2
namespace Go.Ai

/-! ### Code -/
inductive ROp where
  | load1
  | loadN (n : Nat)
  | lookup (kk : KK) (zero : AV) (ok : Bool)
  | lenMap
  | toStr
  | sliceArr (len es : Nat) (lo hi : Bool)
inductive LOp where
  | alloc (cells : List AV)
  | box
  | bslice (es n : Nat) (zero : List AV) (places : List (Nat × Nat))
  | mkMap
  | mkSlice (es : Nat) (zero : List AV)
  | toBytes
  | siter
  | mapLit (ks : List AV)
inductive EOp where
  | store (n : Nat)
  | append (es : Nat)
  | appendStr
  | copy (es : Nat)
  | copyStr
  | clear (zero : List AV)
  | mapSet (kk : KK)
  | mapDel (kk : KK)
  | next
inductive AOp where
  | p (op : POp)
  | r (op : ROp)
  | l (op : LOp)
  | e (op : EOp)
  | call
inductive Opd where
  | v (s : Slot)
  | c (x : AV)
/-- A read that is made again. -/
structure RI where
  op : ROp
  args : List Opd
  dst : Slot
  guard : Option (Slot × Bool)
structure AI where
  ix : Nat
  dst : Option Slot
  guard : Option (Slot × Bool)
  op : AOp
  args : List Opd
  chk : List RI
inductive AC where
  | skip
  | ret
  | reg (ops : List AI)
  | seq (a b : AC)
  | cond (c : Opd) (t e : AC)
  | block (id : Nat) (c : AC)
  | loop (c : AC)
  | exit (id : Nat)
  | rangeF (f : Opd) (params : List Slot) (assign body : AC)
inductive ResV where
  | tmp (s : Slot)
  | cell1 (s : Slot)
  | cellN (s : Slot) (n : Nat)
structure AFunc where
  params : List Slot
  body : AC
  results : List ResV
inductive FEnt where
  | code (f : AFunc)
  | prim (k : Nat)

/-! ### The heap -/
inductive Ex where
  | norm
  | exit (id : Nat)
  | ret
  deriving DecidableEq
inductive LSt where
  | ready | busy | done | over
inductive AO where
  | row (fz : Bool) (cs : List AV)
  | map (es : List (AV × AV))
  | loop (st : LSt) (pend : Ex) (r : Regs) (params : List Slot) (assign body : AC)
  | iter (l : List Nat) (pos : Nat)
structure Hp where
  t : T AO
  next : Nat
noncomputable def Hp.get (h : Hp) (o : Nat) : Option AO := T.get h.t o
noncomputable def Hp.add (h : Hp) (o : AO) : Hp := ⟨T.set (some o) h.t h.next, Nat.succ h.next⟩
noncomputable def Hp.upd (h : Hp) (k : Nat) (o : Option AO) : Hp := ⟨T.set o h.t k, h.next⟩

noncomputable def Hp.addK {β : Type} (h : Hp) (o : AO) (g : Hp → β) : β := T.setK (some o) h.t h.next fun t => g ⟨t, Nat.succ h.next⟩
theorem Hp.addK_eq {β : Type} (h : Hp) (o : AO) (g : Hp → β) : h.addK o g = g (h.add o) := T.setK_eq _ _ _ _
noncomputable def Hp.updK {β : Type} (h : Hp) (k : Nat) (o : Option AO) (g : Hp → β) : β := T.setK o h.t k fun t => g ⟨t, h.next⟩
theorem Hp.updK_eq {β : Type} (h : Hp) (k : Nat) (o : Option AO) (g : Hp → β) : h.updK k o g = g (h.upd k o) := T.setK_eq _ _ _ _

noncomputable def Opd.ev (r : Regs) : Opd → AV
  | .v s => Regs.get r s
  | .c x => x
noncomputable def evs (r : Regs) (l : List Opd) : List AV := mapl (Opd.ev r) l

noncomputable def rep (zero : List AV) (n : Nat) : List AV := Nat.rec (motive := fun _ => List AV) [] (fun _ ih => app zero ih) n

/-! ### Reads -/
noncomputable def rLoad1 (h : Hp) : List AV → Option AV
  | [.p o off] =>
    match h.get o with
    | some (.row _ cs) => nth cs off
    | _ => none
  | _ => none
noncomputable def rLoadN (n : Nat) (h : Hp) : List AV → Option AV
  | [.p o off] =>
    match h.get o with
    | some (.row _ cs) => if Nat.ble (off + n) (len cs) then some (.agg (tak (drp cs off) n)) else none
    | _ => none
  | _ => none
noncomputable def findA (kk : KK) (k : AV) : List (AV × AV) → Option (Option AV)
  | [] => some none
  | (a, v) :: es =>
    match eqKey kk k a with
    | some true => some (some v)
    | some false => findA kk k es
    | none => none
noncomputable def rLookup (kk : KK) (zero : AV) (ok : Bool) (h : Hp) : List AV → Option AV
  | [.nm, _] => some (if ok then .tup [zero, .b false] else zero)
  | [.m o, k] =>
    match h.get o with
    | some (.map es) => (findA kk k es).map fun r => match r with
      | some v => if ok then .tup [v, .b true] else v
      | none => if ok then .tup [zero, .b false] else zero
    | _ => none
  | _ => none
noncomputable def rLenMap (h : Hp) : List AV → Option AV
  | [.nm] => some (.i .i64 (.ofNat 0))
  | [.m o] =>
    match h.get o with
    | some (.map es) => some (.i .i64 (.ofNat (len es)))
    | _ => none
  | _ => none
noncomputable def bytesA : List AV → Option (List Nat)
  | [] => some []
  | .i .u8 (.ofNat n) :: r => if Nat.blt n 256 then (bytesA r).map (n :: ·) else none
  | _ :: _ => none
noncomputable def rToStr (h : Hp) : List AV → Option AV
  | [.nsl] => some (.s [])
  | [.sl o off n _ _] =>
    match h.get o with
    | some (.row _ cs) => if Nat.ble (off + n) (len cs) then (bytesA (tak (drp cs off) n)).map .s else none
    | _ => none
  | _ => none
noncomputable def rSliceArr (n es : Nat) (lo hi : Bool) (h : Hp) : List AV → Option AV
  | .p o off :: vs =>
    match h.get o with
    | some (.row _ cs) => if Nat.ble (off + n * es) (len cs) then (bounds3 n lo hi false vs).map (cutA es o off n true) else none
    | _ => none
  | _ => none
noncomputable def evalR : ROp → Hp → List AV → Option AV
  | .load1 => rLoad1
  | .loadN n => rLoadN n
  | .lookup kk z ok => rLookup kk z ok
  | .lenMap => rLenMap
  | .toStr => rToStr
  | .sliceArr n es lo hi => rSliceArr n es lo hi

/-! ### What makes memory: the object, and the value by its number -/
inductive Mk where
  | p
  | sl (n es : Nat) (full : Bool)
  | m
def Mk.val (id : Nat) : Mk → AV
  | .p => .p id 0
  | .sl n es full => .sl id 0 n es full
  | .m => .m id
noncomputable def lAlloc (cells : List AV) : List AV → Option (AO × Mk)
  | [] => some (.row false cells, .p)
  | _ => none
noncomputable def lBox : List AV → Option (AO × Mk)
  | [x] => x.cells.map fun c => (.row false c, .p)
  | _ => none
noncomputable def lBslice (es n : Nat) (zero : List AV) (places : List (Nat × Nat)) (vs : List AV) : Option (AO × Mk) :=
  (fillA zero places vs).map fun c => (.row false c, .sl n es true)
noncomputable def lMap : List AV → Option (AO × Mk)
  | [] => some (.map [], .m)
  | [.i _ _] => some (.map [], .m)
  | _ => none
noncomputable def lSlice (es : Nat) (zero : List AV) : List AV → Option (AO × Mk)
  | [.i .i64 (.ofNat n), .i .i64 (.ofNat c)] => if Nat.ble n c && Nat.ble c 1048576 then some (.row false (rep zero n), .sl n es (Nat.beq n c)) else none
  | _ => none
noncomputable def lBytes : List AV → Option (AO × Mk)
  | [.s l] => if Nat.ble (len l) 1073741824 then some (.row false (mapl (fun n => .i .u8 (.ofNat n)) l), .sl (len l) 1 false) else none
  | _ => none
noncomputable def lIter : List AV → Option (AO × Mk)
  | [.s l] => some (.iter l 0, .p)
  | _ => none
noncomputable def zipA : List AV → List AV → Option (List (AV × AV))
  | [], [] => some []
  | k :: ks, v :: vs => (zipA ks vs).map ((k, v) :: ·)
  | _, _ => none
noncomputable def lMapLit (ks vs : List AV) : Option (AO × Mk) := (zipA ks vs).map fun es => (.map es, .m)
noncomputable def evalL : LOp → List AV → Option (AO × Mk)
  | .alloc c => lAlloc c
  | .box => lBox
  | .bslice es n z p => lBslice es n z p
  | .mkMap => lMap
  | .mkSlice es z => lSlice es z
  | .toBytes => lBytes
  | .siter => lIter
  | .mapLit ks => lMapLit ks

/-! ### What writes -/
noncomputable def eStore (n : Nat) (h : Hp) : List AV → Option (AV × Hp)
  | [.p o off, v] =>
    match h.get o with
    | some (.row false cs) => v.cells.bind fun vc => if Nat.beq (len vc) n then (put cs vc off).bind fun c => h.updK o (some (.row false c)) fun h' => some (.u, h') else none
    | _ => none
  | _ => none
/-- m elements, of these cells, behind a slice. -/
noncomputable def appendA (es : Nat) (h : Hp) (x : AV) (m : Nat) (new : List AV) : Option (AV × Hp) :=
  match x with
  | .nsl => Nat.rec (motive := fun _ => Option (AV × Hp)) (some (.nsl, h)) (fun _ _ =>
      if Nat.ble m 1073741824 then h.addK (.row false new) fun h' => some (.sl h.next 0 m es false, h') else none) m
  | .sl o off n es' full => Nat.rec (motive := fun _ => Option (AV × Hp)) (some (.sl o off n es' full, h)) (fun _ _ =>
      match h.get o with
      | some (.row fz cs) =>
        if Nat.beq es' es && (Nat.ble (n + m) 1073741824 && (Nat.ble (off + n * es) (len cs) && (!fz || Nat.beq (off + n * es) (len cs)))) then
          if full then h.addK (.row false (app (tak (drp cs off) (n * es)) new)) fun h' => some (.sl h.next 0 (n + m) es false, h')
          else h.updK o none fun h1 => h1.addK (.row fz (app (tak (drp cs off) (n * es)) new)) fun h' => some (.sl h.next 0 (n + m) es false, h')
        else none
      | _ => none) m
  | _ => none
/-- How many elements, and their cells. -/
noncomputable def cellsOf (es : Nat) (h : Hp) : AV → Option (Nat × List AV)
  | .nsl => some (0, [])
  | .sl o off n _ _ =>
    match h.get o with
    | some (.row _ cs) => if Nat.ble (off + n * es) (len cs) then some (n, tak (drp cs off) (n * es)) else none
    | _ => none
  | _ => none
noncomputable def u8s (l : List Nat) : List AV := mapl (fun n => .i .u8 (.ofNat n)) l
noncomputable def eAppend (es : Nat) (h : Hp) : List AV → Option (AV × Hp)
  | [x, y] => (cellsOf es h y).bind fun q => appendA es h x q.1 q.2
  | _ => none
noncomputable def eAppendStr (h : Hp) : List AV → Option (AV × Hp)
  | [x, .s l] => appendA 1 h x (len l) (u8s l)
  | _ => none
/-- Cells laid down at the head of a slice. -/
noncomputable def layA (h : Hp) (o off : Nat) (new : List AV) : Option Hp :=
  match h.get o with
  | some (.row false cs) => (put cs new off).bind fun c => h.updK o (some (.row false c)) some
  | _ => none
noncomputable def eCopy (es : Nat) (h : Hp) : List AV → Option (AV × Hp)
  | [.nsl, y] => (cellsOf es h y).map fun _ => (.i .i64 (.ofNat 0), h)
  | [.sl o off n _ _, y] => (cellsOf es h y).bind fun q => (layA h o off (tak q.2 (Nat.min q.1 n * es))).map fun h' => (.i .i64 (.ofNat (Nat.min q.1 n)), h')
  | _ => none
noncomputable def eCopyStr (h : Hp) : List AV → Option (AV × Hp)
  | [.nsl, .s _] => some (.i .i64 (.ofNat 0), h)
  | [.sl o off n _ _, .s l] => (layA h o off (u8s (tak l (Nat.min (len l) n)))).map fun h' => (.i .i64 (.ofNat (Nat.min (len l) n)), h')
  | _ => none
noncomputable def eClear (zero : List AV) (h : Hp) : List AV → Option (AV × Hp)
  | [.nsl] => some (.u, h)
  | [.sl o off n _ _] => Nat.rec (motive := fun _ => Option (AV × Hp)) (some (.u, h)) (fun _ _ => (layA h o off (rep zero n)).map fun h' => (.u, h')) n
  | _ => none
noncomputable def setA (kk : KK) (k v : AV) : List (AV × AV) → Option (List (AV × AV))
  | [] => some [(k, v)]
  | (a, x) :: es =>
    match eqKey kk k a with
    | some true => some ((k, v) :: es)
    | some false => (setA kk k v es).map ((a, x) :: ·)
    | none => none
noncomputable def delA (kk : KK) (k : AV) : List (AV × AV) → Option (List (AV × AV))
  | [] => some []
  | (a, x) :: es =>
    match eqKey kk k a with
    | some true => some es
    | some false => (delA kk k es).map ((a, x) :: ·)
    | none => none
noncomputable def eMapSet (kk : KK) (h : Hp) : List AV → Option (AV × Hp)
  | [.m o, k, v] =>
    match h.get o with
    | some (.map es) => (setA kk k v es).bind fun l => h.updK o (some (.map l)) fun h' => some (.u, h')
    | _ => none
  | _ => none
noncomputable def eMapDel (kk : KK) (h : Hp) : List AV → Option (AV × Hp)
  | [.nm, _] => some (.u, h)
  | [.m o, k] =>
    match h.get o with
    | some (.map es) => (delA kk k es).bind fun l => h.updK o (some (.map l)) fun h' => some (.u, h')
    | _ => none
  | _ => none
noncomputable def eNext (h : Hp) : List AV → Option (AV × Hp)
  | [.p o 0] =>
    match h.get o with
    | some (.iter l pos) =>
      match nth l pos with
      | some c => if Nat.blt c 128 then h.updK o (some (.iter l (Nat.succ pos))) fun h' => some (.tup [.b true, .i .i64 (.ofNat pos), .i .i32 (.ofNat c)], h') else none
      | none => some (.tup [.b false], h)
    | _ => none
  | _ => none
noncomputable def evalE : EOp → Hp → List AV → Option (AV × Hp)
  | .store n => eStore n
  | .append es => eAppend es
  | .appendStr => eAppendStr
  | .copy es => eCopy es
  | .copyStr => eCopyStr
  | .clear z => eClear z
  | .mapSet kk => eMapSet kk
  | .mapDel kk => eMapDel kk
  | .next => eNext

/-! ### The machine -/
noncomputable def bindArgs (r : Regs) : List Slot → List AV → Option Regs
  | [], [] => some r
  | s :: ss, v :: vs => Regs.setK s r v fun r' => bindArgs r' ss vs
  | _, _ => none
noncomputable def resOne (r : Regs) (h : Hp) : ResV → Option AV
  | .tmp s => some (Regs.get r s)
  | .cell1 s => rLoad1 h [Regs.get r s]
  | .cellN s n => rLoadN n h [Regs.get r s]
noncomputable def resAll (r : Regs) (h : Hp) : List ResV → Option (List AV)
  | [] => some []
  | x :: xs => (resOne r h x).bind fun v => (resAll r h xs).map (v :: ·)
def tie : List AV → AV
  | [v] => v
  | l => .tup l
noncomputable def resVal (r : Regs) (h : Hp) (l : List ResV) : Option AV := (resAll r h l).map tie

/-- A guard: some true: it is to be done; some false: it is not. -/
noncomputable def wantA (r : Regs) : Option (Slot × Bool) → Option Bool
  | none => some true
  | some (s, w) =>
    match Regs.get r s with
    | .b x => some (x == w)
    | .tup [] => some false
    | _ => none
noncomputable def setDst (r : Regs) (d : Option Slot) (v : AV) : Regs :=
  match d with
  | some s => Regs.set r s v
  | none => r
noncomputable def setDstK {β : Type} (r : Regs) (d : Option Slot) (v : AV) (g : Regs → β) : β :=
  match d with
  | some s => Regs.setK s r v g
  | none => g r
theorem setDstK_eq {β : Type} (r : Regs) (d : Option Slot) (v : AV) (g : Regs → β) : setDstK r d v g = g (setDst r d v) := by
  cases d with
  | none => rfl
  | some s => exact Regs.setK_eq r s v g
noncomputable def sameList (f : AV → AV → Bool) : List AV → List AV → Bool
  | [], [] => true
  | x :: xs, y :: ys => f x y && sameList f xs ys
  | _, _ => false
def sameOne : AV → AV → Bool
  | .b x, .b y => x == y
  | .i .i64 a, .i .i64 b => eqI a b
  | .i .u64 a, .i .u64 b => eqI a b
  | .i .u32 a, .i .u32 b => eqI a b
  | .i .u8 a, .i .u8 b => eqI a b
  | .p o a, .p q b => Nat.beq o q && Nat.beq a b
  | .np, .np => true
  | .sl o a n e f, .sl q b m d g => Nat.beq o q && (Nat.beq a b && (Nat.beq n m && (Nat.beq e d && (f == g))))
  | .nsl, .nsl => true
  | .m o, .m q => Nat.beq o q
  | .nm, .nm => true
  | .nf, .nf => true
  | .nif, .nif => true
  | _, _ => false
noncomputable def sameLeaf : AV → AV → Bool
  | .s a, .s b => eqL a b
  | x, y => sameOne x y
noncomputable def sameA : AV → AV → Bool
  | .agg a, .agg b => sameList sameLeaf a b
  | x, y => sameLeaf x y
noncomputable def rereads (r : Regs) (h : Hp) : List RI → Bool
  | [] => true
  | x :: xs =>
    match wantA r x.guard with
    | some true =>
      match evalR x.op h (evs r x.args) with
      | some v => if sameA v (Regs.get r x.dst) then rereads r h xs else false
      | none => false
    | some false => rereads r h xs
    | none => false

inductive K where
  | seq (c : AC)
  | blk (id : Nat)
  | lp (c : AC)
  | ops (r : Regs) (dst : Option Slot) (chk : List RI) (rest : List AI)
  | ret (l : List ResV)
  | rng (r : Regs) (l : Nat)
  | asg (l : Nat) (body : AC)
  | rnd (l : Nat)
inductive St where
  | code (c : AC) (r : Regs) (h : Hp) (k : List K)
  | ops (l : List AI) (r : Regs) (h : Hp) (k : List K)
  | bck (e : Ex) (r : Regs) (h : Hp) (k : List K)
  | val (v : AV) (h : Hp) (k : List K)

section
variable (ft : T FEnt) (prim : Nat → Hp → List AV → Option (AV × Hp))

noncomputable def callF (f : Nat) (args : List AV) (h : Hp) (k : List K) : Option St :=
  match T.get ft f with
  | some (.code fn) => (bindArgs u6 fn.params args).map fun r => .code fn.body r h (.ret fn.results :: k)
  | some (.prim n) => (prim n h args).map fun q => .val q.1 q.2 k
  | none => none
noncomputable def callY (l : Nat) (args : List AV) (h : Hp) (k : List K) : Option St :=
  match h.get l with
  | some (.loop .ready _ r params assign body) => (bindArgs r params args).map fun r' => .code assign r' h (.asg l body :: k)
  | _ => none
noncomputable def callV (args : List AV) (h : Hp) (k : List K) : AV → Option St
  | .f (.func f) first cap => callF ft prim f (app first (app args cap)) h k
  | .f (.yield l) [] [] => callY l args h k
  | _ => none
noncomputable def doP (i : AI) (r : Regs) (op : POp) (g : Regs → Option St) : Option St :=
  match evalP op (evs r i.args) with
  | some v => setDstK r i.dst v g
  | none => none
noncomputable def doR (i : AI) (r : Regs) (h : Hp) (op : ROp) (g : Regs → Option St) : Option St :=
  match evalR op h (evs r i.args) with
  | some v => setDstK r i.dst v g
  | none => none
noncomputable def doL (i : AI) (r : Regs) (h : Hp) (op : LOp) (g : Regs → Hp → Option St) : Option St :=
  match evalL op (evs r i.args) with
  | some q => setDstK r i.dst (q.2.val h.next) fun r' => h.addK q.1 fun h' => g r' h'
  | none => none
noncomputable def doE (i : AI) (r : Regs) (h : Hp) (op : EOp) (g : Regs → Hp → Option St) : Option St :=
  match evalE op h (evs r i.args) with
  | some q => setDstK r i.dst q.1 fun r' => if rereads r' q.2 i.chk then g r' q.2 else none
  | none => none
noncomputable def doCall (i : AI) (rest : List AI) (r : Regs) (h : Hp) (k : List K) : Option St :=
  match evs r i.args with
  | f :: args => callV ft prim args h (.ops r i.dst i.chk rest :: k) f
  | [] => none
noncomputable def doOp (i : AI) (rest : List AI) (g : Regs → Hp → List K → Option St) (r : Regs) (h : Hp) (k : List K) : Option St :=
  match i.op with
  | .p op => doP i r op fun r' => g r' h k
  | .r op => doR i r h op fun r' => g r' h k
  | .l op => doL i r h op fun r' h' => g r' h' k
  | .e op => doE i r h op fun r' h' => g r' h' k
  | .call => doCall ft prim i rest r h k
noncomputable def oneOp (i : AI) (rest : List AI) (g : Regs → Hp → List K → Option St) (r : Regs) (h : Hp) (k : List K) : Option St :=
  match wantA r i.guard with
  | some true => doOp ft prim i rest g r h k
  | some false => setDstK r i.dst (.tup []) fun r' => g r' h k
  | none => none
noncomputable def stepOps (l : List AI) : Regs → Hp → List K → Option St :=
  List.rec (motive := fun _ => Regs → Hp → List K → Option St) (fun r h k => some (.bck .norm r h k)) (fun i rest ih => oneOp ft prim i rest ih) l
noncomputable def callC (f : Nat) (args : List AV) (h : Hp) (k : List K) : Option St :=
  match T.get ft f with
  | some (.code fn) => (bindArgs u6 fn.params args).map fun r => .code fn.body r h (.ret fn.results :: k)
  | _ => none
noncomputable def ranged (f : Opd) (params : List Slot) (assign body : AC) (r : Regs) (h : Hp) (k : List K) : Option St :=
  match f.ev r with
  | .f (.func g) first cap => h.addK (.loop .ready .norm r params assign body) fun h' => callC ft g (app first (app [.f (.yield h.next) [] []] cap)) h' (.rng r h.next :: k)
  | _ => none
noncomputable def condGo (c : Opd) (t e : Regs → Hp → List K → Option St) (r : Regs) (h : Hp) (k : List K) : Option St :=
  match c.ev r with
  | .b x => Bool.rec (motive := fun _ => Regs → Hp → List K → Option St) e t x r h k
  | _ => none
noncomputable def stepCode (c : AC) : Regs → Hp → List K → Option St :=
  AC.rec (motive := fun _ => Regs → Hp → List K → Option St)
    (fun r h k => some (.bck .norm r h k))
    (fun r h k => some (.bck .ret r h k))
    (fun ops => stepOps ft prim ops)
    (fun _ b iha _ r h k => iha r h (.seq b :: k))
    (fun c _ _ iht ihe => condGo c iht ihe)
    (fun id _ ih r h k => ih r h (.blk id :: k))
    (fun c ih r h k => ih r h (.lp c :: k))
    (fun id r h k => some (.bck (.exit id) r h k))
    (fun f ps a b _ _ => ranged ft f ps a b) c
noncomputable def bckK (e : Ex) (r : Regs) (h : Hp) (k : List K) : K → Option St
  | .seq c =>
    match e with
    | .norm => some (.code c r h k)
    | e => some (.bck e r h k)
  | .blk id =>
    match e with
    | .exit j => if Nat.beq j id then some (.bck .norm r h k) else some (.bck (.exit j) r h k)
    | e => some (.bck e r h k)
  | .lp c =>
    match e with
    | .norm => some (.code c r h (.lp c :: k))
    | e => some (.bck e r h k)
  | .ret l =>
    match e with
    | .exit _ => none
    | _ => (resVal r h l).map fun v => .val v h k
  | .asg l body =>
    match e, h.get l with
    | .norm, some (.loop .ready p r' ps a b) => h.updK l (some (.loop .busy p r' ps a b)) fun h' => some (.code body r h' (.rnd l :: k))
    | _, _ => none
  | .rnd l =>
    match h.get l with
    | some (.loop .busy _ r' ps a b) =>
      match e with
      | .norm => h.updK l (some (.loop .ready .norm r' ps a b)) fun h' => some (.val (.b true) h' k)
      | e => h.updK l (some (.loop .done e r' ps a b)) fun h' => some (.val (.b false) h' k)
    | _ => none
  | .ops .. | .rng .. => none
noncomputable def valK (v : AV) (h : Hp) (k : List K) : K → Option St
  | .ops r dst chk rest => setDstK r dst v fun r' => if rereads r' h chk then some (.ops rest r' h k) else none
  | .rng r l =>
    match h.get l with
    | some (.loop .ready p r' ps a b) => h.updK l (some (.loop .over p r' ps a b)) fun h' => some (.bck p r h' k)
    | some (.loop .done p r' ps a b) => h.updK l (some (.loop .over p r' ps a b)) fun h' => some (.bck p r h' k)
    | _ => none
  | _ => none
/-- What is behind, till something is to be done. -/
noncomputable def stepBck (e : Ex) (r : Regs) (h : Hp) : List K → Option St
  | [] => none
  | x :: k => bckK e r h k x
noncomputable def stepVal (v : AV) (h : Hp) : List K → Option St
  | [] => some (.val v h [])
  | x :: k => valK v h k x
noncomputable def step : St → Option St
  | .code c r h k => stepCode ft prim c r h k
  | .ops l r h k => stepOps ft prim l r h k
  | .bck e r h k => stepBck e r h k
  | .val v h k => stepVal v h k
/-- A word between two rounds: the kernel comes back to its own loop here. -/
def goOn (f : St → Option St) (s : St) : Option St := f s
noncomputable def run (n : Nat) : St → Option St :=
  Nat.rec (motive := fun _ => St → Option St) some (fun _ ih s => Option.rec (motive := fun _ => Option St) none (fun s' => goOn ih s') (step ft prim s)) n

end
end Go.Ai
