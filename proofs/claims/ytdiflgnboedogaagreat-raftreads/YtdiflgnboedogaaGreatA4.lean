/- An interpreter on abstract values: how a program's code is brought into its form. -/
import Derived.Test.YtdiflgnboedogaaGreatA3
namespace Go.Ai

noncomputable def absLeaf : Value → Option AV
  | .bool b => some (.b b)
  | .int k n => some (.i k n)
  | .string s => some (.s (mapl UInt8.toNat s.data.toList))
  | .pointer none => some .np
  | .slice none 0 0 => some .nsl
  | .map none => some .nm
  | .nilFunc => some .nf
  | .nilIface => some .nif
  | _ => none
noncomputable def allSome {α β : Type} (f : α → Option β) (l : List α) : Option (List β) :=
  List.rec (motive := fun _ => Option (List β)) (some []) (fun a _ ih => (f a).bind fun b => ih.map (b :: ·)) l
noncomputable def absV : Value → Option AV
  | .agg cs => (allSome absLeaf cs.toList).map .agg
  | .tuple cs => (allSome absLeaf cs.toList).map .tup
  | v => absLeaf v

noncomputable def opdC : Operand → Option Opd
  | .tmp t => if Nat.blt t 1024 then some (.v (slot t)) else none
  | .const v => (absV v).map .c
  | .func f => some (.c (.f (.func f) [] []))
  | .global _ => none

section
variable (P : Program)

def aggT (t : TypeId) : Bool :=
  match P.underlying t with
  | some (.struct _) | some (.array _ _) => true
  | _ => false
/-- Whether a type's values are structs or arrays; none: it is no type. -/
def kindT (t : TypeId) : Option Bool := (P.underlying t).map fun _ => aggT P t
def sizeT (t : TypeId) : Option Nat := (P.info? t).map (·.size)
noncomputable def zeroT (t : TypeId) : Option AV := ((P.info? t).bind (·.zero)).bind absV
/-- The zero cells of a type, as many as its size. -/
noncomputable def zeroC (t : TypeId) : Option (List AV) :=
  (P.info? t).bind fun i => ((i.zero.bind absV).bind AV.cells).bind fun c => if Nat.beq (len c) i.size then some c else none
def fieldsT (t : TypeId) : Option (List Field) :=
  match P.underlying t with
  | some (.struct fs) => some fs.toList
  | _ => none
/-- Where a part of a struct or an array lies, and how many cells it has. -/
noncomputable def placeT (t : TypeId) (i : Nat) : Option (Nat × Nat) :=
  match P.underlying t with
  | some (.struct fs) => (nth fs.toList i).bind fun f => (sizeT P f.type).map fun n => (f.offset, n)
  | some (.array _ e) => (sizeT P e).map fun n => (i * n, n)
  | _ => none
/-- Every part's size is known. -/
def partsT (t : TypeId) : Bool :=
  match P.underlying t with
  | some (.struct fs) => fs.toList.all fun f => (P.info? f.type).isSome
  | some (.array _ e) => (P.info? e).isSome
  | _ => false
/-- A type whose values are bools, whole numbers and strings, nothing else. -/
def flatT : Nat → TypeId → Bool
  | 0, _ => false
  | d + 1, t =>
    match P.underlying t with
    | some .bool | some (.int _) | some .string => true
    | some (.struct fs) => !P.stoodInHeld t && fs.toList.all fun f => f.name != "_" && flatT d f.type
    | _ => false
def keyT (t : TypeId) : Option KK :=
  match P.underlying t with
  | some .bool => some .b
  | some (.int _) => some .i
  | some .string => some .s
  | _ => none
def isNilC : Operand → Bool
  | .const (.pointer none) | .const (.slice none _ _) | .const (.map none) | .const .nilFunc | .const .nilIface => true
  | _ => false

noncomputable def binC (op : BinOp) (t : TypeId) : Option AOp :=
  match op with
  | .eql | .neq =>
    match P.underlying t with
    | some .bool => some (.p (.eqBool (match op with | .neq => true | _ => false)))
    | some (.int _) | some .string => some (.p (.bin op))
    | some (.pointer _) => some (.p (.eqNil .p (match op with | .neq => true | _ => false)))
    | some (.slice _) => some (.p (.eqNil .s (match op with | .neq => true | _ => false)))
    | some (.map _ _) => some (.p (.eqNil .m (match op with | .neq => true | _ => false)))
    | some (.func _ _ _) => some (.p (.eqNil .f (match op with | .neq => true | _ => false)))
    | _ => none
  | _ => some (.p (.bin op))
def unC : UnOp → Option AOp
  | .not => some (.p .not)
  | .neg => some (.p .neg)
  | .xor => some (.p .compl)
  | _ => none
def isInt (t : TypeId) : Bool :=
  match P.underlying t with
  | some (.int _) => true
  | _ => false
def convC (src dst : TypeId) : Option AOp :=
  match P.underlying src, P.underlying dst with
  | some (.int _), some (.int k) => some (.p (.conv k))
  | some .string, some .string => some (.p .idconv)
  | _, _ => none
def small (t : TypeId) : Bool :=
  match P.info? t with
  | some i => Nat.ble i.bytes 65536
  | none => false
noncomputable def builtinC (b : Builtin) (ts : List TypeId) : Option AOp :=
  match b, ts with
  | .len, [t] =>
    match P.underlying t with
    | some .string => some (.p .lenStr)
    | some (.slice _) => some (.p .len)
    | some (.array n _) => some (.p (.lenConst n))
    | some (.pointer a) => match P.underlying a with | some (.array n _) => some (.p (.lenConst n)) | _ => none
    | _ => none
  | .max, [_, _] => some (.p .max)
  | .min, [_, _] => some (.p .min)
  | .append, [t, u] =>
    match P.underlying t, P.underlying u with
    | some (.slice e), some (.slice _) => if small P e then (zeroC P e).bind fun _ => (sizeT P e).bind fun n => if Nat.blt 0 n then some (.e (.append n)) else none else none
    | _, _ => none
  | .copy, [t, u] =>
    match P.underlying t, P.underlying u with
    | some (.slice e), some (.slice _) => (sizeT P e).bind fun n => if Nat.blt 0 n then some (.e (.copy n)) else none
    | _, _ => none
  | .clear, [t] =>
    match P.underlying t with
    | some (.slice e) => (zeroC P e).map fun z => .e (.clear z)
    | _ => none
  | _, _ => none

noncomputable def optL (o : Option Operand) : List Operand := match o with | some x => [x] | none => []

/-- An operation in the interpreter's form, and its operands. -/
noncomputable def opC (o : Oper) : Option (AOp × List Operand) :=
  match o.op with
  | .move x => some (.p .mov, [x])
  | .assign x => some (.p .mov, [x])
  | .pick c a b => some (.p .pick, [c, a, b])
  | .alloc t => (zeroC P t).map fun z => (.l (.alloc z), [])
  | .box _ x => some (.l .box, [x])
  | .build t ps => if partsT P t then (zeroC P t).bind fun z => (allSome (fun q => placeT P t q.1) ps.toList).map fun pl => (.p (.build z pl), mapl (·.2) ps.toList) else none
  | .buildSlice t n ps =>
    match P.underlying t with
    | some (.slice e) =>
      (zeroC P e).bind fun z => (sizeT P e).bind fun es =>
        if Nat.blt 0 es && Nat.ble (n * es) 16777216 then some (.l (.bslice es n (rep z n) (mapl (fun q => (q.1 * es, es)) ps.toList)), mapl (·.2) ps.toList) else none
    | _ => none
  | .load t x => (kindT P t).bind fun k => if k then (sizeT P t).map fun n => (.r (.loadN n), [x]) else some (.r .load1, [x])
  | .store t a x => (sizeT P t).map fun n => (.e (.store n), [a, x])
  | .nilCheck x => some (.p .nilCk, [x])
  | .binOp op t x y _ => (binC P op t).map fun q => (q, [x, y])
  | .unOp op _ x => (unC op).map fun q => (q, [x])
  | .convert s d x => (convC P s d).map fun q => (q, [x])
  | .makeFunc (.func f) first cap => some (.p (.mkFunc (.func f) (len first.toList)), app first.toList cap.toList)
  | .makeMap t r => match P.underlying t with | some (.map _ _) => some (.l .mkMap, optL r) | _ => none
  | .makeSlice t l c =>
    match P.underlying t with
    | some (.slice e) => if small P e then (zeroC P e).bind fun z => (sizeT P e).bind fun es => if Nat.blt 0 es then some (.l (.mkSlice es z), [l, c]) else none else none
    | _ => none
  | .slice t x lo hi mx =>
    match P.underlying t with
    | some .string => match mx with | none => some (.p (.sliceStr lo.isSome hi.isSome), x :: app (optL lo) (optL hi)) | some _ => none
    | some (.slice e) => (sizeT P e).bind fun es => if Nat.blt 0 es then some (.p (.slice es lo.isSome hi.isSome mx.isSome), x :: app (optL lo) (app (optL hi) (optL mx))) else none
    | _ => none
  | .fieldAddr t x i => (fieldsT P t).bind fun fs => (nth fs i).bind fun f => (sizeT P f.type).bind fun n => if Nat.blt 0 n then some (.p (.fldAddr f.offset), [x]) else none
  | .field t x i =>
    (fieldsT P t).bind fun fs => (nth fs i).bind fun f =>
      (kindT P f.type).bind fun k => if k then (sizeT P f.type).map fun n => (.p (.fldN f.offset n), [x]) else some (.p (.fld1 f.offset), [x])
  | .indexAddr t x j =>
    match P.underlying t with
    | some (.slice e) => (sizeT P e).map fun es => (.p (.idxAddrS es), [x, j])
    | some (.array n e) => (sizeT P e).map fun es => (.p (.idxAddrA n es), [x, j])
    | _ => none
  | .index t x j =>
    match P.underlying t with
    | some .string => some (.p .idxStr, [x, j])
    | some (.array n e) => (sizeT P e).bind fun es => (kindT P e).map fun k => if k then (.p (.idxArrN n es), [x, j]) else (.p (.idxArr1 n es), [x, j])
    | _ => none
  | .lookup t x k ok =>
    match P.underlying t with
    | some (.map kt e) => (keyT P kt).bind fun kk => (zeroT P e).map fun z => (.r (.lookup kk z ok), [x, k])
    | _ => none
  | .mapUpdate t m k v | .insert t m k v =>
    match P.underlying t with
    | some (.map kt _) => (keyT P kt).map fun kk => (.e (.mapSet kk), [m, k, v])
    | _ => none
  | .extract x n => some (.p (.extract n), [x])
  | .call c =>
    match c.callee with
    | .builtin b => (builtinC P b c.argTypes.toList).map fun q => (q, c.args.toList)
    | .value f => some (.call, f :: c.args.toList)
    | .invoke _ _ => none
  | _ => none

/-! ### Regions -/
inductive Cl where
  | pure | read | mk | eff
  deriving DecidableEq
def clOf : AOp → Cl
  | .p _ => .pure
  | .r _ => .read
  | .l _ => .mk
  | .e _ => .eff
  | .call => .eff
noncomputable def bitOf (m i : Nat) : Bool := Nat.beq (Nat.land (Nat.shiftRight m i) 1) 1
noncomputable def subset (a b : Nat) : Bool := Nat.beq (Nat.land a b) a
/-- The next place: the first one ready that is no effect, else the first one ready. -/
noncomputable def pickI (done : Nat) : List (Nat × Nat × Cl) → Option (Nat × Nat × Cl) → Option (Nat × Nat × Cl)
  | [], best => best
  | (i, b, c) :: xs, best =>
    if bitOf done i then pickI done xs best
    else if subset b done then
      match c with
      | .eff => pickI done xs (match best with | none => some (i, b, c) | some q => some q)
      | _ => some (i, b, c)
    else pickI done xs best
noncomputable def orderI (l : List (Nat × Nat × Cl)) : Nat → Nat → Option (List (Nat × Nat × Cl))
  | 0, _ => some []
  | n + 1, done => (pickI done l none).bind fun q => (orderI l n (done + 2 ^ q.1)).map (q :: ·)
noncomputable def opdsC (l : List Operand) : Option (List Opd) := allSome opdC l
noncomputable def guardC (ops : List Oper) : Option (Nat × Bool) → Option (Option (Slot × Bool))
  | none => some none
  | some (j, w) => (nth ops j).bind fun o => o.dst.bind fun d => if Nat.blt d 1024 then some (some (slot d, w)) else none
noncomputable def dstC : Option Tmp → Option (Option Slot)
  | none => some none
  | some d => if Nat.blt d 1024 then some (some (slot d)) else none
noncomputable def aiC (ops : List Oper) (i : Nat) (o : Oper) : Option AI :=
  (opC P o).bind fun q => (opdsC q.2).bind fun as => (guardC ops o.guard).bind fun g => (dstC o.dst).map fun d => { ix := i, dst := d, guard := g, op := q.1, args := as, chk := [] }
noncomputable def riOf (a : AI) : Option RI :=
  match a.op, a.dst with
  | .r op, some d => some { op := op, args := a.args, dst := d, guard := a.guard }
  | _, _ => none
/-! A map's literal: the map, and what is put into it, under constant keys: laid whole where the last of them is put. -/
abbrev LIns := Nat × AV × Operand
structure Lit where
  mm : Nat
  d : Tmp
  ins : List LIns
  last : Nat
def isIns (d : Tmp) (o : Oper) : Bool :=
  match o.op with
  | .insert _ (.tmp m) _ _ => Nat.beq m d
  | _ => false
noncomputable def insKV (o : Oper) : Option (AV × Operand) :=
  match o.op with
  | .insert _ _ k v => match opdC k with | some (.c a) => some (a, v) | _ => none
  | _ => none
noncomputable def litIns (d : Tmp) : List (Nat × Oper) → Option (List LIns)
  | [] => some []
  | q :: l => if isIns d q.2 then (insKV q.2).bind fun p => (litIns d l).map ((q.1, p) :: ·) else litIns d l
noncomputable def lastOf : List LIns → Nat → Nat
  | [], n => n
  | q :: l, _ => lastOf l q.1
noncomputable def litOf (all : List (Nat × Oper)) : List (Nat × Oper) → Option Lit
  | [] => none
  | q :: l =>
    match q.2.op, q.2.dst with
    | .makeMap _ _, some d => match litIns d all with | some (p :: ps) => some ⟨q.1, d, p :: ps, lastOf ps p.1⟩ | _ => litOf all l
    | _, _ => litOf all l
noncomputable def inIns (i : Nat) (l : List LIns) : Bool := List.rec (motive := fun _ => Bool) false (fun q _ ih => Nat.beq q.1 i || ih) l
noncomputable def inG (lit : Option Lit) (i : Nat) : Bool :=
  match lit with
  | none => false
  | some L => Nat.beq i L.mm || inIns i L.ins
noncomputable def litKeys (L : Lit) : List AV := mapl (fun q : LIns => q.2.1) L.ins
noncomputable def litVals (L : Lit) : List Operand := mapl (fun q : LIns => q.2.2) L.ins
noncomputable def litAI (i : Nat) (L : Lit) : Option AI :=
  if Nat.beq i L.last then (dstC (some L.d)).bind fun d => (opdsC (litVals L)).map fun as => { ix := i, dst := d, guard := none, op := .l (.mapLit (litKeys L)), args := as, chk := [] }
  else some { ix := i, dst := none, guard := none, op := .p .mov, args := [.c .u], chk := [] }
noncomputable def aiG (lit : Option Lit) (ops : List Oper) (i : Nat) (o : Oper) : Option AI :=
  match lit with
  | none => aiC P ops i o
  | some L => if inG (some L) i then litAI i L else aiC P ops i o
noncomputable def insEdges (L : Lit) : List LIns → List Edge
  | [] => []
  | q :: l => if Nat.beq q.1 L.last then insEdges L l else ⟨q.1, .data⟩ :: insEdges L l
noncomputable def vop (L : Lit) (q : Nat × Oper) : Oper := if Nat.beq q.1 L.last then { q.2 with after := (app q.2.after.toList (insEdges L L.ins)).toArray } else q.2
/-- The reads that are made again behind an effect: those that ran before it and need not. -/
noncomputable def chkC (b : Nat) : List AI → List RI
  | [] => []
  | a :: as => if bitOf b a.ix then chkC b as else match riOf a with | some r => r :: chkC b as | none => chkC b as
noncomputable def layC (ais : List AI) : List (Nat × Nat × Cl) → List AI → Option (List AI)
  | [], _ => some []
  | (i, b, c) :: xs, seen =>
    (nth ais i).bind fun a =>
      match c with
      | .eff => (layC ais xs (a :: seen)).map ({ a with chk := chkC b seen } :: ·)
      | _ => (layC ais xs (a :: seen)).map (a :: ·)
noncomputable def numberedFrom {α : Type} : Nat → List α → List (Nat × α)
  | _, [] => []
  | n, a :: as => (n, a) :: numberedFrom (n + 1) as
/-- The operations as they are ordered here: the last of a literal's comes behind all of them. -/
noncomputable def vops (lit : Option Lit) (ops : List Oper) : List Oper :=
  match lit with
  | none => ops
  | some L => mapl (vop L) (numberedFrom 0 ops)
noncomputable def litR (ops : List Oper) : Option Lit := litOf (numberedFrom 0 ops) (numberedFrom 0 ops)
noncomputable def regC (ops : List Oper) : Option (List AI) :=
  (allSome (fun q => aiG P (litR ops) ops q.1 q.2) (numberedFrom 0 ops)).bind fun ais =>
    (orderI (mapl (fun q : Nat × Nat × AI => (q.1, q.2.1, clOf q.2.2.op)) (numberedFrom 0 ((Region.before (vops (litR ops) ops).toArray).toList.zip ais))) (len ops) 0).bind fun ord =>
      layC ais ord []
end
end Go.Ai
