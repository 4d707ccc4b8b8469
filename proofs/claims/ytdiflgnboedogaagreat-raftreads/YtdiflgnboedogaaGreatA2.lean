/- An interpreter on abstract values: what the operations compute. -/
import Derived.Test.YtdiflgnboedogaaGreatA1
namespace Go.Ai

/-! ### Whole numbers, for the kernel -/
def topOf : IntKind → Nat
  | .i8 => 127 | .i16 => 32767 | .i32 => 2147483647 | .i64 => 9223372036854775807
  | .u8 => 255 | .u16 => 65535 | .u32 => 4294967295 | .u64 => 18446744073709551615
noncomputable def wrapA (k : IntKind) (n : Int) : Int :=
  Int.rec (motive := fun _ => Int) (fun m => Bool.rec (motive := fun _ => Int) (k.wrap (.ofNat m)) (.ofNat m) (Nat.ble m (topOf k))) (fun m => k.wrap (.negSucc m)) n
def ltI : Int → Int → Bool
  | .ofNat a, .ofNat b => Nat.blt a b
  | .ofNat _, .negSucc _ => false
  | .negSucc _, .ofNat _ => true
  | .negSucc a, .negSucc b => Nat.blt b a
def eqI : Int → Int → Bool
  | .ofNat a, .ofNat b => Nat.beq a b
  | .negSucc a, .negSucc b => Nat.beq a b
  | _, _ => false
theorem wrapA_eq (k : IntKind) (n : Int) : wrapA k n = k.wrap n := by
  cases n with
  | negSucc m => rfl
  | ofNat m =>
    show Bool.rec (motive := fun _ => Int) (k.wrap (.ofNat m)) (.ofNat m) (Nat.ble m (topOf k)) = _
    cases h : Nat.ble m (topOf k) with
    | false => rfl
    | true =>
      have h' : m ≤ topOf k := Nat.le_of_ble_eq_true h
      show (Int.ofNat m) = k.wrap (Int.ofNat m)
      cases k <;> simp [topOf] at h' <;> simp [IntKind.wrap, IntKind.bits, IntKind.signed] <;> omega
theorem ltI_eq (a b : Int) : ltI a b = decide (a < b) := by
  cases a <;> cases b <;> rw [Bool.eq_iff_iff] <;> simp [ltI, Nat.blt_eq] <;> omega
theorem eqI_eq (a b : Int) : eqI a b = (a == b) := by
  cases a <;> cases b <;> rw [Bool.eq_iff_iff] <;> simp [eqI] <;> omega
noncomputable def eqL (a : List Nat) : List Nat → Bool :=
  List.rec (motive := fun _ => List Nat → Bool) (fun b => List.rec (motive := fun _ => Bool) true (fun _ _ _ => false) b)
    (fun x _ ih b => List.rec (motive := fun _ => Bool) false (fun y t _ => Bool.rec (motive := fun _ => Bool) false (ih t) (Nat.beq x y)) b) a
theorem eqL_eq (a b : List Nat) : eqL a b = decide (a = b) := by
  induction a generalizing b with
  | nil => cases b with
    | nil => rfl
    | cons y t => rfl
  | cons x s ih => cases b with
    | nil => rfl
    | cons y t =>
      show Bool.rec (motive := fun _ => Bool) false (eqL s t) (Nat.beq x y) = _
      rw [ih t]
      cases h : Nat.beq x y with
      | false =>
        have hne : x ≠ y := fun e => by simp [e] at h
        simp [hne]
      | true =>
        have he : x = y := Nat.eq_of_beq_eq_true h
        simp [he]

/-! ### Equality of what has no address -/
/-- What can be held against nil. -/
inductive NK where
  | p | s | m | f
/-- Where one of both is nil: whether both are. -/
def eqLeaf : NK → AV → AV → Option Bool
  | .p, .np, .np => some true
  | .p, .np, .p _ _ => some false
  | .p, .p _ _, .np => some false
  | .s, .nsl, .nsl => some true
  | .s, .nsl, .sl _ _ _ _ _ => some false
  | .s, .sl _ _ _ _ _, .nsl => some false
  | .m, .nm, .nm => some true
  | .m, .nm, .m _ => some false
  | .m, .m _, .nm => some false
  | .f, .nf, .nf => some true
  | .f, .nf, .f _ _ _ => some false
  | .f, .f _ _ _, .nf => some false
  | _, _, _ => none
/-- Plain values alone. -/
noncomputable def eqPlain : AV → AV → Option Bool
  | .b x, .b y => some (x == y)
  | .i j a, .i k b => if j = k then some (eqI a b) else none
  | .s a, .s b => some (eqL a b)
  | _, _ => none
/-- The kinds of a map's keys. -/
inductive KK where
  | b | i | s
noncomputable def eqKey : KK → AV → AV → Option Bool
  | .b, .b x, .b y => some (x == y)
  | .i, .i j a, .i k b => if j = k then some (eqI a b) else none
  | .s, .s a, .s b => some (eqL a b)
  | _, _, _ => none
noncomputable def eqCells : List AV → List AV → Option Bool
  | [], [] => some true
  | x :: xs, y :: ys =>
    match eqPlain x y with
    | some true => eqCells xs ys
    | some false => some false
    | none => none
  | _, _ => none

/-! ### Operations that look at no memory -/
inductive POp where
  | mov
  | pick
  | build (zero : List AV) (places : List (Nat × Nat))
  | fld1 (off : Nat)
  | fldN (off n : Nat)
  | fldAddr (off : Nat)
  | idxAddrS (es : Nat)
  | idxAddrA (len es : Nat)
  | idxStr
  | idxArr1 (len es : Nat)
  | idxArrN (len es : Nat)
  | nilCk
  | bin (op : BinOp)
  | eqBool (neg : Bool)
  | eqAgg (neg : Bool)
  | eqNil (k : NK) (neg : Bool)
  | not
  | neg
  | compl
  | conv (k : IntKind)
  | idconv
  | sliceStr (lo hi : Bool)
  | slice (es : Nat) (lo hi mx : Bool)
  | extract (n : Nat)
  | mkFunc (fn : AFn) (first : Nat)
  | mkIface (t : Nat)
  | lenStr
  | len
  | lenConst (n : Nat)
  | max
  | min

/-- The cells of a value with parts laid over it. -/
noncomputable def fillA (cells : List AV) : List (Nat × Nat) → List AV → Option (List AV)
  | [], [] => some cells
  | (off, n) :: ps, v :: vs => v.cells.bind fun vc => if Nat.beq (len vc) n then (put cells vc off).bind fun c => fillA c ps vs else none
  | _, _ => none

noncomputable def shlA (k : IntKind) (a : Int) (n : Nat) : Int := wrapA k (a * 2 ^ n)
noncomputable def shrA (a : Int) (n : Nat) : Int := a.fdiv (2 ^ n)
noncomputable def bitsA (op : BinOp) (k : IntKind) (x y : Int) : Option AV :=
  let a := BitVec.ofInt k.bits x
  let b := BitVec.ofInt k.bits y
  match op with
  | .and => some (.i k (wrapA k ((a &&& b).toNat : Int)))
  | .or => some (.i k (wrapA k ((a ||| b).toNat : Int)))
  | .xor => some (.i k (wrapA k ((a ^^^ b).toNat : Int)))
  | .andNot => some (.i k (wrapA k ((a &&& ~~~b).toNat : Int)))
  | _ => none

noncomputable def intBin (op : BinOp) (k : IntKind) (a b : Int) : Option AV :=
  match op with
  | .add => some (.i k (wrapA k (a + b)))
  | .sub => some (.i k (wrapA k (a - b)))
  | .mul => some (.i k (wrapA k (a * b)))
  | .quo => if eqI b 0 then none else some (.i k (wrapA k (a.tdiv b)))
  | .rem => if eqI b 0 then none else some (.i k (a.tmod b))
  | .eql => some (.b (eqI a b))
  | .neq => some (.b (!eqI a b))
  | .lss => some (.b (ltI a b))
  | .leq => some (.b (!ltI b a))
  | .gtr => some (.b (ltI b a))
  | .geq => some (.b (!ltI a b))
  | .and => bitsA .and k a b
  | .or => bitsA .or k a b
  | .xor => bitsA .xor k a b
  | .andNot => bitsA .andNot k a b
  | _ => none
noncomputable def strBin (op : BinOp) (a b : List Nat) : Option AV :=
  match op with
  | .add => if Nat.ble (len a + len b) 1099511627776 then some (.s (app a b)) else none
  | .eql => some (.b (eqL a b))
  | .neq => some (.b (!eqL a b))
  | _ => none
noncomputable def evalBin (op : BinOp) : AV → AV → Option AV
  | .i j a, .i k b =>
    match op with
    | .shl => if ltI b 0 then none else some (.i j (shlA j a (Nat.min b.toNat j.bits)))
    | .shr => if ltI b 0 then none else some (.i j (shrA a (Nat.min b.toNat j.bits)))
    | _ => if j = k then intBin op j a b else none
  | .s a, .s b => strBin op a b
  | _, _ => none

noncomputable def natOf : AV → Option Nat
  | .i _ (.ofNat a) => some a
  | _ => none
noncomputable def popB (there : Bool) (vs : List AV) : Option (Option Nat × List AV) :=
  match there with
  | false => some (none, vs)
  | true =>
    match vs with
    | v :: r => (natOf v).map fun a => (some a, r)
    | [] => none
/-- low, high and max of a slice: what is there, in this order. -/
noncomputable def bounds3 (n : Nat) (lo hi mx : Bool) (vs : List AV) : Option (Nat × Nat × Option Nat) :=
  (popB lo vs).bind fun p => (popB hi p.2).bind fun q => (popB mx q.2).bind fun r =>
    match r.2, q.1, r.1 with
    | [], none, none => if Nat.ble (p.1.getD 0) n then some (p.1.getD 0, n, none) else none
    | [], some b, none => if Nat.ble (p.1.getD 0) b && Nat.ble b n then some (p.1.getD 0, b, none) else none
    | [], some b, some c => if Nat.ble (p.1.getD 0) b && (Nat.ble b c && Nat.ble c n) then some (p.1.getD 0, b, some c) else none
    | _, _, _ => none

noncomputable def cutA (es o off n : Nat) (full : Bool) : Nat × Nat × Option Nat → AV
  | (a, b, none) => .sl o (off + a * es) (b - a) es (full && Nat.beq b n)
  | (a, b, some c) => .sl o (off + a * es) (b - a) es (Nat.beq b c)

noncomputable def pMov : List AV → Option AV
  | [x] => some x
  | _ => none
noncomputable def pPick : List AV → Option AV
  | [.b c, x, y] => some (Bool.rec (motive := fun _ => AV) y x c)
  | _ => none
noncomputable def pBuild (zero : List AV) (places : List (Nat × Nat)) (vs : List AV) : Option AV := (fillA zero places vs).map .agg
noncomputable def pFld1 (off : Nat) : List AV → Option AV
  | [.agg l] => nth l off
  | _ => none
noncomputable def pFldN (off n : Nat) : List AV → Option AV
  | [.agg l] => if Nat.ble (off + n) (len l) then some (.agg (tak (drp l off) n)) else none
  | _ => none
noncomputable def pFldAddr (k : Nat) : List AV → Option AV
  | [.p o off] => some (.p o (off + k))
  | _ => none
noncomputable def pIdxS (es : Nat) : List AV → Option AV
  | [.sl o off n _ _, .i _ (.ofNat j)] => if Nat.blt j n then some (.p o (off + j * es)) else none
  | _ => none
noncomputable def pIdxA (n es : Nat) : List AV → Option AV
  | [.p o off, .i _ (.ofNat j)] => if Nat.blt j n then some (.p o (off + j * es)) else none
  | _ => none
noncomputable def pIdxStr : List AV → Option AV
  | [.s l, .i _ (.ofNat j)] => (nth l j).map fun c => .i .u8 (.ofNat c)
  | _ => none
noncomputable def pIdxArr1 (n es : Nat) : List AV → Option AV
  | [.agg l, .i _ (.ofNat j)] => if Nat.blt j n then nth l (j * es) else none
  | _ => none
noncomputable def pIdxArrN (n es : Nat) : List AV → Option AV
  | [.agg l, .i _ (.ofNat j)] => if Nat.blt j n && Nat.ble (j * es + es) (len l) then some (.agg (tak (drp l (j * es)) es)) else none
  | _ => none
noncomputable def pNilCk : List AV → Option AV
  | [.p o off] => some (.p o off)
  | [.f fn a b] => some (.f fn a b)
  | _ => none
noncomputable def pBin (op : BinOp) : List AV → Option AV
  | [x, y] => evalBin op x y
  | _ => none
noncomputable def pEqBool (neg : Bool) : List AV → Option AV
  | [.b x, .b y] => some (.b (Bool.xor neg (x == y)))
  | _ => none
noncomputable def pEqAgg (neg : Bool) : List AV → Option AV
  | [.agg a, .agg b] => (eqCells a b).map fun r => .b (Bool.xor neg r)
  | _ => none
noncomputable def pEqNil (k : NK) (neg : Bool) : List AV → Option AV
  | [x, y] => (eqLeaf k x y).map fun r => .b (Bool.xor neg r)
  | _ => none
noncomputable def pNot : List AV → Option AV
  | [.b x] => some (.b (!x))
  | _ => none
noncomputable def pNeg : List AV → Option AV
  | [.i k n] => some (.i k (wrapA k (0 - n)))
  | _ => none
noncomputable def pCompl : List AV → Option AV
  | [.i k n] => bitsA .xor k (if k.signed then -1 else k.max) n
  | _ => none
noncomputable def pConv (k : IntKind) : List AV → Option AV
  | [.i _ n] => some (.i k (wrapA k n))
  | _ => none
noncomputable def pIdStr : List AV → Option AV
  | [.s l] => some (.s l)
  | _ => none
noncomputable def pSliceStr (lo hi : Bool) : List AV → Option AV
  | .s l :: vs => (bounds3 (len l) lo hi false vs).map fun q => .s (tak (drp l q.1) (q.2.1 - q.1))
  | _ => none
noncomputable def pSlice (es : Nat) (lo hi mx : Bool) : List AV → Option AV
  | .sl o off n es' full :: vs => if Nat.beq es' es then (bounds3 n lo hi mx vs).map (cutA es o off n full) else none
  | .nsl :: vs => (bounds3 0 lo hi mx vs).map fun _ => .nsl
  | _ => none
noncomputable def pExtract (n : Nat) : List AV → Option AV
  | [.tup l] => nth l n
  | _ => none
noncomputable def pMkFunc (fn : AFn) (k : Nat) (vs : List AV) : Option AV := some (.f fn (tak vs k) (drp vs k))
noncomputable def pMkIface (t : Nat) : List AV → Option AV
  | [x] => some (.ifc t x)
  | _ => none
noncomputable def pLenStr : List AV → Option AV
  | [.s l] => some (.i .i64 (.ofNat (len l)))
  | _ => none
noncomputable def pLen : List AV → Option AV
  | [.sl _ _ n _ _] => some (.i .i64 (.ofNat n))
  | [.nsl] => some (.i .i64 (.ofNat 0))
  | _ => none
noncomputable def pLenConst (n : Nat) : List AV → Option AV
  | [_] => some (.i .i64 (.ofNat n))
  | _ => none
noncomputable def pMax : List AV → Option AV
  | [.i j a, .i _ b] => some (.i j (Bool.rec (motive := fun _ => Int) a b (ltI a b)))
  | _ => none
noncomputable def pMin : List AV → Option AV
  | [.i j a, .i _ b] => some (.i j (Bool.rec (motive := fun _ => Int) a b (ltI b a)))
  | _ => none

noncomputable def evalP : POp → List AV → Option AV
  | .mov => pMov
  | .pick => pPick
  | .build z p => pBuild z p
  | .fld1 off => pFld1 off
  | .fldN off n => pFldN off n
  | .fldAddr k => pFldAddr k
  | .idxAddrS es => pIdxS es
  | .idxAddrA n es => pIdxA n es
  | .idxStr => pIdxStr
  | .idxArr1 n es => pIdxArr1 n es
  | .idxArrN n es => pIdxArrN n es
  | .nilCk => pNilCk
  | .bin op => pBin op
  | .eqBool neg => pEqBool neg
  | .eqAgg neg => pEqAgg neg
  | .eqNil k neg => pEqNil k neg
  | .not => pNot
  | .neg => pNeg
  | .compl => pCompl
  | .conv k => pConv k
  | .idconv => pIdStr
  | .sliceStr lo hi => pSliceStr lo hi
  | .slice es lo hi mx => pSlice es lo hi mx
  | .extract n => pExtract n
  | .mkFunc fn k => pMkFunc fn k
  | .mkIface t => pMkIface t
  | .lenStr => pLenStr
  | .len => pLen
  | .lenConst n => pLenConst n
  | .max => pMax
  | .min => pMin
end Go.Ai
