/- An interpreter on abstract values: how a program's code is brought into its form (its statements). -/
import Derived.Test.YtdiflgnboedogaaGreatA4
namespace Go.Ai
section
variable (P : Program)
def badAC : AC := .cond (.c .u) .skip .skip
noncomputable def codeC : Code → AC
  | .skip => .skip
  | .label _ => .skip
  | .ret => .ret
  | .region _ ops _ => match regC P ops.toList with | some l => .reg l | none => badAC
  | .seq a b => .seq (codeC a) (codeC b)
  | .cond c t e => match opdC c with | some x => .cond x (codeC t) (codeC e) | none => badAC
  | .block id c => .block id (codeC c)
  | .loop c => .loop (codeC c)
  | .exit id => .exit id
  | .rangeFunc f ps a b =>
    match opdC f, allSome (fun t => if Nat.blt t 1024 then some (slot t) else none) ps.toList with
    | some x, some l => .rangeF x l (codeC a) (codeC b)
    | _, _ => badAC
  | .scope c => codeC c
  | .goto _ => badAC
  | .refuse _ => badAC
noncomputable def resC : ResultVar → Option ResV
  | .tmp t => if Nat.blt t 1024 then some (.tmp (slot t)) else none
  | .cell a t => if Nat.blt a 1024 then (sizeT P t).map fun n => if aggT P t then .cellN (slot a) n else .cell1 (slot a) else none
noncomputable def slotsUpto (n : Nat) : List Slot := mapl (fun q : Nat × Nat => slot q.1) (numberedFrom 0 (List.replicate n 0))
noncomputable def funcC (f : Func) : Option AFunc :=
  f.body.bind fun b => (allSome (resC P) f.results.toList).map fun rs => { params := slotsUpto (f.params.size + f.nfree), body := codeC P b, results := rs }
end
end Go.Ai
