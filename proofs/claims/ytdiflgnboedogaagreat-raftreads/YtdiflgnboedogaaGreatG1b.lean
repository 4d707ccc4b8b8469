/- The functions that are given by contracts of their own. -/
import Derived.Test.YtdiflgnboedogaaGreatG1
import Derived.Test.YtdiflgnboedogaaGreatA35
import Derived.KernelRfl
namespace Go.Ai
noncomputable def prim (n : Nat) : Hp → List AV → Option (AV × Hp) :=
  match n with
  | 0 => primIdx
  | 1 => primIns
  | _ => fun _ _ => none
end Go.Ai
