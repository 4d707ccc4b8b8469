/- RaftReads: its runs on abstract values, piece by piece. -/
import Derived.Test.YtdiflgnboedogaaGreatG1b
namespace Go.Ai
noncomputable def ha0 (_ : Nat) (_ : Nat) : T AO := hpT []
noncomputable def qa0 (many : Nat) (n : Nat) : Regs := ⟨⟨⟨⟨(.i .u8 (.ofNat many)), (.i .u8 (.ofNat n)), .u, .u⟩, u1, u1, u1⟩, u2, u2, u2⟩, u5⟩
noncomputable def a0 (many : Nat) (n : Nat) : St := .code c3x156 (qa0 many n) ⟨ha0 many n, 0⟩ [.ret [(.tmp s4)]]
noncomputable def ha1 (_ : Nat) (_ : Nat) : T AO := hpT []
noncomputable def qa1 (many : Nat) (n : Nat) : Regs := ⟨⟨⟨⟨(.i .u8 (.ofNat many)), (.i .u8 (.ofNat n)), .u, .u⟩, ⟨.u, tt, .u, .u⟩, u1, u1⟩, u2, u2, u2⟩, u5⟩
noncomputable def a1 (many : Nat) (n : Nat) : St := .code c3x153 (qa1 many n) ⟨ha1 many n, 79⟩ [.ret [(.tmp s4)]]
theorem ga1 (many n : Nat) : chunk ft prim 1461 (ha1 many n) (qa1 many n) (a0 many n) = some (a1 many n) := by kernel_rfl
noncomputable def hb0 (_ : Nat) (_ : Nat) : T AO := hpT []
noncomputable def fb0 (many : Nat) (n : Nat) (t : Int) : St := .code c6x62 ⟨⟨⟨⟨(.i .i64 (wrapA .i64 ((.ofNat 1) + (wrapA .i64 t)))), .nsl, .u, .u⟩, u1, u1, u1⟩, u2, u2, u2⟩, u5⟩ ⟨hb0 many n, 79⟩ [.ret [(.tmp s4)], .ops ⟨⟨⟨⟨(.i .u8 (.ofNat many)), (.i .u8 (.ofNat n)), .u, .u⟩, ⟨.u, tt, .u, .u⟩, u1, u1⟩, ⟨u1, u1, ⟨.u, .u, (.i .u8 (.ofNat many)), (.i .u8 t)⟩, ⟨(.i .i64 (wrapA .i64 t)), (.i .i64 (wrapA .i64 ((.ofNat 1) + (wrapA .i64 t)))), .u, .u⟩⟩, u2, u2⟩, u5⟩ (some s30) [] r3x13, .seq c3x152, .ret [(.tmp s4)]]
theorem gfb0 (many n : Nat) : run ft prim 1 (a1 many n) = some (fb0 many n (Int.tmod (.ofNat many) (.ofNat 5))) := by kernel_rfl
end Go.Ai
