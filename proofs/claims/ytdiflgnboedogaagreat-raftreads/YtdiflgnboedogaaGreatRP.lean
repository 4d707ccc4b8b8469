/- pintlelaw17.RaftReads returns true at whatever two numbers it is called, and its arguments read behind the call as ahead of it. No condition. -/
import Derived.Test.YtdiflgnboedogaaGreatRL
namespace Go.Proofs.YtdiflgnboedogaaGreat
open Go.ChangeShapes Go.WideShapes Go.ChangeAt Go.RowKit Go.Ai

theorem Tryz.own : ownKnob Tryz.prog.godebug = none := by kernel_rfl

/-- The run itself. -/
theorem reads_any (a b : Int) (ha : (Lit.int .u8 a).wf = true) (hb : (Lit.int .u8 b).wf = true) (W : World) : Calls Tryz.prog 3 #[.int .u8 a, .int .u8 b] W fun e W' => e = .returned (.bool true) ∧ Below W.heap.size W W' := by
  have nat_of : ∀ a : Int, (Lit.int .u8 a).wf = true → ∃ n : Nat, a = .ofNat n := fun a ha => by
    simp only [Lit.wf, Bool.and_eq_true, decide_eq_true_eq] at ha
    exact Int.eq_ofNat_of_zero_le (by have := ha.1; simpa [IntKind.min, IntKind.signed] using this)
  obtain ⟨many, rfl⟩ := nat_of a ha
  obtain ⟨n, rfl⟩ := nat_of b hb
  obtain ⟨h', hfn⟩ := law_fn many n
  have hv : VRs (fun _ => none) [.i .u8 (.ofNat many), .i .u8 (.ofNat n)] [Value.int .u8 (.ofNat many), .int .u8 (.ofNat n)] := by
    simp only [VRs]
    exact ⟨_, _, rfl, by simp [VR], _, _, rfl, by simp [VR], rfl⟩
  have hr : HR Tryz.prog (Go.Ai.Good Tryz.prog) (fun _ => none) ⟨.e, 0⟩ W := ⟨fun _ _ h => (nomatch h), fun _ _ _ h => (nomatch h), fun _ _ _ _ h => (nomatch h), fun _ _ => rfl⟩
  have hc := (hfn.2 (fun _ => none) W _ hv hr).2
  have hc2 := (callsIn_wide (P := Tryz.prog)).1 hc
  refine Calls.mono hc2 fun e W' he => ?_
  cases e with
  | returned v =>
    obtain ⟨ρ', h1, h2, h3⟩ := he
    refine ⟨by rw [vr_b h1], h3.os, h3.tape, h3.output, h3.size, fun k hk => h3.frame k hk fun _ _ h => (nomatch h)⟩
  | panicked ch => exact he.elim
  | outgrown => exact he.elim

set_option maxRecDepth 100000 in
theorem raftReads_lifted (os : Os) (started : os.Started) (H : Type) (enc : TypeId × Value → H) :
    ReturnsInHanded {} Tryz.checked os 3 .any (Rows.raftReadsSpec.pre6 enc Tryz.prog Tryz.f3 Rows.raftReadsRow.domain false) (Rows.raftReadsSpec.post enc Tryz.prog Tryz.f3 false true false false) := by
  refine returnsInHanded_of_change (C := Tryz.checked) Tryz.own started (by kernel_rfl) Tryz.func3
    (ChangeSpec.witness6 (enc := enc) (C := Tryz.checked) false ⟨#[], #[.int .u8 0, .int .u8 0], []⟩ 8 (by kernel_rfl) (by kernel_rfl) (by kernel_rfl) (by kernel_rfl)) ?_
  intro W base args ds gs before hval0 hW hcnd _
  have hval : ∀ (j : Nat) t v, Tryz.f3.params[j]? = some t → args[j]? = some v → Value.okWide Tryz.prog W .any base t v := hval0
  have hW' := hW
  obtain ⟨p, q, hA0, hV, rfl, hfz, hnd⟩ := hW
  have hA : DataW.TrodAll enc Tryz.prog W 0 (fun _ => true) true Tryz.f3.params.toList args.toList ds p := hA0
  rw [Tryz.params3] at hA hval
  obtain ⟨v0, v1, d0, d1, p0, p1, rfl, rfl, rfl, h0, h1⟩ := trodAll_two hA
  obtain ⟨rfl, rfl⟩ := trodVars_none hV
  obtain ⟨a, rfl, rfl, rfl, wa⟩ := open_int Tryz.underlying5 (hval 0 5 v0 rfl rfl) h0
  obtain ⟨b, rfl, rfl, rfl, wb⟩ := open_int Tryz.underlying5 (hval 1 5 v1 rfl rfl) h1
  clear hA0 hval0
  simp only [List.append_nil] at hW'
  refine (reads_any a b wa wb W).mono fun e W' ⟨he, hw⟩ => ?_
  subst he
  have hb : ∀ (w : World) (base : Nat) (spare : Nat → Bool) (held : Bool), DataW.Trod enc Tryz.prog w base spare held 4 (.bool true) (.lit (.bool true)) [] := fun w base spare held => ⟨1, by simp [DataW.trod, Value.cells, Tryz.underlying4]⟩
  exact ⟨_, rfl, _, _, _, [], [], [], hW', trodAll_mk1 (hb _ _ _ _), trodAll_mk2 (shut_int Tryz.underlying5 wa) (shut_int Tryz.underlying5 wb), rfl, hw.frame _, fun h => by cases h⟩

theorem raftReads_holds : Rows.RaftReadsSaid :=
  OpenClaim.holds_of_wide 3 Tryz.f3 rfl rfl rfl rfl rfl rfl rfl ⟨rfl, rfl, rfl, rfl, rfl⟩ rfl rfl rfl rfl rfl (by kernel_rfl) Tryz.func3 (by kernel_rfl)
    (of_decide_eq_true (by kernel_rfl)) (by unfold Func.isWrapper; first | (rw [if_pos (by decide +kernel)]; kernel_rfl) | (rw [if_neg (by decide +kernel)]; exact ⟨rfl, rfl⟩))
    (fun os started H enc _ => raftReads_lifted os started H enc)
end Go.Proofs.YtdiflgnboedogaaGreat
