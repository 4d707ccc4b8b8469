/- RaftReads: it returns true, whatever the input; nothing that was there is changed. -/
import Derived.Test.YtdiflgnboedogaaGreatRZ
import Derived.Test.YtdiflgnboedogaaGreatG6
import Derived.Test.YtdiflgnboedogaaGreatRows
import Derived.ProofKit
namespace Go.Ai
open Go.Proofs Go.Shelf
noncomputable def entl : List (Nat × FEnt) := [(3, .code af3), (7, .code af7), (15, .code af15), (63, .code af63), (127, .code af127), (47, .code af47), (79, .code af79), (111, .code af111), (23, .code af23), (39, .code af39), (71, .code af71), (103, .code af103), (55, .code af55), (119, .code af119), (11, .code af11), (19, .code af19), (35, .code af35), (67, .code af67), (99, .code af99), (51, .code af51), (83, .code af83), (27, .code af27), (43, .code af43), (75, .code af75), (107, .code af107), (123, .code af123), (5, .code af5), (9, .code af9), (17, .code af17), (33, .code af33), (65, .code af65), (97, .code af97), (49, .code af49), (81, .code af81), (113, .code af113), (25, .code af25), (41, .code af41), (73, .code af73), (137, .code af137), (105, .code af105), (89, .code af89), (13, .code af13), (21, .code af21), (37, .code af37), (69, .code af69), (101, .code af101), (53, .code af53), (85, .code af85), (29, .code af29), (45, .code af45), (77, .code af77), (109, .code af109), (61, .code af61), (93, .code af93), (125, .code af125), (4, .code af4), (8, .code af8), (16, .code af16), (32, .code af32), (64, .code af64), (96, .code af96), (48, .code af48), (80, .code af80), (144, .prim 0), (112, .code af112), (24, .code af24), (40, .code af40), (72, .code af72), (136, .code af136), (104, .code af104), (56, .code af56), (88, .code af88), (12, .code af12), (20, .code af20), (36, .code af36), (68, .code af68), (100, .code af100), (52, .code af52), (84, .code af84), (28, .code af28), (44, .code af44), (76, .code af76), (108, .code af108), (92, .code af92), (124, .code af124), (6, .code af6), (10, .code af10), (18, .code af18), (34, .code af34), (66, .code af66), (130, .code af130), (98, .code af98), (50, .code af50), (82, .code af82), (26, .code af26), (42, .code af42), (74, .code af74), (138, .code af138), (106, .prim 1), (14, .code af14), (22, .code af22), (38, .code af38), (102, .code af102), (54, .code af54), (86, .code af86), (30, .code af30), (46, .code af46), (78, .code af78), (62, .code af62), (94, .code af94), (126, .code af126)]
theorem ents : entries ft (fun k => k) = entl := by kernel_rfl
set_option maxRecDepth 100000 in
theorem tab : ∀ q ∈ entl, OkE Tryz.prog q :=
  (List.forall_mem_cons.2 ⟨fok3, (List.forall_mem_cons.2 ⟨fok7, (List.forall_mem_cons.2 ⟨fok15, (List.forall_mem_cons.2 ⟨fok63, (List.forall_mem_cons.2 ⟨fok127, (List.forall_mem_cons.2 ⟨fok47, (List.forall_mem_cons.2 ⟨fok79, (List.forall_mem_cons.2 ⟨fok111, (List.forall_mem_cons.2 ⟨fok23, (List.forall_mem_cons.2 ⟨fok39, (List.forall_mem_cons.2 ⟨fok71, (List.forall_mem_cons.2 ⟨fok103, (List.forall_mem_cons.2 ⟨fok55, (List.forall_mem_cons.2 ⟨fok119, (List.forall_mem_cons.2 ⟨fok11, (List.forall_mem_cons.2 ⟨fok19, (List.forall_mem_cons.2 ⟨fok35, (List.forall_mem_cons.2 ⟨fok67, (List.forall_mem_cons.2 ⟨fok99, (List.forall_mem_cons.2 ⟨fok51, (List.forall_mem_cons.2 ⟨fok83, (List.forall_mem_cons.2 ⟨fok27, (List.forall_mem_cons.2 ⟨fok43, (List.forall_mem_cons.2 ⟨fok75, (List.forall_mem_cons.2 ⟨fok107, (List.forall_mem_cons.2 ⟨fok123, (List.forall_mem_cons.2 ⟨fok5, (List.forall_mem_cons.2 ⟨fok9, (List.forall_mem_cons.2 ⟨fok17, (List.forall_mem_cons.2 ⟨fok33, (List.forall_mem_cons.2 ⟨fok65, (List.forall_mem_cons.2 ⟨fok97, (List.forall_mem_cons.2 ⟨fok49, (List.forall_mem_cons.2 ⟨fok81, (List.forall_mem_cons.2 ⟨fok113, (List.forall_mem_cons.2 ⟨fok25, (List.forall_mem_cons.2 ⟨fok41, (List.forall_mem_cons.2 ⟨fok73, (List.forall_mem_cons.2 ⟨fok137, (List.forall_mem_cons.2 ⟨fok105, (List.forall_mem_cons.2 ⟨fok89, (List.forall_mem_cons.2 ⟨fok13, (List.forall_mem_cons.2 ⟨fok21, (List.forall_mem_cons.2 ⟨fok37, (List.forall_mem_cons.2 ⟨fok69, (List.forall_mem_cons.2 ⟨fok101, (List.forall_mem_cons.2 ⟨fok53, (List.forall_mem_cons.2 ⟨fok85, (List.forall_mem_cons.2 ⟨fok29, (List.forall_mem_cons.2 ⟨fok45, (List.forall_mem_cons.2 ⟨fok77, (List.forall_mem_cons.2 ⟨fok109, (List.forall_mem_cons.2 ⟨fok61, (List.forall_mem_cons.2 ⟨fok93, (List.forall_mem_cons.2 ⟨fok125, (List.forall_mem_cons.2 ⟨fok4, (List.forall_mem_cons.2 ⟨fok8, (List.forall_mem_cons.2 ⟨fok16, (List.forall_mem_cons.2 ⟨fok32, (List.forall_mem_cons.2 ⟨fok64, (List.forall_mem_cons.2 ⟨fok96, (List.forall_mem_cons.2 ⟨fok48, (List.forall_mem_cons.2 ⟨fok80, (List.forall_mem_cons.2 ⟨trivial, (List.forall_mem_cons.2 ⟨fok112, (List.forall_mem_cons.2 ⟨fok24, (List.forall_mem_cons.2 ⟨fok40, (List.forall_mem_cons.2 ⟨fok72, (List.forall_mem_cons.2 ⟨fok136, (List.forall_mem_cons.2 ⟨fok104, (List.forall_mem_cons.2 ⟨fok56, (List.forall_mem_cons.2 ⟨fok88, (List.forall_mem_cons.2 ⟨fok12, (List.forall_mem_cons.2 ⟨fok20, (List.forall_mem_cons.2 ⟨fok36, (List.forall_mem_cons.2 ⟨fok68, (List.forall_mem_cons.2 ⟨fok100, (List.forall_mem_cons.2 ⟨fok52, (List.forall_mem_cons.2 ⟨fok84, (List.forall_mem_cons.2 ⟨fok28, (List.forall_mem_cons.2 ⟨fok44, (List.forall_mem_cons.2 ⟨fok76, (List.forall_mem_cons.2 ⟨fok108, (List.forall_mem_cons.2 ⟨fok92, (List.forall_mem_cons.2 ⟨fok124, (List.forall_mem_cons.2 ⟨fok6, (List.forall_mem_cons.2 ⟨fok10, (List.forall_mem_cons.2 ⟨fok18, (List.forall_mem_cons.2 ⟨fok34, (List.forall_mem_cons.2 ⟨fok66, (List.forall_mem_cons.2 ⟨fok130, (List.forall_mem_cons.2 ⟨fok98, (List.forall_mem_cons.2 ⟨fok50, (List.forall_mem_cons.2 ⟨fok82, (List.forall_mem_cons.2 ⟨fok26, (List.forall_mem_cons.2 ⟨fok42, (List.forall_mem_cons.2 ⟨fok74, (List.forall_mem_cons.2 ⟨fok138, (List.forall_mem_cons.2 ⟨trivial, (List.forall_mem_cons.2 ⟨fok14, (List.forall_mem_cons.2 ⟨fok22, (List.forall_mem_cons.2 ⟨fok38, (List.forall_mem_cons.2 ⟨fok102, (List.forall_mem_cons.2 ⟨fok54, (List.forall_mem_cons.2 ⟨fok86, (List.forall_mem_cons.2 ⟨fok30, (List.forall_mem_cons.2 ⟨fok46, (List.forall_mem_cons.2 ⟨fok78, (List.forall_mem_cons.2 ⟨fok62, (List.forall_mem_cons.2 ⟨fok94, (List.forall_mem_cons.2 ⟨fok126, (fun _ h => nomatch h)⟩)⟩)⟩)⟩)⟩)⟩)⟩)⟩)⟩)⟩)⟩)⟩)⟩)⟩)⟩)⟩)⟩)⟩)⟩)⟩)⟩)⟩)⟩)⟩)⟩)⟩)⟩)⟩)⟩)⟩)⟩)⟩)⟩)⟩)⟩)⟩)⟩)⟩)⟩)⟩)⟩)⟩)⟩)⟩)⟩)⟩)⟩)⟩)⟩)⟩)⟩)⟩)⟩)⟩)⟩)⟩)⟩)⟩)⟩)⟩)⟩)⟩)⟩)⟩)⟩)⟩)⟩)⟩)⟩)⟩)⟩)⟩)⟩)⟩)⟩)⟩)⟩)⟩)⟩)⟩)⟩)⟩)⟩)⟩)⟩)⟩)⟩)⟩)⟩)⟩)⟩)⟩)⟩)⟩)⟩)⟩)⟩)⟩)⟩)⟩)⟩)⟩)⟩)⟩)⟩)⟩)⟩)⟩)⟩)⟩)⟩)
theorem tab_code : ∀ f fn, T.get ft f = some (.code fn) → FnOK Tryz.prog f fn := fun f fn h => by
  have := mem_entries (g := fun k => k) h
  rw [ents] at this
  exact tab _ this
noncomputable def entp : List (Nat × Nat) := [(144, 0), (106, 1)]
theorem entps : entl.flatMap prims = entp := by kernel_rfl
theorem tab_prim {f n : Nat} (h : T.get ft f = some (.prim n)) : (f, n) ∈ entp := by
  have := mem_entries (g := fun k => k) h
  rw [ents] at this
  rw [← entps, List.mem_flatMap]
  exact ⟨_, this, by simp [prims]⟩
def ren21 : Ren := ⟨fun | 21 => 106 | 27 => 128 | 28 => 129 | 35 => 142 | 39 => 146 | n => n, fun | 22 => 27 | 3 => 3 | 4 => 4 | 0 => 0 | n => n, fun n => n⟩
theorem lays21 : Lays2.n21 Tryz.prog ren21 :=
  { mixed := by kernel_rfl
    f21 := Tryz.func106.trans (congrArg some (by kernel_rfl))
    f27 := Tryz.func128.trans (congrArg some (by kernel_rfl))
    f28 := Tryz.func129.trans (congrArg some (by kernel_rfl))
    f35 := Tryz.func142.trans (congrArg some (by kernel_rfl))
    f39 := Tryz.func146.trans (congrArg some (by kernel_rfl))
    t0 := Tryz.underlying0
    a0 := Tryz.isAgg0
    z0 := Tryz.sizeOf0
    v0 := Tryz.zeroValue0
    t3 := Tryz.underlying3
    a3 := Tryz.isAgg3
    z3 := Tryz.sizeOf3
    v3 := Tryz.zeroValue3
    t4 := Tryz.underlying4
    a4 := Tryz.isAgg4
    z4 := Tryz.sizeOf4
    v4 := Tryz.zeroValue4
    t22 := Tryz.underlying27
    a22 := Tryz.isAgg27
    z22 := Tryz.sizeOf27
    v22 := Tryz.zeroValue27
    i3 := by kernel_rfl }
theorem prim_ok : ∀ f n, T.get ft f = some (.prim n) → ∀ args h v h', prim n h args = some (v, h') → PrimS Tryz.prog f args h v h' := fun f n hf args h v h' hp => by
  have := tab_prim hf
  simp only [entp, List.mem_cons, Prod.mk.injEq, List.not_mem_nil, or_false] at this
  rcases this with ⟨rfl, rfl⟩ | ⟨rfl, rfl⟩
  · have hp' : primIdx h args = some (v, h') := hp
    exact primIdx_sound (P := Tryz.prog) (fn := Tryz.f144) Tryz.func144 (by kernel_rfl) (by kernel_rfl) (by kernel_rfl) (by kernel_rfl) hp'
  · have hp' : primIns h args = some (v, h') := hp
    have hfn : ∃ fn, Tryz.prog.funcs[ren21.f 21]? = some fn ∧ (fn.name == "runtime.NumGoroutine") = false ∧ fn.body.isNone = false := ⟨Tryz.f106, by kernel_rfl, by kernel_rfl, by kernel_rfl⟩
    exact insA_sound (P := Tryz.prog) lays21 hfn hp'
theorem law_fn (many n : Nat) : ∃ h, FnS Tryz.prog 3 [.i .u8 (.ofNat many), .i .u8 (.ofNat n)] ⟨.e, 0⟩ (.b true) h := by
  obtain ⟨h, hb⟩ := law_runs many n
  exact ⟨h, B_sound (P := Tryz.prog) (by kernel_rfl) tab_code prim_ok hb⟩
end Go.Ai
