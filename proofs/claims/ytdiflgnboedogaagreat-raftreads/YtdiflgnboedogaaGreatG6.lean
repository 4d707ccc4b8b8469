/- Each function of the table is brought into the form from the program, and may be. -/
import Derived.Test.YtdiflgnboedogaaGreatG1
import Derived.Test.YtdiflgnboedogaaGreatA34
import Derived.Test.YtdiflgnboedogaaGreatProg
namespace Go.Ai
open Go.Proofs
theorem fok3 : FnOK Tryz.prog 3 af3 := by
  refine ⟨Tryz.f3, _, (Tryz.f3.params.size + Tryz.f3.nfree), Tryz.func3, rfl, by kernel_rfl, by kernel_rfl, by kernel_rfl, by decide +kernel, by kernel_rfl, by kernel_rfl, by decide +kernel⟩
theorem fok4 : FnOK Tryz.prog 4 af4 := by
  refine ⟨Tryz.f4, _, (Tryz.f4.params.size + Tryz.f4.nfree), Tryz.func4, rfl, by kernel_rfl, by kernel_rfl, by kernel_rfl, by decide +kernel, by kernel_rfl, by kernel_rfl, by decide +kernel⟩
theorem fok5 : FnOK Tryz.prog 5 af5 := by
  refine ⟨Tryz.f5, _, (Tryz.f5.params.size + Tryz.f5.nfree), Tryz.func5, rfl, by kernel_rfl, by kernel_rfl, by kernel_rfl, by decide +kernel, by kernel_rfl, by kernel_rfl, by decide +kernel⟩
theorem fok6 : FnOK Tryz.prog 6 af6 := by
  refine ⟨Tryz.f6, _, (Tryz.f6.params.size + Tryz.f6.nfree), Tryz.func6, rfl, by kernel_rfl, by kernel_rfl, by kernel_rfl, by decide +kernel, by kernel_rfl, by kernel_rfl, by decide +kernel⟩
theorem fok7 : FnOK Tryz.prog 7 af7 := by
  refine ⟨Tryz.f7, _, (Tryz.f7.params.size + Tryz.f7.nfree), Tryz.func7, rfl, by kernel_rfl, by kernel_rfl, by kernel_rfl, by decide +kernel, by kernel_rfl, by kernel_rfl, by decide +kernel⟩
theorem fok8 : FnOK Tryz.prog 8 af8 := by
  refine ⟨Tryz.f8, _, (Tryz.f8.params.size + Tryz.f8.nfree), Tryz.func8, rfl, by kernel_rfl, by kernel_rfl, by kernel_rfl, by decide +kernel, by kernel_rfl, by kernel_rfl, by decide +kernel⟩
theorem fok9 : FnOK Tryz.prog 9 af9 := by
  refine ⟨Tryz.f9, _, (Tryz.f9.params.size + Tryz.f9.nfree), Tryz.func9, rfl, by kernel_rfl, by kernel_rfl, by kernel_rfl, by decide +kernel, by kernel_rfl, by kernel_rfl, by decide +kernel⟩
theorem fok10 : FnOK Tryz.prog 10 af10 := by
  refine ⟨Tryz.f10, _, (Tryz.f10.params.size + Tryz.f10.nfree), Tryz.func10, rfl, by kernel_rfl, by kernel_rfl, by kernel_rfl, by decide +kernel, by kernel_rfl, by kernel_rfl, by decide +kernel⟩
theorem fok11 : FnOK Tryz.prog 11 af11 := by
  refine ⟨Tryz.f11, _, (Tryz.f11.params.size + Tryz.f11.nfree), Tryz.func11, rfl, by kernel_rfl, by kernel_rfl, by kernel_rfl, by decide +kernel, by kernel_rfl, by kernel_rfl, by decide +kernel⟩
theorem fok12 : FnOK Tryz.prog 12 af12 := by
  refine ⟨Tryz.f12, _, (Tryz.f12.params.size + Tryz.f12.nfree), Tryz.func12, rfl, by kernel_rfl, by kernel_rfl, by kernel_rfl, by decide +kernel, by kernel_rfl, by kernel_rfl, by decide +kernel⟩
theorem fok13 : FnOK Tryz.prog 13 af13 := by
  refine ⟨Tryz.f13, _, (Tryz.f13.params.size + Tryz.f13.nfree), Tryz.func13, rfl, by kernel_rfl, by kernel_rfl, by kernel_rfl, by decide +kernel, by kernel_rfl, by kernel_rfl, by decide +kernel⟩
theorem fok14 : FnOK Tryz.prog 14 af14 := by
  refine ⟨Tryz.f14, _, (Tryz.f14.params.size + Tryz.f14.nfree), Tryz.func14, rfl, by kernel_rfl, by kernel_rfl, by kernel_rfl, by decide +kernel, by kernel_rfl, by kernel_rfl, by decide +kernel⟩
theorem fok15 : FnOK Tryz.prog 15 af15 := by
  refine ⟨Tryz.f15, _, (Tryz.f15.params.size + Tryz.f15.nfree), Tryz.func15, rfl, by kernel_rfl, by kernel_rfl, by kernel_rfl, by decide +kernel, by kernel_rfl, by kernel_rfl, by decide +kernel⟩
theorem fok16 : FnOK Tryz.prog 16 af16 := by
  refine ⟨Tryz.f16, _, (Tryz.f16.params.size + Tryz.f16.nfree), Tryz.func16, rfl, by kernel_rfl, by kernel_rfl, by kernel_rfl, by decide +kernel, by kernel_rfl, by kernel_rfl, by decide +kernel⟩
theorem fok17 : FnOK Tryz.prog 17 af17 := by
  refine ⟨Tryz.f17, _, (Tryz.f17.params.size + Tryz.f17.nfree), Tryz.func17, rfl, by kernel_rfl, by kernel_rfl, by kernel_rfl, by decide +kernel, by kernel_rfl, by kernel_rfl, by decide +kernel⟩
theorem fok18 : FnOK Tryz.prog 18 af18 := by
  refine ⟨Tryz.f18, _, (Tryz.f18.params.size + Tryz.f18.nfree), Tryz.func18, rfl, by kernel_rfl, by kernel_rfl, by kernel_rfl, by decide +kernel, by kernel_rfl, by kernel_rfl, by decide +kernel⟩
theorem fok19 : FnOK Tryz.prog 19 af19 := by
  refine ⟨Tryz.f19, _, (Tryz.f19.params.size + Tryz.f19.nfree), Tryz.func19, rfl, by kernel_rfl, by kernel_rfl, by kernel_rfl, by decide +kernel, by kernel_rfl, by kernel_rfl, by decide +kernel⟩
theorem fok20 : FnOK Tryz.prog 20 af20 := by
  refine ⟨Tryz.f20, _, (Tryz.f20.params.size + Tryz.f20.nfree), Tryz.func20, rfl, by kernel_rfl, by kernel_rfl, by kernel_rfl, by decide +kernel, by kernel_rfl, by kernel_rfl, by decide +kernel⟩
theorem fok21 : FnOK Tryz.prog 21 af21 := by
  refine ⟨Tryz.f21, _, (Tryz.f21.params.size + Tryz.f21.nfree), Tryz.func21, rfl, by kernel_rfl, by kernel_rfl, by kernel_rfl, by decide +kernel, by kernel_rfl, by kernel_rfl, by decide +kernel⟩
theorem fok22 : FnOK Tryz.prog 22 af22 := by
  refine ⟨Tryz.f22, _, (Tryz.f22.params.size + Tryz.f22.nfree), Tryz.func22, rfl, by kernel_rfl, by kernel_rfl, by kernel_rfl, by decide +kernel, by kernel_rfl, by kernel_rfl, by decide +kernel⟩
theorem fok23 : FnOK Tryz.prog 23 af23 := by
  refine ⟨Tryz.f23, _, (Tryz.f23.params.size + Tryz.f23.nfree), Tryz.func23, rfl, by kernel_rfl, by kernel_rfl, by kernel_rfl, by decide +kernel, by kernel_rfl, by kernel_rfl, by decide +kernel⟩
theorem fok24 : FnOK Tryz.prog 24 af24 := by
  refine ⟨Tryz.f24, _, (Tryz.f24.params.size + Tryz.f24.nfree), Tryz.func24, rfl, by kernel_rfl, by kernel_rfl, by kernel_rfl, by decide +kernel, by kernel_rfl, by kernel_rfl, by decide +kernel⟩
theorem fok25 : FnOK Tryz.prog 25 af25 := by
  refine ⟨Tryz.f25, _, (Tryz.f25.params.size + Tryz.f25.nfree), Tryz.func25, rfl, by kernel_rfl, by kernel_rfl, by kernel_rfl, by decide +kernel, by kernel_rfl, by kernel_rfl, by decide +kernel⟩
theorem fok26 : FnOK Tryz.prog 26 af26 := by
  refine ⟨Tryz.f26, _, (Tryz.f26.params.size + Tryz.f26.nfree), Tryz.func26, rfl, by kernel_rfl, by kernel_rfl, by kernel_rfl, by decide +kernel, by kernel_rfl, by kernel_rfl, by decide +kernel⟩
theorem fok27 : FnOK Tryz.prog 27 af27 := by
  refine ⟨Tryz.f27, _, (Tryz.f27.params.size + Tryz.f27.nfree), Tryz.func27, rfl, by kernel_rfl, by kernel_rfl, by kernel_rfl, by decide +kernel, by kernel_rfl, by kernel_rfl, by decide +kernel⟩
theorem fok28 : FnOK Tryz.prog 28 af28 := by
  refine ⟨Tryz.f28, _, (Tryz.f28.params.size + Tryz.f28.nfree), Tryz.func28, rfl, by kernel_rfl, by kernel_rfl, by kernel_rfl, by decide +kernel, by kernel_rfl, by kernel_rfl, by decide +kernel⟩
theorem fok29 : FnOK Tryz.prog 29 af29 := by
  refine ⟨Tryz.f29, _, (Tryz.f29.params.size + Tryz.f29.nfree), Tryz.func29, rfl, by kernel_rfl, by kernel_rfl, by kernel_rfl, by decide +kernel, by kernel_rfl, by kernel_rfl, by decide +kernel⟩
theorem fok30 : FnOK Tryz.prog 30 af30 := by
  refine ⟨Tryz.f30, _, (Tryz.f30.params.size + Tryz.f30.nfree), Tryz.func30, rfl, by kernel_rfl, by kernel_rfl, by kernel_rfl, by decide +kernel, by kernel_rfl, by kernel_rfl, by decide +kernel⟩
theorem fok32 : FnOK Tryz.prog 32 af32 := by
  refine ⟨Tryz.f32, _, (Tryz.f32.params.size + Tryz.f32.nfree), Tryz.func32, rfl, by kernel_rfl, by kernel_rfl, by kernel_rfl, by decide +kernel, by kernel_rfl, by kernel_rfl, by decide +kernel⟩
theorem fok33 : FnOK Tryz.prog 33 af33 := by
  refine ⟨Tryz.f33, _, (Tryz.f33.params.size + Tryz.f33.nfree), Tryz.func33, rfl, by kernel_rfl, by kernel_rfl, by kernel_rfl, by decide +kernel, by kernel_rfl, by kernel_rfl, by decide +kernel⟩
theorem fok34 : FnOK Tryz.prog 34 af34 := by
  refine ⟨Tryz.f34, _, (Tryz.f34.params.size + Tryz.f34.nfree), Tryz.func34, rfl, by kernel_rfl, by kernel_rfl, by kernel_rfl, by decide +kernel, by kernel_rfl, by kernel_rfl, by decide +kernel⟩
theorem fok35 : FnOK Tryz.prog 35 af35 := by
  refine ⟨Tryz.f35, _, (Tryz.f35.params.size + Tryz.f35.nfree), Tryz.func35, rfl, by kernel_rfl, by kernel_rfl, by kernel_rfl, by decide +kernel, by kernel_rfl, by kernel_rfl, by decide +kernel⟩
theorem fok36 : FnOK Tryz.prog 36 af36 := by
  refine ⟨Tryz.f36, _, (Tryz.f36.params.size + Tryz.f36.nfree), Tryz.func36, rfl, by kernel_rfl, by kernel_rfl, by kernel_rfl, by decide +kernel, by kernel_rfl, by kernel_rfl, by decide +kernel⟩
theorem fok37 : FnOK Tryz.prog 37 af37 := by
  refine ⟨Tryz.f37, _, (Tryz.f37.params.size + Tryz.f37.nfree), Tryz.func37, rfl, by kernel_rfl, by kernel_rfl, by kernel_rfl, by decide +kernel, by kernel_rfl, by kernel_rfl, by decide +kernel⟩
theorem fok38 : FnOK Tryz.prog 38 af38 := by
  refine ⟨Tryz.f38, _, (Tryz.f38.params.size + Tryz.f38.nfree), Tryz.func38, rfl, by kernel_rfl, by kernel_rfl, by kernel_rfl, by decide +kernel, by kernel_rfl, by kernel_rfl, by decide +kernel⟩
theorem fok39 : FnOK Tryz.prog 39 af39 := by
  refine ⟨Tryz.f39, _, (Tryz.f39.params.size + Tryz.f39.nfree), Tryz.func39, rfl, by kernel_rfl, by kernel_rfl, by kernel_rfl, by decide +kernel, by kernel_rfl, by kernel_rfl, by decide +kernel⟩
theorem fok40 : FnOK Tryz.prog 40 af40 := by
  refine ⟨Tryz.f40, _, (Tryz.f40.params.size + Tryz.f40.nfree), Tryz.func40, rfl, by kernel_rfl, by kernel_rfl, by kernel_rfl, by decide +kernel, by kernel_rfl, by kernel_rfl, by decide +kernel⟩
theorem fok41 : FnOK Tryz.prog 41 af41 := by
  refine ⟨Tryz.f41, _, (Tryz.f41.params.size + Tryz.f41.nfree), Tryz.func41, rfl, by kernel_rfl, by kernel_rfl, by kernel_rfl, by decide +kernel, by kernel_rfl, by kernel_rfl, by decide +kernel⟩
theorem fok42 : FnOK Tryz.prog 42 af42 := by
  refine ⟨Tryz.f42, _, (Tryz.f42.params.size + Tryz.f42.nfree), Tryz.func42, rfl, by kernel_rfl, by kernel_rfl, by kernel_rfl, by decide +kernel, by kernel_rfl, by kernel_rfl, by decide +kernel⟩
theorem fok43 : FnOK Tryz.prog 43 af43 := by
  refine ⟨Tryz.f43, _, (Tryz.f43.params.size + Tryz.f43.nfree), Tryz.func43, rfl, by kernel_rfl, by kernel_rfl, by kernel_rfl, by decide +kernel, by kernel_rfl, by kernel_rfl, by decide +kernel⟩
theorem fok44 : FnOK Tryz.prog 44 af44 := by
  refine ⟨Tryz.f44, _, (Tryz.f44.params.size + Tryz.f44.nfree), Tryz.func44, rfl, by kernel_rfl, by kernel_rfl, by kernel_rfl, by decide +kernel, by kernel_rfl, by kernel_rfl, by decide +kernel⟩
theorem fok45 : FnOK Tryz.prog 45 af45 := by
  refine ⟨Tryz.f45, _, (Tryz.f45.params.size + Tryz.f45.nfree), Tryz.func45, rfl, by kernel_rfl, by kernel_rfl, by kernel_rfl, by decide +kernel, by kernel_rfl, by kernel_rfl, by decide +kernel⟩
theorem fok46 : FnOK Tryz.prog 46 af46 := by
  refine ⟨Tryz.f46, _, (Tryz.f46.params.size + Tryz.f46.nfree), Tryz.func46, rfl, by kernel_rfl, by kernel_rfl, by kernel_rfl, by decide +kernel, by kernel_rfl, by kernel_rfl, by decide +kernel⟩
theorem fok47 : FnOK Tryz.prog 47 af47 := by
  refine ⟨Tryz.f47, _, (Tryz.f47.params.size + Tryz.f47.nfree), Tryz.func47, rfl, by kernel_rfl, by kernel_rfl, by kernel_rfl, by decide +kernel, by kernel_rfl, by kernel_rfl, by decide +kernel⟩
theorem fok48 : FnOK Tryz.prog 48 af48 := by
  refine ⟨Tryz.f48, _, (Tryz.f48.params.size + Tryz.f48.nfree), Tryz.func48, rfl, by kernel_rfl, by kernel_rfl, by kernel_rfl, by decide +kernel, by kernel_rfl, by kernel_rfl, by decide +kernel⟩
theorem fok49 : FnOK Tryz.prog 49 af49 := by
  refine ⟨Tryz.f49, _, (Tryz.f49.params.size + Tryz.f49.nfree), Tryz.func49, rfl, by kernel_rfl, by kernel_rfl, by kernel_rfl, by decide +kernel, by kernel_rfl, by kernel_rfl, by decide +kernel⟩
theorem fok50 : FnOK Tryz.prog 50 af50 := by
  refine ⟨Tryz.f50, _, (Tryz.f50.params.size + Tryz.f50.nfree), Tryz.func50, rfl, by kernel_rfl, by kernel_rfl, by kernel_rfl, by decide +kernel, by kernel_rfl, by kernel_rfl, by decide +kernel⟩
theorem fok51 : FnOK Tryz.prog 51 af51 := by
  refine ⟨Tryz.f51, _, (Tryz.f51.params.size + Tryz.f51.nfree), Tryz.func51, rfl, by kernel_rfl, by kernel_rfl, by kernel_rfl, by decide +kernel, by kernel_rfl, by kernel_rfl, by decide +kernel⟩
theorem fok52 : FnOK Tryz.prog 52 af52 := by
  refine ⟨Tryz.f52, _, (Tryz.f52.params.size + Tryz.f52.nfree), Tryz.func52, rfl, by kernel_rfl, by kernel_rfl, by kernel_rfl, by decide +kernel, by kernel_rfl, by kernel_rfl, by decide +kernel⟩
theorem fok53 : FnOK Tryz.prog 53 af53 := by
  refine ⟨Tryz.f53, _, (Tryz.f53.params.size + Tryz.f53.nfree), Tryz.func53, rfl, by kernel_rfl, by kernel_rfl, by kernel_rfl, by decide +kernel, by kernel_rfl, by kernel_rfl, by decide +kernel⟩
theorem fok54 : FnOK Tryz.prog 54 af54 := by
  refine ⟨Tryz.f54, _, (Tryz.f54.params.size + Tryz.f54.nfree), Tryz.func54, rfl, by kernel_rfl, by kernel_rfl, by kernel_rfl, by decide +kernel, by kernel_rfl, by kernel_rfl, by decide +kernel⟩
theorem fok55 : FnOK Tryz.prog 55 af55 := by
  refine ⟨Tryz.f55, _, (Tryz.f55.params.size + Tryz.f55.nfree), Tryz.func55, rfl, by kernel_rfl, by kernel_rfl, by kernel_rfl, by decide +kernel, by kernel_rfl, by kernel_rfl, by decide +kernel⟩
theorem fok56 : FnOK Tryz.prog 56 af56 := by
  refine ⟨Tryz.f56, _, (Tryz.f56.params.size + Tryz.f56.nfree), Tryz.func56, rfl, by kernel_rfl, by kernel_rfl, by kernel_rfl, by decide +kernel, by kernel_rfl, by kernel_rfl, by decide +kernel⟩
theorem fok61 : FnOK Tryz.prog 61 af61 := by
  refine ⟨Tryz.f61, _, (Tryz.f61.params.size + Tryz.f61.nfree), Tryz.func61, rfl, by kernel_rfl, by kernel_rfl, by kernel_rfl, by decide +kernel, by kernel_rfl, by kernel_rfl, by decide +kernel⟩
theorem fok62 : FnOK Tryz.prog 62 af62 := by
  refine ⟨Tryz.f62, _, (Tryz.f62.params.size + Tryz.f62.nfree), Tryz.func62, rfl, by kernel_rfl, by kernel_rfl, by kernel_rfl, by decide +kernel, by kernel_rfl, by kernel_rfl, by decide +kernel⟩
theorem fok63 : FnOK Tryz.prog 63 af63 := by
  refine ⟨Tryz.f63, _, (Tryz.f63.params.size + Tryz.f63.nfree), Tryz.func63, rfl, by kernel_rfl, by kernel_rfl, by kernel_rfl, by decide +kernel, by kernel_rfl, by kernel_rfl, by decide +kernel⟩
theorem fok64 : FnOK Tryz.prog 64 af64 := by
  refine ⟨Tryz.f64, _, (Tryz.f64.params.size + Tryz.f64.nfree), Tryz.func64, rfl, by kernel_rfl, by kernel_rfl, by kernel_rfl, by decide +kernel, by kernel_rfl, by kernel_rfl, by decide +kernel⟩
theorem fok65 : FnOK Tryz.prog 65 af65 := by
  refine ⟨Tryz.f65, _, (Tryz.f65.params.size + Tryz.f65.nfree), Tryz.func65, rfl, by kernel_rfl, by kernel_rfl, by kernel_rfl, by decide +kernel, by kernel_rfl, by kernel_rfl, by decide +kernel⟩
theorem fok66 : FnOK Tryz.prog 66 af66 := by
  refine ⟨Tryz.f66, _, (Tryz.f66.params.size + Tryz.f66.nfree), Tryz.func66, rfl, by kernel_rfl, by kernel_rfl, by kernel_rfl, by decide +kernel, by kernel_rfl, by kernel_rfl, by decide +kernel⟩
theorem fok67 : FnOK Tryz.prog 67 af67 := by
  refine ⟨Tryz.f67, _, (Tryz.f67.params.size + Tryz.f67.nfree), Tryz.func67, rfl, by kernel_rfl, by kernel_rfl, by kernel_rfl, by decide +kernel, by kernel_rfl, by kernel_rfl, by decide +kernel⟩
theorem fok68 : FnOK Tryz.prog 68 af68 := by
  refine ⟨Tryz.f68, _, (Tryz.f68.params.size + Tryz.f68.nfree), Tryz.func68, rfl, by kernel_rfl, by kernel_rfl, by kernel_rfl, by decide +kernel, by kernel_rfl, by kernel_rfl, by decide +kernel⟩
theorem fok69 : FnOK Tryz.prog 69 af69 := by
  refine ⟨Tryz.f69, _, (Tryz.f69.params.size + Tryz.f69.nfree), Tryz.func69, rfl, by kernel_rfl, by kernel_rfl, by kernel_rfl, by decide +kernel, by kernel_rfl, by kernel_rfl, by decide +kernel⟩
theorem fok71 : FnOK Tryz.prog 71 af71 := by
  refine ⟨Tryz.f71, _, (Tryz.f71.params.size + Tryz.f71.nfree), Tryz.func71, rfl, by kernel_rfl, by kernel_rfl, by kernel_rfl, by decide +kernel, by kernel_rfl, by kernel_rfl, by decide +kernel⟩
theorem fok72 : FnOK Tryz.prog 72 af72 := by
  refine ⟨Tryz.f72, _, (Tryz.f72.params.size + Tryz.f72.nfree), Tryz.func72, rfl, by kernel_rfl, by kernel_rfl, by kernel_rfl, by decide +kernel, by kernel_rfl, by kernel_rfl, by decide +kernel⟩
theorem fok73 : FnOK Tryz.prog 73 af73 := by
  refine ⟨Tryz.f73, _, (Tryz.f73.params.size + Tryz.f73.nfree), Tryz.func73, rfl, by kernel_rfl, by kernel_rfl, by kernel_rfl, by decide +kernel, by kernel_rfl, by kernel_rfl, by decide +kernel⟩
theorem fok74 : FnOK Tryz.prog 74 af74 := by
  refine ⟨Tryz.f74, _, (Tryz.f74.params.size + Tryz.f74.nfree), Tryz.func74, rfl, by kernel_rfl, by kernel_rfl, by kernel_rfl, by decide +kernel, by kernel_rfl, by kernel_rfl, by decide +kernel⟩
theorem fok75 : FnOK Tryz.prog 75 af75 := by
  refine ⟨Tryz.f75, _, (Tryz.f75.params.size + Tryz.f75.nfree), Tryz.func75, rfl, by kernel_rfl, by kernel_rfl, by kernel_rfl, by decide +kernel, by kernel_rfl, by kernel_rfl, by decide +kernel⟩
theorem fok76 : FnOK Tryz.prog 76 af76 := by
  refine ⟨Tryz.f76, _, (Tryz.f76.params.size + Tryz.f76.nfree), Tryz.func76, rfl, by kernel_rfl, by kernel_rfl, by kernel_rfl, by decide +kernel, by kernel_rfl, by kernel_rfl, by decide +kernel⟩
theorem fok77 : FnOK Tryz.prog 77 af77 := by
  refine ⟨Tryz.f77, _, (Tryz.f77.params.size + Tryz.f77.nfree), Tryz.func77, rfl, by kernel_rfl, by kernel_rfl, by kernel_rfl, by decide +kernel, by kernel_rfl, by kernel_rfl, by decide +kernel⟩
theorem fok78 : FnOK Tryz.prog 78 af78 := by
  refine ⟨Tryz.f78, _, (Tryz.f78.params.size + Tryz.f78.nfree), Tryz.func78, rfl, by kernel_rfl, by kernel_rfl, by kernel_rfl, by decide +kernel, by kernel_rfl, by kernel_rfl, by decide +kernel⟩
theorem fok79 : FnOK Tryz.prog 79 af79 := by
  refine ⟨Tryz.f79, _, (Tryz.f79.params.size + Tryz.f79.nfree), Tryz.func79, rfl, by kernel_rfl, by kernel_rfl, by kernel_rfl, by decide +kernel, by kernel_rfl, by kernel_rfl, by decide +kernel⟩
theorem fok80 : FnOK Tryz.prog 80 af80 := by
  refine ⟨Tryz.f80, _, (Tryz.f80.params.size + Tryz.f80.nfree), Tryz.func80, rfl, by kernel_rfl, by kernel_rfl, by kernel_rfl, by decide +kernel, by kernel_rfl, by kernel_rfl, by decide +kernel⟩
theorem fok81 : FnOK Tryz.prog 81 af81 := by
  refine ⟨Tryz.f81, _, (Tryz.f81.params.size + Tryz.f81.nfree), Tryz.func81, rfl, by kernel_rfl, by kernel_rfl, by kernel_rfl, by decide +kernel, by kernel_rfl, by kernel_rfl, by decide +kernel⟩
theorem fok82 : FnOK Tryz.prog 82 af82 := by
  refine ⟨Tryz.f82, _, (Tryz.f82.params.size + Tryz.f82.nfree), Tryz.func82, rfl, by kernel_rfl, by kernel_rfl, by kernel_rfl, by decide +kernel, by kernel_rfl, by kernel_rfl, by decide +kernel⟩
theorem fok83 : FnOK Tryz.prog 83 af83 := by
  refine ⟨Tryz.f83, _, (Tryz.f83.params.size + Tryz.f83.nfree), Tryz.func83, rfl, by kernel_rfl, by kernel_rfl, by kernel_rfl, by decide +kernel, by kernel_rfl, by kernel_rfl, by decide +kernel⟩
theorem fok84 : FnOK Tryz.prog 84 af84 := by
  refine ⟨Tryz.f84, _, (Tryz.f84.params.size + Tryz.f84.nfree), Tryz.func84, rfl, by kernel_rfl, by kernel_rfl, by kernel_rfl, by decide +kernel, by kernel_rfl, by kernel_rfl, by decide +kernel⟩
theorem fok85 : FnOK Tryz.prog 85 af85 := by
  refine ⟨Tryz.f85, _, (Tryz.f85.params.size + Tryz.f85.nfree), Tryz.func85, rfl, by kernel_rfl, by kernel_rfl, by kernel_rfl, by decide +kernel, by kernel_rfl, by kernel_rfl, by decide +kernel⟩
theorem fok86 : FnOK Tryz.prog 86 af86 := by
  refine ⟨Tryz.f86, _, (Tryz.f86.params.size + Tryz.f86.nfree), Tryz.func86, rfl, by kernel_rfl, by kernel_rfl, by kernel_rfl, by decide +kernel, by kernel_rfl, by kernel_rfl, by decide +kernel⟩
theorem fok88 : FnOK Tryz.prog 88 af88 := by
  refine ⟨Tryz.f88, _, (Tryz.f88.params.size + Tryz.f88.nfree), Tryz.func88, rfl, by kernel_rfl, by kernel_rfl, by kernel_rfl, by decide +kernel, by kernel_rfl, by kernel_rfl, by decide +kernel⟩
theorem fok89 : FnOK Tryz.prog 89 af89 := by
  refine ⟨Tryz.f89, _, (Tryz.f89.params.size + Tryz.f89.nfree), Tryz.func89, rfl, by kernel_rfl, by kernel_rfl, by kernel_rfl, by decide +kernel, by kernel_rfl, by kernel_rfl, by decide +kernel⟩
theorem fok92 : FnOK Tryz.prog 92 af92 := by
  refine ⟨Tryz.f92, _, (Tryz.f92.params.size + Tryz.f92.nfree), Tryz.func92, rfl, by kernel_rfl, by kernel_rfl, by kernel_rfl, by decide +kernel, by kernel_rfl, by kernel_rfl, by decide +kernel⟩
theorem fok93 : FnOK Tryz.prog 93 af93 := by
  refine ⟨Tryz.f93, _, (Tryz.f93.params.size + Tryz.f93.nfree), Tryz.func93, rfl, by kernel_rfl, by kernel_rfl, by kernel_rfl, by decide +kernel, by kernel_rfl, by kernel_rfl, by decide +kernel⟩
theorem fok94 : FnOK Tryz.prog 94 af94 := by
  refine ⟨Tryz.f94, _, (Tryz.f94.params.size + Tryz.f94.nfree), Tryz.func94, rfl, by kernel_rfl, by kernel_rfl, by kernel_rfl, by decide +kernel, by kernel_rfl, by kernel_rfl, by decide +kernel⟩
theorem fok96 : FnOK Tryz.prog 96 af96 := by
  refine ⟨Tryz.f96, _, (Tryz.f96.params.size + Tryz.f96.nfree), Tryz.func96, rfl, by kernel_rfl, by kernel_rfl, by kernel_rfl, by decide +kernel, by kernel_rfl, by kernel_rfl, by decide +kernel⟩
theorem fok97 : FnOK Tryz.prog 97 af97 := by
  refine ⟨Tryz.f97, _, (Tryz.f97.params.size + Tryz.f97.nfree), Tryz.func97, rfl, by kernel_rfl, by kernel_rfl, by kernel_rfl, by decide +kernel, by kernel_rfl, by kernel_rfl, by decide +kernel⟩
theorem fok98 : FnOK Tryz.prog 98 af98 := by
  refine ⟨Tryz.f98, _, (Tryz.f98.params.size + Tryz.f98.nfree), Tryz.func98, rfl, by kernel_rfl, by kernel_rfl, by kernel_rfl, by decide +kernel, by kernel_rfl, by kernel_rfl, by decide +kernel⟩
theorem fok99 : FnOK Tryz.prog 99 af99 := by
  refine ⟨Tryz.f99, _, (Tryz.f99.params.size + Tryz.f99.nfree), Tryz.func99, rfl, by kernel_rfl, by kernel_rfl, by kernel_rfl, by decide +kernel, by kernel_rfl, by kernel_rfl, by decide +kernel⟩
theorem fok100 : FnOK Tryz.prog 100 af100 := by
  refine ⟨Tryz.f100, _, (Tryz.f100.params.size + Tryz.f100.nfree), Tryz.func100, rfl, by kernel_rfl, by kernel_rfl, by kernel_rfl, by decide +kernel, by kernel_rfl, by kernel_rfl, by decide +kernel⟩
theorem fok101 : FnOK Tryz.prog 101 af101 := by
  refine ⟨Tryz.f101, _, (Tryz.f101.params.size + Tryz.f101.nfree), Tryz.func101, rfl, by kernel_rfl, by kernel_rfl, by kernel_rfl, by decide +kernel, by kernel_rfl, by kernel_rfl, by decide +kernel⟩
theorem fok102 : FnOK Tryz.prog 102 af102 := by
  refine ⟨Tryz.f102, _, (Tryz.f102.params.size + Tryz.f102.nfree), Tryz.func102, rfl, by kernel_rfl, by kernel_rfl, by kernel_rfl, by decide +kernel, by kernel_rfl, by kernel_rfl, by decide +kernel⟩
theorem fok103 : FnOK Tryz.prog 103 af103 := by
  refine ⟨Tryz.f103, _, (Tryz.f103.params.size + Tryz.f103.nfree), Tryz.func103, rfl, by kernel_rfl, by kernel_rfl, by kernel_rfl, by decide +kernel, by kernel_rfl, by kernel_rfl, by decide +kernel⟩
theorem fok104 : FnOK Tryz.prog 104 af104 := by
  refine ⟨Tryz.f104, _, (Tryz.f104.params.size + Tryz.f104.nfree), Tryz.func104, rfl, by kernel_rfl, by kernel_rfl, by kernel_rfl, by decide +kernel, by kernel_rfl, by kernel_rfl, by decide +kernel⟩
theorem fok105 : FnOK Tryz.prog 105 af105 := by
  refine ⟨Tryz.f105, _, (Tryz.f105.params.size + Tryz.f105.nfree), Tryz.func105, rfl, by kernel_rfl, by kernel_rfl, by kernel_rfl, by decide +kernel, by kernel_rfl, by kernel_rfl, by decide +kernel⟩
theorem fok107 : FnOK Tryz.prog 107 af107 := by
  refine ⟨Tryz.f107, _, (Tryz.f107.params.size + Tryz.f107.nfree), Tryz.func107, rfl, by kernel_rfl, by kernel_rfl, by kernel_rfl, by decide +kernel, by kernel_rfl, by kernel_rfl, by decide +kernel⟩
theorem fok108 : FnOK Tryz.prog 108 af108 := by
  refine ⟨Tryz.f108, _, (Tryz.f108.params.size + Tryz.f108.nfree), Tryz.func108, rfl, by kernel_rfl, by kernel_rfl, by kernel_rfl, by decide +kernel, by kernel_rfl, by kernel_rfl, by decide +kernel⟩
theorem fok109 : FnOK Tryz.prog 109 af109 := by
  refine ⟨Tryz.f109, _, (Tryz.f109.params.size + Tryz.f109.nfree), Tryz.func109, rfl, by kernel_rfl, by kernel_rfl, by kernel_rfl, by decide +kernel, by kernel_rfl, by kernel_rfl, by decide +kernel⟩
theorem fok111 : FnOK Tryz.prog 111 af111 := by
  refine ⟨Tryz.f111, _, (Tryz.f111.params.size + Tryz.f111.nfree), Tryz.func111, rfl, by kernel_rfl, by kernel_rfl, by kernel_rfl, by decide +kernel, by kernel_rfl, by kernel_rfl, by decide +kernel⟩
theorem fok112 : FnOK Tryz.prog 112 af112 := by
  refine ⟨Tryz.f112, _, (Tryz.f112.params.size + Tryz.f112.nfree), Tryz.func112, rfl, by kernel_rfl, by kernel_rfl, by kernel_rfl, by decide +kernel, by kernel_rfl, by kernel_rfl, by decide +kernel⟩
theorem fok113 : FnOK Tryz.prog 113 af113 := by
  refine ⟨Tryz.f113, _, (Tryz.f113.params.size + Tryz.f113.nfree), Tryz.func113, rfl, by kernel_rfl, by kernel_rfl, by kernel_rfl, by decide +kernel, by kernel_rfl, by kernel_rfl, by decide +kernel⟩
theorem fok119 : FnOK Tryz.prog 119 af119 := by
  refine ⟨Tryz.f119, _, (Tryz.f119.params.size + Tryz.f119.nfree), Tryz.func119, rfl, by kernel_rfl, by kernel_rfl, by kernel_rfl, by decide +kernel, by kernel_rfl, by kernel_rfl, by decide +kernel⟩
theorem fok123 : FnOK Tryz.prog 123 af123 := by
  refine ⟨Tryz.f123, _, (Tryz.f123.params.size + Tryz.f123.nfree), Tryz.func123, rfl, by kernel_rfl, by kernel_rfl, by kernel_rfl, by decide +kernel, by kernel_rfl, by kernel_rfl, by decide +kernel⟩
theorem fok124 : FnOK Tryz.prog 124 af124 := by
  refine ⟨Tryz.f124, _, (Tryz.f124.params.size + Tryz.f124.nfree), Tryz.func124, rfl, by kernel_rfl, by kernel_rfl, by kernel_rfl, by decide +kernel, by kernel_rfl, by kernel_rfl, by decide +kernel⟩
theorem fok125 : FnOK Tryz.prog 125 af125 := by
  refine ⟨Tryz.f125, _, (Tryz.f125.params.size + Tryz.f125.nfree), Tryz.func125, rfl, by kernel_rfl, by kernel_rfl, by kernel_rfl, by decide +kernel, by kernel_rfl, by kernel_rfl, by decide +kernel⟩
theorem fok126 : FnOK Tryz.prog 126 af126 := by
  refine ⟨Tryz.f126, _, (Tryz.f126.params.size + Tryz.f126.nfree), Tryz.func126, rfl, by kernel_rfl, by kernel_rfl, by kernel_rfl, by decide +kernel, by kernel_rfl, by kernel_rfl, by decide +kernel⟩
theorem fok127 : FnOK Tryz.prog 127 af127 := by
  refine ⟨Tryz.f127, _, (Tryz.f127.params.size + Tryz.f127.nfree), Tryz.func127, rfl, by kernel_rfl, by kernel_rfl, by kernel_rfl, by decide +kernel, by kernel_rfl, by kernel_rfl, by decide +kernel⟩
theorem fok130 : FnOK Tryz.prog 130 af130 := by
  refine ⟨Tryz.f130, _, (Tryz.f130.params.size + Tryz.f130.nfree), Tryz.func130, rfl, by kernel_rfl, by kernel_rfl, by kernel_rfl, by decide +kernel, by kernel_rfl, by kernel_rfl, by decide +kernel⟩
theorem fok136 : FnOK Tryz.prog 136 af136 := by
  refine ⟨Tryz.f136, _, (Tryz.f136.params.size + Tryz.f136.nfree), Tryz.func136, rfl, by kernel_rfl, by kernel_rfl, by kernel_rfl, by decide +kernel, by kernel_rfl, by kernel_rfl, by decide +kernel⟩
theorem fok137 : FnOK Tryz.prog 137 af137 := by
  refine ⟨Tryz.f137, _, (Tryz.f137.params.size + Tryz.f137.nfree), Tryz.func137, rfl, by kernel_rfl, by kernel_rfl, by kernel_rfl, by decide +kernel, by kernel_rfl, by kernel_rfl, by decide +kernel⟩
theorem fok138 : FnOK Tryz.prog 138 af138 := by
  refine ⟨Tryz.f138, _, (Tryz.f138.params.size + Tryz.f138.nfree), Tryz.func138, rfl, by kernel_rfl, by kernel_rfl, by kernel_rfl, by decide +kernel, by kernel_rfl, by kernel_rfl, by decide +kernel⟩
end Go.Ai
