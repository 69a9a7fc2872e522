/- A part of the proof that the law answers true at every input: the texts W30Q; no conditions. -/
import Derived.Test.YtapkmhneneffdaaGreatDoorCoA
import Derived.Test.YtapkmhneneffdaaGreatDoorMxE
import Derived.Test.YtapkmhneneffdaaGreatDoorProg
import Derived.KernelRfl
set_option linter.unusedSimpArgs false
set_option linter.unusedVariables false
set_option linter.constructorNameAsVariable false

/-! The text W30Q. -/
namespace Go.Proofs.YtapkmhneneffdaaGreatDoor.Ab
open Go Go.Proofs.YtapkmhneneffdaaGreatDoor.Mx Go.Proofs.YtapkmhneneffdaaGreatDoor.M3
set_option maxRecDepth 1000000

theorem c4 : cFn Tryz.prog Tryz.f4 = some T.n4.er ∧ T.n4.ok = true := ⟨by kernel_rfl, by kernel_rfl⟩
theorem c20 : cFn Tryz.prog Tryz.f20 = some T.n20.er ∧ T.n20.ok = true := ⟨by kernel_rfl, by kernel_rfl⟩
theorem c21 : cFn Tryz.prog Tryz.f21 = some T.n21.er ∧ T.n21.ok = true := ⟨by kernel_rfl, by kernel_rfl⟩
theorem c27 : cFn Tryz.prog Tryz.f27 = some T.n27.er ∧ T.n27.ok = true := ⟨by kernel_rfl, by kernel_rfl⟩
theorem c41 : cFn Tryz.prog Tryz.f41 = some T.n41.er ∧ T.n41.ok = true := ⟨by kernel_rfl, by kernel_rfl⟩
theorem c49 : cFn Tryz.prog Tryz.f49 = some T.n49.er ∧ T.n49.ok = true := ⟨by kernel_rfl, by kernel_rfl⟩
theorem c50 : cFn Tryz.prog Tryz.f50 = some T.n50.er ∧ T.n50.ok = true := ⟨by kernel_rfl, by kernel_rfl⟩
theorem c63 : cFn Tryz.prog Tryz.f63 = some T.n63.er ∧ T.n63.ok = true := ⟨by kernel_rfl, by kernel_rfl⟩
theorem c64 : cFn Tryz.prog Tryz.f64 = some T.n64.er ∧ T.n64.ok = true := ⟨by kernel_rfl, by kernel_rfl⟩
theorem c65 : cFn Tryz.prog Tryz.f65 = some T.n65.er ∧ T.n65.ok = true := ⟨by kernel_rfl, by kernel_rfl⟩
theorem c66 : cFn Tryz.prog Tryz.f66 = some T.n66.er ∧ T.n66.ok = true := ⟨by kernel_rfl, by kernel_rfl⟩
theorem c72 : cFn Tryz.prog Tryz.f72 = some T.n72.er ∧ T.n72.ok = true := ⟨by kernel_rfl, by kernel_rfl⟩
theorem c85 : cFn Tryz.prog Tryz.f85 = some T.n85.er ∧ T.n85.ok = true := ⟨by kernel_rfl, by kernel_rfl⟩
theorem c86 : cFn Tryz.prog Tryz.f86 = some T.n86.er ∧ T.n86.ok = true := ⟨by kernel_rfl, by kernel_rfl⟩
theorem c87 : cFn Tryz.prog Tryz.f87 = some T.n87.er ∧ T.n87.ok = true := ⟨by kernel_rfl, by kernel_rfl⟩
theorem c88 : cFn Tryz.prog Tryz.f88 = some T.n88.er ∧ T.n88.ok = true := ⟨by kernel_rfl, by kernel_rfl⟩
theorem c89 : cFn Tryz.prog Tryz.f89 = some T.n89.er ∧ T.n89.ok = true := ⟨by kernel_rfl, by kernel_rfl⟩
theorem c90 : cFn Tryz.prog Tryz.f90 = some T.n90.er ∧ T.n90.ok = true := ⟨by kernel_rfl, by kernel_rfl⟩
theorem c91 : cFn Tryz.prog Tryz.f91 = some T.n91.er ∧ T.n91.ok = true := ⟨by kernel_rfl, by kernel_rfl⟩
theorem c107 : cFn Tryz.prog Tryz.f107 = some T.n107.er ∧ T.n107.ok = true := ⟨by kernel_rfl, by kernel_rfl⟩
theorem c108 : cFn Tryz.prog Tryz.f108 = some T.n108.er ∧ T.n108.ok = true := ⟨by kernel_rfl, by kernel_rfl⟩
theorem c109 : cFn Tryz.prog Tryz.f109 = some T.n109.er ∧ T.n109.ok = true := ⟨by kernel_rfl, by kernel_rfl⟩
theorem c110 : cFn Tryz.prog Tryz.f110 = some T.n110.er ∧ T.n110.ok = true := ⟨by kernel_rfl, by kernel_rfl⟩
theorem c121 : cFn Tryz.prog Tryz.f121 = some T.n121.er ∧ T.n121.ok = true := ⟨by kernel_rfl, by kernel_rfl⟩
theorem c122 : cFn Tryz.prog Tryz.f122 = some T.n122.er ∧ T.n122.ok = true := ⟨by kernel_rfl, by kernel_rfl⟩
theorem c123 : cFn Tryz.prog Tryz.f123 = some T.n123.er ∧ T.n123.ok = true := ⟨by kernel_rfl, by kernel_rfl⟩
theorem c124 : cFn Tryz.prog Tryz.f124 = some T.n124.er ∧ T.n124.ok = true := ⟨by kernel_rfl, by kernel_rfl⟩
theorem c125 : cFn Tryz.prog Tryz.f125 = some T.n125.er ∧ T.n125.ok = true := ⟨by kernel_rfl, by kernel_rfl⟩
theorem c126 : cFn Tryz.prog Tryz.f126 = some T.n126.er ∧ T.n126.ok = true := ⟨by kernel_rfl, by kernel_rfl⟩
theorem c127 : cFn Tryz.prog Tryz.f127 = some T.n127.er ∧ T.n127.ok = true := ⟨by kernel_rfl, by kernel_rfl⟩
theorem c128 : cFn Tryz.prog Tryz.f128 = some T.n128.er ∧ T.n128.ok = true := ⟨by kernel_rfl, by kernel_rfl⟩
theorem c129 : cFn Tryz.prog Tryz.f129 = some T.n129.er ∧ T.n129.ok = true := ⟨by kernel_rfl, by kernel_rfl⟩
theorem c130 : cFn Tryz.prog Tryz.f130 = some T.n130.er ∧ T.n130.ok = true := ⟨by kernel_rfl, by kernel_rfl⟩
theorem c131 : cFn Tryz.prog Tryz.f131 = some T.n131.er ∧ T.n131.ok = true := ⟨by kernel_rfl, by kernel_rfl⟩
theorem c132 : cFn Tryz.prog Tryz.f132 = some T.n132.er ∧ T.n132.ok = true := ⟨by kernel_rfl, by kernel_rfl⟩
theorem c133 : cFn Tryz.prog Tryz.f133 = some T.n133.er ∧ T.n133.ok = true := ⟨by kernel_rfl, by kernel_rfl⟩
theorem c134 : cFn Tryz.prog Tryz.f134 = some T.n134.er ∧ T.n134.ok = true := ⟨by kernel_rfl, by kernel_rfl⟩
theorem c135 : cFn Tryz.prog Tryz.f135 = some T.n135.er ∧ T.n135.ok = true := ⟨by kernel_rfl, by kernel_rfl⟩
theorem c185 : cFn Tryz.prog Tryz.f185 = some T.n185.er ∧ T.n185.ok = true := ⟨by kernel_rfl, by kernel_rfl⟩
theorem c186 : cFn Tryz.prog Tryz.f186 = some T.n186.er ∧ T.n186.ok = true := ⟨by kernel_rfl, by kernel_rfl⟩
theorem c187 : cFn Tryz.prog Tryz.f187 = some T.n187.er ∧ T.n187.ok = true := ⟨by kernel_rfl, by kernel_rfl⟩
theorem c188 : cFn Tryz.prog Tryz.f188 = some T.n188.er ∧ T.n188.ok = true := ⟨by kernel_rfl, by kernel_rfl⟩
theorem c189 : cFn Tryz.prog Tryz.f189 = some T.n189.er ∧ T.n189.ok = true := ⟨by kernel_rfl, by kernel_rfl⟩
theorem c190 : cFn Tryz.prog Tryz.f190 = some T.n190.er ∧ T.n190.ok = true := ⟨by kernel_rfl, by kernel_rfl⟩
theorem c191 : cFn Tryz.prog Tryz.f191 = some T.n191.er ∧ T.n191.ok = true := ⟨by kernel_rfl, by kernel_rfl⟩
theorem c192 : cFn Tryz.prog Tryz.f192 = some T.n192.er ∧ T.n192.ok = true := ⟨by kernel_rfl, by kernel_rfl⟩
theorem c220 : cFn Tryz.prog Tryz.f220 = some T.n220.er ∧ T.n220.ok = true := ⟨by kernel_rfl, by kernel_rfl⟩
theorem c221 : cFn Tryz.prog Tryz.f221 = some T.n221.er ∧ T.n221.ok = true := ⟨by kernel_rfl, by kernel_rfl⟩
theorem c222 : cFn Tryz.prog Tryz.f222 = some T.n222.er ∧ T.n222.ok = true := ⟨by kernel_rfl, by kernel_rfl⟩
theorem c247 : cFn Tryz.prog Tryz.f247 = some T.n247.er ∧ T.n247.ok = true := ⟨by kernel_rfl, by kernel_rfl⟩
theorem c3 : cFn Tryz.prog Tryz.f3 = some T.n3.er ∧ T.n3.ok = true := ⟨by kernel_rfl, by kernel_rfl⟩
theorem c6 : cFn Tryz.prog Tryz.f6 = some T.n6.er ∧ T.n6.ok = true := ⟨by kernel_rfl, by kernel_rfl⟩
theorem c26 : cFn Tryz.prog Tryz.f26 = some T.n26.er ∧ T.n26.ok = true := ⟨by kernel_rfl, by kernel_rfl⟩
theorem c7 : cFn Tryz.prog Tryz.f7 = some T.n7.er ∧ T.n7.ok = true := ⟨by kernel_rfl, by kernel_rfl⟩
theorem c19 : cFn Tryz.prog Tryz.f19 = some T.n19.er ∧ T.n19.ok = true := ⟨by kernel_rfl, by kernel_rfl⟩
theorem c28 : cFn Tryz.prog Tryz.f28 = some T.n28.er ∧ T.n28.ok = true := ⟨by kernel_rfl, by kernel_rfl⟩
theorem c8 : cFn Tryz.prog Tryz.f8 = some T.n8.er ∧ T.n8.ok = true := ⟨by kernel_rfl, by kernel_rfl⟩
theorem c9 : cFn Tryz.prog Tryz.f9 = some T.n9.er ∧ T.n9.ok = true := ⟨by kernel_rfl, by kernel_rfl⟩
theorem c10 : cFn Tryz.prog Tryz.f10 = some T.n10.er ∧ T.n10.ok = true := ⟨by kernel_rfl, by kernel_rfl⟩
theorem c11 : cFn Tryz.prog Tryz.f11 = some T.n11.er ∧ T.n11.ok = true := ⟨by kernel_rfl, by kernel_rfl⟩
theorem c12 : cFn Tryz.prog Tryz.f12 = some T.n12.er ∧ T.n12.ok = true := ⟨by kernel_rfl, by kernel_rfl⟩
theorem c13 : cFn Tryz.prog Tryz.f13 = some T.n13.er ∧ T.n13.ok = true := ⟨by kernel_rfl, by kernel_rfl⟩
theorem c14 : cFn Tryz.prog Tryz.f14 = some T.n14.er ∧ T.n14.ok = true := ⟨by kernel_rfl, by kernel_rfl⟩
theorem c15 : cFn Tryz.prog Tryz.f15 = some T.n15.er ∧ T.n15.ok = true := ⟨by kernel_rfl, by kernel_rfl⟩
theorem c16 : cFn Tryz.prog Tryz.f16 = some T.n16.er ∧ T.n16.ok = true := ⟨by kernel_rfl, by kernel_rfl⟩
theorem c17 : cFn Tryz.prog Tryz.f17 = some T.n17.er ∧ T.n17.ok = true := ⟨by kernel_rfl, by kernel_rfl⟩
theorem c18 : cFn Tryz.prog Tryz.f18 = some T.n18.er ∧ T.n18.ok = true := ⟨by kernel_rfl, by kernel_rfl⟩

theorem all3 (f : Nat) (F : Fn3) (h : T.Γ f = some F) : ∃ fn, Tryz.prog.funcs[f]? = some fn ∧ cFn Tryz.prog fn = some F.er ∧ F.ok = true := AllT.at (Q := fun f F => ∃ fn, Tryz.prog.funcs[f]? = some fn ∧ cFn Tryz.prog fn = some (Fn3.er F) ∧ F.ok = true) (t := T.Γt) (φ := fun n => n)
  ⟨(fun _ h => by cases h), ⟨(fun _ h => by cases h), ⟨(fun _ h => by cases h; exact ⟨_, Tryz.func3, c3⟩), ⟨(fun _ h => by cases h; exact ⟨_, Tryz.func7, c7⟩), ⟨(fun _ h => by cases h; exact ⟨_, Tryz.func15, c15⟩), ⟨(fun _ h => by cases h), ⟨(fun _ h => by cases h; exact ⟨_, Tryz.func63, c63⟩), ⟨(fun _ h => by cases h; exact ⟨_, Tryz.func127, c127⟩), trivial, trivial⟩, ⟨(fun _ h => by cases h; exact ⟨_, Tryz.func191, c191⟩), trivial, trivial⟩⟩, trivial⟩, trivial⟩, ⟨(fun _ h => by cases h), ⟨(fun _ h => by cases h), ⟨(fun _ h => by cases h), ⟨(fun _ h => by cases h; exact ⟨_, Tryz.func135, c135⟩), trivial, trivial⟩, trivial⟩, trivial⟩, ⟨(fun _ h => by cases h), ⟨(fun _ h => by cases h; exact ⟨_, Tryz.func87, c87⟩), trivial, trivial⟩, ⟨(fun _ h => by cases h), trivial, ⟨(fun _ h => by cases h; exact ⟨_, Tryz.func247, c247⟩), trivial, trivial⟩⟩⟩⟩⟩, ⟨(fun _ h => by cases h; exact ⟨_, Tryz.func11, c11⟩), ⟨(fun _ h => by cases h; exact ⟨_, Tryz.func19, c19⟩), ⟨(fun _ h => by cases h), ⟨(fun _ h => by cases h), ⟨(fun _ h => by cases h; exact ⟨_, Tryz.func131, c131⟩), trivial, trivial⟩, trivial⟩, trivial⟩, trivial⟩, ⟨(fun _ h => by cases h; exact ⟨_, Tryz.func27, c27⟩), ⟨(fun _ h => by cases h), trivial, ⟨(fun _ h => by cases h; exact ⟨_, Tryz.func107, c107⟩), trivial, trivial⟩⟩, ⟨(fun _ h => by cases h), ⟨(fun _ h => by cases h; exact ⟨_, Tryz.func91, c91⟩), trivial, trivial⟩, ⟨(fun _ h => by cases h; exact ⟨_, Tryz.func123, c123⟩), ⟨(fun _ h => by cases h; exact ⟨_, Tryz.func187, c187⟩), trivial, trivial⟩, trivial⟩⟩⟩⟩⟩, ⟨(fun _ h => by cases h), ⟨(fun _ h => by cases h; exact ⟨_, Tryz.func9, c9⟩), ⟨(fun _ h => by cases h; exact ⟨_, Tryz.func17, c17⟩), ⟨(fun _ h => by cases h), ⟨(fun _ h => by cases h; exact ⟨_, Tryz.func65, c65⟩), ⟨(fun _ h => by cases h; exact ⟨_, Tryz.func129, c129⟩), trivial, trivial⟩, trivial⟩, trivial⟩, ⟨(fun _ h => by cases h; exact ⟨_, Tryz.func49, c49⟩), trivial, trivial⟩⟩, ⟨(fun _ h => by cases h), ⟨(fun _ h => by cases h; exact ⟨_, Tryz.func41, c41⟩), trivial, trivial⟩, ⟨(fun _ h => by cases h), ⟨(fun _ h => by cases h; exact ⟨_, Tryz.func89, c89⟩), trivial, trivial⟩, ⟨(fun _ h => by cases h; exact ⟨_, Tryz.func121, c121⟩), ⟨(fun _ h => by cases h; exact ⟨_, Tryz.func185, c185⟩), trivial, trivial⟩, trivial⟩⟩⟩⟩, ⟨(fun _ h => by cases h; exact ⟨_, Tryz.func13, c13⟩), ⟨(fun _ h => by cases h; exact ⟨_, Tryz.func21, c21⟩), ⟨(fun _ h => by cases h), ⟨(fun _ h => by cases h), ⟨(fun _ h => by cases h; exact ⟨_, Tryz.func133, c133⟩), trivial, trivial⟩, trivial⟩, trivial⟩, ⟨(fun _ h => by cases h), ⟨(fun _ h => by cases h; exact ⟨_, Tryz.func85, c85⟩), trivial, trivial⟩, trivial⟩⟩, ⟨(fun _ h => by cases h), ⟨(fun _ h => by cases h), trivial, ⟨(fun _ h => by cases h; exact ⟨_, Tryz.func109, c109⟩), trivial, trivial⟩⟩, ⟨(fun _ h => by cases h), ⟨(fun _ h => by cases h), trivial, ⟨(fun _ h => by cases h; exact ⟨_, Tryz.func221, c221⟩), trivial, trivial⟩⟩, ⟨(fun _ h => by cases h; exact ⟨_, Tryz.func125, c125⟩), ⟨(fun _ h => by cases h; exact ⟨_, Tryz.func189, c189⟩), trivial, trivial⟩, trivial⟩⟩⟩⟩⟩⟩, ⟨(fun _ h => by cases h), ⟨(fun _ h => by cases h; exact ⟨_, Tryz.func4, c4⟩), ⟨(fun _ h => by cases h; exact ⟨_, Tryz.func8, c8⟩), ⟨(fun _ h => by cases h; exact ⟨_, Tryz.func16, c16⟩), ⟨(fun _ h => by cases h), ⟨(fun _ h => by cases h; exact ⟨_, Tryz.func64, c64⟩), ⟨(fun _ h => by cases h; exact ⟨_, Tryz.func128, c128⟩), trivial, trivial⟩, ⟨(fun _ h => by cases h; exact ⟨_, Tryz.func192, c192⟩), trivial, trivial⟩⟩, trivial⟩, trivial⟩, ⟨(fun _ h => by cases h), ⟨(fun _ h => by cases h), ⟨(fun _ h => by cases h; exact ⟨_, Tryz.func72, c72⟩), trivial, trivial⟩, trivial⟩, ⟨(fun _ h => by cases h), ⟨(fun _ h => by cases h; exact ⟨_, Tryz.func88, c88⟩), trivial, trivial⟩, trivial⟩⟩⟩, ⟨(fun _ h => by cases h; exact ⟨_, Tryz.func12, c12⟩), ⟨(fun _ h => by cases h; exact ⟨_, Tryz.func20, c20⟩), ⟨(fun _ h => by cases h), ⟨(fun _ h => by cases h), ⟨(fun _ h => by cases h; exact ⟨_, Tryz.func132, c132⟩), trivial, trivial⟩, trivial⟩, trivial⟩, trivial⟩, ⟨(fun _ h => by cases h; exact ⟨_, Tryz.func28, c28⟩), ⟨(fun _ h => by cases h), trivial, ⟨(fun _ h => by cases h; exact ⟨_, Tryz.func108, c108⟩), trivial, trivial⟩⟩, ⟨(fun _ h => by cases h), ⟨(fun _ h => by cases h), trivial, ⟨(fun _ h => by cases h; exact ⟨_, Tryz.func220, c220⟩), trivial, trivial⟩⟩, ⟨(fun _ h => by cases h; exact ⟨_, Tryz.func124, c124⟩), ⟨(fun _ h => by cases h; exact ⟨_, Tryz.func188, c188⟩), trivial, trivial⟩, trivial⟩⟩⟩⟩⟩, ⟨(fun _ h => by cases h; exact ⟨_, Tryz.func6, c6⟩), ⟨(fun _ h => by cases h; exact ⟨_, Tryz.func10, c10⟩), ⟨(fun _ h => by cases h; exact ⟨_, Tryz.func18, c18⟩), ⟨(fun _ h => by cases h), ⟨(fun _ h => by cases h; exact ⟨_, Tryz.func66, c66⟩), ⟨(fun _ h => by cases h; exact ⟨_, Tryz.func130, c130⟩), trivial, trivial⟩, trivial⟩, trivial⟩, ⟨(fun _ h => by cases h; exact ⟨_, Tryz.func50, c50⟩), trivial, trivial⟩⟩, ⟨(fun _ h => by cases h; exact ⟨_, Tryz.func26, c26⟩), trivial, ⟨(fun _ h => by cases h), ⟨(fun _ h => by cases h; exact ⟨_, Tryz.func90, c90⟩), trivial, trivial⟩, ⟨(fun _ h => by cases h; exact ⟨_, Tryz.func122, c122⟩), ⟨(fun _ h => by cases h; exact ⟨_, Tryz.func186, c186⟩), trivial, trivial⟩, trivial⟩⟩⟩⟩, ⟨(fun _ h => by cases h; exact ⟨_, Tryz.func14, c14⟩), ⟨(fun _ h => by cases h), ⟨(fun _ h => by cases h), ⟨(fun _ h => by cases h), ⟨(fun _ h => by cases h; exact ⟨_, Tryz.func134, c134⟩), trivial, trivial⟩, trivial⟩, trivial⟩, ⟨(fun _ h => by cases h), ⟨(fun _ h => by cases h; exact ⟨_, Tryz.func86, c86⟩), trivial, trivial⟩, trivial⟩⟩, ⟨(fun _ h => by cases h), ⟨(fun _ h => by cases h), trivial, ⟨(fun _ h => by cases h; exact ⟨_, Tryz.func110, c110⟩), trivial, trivial⟩⟩, ⟨(fun _ h => by cases h), ⟨(fun _ h => by cases h), trivial, ⟨(fun _ h => by cases h; exact ⟨_, Tryz.func222, c222⟩), trivial, trivial⟩⟩, ⟨(fun _ h => by cases h; exact ⟨_, Tryz.func126, c126⟩), ⟨(fun _ h => by cases h; exact ⟨_, Tryz.func190, c190⟩), trivial, trivial⟩, trivial⟩⟩⟩⟩⟩⟩⟩ f F h

theorem tabM : TabOk Tryz.prog (erΓ T.Γ) := fun f F h => by
  obtain ⟨F3, h1, rfl⟩ := Option.map_eq_some_iff.1 h
  obtain ⟨fn, h2, h3, _⟩ := all3 f F3 h1
  exact ⟨fn, h2, h3⟩
theorem okM (f : Nat) (F : Fn3) (h : T.Γ f = some F) : F.ok = true := by
  obtain ⟨_, _, _, h3⟩ := all3 f F h
  exact h3
end Go.Proofs.YtapkmhneneffdaaGreatDoor.Ab
