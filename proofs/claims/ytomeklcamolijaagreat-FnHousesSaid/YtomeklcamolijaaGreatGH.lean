import Derived.Test.YtomeklcamolijaaGreatGT
import Derived.Test.YtomeklcamolijaaGreatAm9
set_option linter.unusedVariables false
set_option maxRecDepth 100000
namespace Go.Am
open Go Go.Proofs Go.Shelf
/-! 122 slices.Sort[[]int,int] (by hand) -/
noncomputable def F122 (x : List Int) : DT (Unit × (List Int)) := sortF 8 x
noncomputable def con122 : Con := ⟨[.one (.own (.int .i64))], [0], [], F122⟩
theorem lays122 : Lays.n189 prog (renOf [(189,122),(125,272),(257,271),(294,371),(295,372),(296,373),(297,374),(298,375),(299,376),(216,377),(300,378),(301,379),(215,426),(331,424),(332,425),(343,440),(329,422),(330,423),(328,421),(128,380),(129,381)] [(28,49),(3,3),(46,280),(0,0),(4,4),(183,350),(182,349),(131,355),(222,383),(229,228),(218,379),(53,360),(228,392),(51,358),(5,5),(9,9)]) := by
  constructor
  all_goals first | exact mixed | (as_aux_lemma => kernel_rfl) | (intro w; as_aux_lemma => kernel_rfl)
theorem ok122 : con122.Sound prog 122 := sort_ok lays122 rfl

/-! 132 slices.Clone[[]impl.Mark,impl.Mark] (by hand) -/
noncomputable def F132 (x : List I2) : DT ((List I2) × Unit) := cloneF 16 x
noncomputable def con132 : Con := ⟨[.one (.val (.sl (yI2)))], [], [.one (.own (yI2))], F132⟩
theorem lays132 : Go.Proofs.SlLaysE0.n41 prog (renOf [(41, 132)] [(4, 4), (22, 43), (23, 179)]) where
  mixed := mixed
  f41 := ⟨"slices.Clone[[]loop.example/g03007/impl.Mark,loop.example/g03007/impl.Mark]", by kernel_rfl, by kernel_rfl⟩
  t4 := by kernel_rfl
  a4 := fun w => by kernel_rfl
  z4 := fun w => by kernel_rfl
  v4 := fun w => by kernel_rfl
  t22 := by kernel_rfl
  a22 := fun w => by kernel_rfl
  z22 := fun w => by kernel_rfl
  v22 := fun w => by kernel_rfl
theorem ok132 : con132.Sound prog 132 := clone_ok (i := ⟨2, 16, .struct [(0, 3), (1, 3)], [.int .i64 0, .int .i64 0], yI2⟩) lays132 (tiOf_ok tab tab_ok 179 _ (by kernel_rfl)) (by decide) (by decide) (by decide) (yI2) (by decide) (by decide) (by decide)

/-! 137 slices.Clone[[]impl.Slot,impl.Slot] (by hand) -/
noncomputable def F137 (x : List I3) : DT ((List I3) × Unit) := cloneF 24 x
noncomputable def con137 : Con := ⟨[.one (.val (.sl (yI3)))], [], [.one (.own (yI3))], F137⟩
theorem lays137 : Go.Proofs.SlLaysE0.n41 prog (renOf [(41, 137)] [(4, 4), (22, 26), (23, 187)]) where
  mixed := mixed
  f41 := ⟨"slices.Clone[[]loop.example/g03007/impl.Slot,loop.example/g03007/impl.Slot]", by kernel_rfl, by kernel_rfl⟩
  t4 := by kernel_rfl
  a4 := fun w => by kernel_rfl
  z4 := fun w => by kernel_rfl
  v4 := fun w => by kernel_rfl
  t22 := by kernel_rfl
  a22 := fun w => by kernel_rfl
  z22 := fun w => by kernel_rfl
  v22 := fun w => by kernel_rfl
theorem ok137 : con137.Sound prog 137 := clone_ok (i := ⟨3, 24, .struct [(0, 3), (1, 3), (2, 3)], [.int .i64 0, .int .i64 0, .int .i64 0], yI3⟩) lays137 (tiOf_ok tab tab_ok 187 _ (by kernel_rfl)) (by decide) (by decide) (by decide) (yI3) (by decide) (by decide) (by decide)

end Go.Am
