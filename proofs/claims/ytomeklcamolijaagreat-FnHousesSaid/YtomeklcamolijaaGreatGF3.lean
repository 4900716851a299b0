import Derived.Test.YtomeklcamolijaaGreatGF2
set_option linter.unusedVariables false
set_option maxRecDepth 100000
namespace Go.Am
open Go Go.Proofs
/-! 318 spec.FindClaim -/
noncomputable def L_318_0G (x : (List I5) × Int × Int) : DTB (Rd ((List I5) × Int × Int) Int) :=
  .ite (decide (x.2.2 < (x.1.length : Int))) (
    .guard (decide (0 ≤ x.2.2 ∧ x.2.2 < (x.1.length : Int))) <|
    let e1 : I5 := x.1.getD x.2.2.toNat d4
    .ite (e1.1 == x.2.1) (
      .ret (.ret x.2.2)) <|
    .ret (.on (x.1, x.2.1, IntKind.i64.wrap (x.2.2 + (1 : Int))))) <|
  .ret (.out x)
noncomputable def L_318_0 (x : (List I5) × Int × Int) : DT (((List I5) × Int × Int) ⊕ Int) := whileT (fun x => (L_318_0G x).toDT) x
noncomputable def L_318_0C : LC := ⟨[(0, .one (.val (.sl (yI5)))), (1, .one (.val (.int .i64))), (5, .one (.val (.int .i64)))], [(4, .one (.val (.int .i64)))], L_318_0⟩
noncomputable def B318 (x : (List I5) × Int) : DTB (Int × Unit) :=
  .bnd (L_318_0 (x.1, x.2, (0 : Int))) fun
  | .inl y1 =>
    .ret ((-1 : Int), ())
  | .inr y1 =>
    .ret (y1, ())
noncomputable def F318 (x : (List I5) × Int) : DT (Int × Unit) := (B318 x).toDT
noncomputable def con318 : Con := ⟨[.one (.val (.sl (yI5))), .one (.val (.int .i64))], [], [.one (.val (.int .i64))], F318⟩
noncomputable def C318 : Ctx := ⟨tiOf tab, fun t => eqL.contains t, fun g _ => conOf [] g, fun i => match i with | 0 => some L_318_0C | _ => none⟩
theorem cons318 : Cons prog C318 := cons_of _ (fun _ h => by cases h)
theorem L_318_0ok : LoopOk prog C318 [] 20 (nthLoop (bodyOf Tryz.f318) 0).1 (nthLoop (bodyOf Tryz.f318) 0).2 :=
  loop_while (l := L_318_0C) ctx cons318 mixed (by kernel_rfl) (loops_all 0 (by kernel_rfl) trivial) (by kernel_rfl) L_318_0G (fun x => by kernel_rfl) (fun _ => rfl)
theorem ok318 : con318.Sound prog 318 :=
  fn_con (C := C318) (fn := Tryz.f318) (code := (bodyOf Tryz.f318)) (n := 20) ctx cons318 mixed (by kernel_rfl) (by kernel_rfl) (by kernel_rfl) con318 (rg := [.tmp 4]) (by kernel_rfl) (by kernel_rfl) (loops_all 1 (by kernel_rfl) ⟨trivial, L_318_0ok⟩) (by kernel_rfl) B318 (fun x => by kernel_rfl) (fun _ => rfl)

/-! 340 spec.SetState -/
noncomputable def B340 (x : (List I5) × Int × Int) : DTB (((List I5) × Bool) × Unit) :=
  .guard (decide ((([] : List I5).length + x.1.length) * 40 ≤ 140737488355328)) <|
  .bnd (F318 (x.1, x.2.1)) fun r1 =>
  .ite (decide (r1.1 < (0 : Int))) (
    .ret ((([] : List I5) ++ x.1, false), ())) <|
  .bnd (F114 x.1) fun r2 =>
  .ite (!r2.1) (
    .ret ((([] : List I5) ++ x.1, false), ())) <|
  .guard (decide (0 ≤ r1.1 ∧ r1.1 < (x.1.length : Int))) <|
  let e1 : I5 := x.1.getD r1.1.toNat d4
  .ite (e1.2.2.2.2 == (0 : Int)) (
    .ite (x.2.2 == (1 : Int)) (
      .guard (decide (0 ≤ r1.1 ∧ r1.1 < ((([] : List I5) ++ x.1).length : Int))) <|
      let e2 : I5 := (([] : List I5) ++ x.1).getD r1.1.toNat d4
      .bnd (F114 ((([] : List I5) ++ x.1).set r1.1.toNat (e2.1, e2.2.1, e2.2.2.1, e2.2.2.2.1, x.2.2))) fun r3 =>
      .ite (!r3.1) (
        .guard (decide ((([] : List I5).length + x.1.length) * 40 ≤ 140737488355328)) <|
        .ret ((([] : List I5) ++ x.1, false), ())) <|
      .ret (((([] : List I5) ++ x.1).set r1.1.toNat (e2.1, e2.2.1, e2.2.2.1, e2.2.2.2.1, x.2.2), true), ())) <|
    .ite (x.2.2 == (2 : Int)) (
      .guard (decide (0 ≤ r1.1 ∧ r1.1 < ((([] : List I5) ++ x.1).length : Int))) <|
      let e3 : I5 := (([] : List I5) ++ x.1).getD r1.1.toNat d4
      .bnd (F114 ((([] : List I5) ++ x.1).set r1.1.toNat (e3.1, e3.2.1, e3.2.2.1, e3.2.2.2.1, x.2.2))) fun r4 =>
      .ite (!r4.1) (
        .guard (decide ((([] : List I5).length + x.1.length) * 40 ≤ 140737488355328)) <|
        .ret ((([] : List I5) ++ x.1, false), ())) <|
      .ret (((([] : List I5) ++ x.1).set r1.1.toNat (e3.1, e3.2.1, e3.2.2.1, e3.2.2.2.1, x.2.2), true), ())) <|
    .ite (e1.2.2.2.2 == (1 : Int)) (
      .guard (decide (0 ≤ r1.1 ∧ r1.1 < ((([] : List I5) ++ x.1).length : Int))) <|
      let e4 : I5 := (([] : List I5) ++ x.1).getD r1.1.toNat d4
      .ite (!(x.2.2 == (3 : Int))) (
        .guard (decide ((([] : List I5).length + x.1.length) * 40 ≤ 140737488355328)) <|
        .ret ((([] : List I5) ++ x.1, false), ())) <|
      .bnd (F114 ((([] : List I5) ++ x.1).set r1.1.toNat (e4.1, e4.2.1, e4.2.2.1, e4.2.2.2.1, x.2.2))) fun r5 =>
      .ite (!r5.1) (
        .guard (decide ((([] : List I5).length + x.1.length) * 40 ≤ 140737488355328)) <|
        .ret ((([] : List I5) ++ x.1, false), ())) <|
      .ret (((([] : List I5) ++ x.1).set r1.1.toNat (e4.1, e4.2.1, e4.2.2.1, e4.2.2.2.1, x.2.2), true), ())) <|
    .guard (decide (0 ≤ r1.1 ∧ r1.1 < ((([] : List I5) ++ x.1).length : Int))) <|
    let e5 : I5 := (([] : List I5) ++ x.1).getD r1.1.toNat d4
    .guard (decide ((([] : List I5).length + x.1.length) * 40 ≤ 140737488355328)) <|
    .ret ((([] : List I5) ++ x.1, false), ())) <|
  .ite (e1.2.2.2.2 == (1 : Int)) (
    .guard (decide (0 ≤ r1.1 ∧ r1.1 < ((([] : List I5) ++ x.1).length : Int))) <|
    let e6 : I5 := (([] : List I5) ++ x.1).getD r1.1.toNat d4
    .ite (!(x.2.2 == (3 : Int))) (
      .guard (decide ((([] : List I5).length + x.1.length) * 40 ≤ 140737488355328)) <|
      .ret ((([] : List I5) ++ x.1, false), ())) <|
    .bnd (F114 ((([] : List I5) ++ x.1).set r1.1.toNat (e6.1, e6.2.1, e6.2.2.1, e6.2.2.2.1, x.2.2))) fun r6 =>
    .ite (!r6.1) (
      .guard (decide ((([] : List I5).length + x.1.length) * 40 ≤ 140737488355328)) <|
      .ret ((([] : List I5) ++ x.1, false), ())) <|
    .ret (((([] : List I5) ++ x.1).set r1.1.toNat (e6.1, e6.2.1, e6.2.2.1, e6.2.2.2.1, x.2.2), true), ())) <|
  .guard (decide (0 ≤ r1.1 ∧ r1.1 < ((([] : List I5) ++ x.1).length : Int))) <|
  let e7 : I5 := (([] : List I5) ++ x.1).getD r1.1.toNat d4
  .guard (decide ((([] : List I5).length + x.1.length) * 40 ≤ 140737488355328)) <|
  .ret ((([] : List I5) ++ x.1, false), ())
noncomputable def F340 (x : (List I5) × Int × Int) : DT (((List I5) × Bool) × Unit) := (B340 x).toDT
noncomputable def con340 : Con := ⟨[.one (.val (.sl (yI5))), .one (.val (.int .i64)), .one (.val (.int .i64))], [], [.one (.own (yI5)), .one (.val (.bool))], F340⟩
noncomputable def C340 : Ctx := ⟨tiOf tab, fun t => eqL.contains t, fun g _ => conOf [(114, con114), (318, con318)] g, fun i => match i with | _ => none⟩
theorem cons340 : Cons prog C340 := cons_of _ (allC ⟨ok114, ok318, trivial⟩)
theorem ok340 : con340.Sound prog 340 :=
  fn_con (C := C340) (fn := Tryz.f340) (code := (bodyOf Tryz.f340)) (n := 65) ctx cons340 mixed (by kernel_rfl) (by kernel_rfl) (by kernel_rfl) con340 (rg := [.tmp 6, .tmp 7]) (by kernel_rfl) (by kernel_rfl) (loops_all 0 (by kernel_rfl) trivial) (by kernel_rfl) B340 (fun x => by kernel_rfl) (fun _ => rfl)



/-! 383 spec.l13Draw -/
noncomputable def L_383_0G (x : Tl1Cur × (List I5) × Int) : DTB (Rd (Tl1Cur × (List I5) × Int) Unit) :=
  .bnd (F141 (x.1, (8 : Int))) fun r1 =>
  .ite (decide (x.2.2 ≤ r1.1)) (
    .bnd (F141 (r1.2, (5 : Int))) fun r2 =>
    .bnd (F141 (r2.2, (3 : Int))) fun r3 =>
    let v1 : Int := IntKind.i64.wrap ((2 : Int) * (IntKind.i64.wrap ((1 : Int) + r3.1)))
    .bnd (F141 (r3.2, (60 : Int))) fun r4 =>
    .bnd (F336 (x.2.1, IntKind.i64.wrap ((2 : Int) * x.2.2), IntKind.i64.wrap ((1 : Int) + r2.1), v1, r4.1, (0 : Int))) fun r5 =>
    .bnd (F141 (r4.2, (4 : Int))) fun r6 =>
    .bnd (F340 (r5.1.1, IntKind.i64.wrap ((2 : Int) * x.2.2), r6.1)) fun r7 =>
    .ret (.on (r6.2, r7.1.1, IntKind.i64.wrap (x.2.2 + (1 : Int))))) <|
  .ret (.out (r1.2, x.2))
noncomputable def L_383_0 (x : Tl1Cur × (List I5) × Int) : DT ((Tl1Cur × (List I5) × Int) ⊕ Unit) := whileT (fun x => (L_383_0G x).toDT) x
noncomputable def L_383_0C : LC := ⟨[(0, .box [.val (yTl1Cur)]), (3, .one (.own (yI5))), (4, .one (.val (.int .i64)))], [], L_383_0⟩
noncomputable def B383 (x : Tl1Cur) : DTB ((List I5) × Tl1Cur) :=
  .bnd (L_383_0 (x, ([] : List I5), (1 : Int))) fun
  | .inl y1 =>
    .ret (y1.2.1, y1.1)
  | .inr y1 =>
    .fail
noncomputable def F383 (x : Tl1Cur) : DT ((List I5) × Tl1Cur) := (B383 x).toDT
noncomputable def con383 : Con := ⟨[.box [.val (yTl1Cur)]], [0], [.one (.own (yI5))], F383⟩
noncomputable def C383 : Ctx := ⟨tiOf tab, fun t => eqL.contains t, fun g _ => conOf [(141, con141), (336, con336), (340, con340)] g, fun i => match i with | 0 => some L_383_0C | _ => none⟩
theorem cons383 : Cons prog C383 := cons_of _ (allC ⟨ok141, ok336, ok340, trivial⟩)
theorem L_383_0ok : LoopOk prog C383 [0] 39 (nthLoop (bodyOf Tryz.f383) 0).1 (nthLoop (bodyOf Tryz.f383) 0).2 :=
  loop_while (l := L_383_0C) ctx cons383 mixed (by kernel_rfl) (loops_all 0 (by kernel_rfl) trivial) (by kernel_rfl) L_383_0G (fun x => by kernel_rfl) (fun _ => rfl)
theorem ok383 : con383.Sound prog 383 :=
  fn_con (C := C383) (fn := Tryz.f383) (code := (bodyOf Tryz.f383)) (n := 39) ctx cons383 mixed (by kernel_rfl) (by kernel_rfl) (by kernel_rfl) con383 (rg := [.tmp 2]) (by kernel_rfl) (by kernel_rfl) (loops_all 1 (by kernel_rfl) ⟨trivial, L_383_0ok⟩) (by kernel_rfl) B383 (fun x => by kernel_rfl) (fun _ => rfl)



/-! 282 spec.l13Any -/
noncomputable def B282 (x : Tl1Cur) : DTB ((List I5) × Tl1Cur) :=
  .bnd (F383 x) fun r1 =>
  .ite ((r1.1.length : Int) == (0 : Int)) (
    .ret (r1.1, r1.2)) <|
  .bnd (F141 (r1.2, (r1.1.length : Int))) fun r2 =>
  .bnd (F141 (r2.2, (10 : Int))) fun r3 =>
  .ite (r3.1 == (0 : Int)) (
    .bnd (F133 (r3.2, [(0 : Int), (2 : Int), (999 : Int), (1000 : Int)])) fun r4 =>
    .guard (decide (0 ≤ r2.1 ∧ r2.1 < (r1.1.length : Int))) <|
    let e1 : I5 := r1.1.getD r2.1.toNat d4
    .ret (r1.1.set r2.1.toNat (r4.1, e1.2), r4.2)) <|
  .ite (r3.1 == (1 : Int)) (
    .bnd (F281 r3.2) fun r5 =>
    .guard (decide (0 ≤ r2.1 ∧ r2.1 < (r1.1.length : Int))) <|
    let e2 : I5 := r1.1.getD r2.1.toNat d4
    .ret (r1.1.set r2.1.toNat (e2.1, r5.1, e2.2.2), r5.2)) <|
  .ite (r3.1 == (2 : Int)) (
    .bnd (F133 (r3.2, [(-1 : Int), (100000 : Int), (100001 : Int)])) fun r6 =>
    .guard (decide (0 ≤ r2.1 ∧ r2.1 < (r1.1.length : Int))) <|
    let e3 : I5 := r1.1.getD r2.1.toNat d4
    .ret (r1.1.set r2.1.toNat (e3.1, e3.2.1, e3.2.2.1, r6.1, e3.2.2.2.2), r6.2)) <|
  .ite (r3.1 == (3 : Int)) (
    .bnd (F133 (r3.2, [(-1 : Int), (3 : Int), (4 : Int)])) fun r7 =>
    .guard (decide (0 ≤ r2.1 ∧ r2.1 < (r1.1.length : Int))) <|
    let e4 : I5 := r1.1.getD r2.1.toNat d4
    .ret (r1.1.set r2.1.toNat (e4.1, e4.2.1, e4.2.2.1, e4.2.2.2.1, r7.1), r7.2)) <|
  .ret (r1.1, r3.2)
noncomputable def F282 (x : Tl1Cur) : DT ((List I5) × Tl1Cur) := (B282 x).toDT
noncomputable def con282 : Con := ⟨[.box [.val (yTl1Cur)]], [0], [.one (.own (yI5))], F282⟩
noncomputable def C282 : Ctx := ⟨tiOf tab, fun t => eqL.contains t, fun g _ => conOf [(133, con133), (141, con141), (281, con281), (383, con383)] g, fun i => match i with | _ => none⟩
theorem cons282 : Cons prog C282 := cons_of _ (allC ⟨ok133, ok141, ok281, ok383, trivial⟩)
theorem ok282 : con282.Sound prog 282 :=
  fn_con (C := C282) (fn := Tryz.f282) (code := (bodyOf Tryz.f282)) (n := 53) ctx cons282 mixed (by kernel_rfl) (by kernel_rfl) (by kernel_rfl) con282 (rg := [.tmp 2]) (by kernel_rfl) (by kernel_rfl) (loops_all 0 (by kernel_rfl) trivial) (by kernel_rfl) B282 (fun x => by kernel_rfl) (fun _ => rfl)



/-! 427 spec.l16One -/
noncomputable def B427 (x : Tl1Cur × Int) : DTB (I5 × Tl1Cur) :=
  .bnd (F141 (x.1, (4 : Int))) fun r1 =>
  let v1 : Int := IntKind.i64.wrap ((2 : Int) * (IntKind.i64.wrap ((1 : Int) + r1.1)))
  .bnd (F133 (r1.2, [(1 : Int), (1 : Int), (2 : Int), (2 : Int), (2 : Int), (3 : Int), (4 : Int), (5 : Int)])) fun r2 =>
  .bnd (F141 (r2.2, (3 : Int))) fun r3 =>
  .ret ((v1, r2.1, IntKind.i64.wrap ((1 : Int) + r3.1), x.2, (0 : Int)), r3.2)
noncomputable def F427 (x : Tl1Cur × Int) : DT (I5 × Tl1Cur) := (B427 x).toDT
noncomputable def con427 : Con := ⟨[.box [.val (yTl1Cur)], .one (.val (.int .i64))], [0], [.agg [.val (yI5)]], F427⟩
noncomputable def C427 : Ctx := ⟨tiOf tab, fun t => eqL.contains t, fun g _ => conOf [(133, con133), (141, con141)] g, fun i => match i with | _ => none⟩
theorem cons427 : Cons prog C427 := cons_of _ (allC ⟨ok133, ok141, trivial⟩)
theorem ok427 : con427.Sound prog 427 :=
  fn_con (C := C427) (fn := Tryz.f427) (code := (bodyOf Tryz.f427)) (n := 17) ctx cons427 mixed (by kernel_rfl) (by kernel_rfl) (by kernel_rfl) con427 (rg := [.cell 4 53]) (by kernel_rfl) (by kernel_rfl) (loops_all 0 (by kernel_rfl) trivial) (by kernel_rfl) B427 (fun x => by kernel_rfl) (fun _ => rfl)



/-! 297 spec.AddHand -/
noncomputable def B297 (x : (List I5) × I5) : DTB (((List I5) × Bool) × Unit) :=
  .ite (decide ((x.1.length : Int) > (0 : Int))) (
    .guard (decide (0 ≤ IntKind.i64.wrap ((x.1.length : Int) - (1 : Int)) ∧ IntKind.i64.wrap ((x.1.length : Int) - (1 : Int)) < (x.1.length : Int))) <|
    let e1 : I5 := x.1.getD ((IntKind.i64.wrap ((x.1.length : Int) - (1 : Int))).toNat) d4
    .bnd (F254 (e1.2.2.2.2, x.2)) fun r1 =>
    .guard (decide ((([] : List I5).length + x.1.length) * 40 ≤ 140737488355328)) <|
    .guard (decide (((([] : List I5) ++ x.1).length + [(x.2.1, x.2.2.1, x.2.2.2.1, x.2.2.2.2.1, r1.1)].length) * 40 ≤ 140737488355328)) <|
    let l1 : List I5 := (([] : List I5) ++ x.1) ++ [(x.2.1, x.2.2.1, x.2.2.2.1, x.2.2.2.2.1, r1.1)]
    .bnd (F115 l1) fun r2 =>
    .ite (!r2.1) (
      .guard (decide ((([] : List I5).length + x.1.length) * 40 ≤ 140737488355328)) <|
      .ret ((([] : List I5) ++ x.1, false), ())) <|
    .ret ((l1, true), ())) <|
  .bnd (F254 ((0 : Int), x.2)) fun r3 =>
  .guard (decide ((([] : List I5).length + x.1.length) * 40 ≤ 140737488355328)) <|
  .guard (decide (((([] : List I5) ++ x.1).length + [(x.2.1, x.2.2.1, x.2.2.2.1, x.2.2.2.2.1, r3.1)].length) * 40 ≤ 140737488355328)) <|
  let l2 : List I5 := (([] : List I5) ++ x.1) ++ [(x.2.1, x.2.2.1, x.2.2.2.1, x.2.2.2.2.1, r3.1)]
  .bnd (F115 l2) fun r4 =>
  .ite (!r4.1) (
    .guard (decide ((([] : List I5).length + x.1.length) * 40 ≤ 140737488355328)) <|
    .ret ((([] : List I5) ++ x.1, false), ())) <|
  .ret ((l2, true), ())
noncomputable def F297 (x : (List I5) × I5) : DT (((List I5) × Bool) × Unit) := (B297 x).toDT
noncomputable def con297 : Con := ⟨[.one (.val (.sl (yI5))), .agg [.val (yI5)]], [], [.one (.own (yI5)), .one (.val (.bool))], F297⟩
noncomputable def C297 : Ctx := ⟨tiOf tab, fun t => eqL.contains t, fun g _ => conOf [(115, con115), (254, con254)] g, fun i => match i with | _ => none⟩
theorem cons297 : Cons prog C297 := cons_of _ (allC ⟨ok115, ok254, trivial⟩)
theorem ok297 : con297.Sound prog 297 :=
  fn_con (C := C297) (fn := Tryz.f297) (code := (bodyOf Tryz.f297)) (n := 35) ctx cons297 mixed (by kernel_rfl) (by kernel_rfl) (by kernel_rfl) con297 (rg := [.tmp 4, .tmp 5]) (by kernel_rfl) (by kernel_rfl) (loops_all 0 (by kernel_rfl) trivial) (by kernel_rfl) B297 (fun x => by kernel_rfl) (fun _ => rfl)



/-! 384 spec.l16Draw -/
noncomputable def L_384_0G (x : Tl1Cur × (List I5) × Int × Int) : DTB (Rd (Tl1Cur × (List I5) × Int × Int) Unit) :=
  .ite (decide (x.2.2.2 > (0 : Int))) (
    .bnd (F427 (x.1, x.2.2.1)) fun r1 =>
    .bnd (F297 (x.2.1, r1.1)) fun r2 =>
    .bnd (F141 (r1.2, (9 : Int))) fun r3 =>
    .ret (.on (r3.2, r2.1.1, IntKind.i64.wrap (x.2.2.1 + r3.1), IntKind.i64.wrap (x.2.2.2 - (1 : Int))))) <|
  .ret (.out x)
noncomputable def L_384_0 (x : Tl1Cur × (List I5) × Int × Int) : DT ((Tl1Cur × (List I5) × Int × Int) ⊕ Unit) := whileT (fun x => (L_384_0G x).toDT) x
noncomputable def L_384_0C : LC := ⟨[(0, .box [.val (yTl1Cur)]), (3, .one (.own (yI5))), (4, .one (.val (.int .i64))), (5, .one (.val (.int .i64)))], [], L_384_0⟩
noncomputable def B384 (x : Tl1Cur) : DTB ((List I5) × Tl1Cur) :=
  .bnd (F141 (x, (12 : Int))) fun r1 =>
  .bnd (L_384_0 (r1.2, ([] : List I5), (0 : Int), r1.1)) fun
  | .inl y1 =>
    .ret (y1.2.1, y1.1)
  | .inr y1 =>
    .fail
noncomputable def F384 (x : Tl1Cur) : DT ((List I5) × Tl1Cur) := (B384 x).toDT
noncomputable def con384 : Con := ⟨[.box [.val (yTl1Cur)]], [0], [.one (.own (yI5))], F384⟩
noncomputable def C384 : Ctx := ⟨tiOf tab, fun t => eqL.contains t, fun g _ => conOf [(141, con141), (297, con297), (427, con427)] g, fun i => match i with | 0 => some L_384_0C | _ => none⟩
theorem cons384 : Cons prog C384 := cons_of _ (allC ⟨ok141, ok297, ok427, trivial⟩)
theorem L_384_0ok : LoopOk prog C384 [0] 26 (nthLoop (bodyOf Tryz.f384) 0).1 (nthLoop (bodyOf Tryz.f384) 0).2 :=
  loop_while (l := L_384_0C) ctx cons384 mixed (by kernel_rfl) (loops_all 0 (by kernel_rfl) trivial) (by kernel_rfl) L_384_0G (fun x => by kernel_rfl) (fun _ => rfl)
theorem ok384 : con384.Sound prog 384 :=
  fn_con (C := C384) (fn := Tryz.f384) (code := (bodyOf Tryz.f384)) (n := 26) ctx cons384 mixed (by kernel_rfl) (by kernel_rfl) (by kernel_rfl) con384 (rg := [.tmp 2]) (by kernel_rfl) (by kernel_rfl) (loops_all 1 (by kernel_rfl) ⟨trivial, L_384_0ok⟩) (by kernel_rfl) B384 (fun x => by kernel_rfl) (fun _ => rfl)



/-! 283 spec.l16Any -/
noncomputable def B283 (x : Tl1Cur) : DTB ((List I5) × Tl1Cur) :=
  .bnd (F384 x) fun r1 =>
  .ite ((r1.1.length : Int) == (0 : Int)) (
    .ret (r1.1, r1.2)) <|
  .bnd (F141 (r1.2, (r1.1.length : Int))) fun r2 =>
  .bnd (F141 (r2.2, (12 : Int))) fun r3 =>
  .ite (r3.1 == (0 : Int)) (
    .guard (decide (0 ≤ r2.1 ∧ r2.1 < (r1.1.length : Int))) <|
    let e1 : I5 := r1.1.getD r2.1.toNat d4
    .guard (decide (0 ≤ r2.1 ∧ r2.1 < (r1.1.length : Int))) <|
    let e2 : I5 := r1.1.getD r2.1.toNat d4
    .ret (r1.1.set r2.1.toNat (IntKind.i64.wrap (e1.1 + (1 : Int)), e2.2), r3.2)) <|
  .ite (r3.1 == (1 : Int)) (
    .bnd (F133 (r3.2, [(0 : Int), (5 : Int), (6 : Int)])) fun r4 =>
    .guard (decide (0 ≤ r2.1 ∧ r2.1 < (r1.1.length : Int))) <|
    let e3 : I5 := r1.1.getD r2.1.toNat d4
    .ret (r1.1.set r2.1.toNat (e3.1, r4.1, e3.2.2), r4.2)) <|
  .ite (r3.1 == (2 : Int)) (
    .bnd (F281 r3.2) fun r5 =>
    .guard (decide (0 ≤ r2.1 ∧ r2.1 < (r1.1.length : Int))) <|
    let e4 : I5 := r1.1.getD r2.1.toNat d4
    .ret (r1.1.set r2.1.toNat (e4.1, e4.2.1, r5.1, e4.2.2.2), r5.2)) <|
  .ite (r3.1 == (3 : Int)) (
    .bnd (F133 (r3.2, [(-1 : Int), (100000 : Int), (100001 : Int)])) fun r6 =>
    .guard (decide (0 ≤ r2.1 ∧ r2.1 < (r1.1.length : Int))) <|
    let e5 : I5 := r1.1.getD r2.1.toNat d4
    .ret (r1.1.set r2.1.toNat (e5.1, e5.2.1, e5.2.2.1, r6.1, e5.2.2.2.2), r6.2)) <|
  .ite (r3.1 == (4 : Int)) (
    .guard (decide (0 ≤ r2.1 ∧ r2.1 < (r1.1.length : Int))) <|
    let e6 : I5 := r1.1.getD r2.1.toNat d4
    .guard (decide (0 ≤ r2.1 ∧ r2.1 < (r1.1.length : Int))) <|
    let e7 : I5 := r1.1.getD r2.1.toNat d4
    .ret (r1.1.set r2.1.toNat (e7.1, e7.2.1, e7.2.2.1, e7.2.2.2.1, IntKind.i64.wrap (e6.2.2.2.2 + (1 : Int))), r3.2)) <|
  .ret (r1.1, r3.2)
noncomputable def F283 (x : Tl1Cur) : DT ((List I5) × Tl1Cur) := (B283 x).toDT
noncomputable def con283 : Con := ⟨[.box [.val (yTl1Cur)]], [0], [.one (.own (yI5))], F283⟩
noncomputable def C283 : Ctx := ⟨tiOf tab, fun t => eqL.contains t, fun g _ => conOf [(133, con133), (141, con141), (281, con281), (384, con384)] g, fun i => match i with | _ => none⟩
theorem cons283 : Cons prog C283 := cons_of _ (allC ⟨ok133, ok141, ok281, ok384, trivial⟩)
theorem ok283 : con283.Sound prog 283 :=
  fn_con (C := C283) (fn := Tryz.f283) (code := (bodyOf Tryz.f283)) (n := 68) ctx cons283 mixed (by kernel_rfl) (by kernel_rfl) (by kernel_rfl) con283 (rg := [.tmp 2]) (by kernel_rfl) (by kernel_rfl) (loops_all 0 (by kernel_rfl) trivial) (by kernel_rfl) B283 (fun x => by kernel_rfl) (fun _ => rfl)



/-! 299 spec.AddEntry -/
noncomputable def B299 (x : (List I4) × I4) : DTB (((List I4) × Bool) × Unit) :=
  .guard (decide ((([] : List I4).length + x.1.length) * 32 ≤ 140737488355328)) <|
  .guard (decide (((([] : List I4) ++ x.1).length + [x.2].length) * 32 ≤ 140737488355328)) <|
  .bnd (F116 ((([] : List I4) ++ x.1) ++ [x.2])) fun r1 =>
  .ite (!r1.1) (
    .guard (decide ((([] : List I4).length + x.1.length) * 32 ≤ 140737488355328)) <|
    .ret ((([] : List I4) ++ x.1, false), ())) <|
  .ret (((([] : List I4) ++ x.1) ++ [x.2], true), ())
noncomputable def F299 (x : (List I4) × I4) : DT (((List I4) × Bool) × Unit) := (B299 x).toDT
noncomputable def con299 : Con := ⟨[.one (.val (.sl (yI4))), .agg [.val (yI4)]], [], [.one (.own (yI4)), .one (.val (.bool))], F299⟩
noncomputable def C299 : Ctx := ⟨tiOf tab, fun t => eqL.contains t, fun g _ => conOf [(116, con116)] g, fun i => match i with | _ => none⟩
theorem cons299 : Cons prog C299 := cons_of _ (allC ⟨ok116, trivial⟩)
theorem ok299 : con299.Sound prog 299 :=
  fn_con (C := C299) (fn := Tryz.f299) (code := (bodyOf Tryz.f299)) (n := 20) ctx cons299 mixed (by kernel_rfl) (by kernel_rfl) (by kernel_rfl) con299 (rg := [.tmp 4, .tmp 5]) (by kernel_rfl) (by kernel_rfl) (loops_all 0 (by kernel_rfl) trivial) (by kernel_rfl) B299 (fun x => by kernel_rfl) (fun _ => rfl)



/-! 284 spec.l29Any -/
noncomputable def L_284_0G (x : Tl1Cur × (List I4) × Int × Int) : DTB (Rd (Tl1Cur × (List I4) × Int × Int) Unit) :=
  .ite (decide (x.2.2.2 > (0 : Int))) (
    .bnd (F141 (x.1, (4 : Int))) fun r1 =>
    .bnd (F141 (r1.2, (4 : Int))) fun r2 =>
    .bnd (F141 (r2.2, (500 : Int))) fun r3 =>
    .bnd (F299 (x.2.1, r1.1, r2.1, IntKind.i64.wrap ((1 : Int) + r3.1), x.2.2.1)) fun r4 =>
    .bnd (F141 (r3.2, (9 : Int))) fun r5 =>
    .ret (.on (r5.2, r4.1.1, IntKind.i64.wrap (x.2.2.1 + r5.1), IntKind.i64.wrap (x.2.2.2 - (1 : Int))))) <|
  .ret (.out x)
noncomputable def L_284_0 (x : Tl1Cur × (List I4) × Int × Int) : DT ((Tl1Cur × (List I4) × Int × Int) ⊕ Unit) := whileT (fun x => (L_284_0G x).toDT) x
noncomputable def L_284_0C : LC := ⟨[(0, .box [.val (yTl1Cur)]), (3, .one (.own (yI4))), (4, .one (.val (.int .i64))), (5, .one (.val (.int .i64)))], [], L_284_0⟩
noncomputable def B284 (x : Tl1Cur) : DTB ((List I4) × Tl1Cur) :=
  .bnd (F141 (x, (8 : Int))) fun r1 =>
  .bnd (L_284_0 (r1.2, ([] : List I4), (0 : Int), r1.1)) fun
  | .inl y1 =>
    .ite (decide ((y1.2.1.length : Int) > (0 : Int))) (
      .bnd (F141 (y1.1, (y1.2.1.length : Int))) fun r2 =>
      .bnd (F141 (r2.2, (12 : Int))) fun r3 =>
      .ite (r3.1 == (0 : Int)) (
        .bnd (F133 (r3.2, [(-1 : Int), (999 : Int), (1000 : Int)])) fun r4 =>
        .guard (decide (0 ≤ r2.1 ∧ r2.1 < (y1.2.1.length : Int))) <|
        let e1 : I4 := y1.2.1.getD r2.1.toNat d5
        .ret (y1.2.1.set r2.1.toNat (e1.1, r4.1, e1.2.2), r4.2)) <|
      .ite (r3.1 == (1 : Int)) (
        .bnd (F133 (r3.2, [(0 : Int), (10000000 : Int), (10000001 : Int)])) fun r5 =>
        .guard (decide (0 ≤ r2.1 ∧ r2.1 < (y1.2.1.length : Int))) <|
        let e2 : I4 := y1.2.1.getD r2.1.toNat d5
        .ret (y1.2.1.set r2.1.toNat (e2.1, e2.2.1, r5.1, e2.2.2.2), r5.2)) <|
      .ite (r3.1 == (2 : Int)) (
        .bnd (F281 r3.2) fun r6 =>
        .guard (decide (0 ≤ r2.1 ∧ r2.1 < (y1.2.1.length : Int))) <|
        let e3 : I4 := y1.2.1.getD r2.1.toNat d5
        .ret (y1.2.1.set r2.1.toNat (e3.1, e3.2.1, e3.2.2.1, r6.1), r6.2)) <|
      .ret (y1.2.1, r3.2)) <|
    .ret (y1.2.1, y1.1)
  | .inr y1 =>
    .fail
noncomputable def F284 (x : Tl1Cur) : DT ((List I4) × Tl1Cur) := (B284 x).toDT
noncomputable def con284 : Con := ⟨[.box [.val (yTl1Cur)]], [0], [.one (.own (yI4))], F284⟩
noncomputable def C284 : Ctx := ⟨tiOf tab, fun t => eqL.contains t, fun g _ => conOf [(133, con133), (141, con141), (281, con281), (299, con299)] g, fun i => match i with | 0 => some L_284_0C | _ => none⟩
theorem cons284 : Cons prog C284 := cons_of _ (allC ⟨ok133, ok141, ok281, ok299, trivial⟩)
theorem L_284_0ok : LoopOk prog C284 [0] 68 (nthLoop (bodyOf Tryz.f284) 0).1 (nthLoop (bodyOf Tryz.f284) 0).2 :=
  loop_while (l := L_284_0C) ctx cons284 mixed (by kernel_rfl) (loops_all 0 (by kernel_rfl) trivial) (by kernel_rfl) L_284_0G (fun x => by kernel_rfl) (fun _ => rfl)
theorem ok284 : con284.Sound prog 284 :=
  fn_con (C := C284) (fn := Tryz.f284) (code := (bodyOf Tryz.f284)) (n := 68) ctx cons284 mixed (by kernel_rfl) (by kernel_rfl) (by kernel_rfl) con284 (rg := [.tmp 2]) (by kernel_rfl) (by kernel_rfl) (loops_all 1 (by kernel_rfl) ⟨trivial, L_284_0ok⟩) (by kernel_rfl) B284 (fun x => by kernel_rfl) (fun _ => rfl)



/-! 396 spec.PutMark -/
noncomputable def L_396_0G (x : (List I2) × I2 × Int) : DTB (Rd ((List I2) × I2 × Int) Unit) :=
  .ite (decide (x.2.2 < (x.1.length : Int))) (
    .guard (decide (0 ≤ x.2.2 ∧ x.2.2 < (x.1.length : Int))) <|
    let e1 : I2 := x.1.getD x.2.2.toNat d2
    .ite (decide (e1.1 < x.2.1.1)) (
      .ret (.on (x.1, x.2.1, IntKind.i64.wrap (x.2.2 + (1 : Int))))) <|
    .ret (.out x)) <|
  .ret (.out x)
noncomputable def L_396_0 (x : (List I2) × I2 × Int) : DT (((List I2) × I2 × Int) ⊕ Unit) := whileT (fun x => (L_396_0G x).toDT) x
noncomputable def L_396_0C : LC := ⟨[(0, .one (.val (.sl (yI2)))), (3, .box [.val (yI2)]), (6, .one (.val (.int .i64)))], [], L_396_0⟩
noncomputable def B396 (x : (List I2) × I2) : DTB (((List I2) × Bool) × Unit) :=
  .bnd (L_396_0 (x.1, x.2, (0 : Int))) fun
  | .inl y1 =>
    .guard (decide (0 ≤ y1.2.2 ∧ y1.2.2 ≤ (y1.1.length : Int) ∧ (y1.1.length : Int) ≤ (y1.1.length : Int))) <|
    let v1 : Bool := decide ((((y1.1.take (y1.1.length : Int).toNat).drop y1.2.2.toNat).length : Int) > (0 : Int))
    .ite (v1) (
      .guard (decide (0 ≤ (0 : Int) ∧ (0 : Int) < (((y1.1.take (y1.1.length : Int).toNat).drop y1.2.2.toNat).length : Int))) <|
      let e1 : I2 := ((y1.1.take (y1.1.length : Int).toNat).drop y1.2.2.toNat).getD ((0 : Int).toNat) d2
      .ite (e1.1 == y1.2.1.1) (
        .guard (decide (0 ≤ (1 : Int) ∧ (1 : Int) ≤ (((y1.1.take (y1.1.length : Int).toNat).drop y1.2.2.toNat).length : Int) ∧ (((y1.1.take (y1.1.length : Int).toNat).drop y1.2.2.toNat).length : Int) ≤ (((y1.1.take (y1.1.length : Int).toNat).drop y1.2.2.toNat).length : Int))) <|
        .guard (decide (0 ≤ (0 : Int) ∧ (0 : Int) ≤ y1.2.2 ∧ y1.2.2 ≤ (y1.1.length : Int))) <|
        .guard (decide ((([] : List I2).length + ((y1.1.take y1.2.2.toNat).drop (0 : Int).toNat).length) * 16 ≤ 140737488355328)) <|
        let l1 : List I2 := ([] : List I2) ++ ((y1.1.take y1.2.2.toNat).drop (0 : Int).toNat)
        .guard (decide ((l1.length + [y1.2.1].length) * 16 ≤ 140737488355328)) <|
        .guard (decide (((l1 ++ [y1.2.1]).length + ((((y1.1.take (y1.1.length : Int).toNat).drop y1.2.2.toNat).take (((y1.1.take (y1.1.length : Int).toNat).drop y1.2.2.toNat).length : Int).toNat).drop (1 : Int).toNat).length) * 16 ≤ 140737488355328)) <|
        let l2 : List I2 := (l1 ++ [y1.2.1]) ++ ((((y1.1.take (y1.1.length : Int).toNat).drop y1.2.2.toNat).take (((y1.1.take (y1.1.length : Int).toNat).drop y1.2.2.toNat).length : Int).toNat).drop (1 : Int).toNat)
        .bnd (F253 l2) fun r1 =>
        .ite (!r1.1) (
          .guard (decide ((([] : List I2).length + y1.1.length) * 16 ≤ 140737488355328)) <|
          .ret ((([] : List I2) ++ y1.1, false), ())) <|
        .ret ((l2, true), ())) <|
      .guard (decide (0 ≤ (0 : Int) ∧ (0 : Int) ≤ y1.2.2 ∧ y1.2.2 ≤ (y1.1.length : Int))) <|
      .guard (decide ((([] : List I2).length + ((y1.1.take y1.2.2.toNat).drop (0 : Int).toNat).length) * 16 ≤ 140737488355328)) <|
      let l3 : List I2 := ([] : List I2) ++ ((y1.1.take y1.2.2.toNat).drop (0 : Int).toNat)
      .guard (decide ((l3.length + [y1.2.1].length) * 16 ≤ 140737488355328)) <|
      .guard (decide (((l3 ++ [y1.2.1]).length + ((y1.1.take (y1.1.length : Int).toNat).drop y1.2.2.toNat).length) * 16 ≤ 140737488355328)) <|
      let l4 : List I2 := (l3 ++ [y1.2.1]) ++ ((y1.1.take (y1.1.length : Int).toNat).drop y1.2.2.toNat)
      .bnd (F253 l4) fun r2 =>
      .ite (!r2.1) (
        .guard (decide ((([] : List I2).length + y1.1.length) * 16 ≤ 140737488355328)) <|
        .ret ((([] : List I2) ++ y1.1, false), ())) <|
      .ret ((l4, true), ())) <|
    .guard (decide (0 ≤ (0 : Int) ∧ (0 : Int) ≤ y1.2.2 ∧ y1.2.2 ≤ (y1.1.length : Int))) <|
    .guard (decide ((([] : List I2).length + ((y1.1.take y1.2.2.toNat).drop (0 : Int).toNat).length) * 16 ≤ 140737488355328)) <|
    let l5 : List I2 := ([] : List I2) ++ ((y1.1.take y1.2.2.toNat).drop (0 : Int).toNat)
    .guard (decide ((l5.length + [y1.2.1].length) * 16 ≤ 140737488355328)) <|
    .guard (decide (((l5 ++ [y1.2.1]).length + ((y1.1.take (y1.1.length : Int).toNat).drop y1.2.2.toNat).length) * 16 ≤ 140737488355328)) <|
    let l6 : List I2 := (l5 ++ [y1.2.1]) ++ ((y1.1.take (y1.1.length : Int).toNat).drop y1.2.2.toNat)
    .bnd (F253 l6) fun r3 =>
    .ite (!r3.1) (
      .guard (decide ((([] : List I2).length + y1.1.length) * 16 ≤ 140737488355328)) <|
      .ret ((([] : List I2) ++ y1.1, false), ())) <|
    .ret ((l6, true), ())
  | .inr y1 =>
    .fail
noncomputable def F396 (x : (List I2) × I2) : DT (((List I2) × Bool) × Unit) := (B396 x).toDT
noncomputable def con396 : Con := ⟨[.one (.val (.sl (yI2))), .agg [.val (yI2)]], [], [.one (.own (yI2)), .one (.val (.bool))], F396⟩
noncomputable def C396 : Ctx := ⟨tiOf tab, fun t => eqL.contains t, fun g _ => conOf [(253, con253)] g, fun i => match i with | 0 => some L_396_0C | _ => none⟩
theorem cons396 : Cons prog C396 := cons_of _ (allC ⟨ok253, trivial⟩)
theorem L_396_0ok : LoopOk prog C396 [] 59 (nthLoop (bodyOf Tryz.f396) 0).1 (nthLoop (bodyOf Tryz.f396) 0).2 :=
  loop_while (l := L_396_0C) ctx cons396 mixed (by kernel_rfl) (loops_all 0 (by kernel_rfl) trivial) (by kernel_rfl) L_396_0G (fun x => by kernel_rfl) (fun _ => rfl)
theorem ok396 : con396.Sound prog 396 :=
  fn_con (C := C396) (fn := Tryz.f396) (code := (bodyOf Tryz.f396)) (n := 59) ctx cons396 mixed (by kernel_rfl) (by kernel_rfl) (by kernel_rfl) con396 (rg := [.tmp 4, .tmp 5]) (by kernel_rfl) (by kernel_rfl) (loops_all 1 (by kernel_rfl) ⟨trivial, L_396_0ok⟩) (by kernel_rfl) B396 (fun x => by kernel_rfl) (fun _ => rfl)



/-! 309 spec.l11Draw -/
noncomputable def L_309_0G (x : Tl1Cur × (List I2) × Int) : DTB (Rd (Tl1Cur × (List I2) × Int) Unit) :=
  .ite (decide (x.2.2 > (0 : Int))) (
    .bnd (F141 (x.1, (8 : Int))) fun r1 =>
    .bnd (F141 (r1.2, (9 : Int))) fun r2 =>
    .bnd (F396 (x.2.1, IntKind.i64.wrap ((1 : Int) + r1.1), r2.1)) fun r3 =>
    .ret (.on (r2.2, r3.1.1, IntKind.i64.wrap (x.2.2 - (1 : Int))))) <|
  .ret (.out x)
noncomputable def L_309_0 (x : Tl1Cur × (List I2) × Int) : DT ((Tl1Cur × (List I2) × Int) ⊕ Unit) := whileT (fun x => (L_309_0G x).toDT) x
noncomputable def L_309_0C : LC := ⟨[(0, .box [.val (yTl1Cur)]), (3, .one (.own (yI2))), (4, .one (.val (.int .i64)))], [], L_309_0⟩
noncomputable def B309 (x : Tl1Cur) : DTB ((List I2) × Tl1Cur) :=
  .bnd (F141 (x, (6 : Int))) fun r1 =>
  .bnd (L_309_0 (r1.2, ([] : List I2), r1.1)) fun
  | .inl y1 =>
    .ret (y1.2.1, y1.1)
  | .inr y1 =>
    .fail
noncomputable def F309 (x : Tl1Cur) : DT ((List I2) × Tl1Cur) := (B309 x).toDT
noncomputable def con309 : Con := ⟨[.box [.val (yTl1Cur)]], [0], [.one (.own (yI2))], F309⟩
noncomputable def C309 : Ctx := ⟨tiOf tab, fun t => eqL.contains t, fun g _ => conOf [(141, con141), (396, con396)] g, fun i => match i with | 0 => some L_309_0C | _ => none⟩
theorem cons309 : Cons prog C309 := cons_of _ (allC ⟨ok141, ok396, trivial⟩)
theorem L_309_0ok : LoopOk prog C309 [0] 24 (nthLoop (bodyOf Tryz.f309) 0).1 (nthLoop (bodyOf Tryz.f309) 0).2 :=
  loop_while (l := L_309_0C) ctx cons309 mixed (by kernel_rfl) (loops_all 0 (by kernel_rfl) trivial) (by kernel_rfl) L_309_0G (fun x => by kernel_rfl) (fun _ => rfl)
theorem ok309 : con309.Sound prog 309 :=
  fn_con (C := C309) (fn := Tryz.f309) (code := (bodyOf Tryz.f309)) (n := 24) ctx cons309 mixed (by kernel_rfl) (by kernel_rfl) (by kernel_rfl) con309 (rg := [.tmp 2]) (by kernel_rfl) (by kernel_rfl) (loops_all 1 (by kernel_rfl) ⟨trivial, L_309_0ok⟩) (by kernel_rfl) B309 (fun x => by kernel_rfl) (fun _ => rfl)



/-! 385 spec.l31One -/
noncomputable def B385 (x : Tl1Cur × Int) : DTB (TSecret × Tl1Cur) :=
  .bnd (F309 x.1) fun r1 =>
  .ite ((r1.1.length : Int) == (0 : Int)) (
    .bnd (F141 (r1.2, (9 : Int))) fun r2 =>
    .bnd (F141 (r2.2, (99 : Int))) fun r3 =>
    .ret ((x.2, [((1 : Int), r2.1)], r3.1), r3.2)) <|
  .bnd (F141 (r1.2, (99 : Int))) fun r4 =>
  .ret ((x.2, r1.1, r4.1), r4.2)
noncomputable def F385 (x : Tl1Cur × Int) : DT (TSecret × Tl1Cur) := (B385 x).toDT
noncomputable def con385 : Con := ⟨[.box [.val (yTl1Cur)], .one (.val (.int .i64))], [0], [.agg [.val (yTSecret)]], F385⟩
noncomputable def C385 : Ctx := ⟨tiOf tab, fun t => eqL.contains t, fun g _ => conOf [(141, con141), (309, con309)] g, fun i => match i with | _ => none⟩
theorem cons385 : Cons prog C385 := cons_of _ (allC ⟨ok141, ok309, trivial⟩)
theorem ok385 : con385.Sound prog 385 :=
  fn_con (C := C385) (fn := Tryz.f385) (code := (bodyOf Tryz.f385)) (n := 20) ctx cons385 mixed (by kernel_rfl) (by kernel_rfl) (by kernel_rfl) con385 (rg := [.cell 4 181]) (by kernel_rfl) (by kernel_rfl) (loops_all 0 (by kernel_rfl) trivial) (by kernel_rfl) B385 (fun x => by kernel_rfl) (fun _ => rfl)



/-! 171 spec.l11Any -/
noncomputable def B171 (x : Tl1Cur) : DTB ((List I2) × Tl1Cur) :=
  .bnd (F309 x) fun r1 =>
  .ite ((r1.1.length : Int) == (0 : Int)) (
    .ret (r1.1, r1.2)) <|
  .bnd (F141 (r1.2, (r1.1.length : Int))) fun r2 =>
  .bnd (F141 (r2.2, (9 : Int))) fun r3 =>
  .ite (r3.1 == (0 : Int)) (
    .bnd (F133 (r3.2, [(0 : Int), (20 : Int), (21 : Int)])) fun r4 =>
    .guard (decide (0 ≤ r2.1 ∧ r2.1 < (r1.1.length : Int))) <|
    let e1 : I2 := r1.1.getD r2.1.toNat d2
    .ret (r1.1.set r2.1.toNat (r4.1, e1.2), r4.2)) <|
  .ite (r3.1 == (1 : Int)) (
    .bnd (F133 (r3.2, [(-1 : Int), (99 : Int), (100 : Int)])) fun r5 =>
    .guard (decide (0 ≤ r2.1 ∧ r2.1 < (r1.1.length : Int))) <|
    let e2 : I2 := r1.1.getD r2.1.toNat d2
    .ret (r1.1.set r2.1.toNat (e2.1, r5.1), r5.2)) <|
  .ret (r1.1, r3.2)
noncomputable def F171 (x : Tl1Cur) : DT ((List I2) × Tl1Cur) := (B171 x).toDT
noncomputable def con171 : Con := ⟨[.box [.val (yTl1Cur)]], [0], [.one (.own (yI2))], F171⟩
noncomputable def C171 : Ctx := ⟨tiOf tab, fun t => eqL.contains t, fun g _ => conOf [(133, con133), (141, con141), (309, con309)] g, fun i => match i with | _ => none⟩
theorem cons171 : Cons prog C171 := cons_of _ (allC ⟨ok133, ok141, ok309, trivial⟩)
theorem ok171 : con171.Sound prog 171 :=
  fn_con (C := C171) (fn := Tryz.f171) (code := (bodyOf Tryz.f171)) (n := 36) ctx cons171 mixed (by kernel_rfl) (by kernel_rfl) (by kernel_rfl) con171 (rg := [.tmp 2]) (by kernel_rfl) (by kernel_rfl) (loops_all 0 (by kernel_rfl) trivial) (by kernel_rfl) B171 (fun x => by kernel_rfl) (fun _ => rfl)



/-! 285 spec.l31Any -/
noncomputable def L_285_0G (x : Tl1Cur × (List TSecret) × Int) : DTB (Rd (Tl1Cur × (List TSecret) × Int) Unit) :=
  .bnd (F141 (x.1, (6 : Int))) fun r1 =>
  .ite (decide (x.2.2 ≤ r1.1)) (
    .bnd (F385 (r1.2, IntKind.i64.wrap ((2 : Int) * x.2.2))) fun r2 =>
    .guard (decide ((x.2.1.length + [r2.1].length) * 40 ≤ 140737488355328)) <|
    .ret (.on (r2.2, x.2.1 ++ [r2.1], IntKind.i64.wrap (x.2.2 + (1 : Int))))) <|
  .ret (.out (r1.2, x.2))
noncomputable def L_285_0 (x : Tl1Cur × (List TSecret) × Int) : DT ((Tl1Cur × (List TSecret) × Int) ⊕ Unit) := whileT (fun x => (L_285_0G x).toDT) x
noncomputable def L_285_0C : LC := ⟨[(0, .box [.val (yTl1Cur)]), (3, .one (.own (yTSecret))), (4, .one (.val (.int .i64)))], [], L_285_0⟩
noncomputable def B285 (x : Tl1Cur) : DTB ((List TSecret) × Tl1Cur) :=
  .bnd (L_285_0 (x, ([] : List TSecret), (1 : Int))) fun
  | .inl y1 =>
    .ite (decide ((y1.2.1.length : Int) > (0 : Int))) (
      .bnd (F141 (y1.1, (y1.2.1.length : Int))) fun r1 =>
      .bnd (F141 (r1.2, (10 : Int))) fun r2 =>
      .ite (r2.1 == (0 : Int)) (
        .bnd (F133 (r2.2, [(0 : Int), (2 : Int), (999 : Int), (1000 : Int)])) fun r3 =>
        .guard (decide (0 ≤ r1.1 ∧ r1.1 < (y1.2.1.length : Int))) <|
        let e1 : TSecret := y1.2.1.getD r1.1.toNat d0
        .ret (y1.2.1.set r1.1.toNat (r3.1, e1.2), r3.2)) <|
      .ite (r2.1 == (1 : Int)) (
        .bnd (F171 r2.2) fun r4 =>
        .guard (decide (0 ≤ r1.1 ∧ r1.1 < (y1.2.1.length : Int))) <|
        let e2 : TSecret := y1.2.1.getD r1.1.toNat d0
        .ret (y1.2.1.set r1.1.toNat (e2.1, r4.1, e2.2.2), r4.2)) <|
      .ite (r2.1 == (2 : Int)) (
        .bnd (F133 (r2.2, [(-1 : Int), (1000000 : Int), (1000001 : Int)])) fun r5 =>
        .guard (decide (0 ≤ r1.1 ∧ r1.1 < (y1.2.1.length : Int))) <|
        let e3 : TSecret := y1.2.1.getD r1.1.toNat d0
        .ret (y1.2.1.set r1.1.toNat (e3.1, e3.2.1, r5.1), r5.2)) <|
      .ret (y1.2.1, r2.2)) <|
    .ret (y1.2.1, y1.1)
  | .inr y1 =>
    .fail
noncomputable def F285 (x : Tl1Cur) : DT ((List TSecret) × Tl1Cur) := (B285 x).toDT
noncomputable def con285 : Con := ⟨[.box [.val (yTl1Cur)]], [0], [.one (.own (yTSecret))], F285⟩
noncomputable def C285 : Ctx := ⟨tiOf tab, fun t => eqL.contains t, fun g _ => conOf [(133, con133), (141, con141), (171, con171), (385, con385)] g, fun i => match i with | 0 => some L_285_0C | _ => none⟩
theorem cons285 : Cons prog C285 := cons_of _ (allC ⟨ok133, ok141, ok171, ok385, trivial⟩)
theorem L_285_0ok : LoopOk prog C285 [0] 56 (nthLoop (bodyOf Tryz.f285) 0).1 (nthLoop (bodyOf Tryz.f285) 0).2 :=
  loop_while (l := L_285_0C) ctx cons285 mixed (by kernel_rfl) (loops_all 0 (by kernel_rfl) trivial) (by kernel_rfl) L_285_0G (fun x => by kernel_rfl) (fun _ => rfl)
theorem ok285 : con285.Sound prog 285 :=
  fn_con (C := C285) (fn := Tryz.f285) (code := (bodyOf Tryz.f285)) (n := 56) ctx cons285 mixed (by kernel_rfl) (by kernel_rfl) (by kernel_rfl) con285 (rg := [.tmp 2]) (by kernel_rfl) (by kernel_rfl) (loops_all 1 (by kernel_rfl) ⟨trivial, L_285_0ok⟩) (by kernel_rfl) B285 (fun x => by kernel_rfl) (fun _ => rfl)



/-! 140 spec.l33Any -/
noncomputable def B140 (x : Tl1Cur) : DTB (THouse × Tl1Cur) :=
  .bnd (F141 (x, (3 : Int))) fun r1 =>
  .bnd (F136 r1.2) fun r2 =>
  .bnd (F247 (IntKind.i64.wrap ((1 : Int) + r1.1), r2.1)) fun r3 =>
  .bnd (F141 (r2.2, (90 : Int))) fun r4 =>
  .bnd (F141 (r4.2, (12 : Int))) fun r5 =>
  .ite (r5.1 == (0 : Int)) (
    .bnd (F133 (r5.2, [(0 : Int), (9 : Int), (10 : Int)])) fun r6 =>
    .ret ((r6.1, r3.1.1.2.1, r3.1.1.2.2.1, r3.1.1.2.2.2.1, r3.1.1.2.2.2.2.1, r3.1.1.2.2.2.2.2.1, r3.1.1.2.2.2.2.2.2.1, r3.1.1.2.2.2.2.2.2.2.1, r4.1), r6.2)) <|
  .ite (r5.1 == (1 : Int)) (
    .bnd (F193 r5.2) fun r7 =>
    .ret ((r3.1.1.1, r7.1, r3.1.1.2.2.1, r3.1.1.2.2.2.1, r3.1.1.2.2.2.2.1, r3.1.1.2.2.2.2.2.1, r3.1.1.2.2.2.2.2.2.1, r3.1.1.2.2.2.2.2.2.2.1, r4.1), r7.2)) <|
  .ite (r5.1 == (2 : Int)) (
    .bnd (F135 r5.2) fun r8 =>
    .ret ((r3.1.1.1, r3.1.1.2.1, r3.1.1.2.2.1, r8.1, r3.1.1.2.2.2.2.1, r3.1.1.2.2.2.2.2.1, r3.1.1.2.2.2.2.2.2.1, r3.1.1.2.2.2.2.2.2.2.1, r4.1), r8.2)) <|
  .ite (r5.1 == (3 : Int)) (
    .bnd (F282 r5.2) fun r9 =>
    .ret ((r3.1.1.1, r3.1.1.2.1, r3.1.1.2.2.1, r3.1.1.2.2.2.1, r9.1, r3.1.1.2.2.2.2.2.1, r3.1.1.2.2.2.2.2.2.1, r3.1.1.2.2.2.2.2.2.2.1, r4.1), r9.2)) <|
  .ite (r5.1 == (4 : Int)) (
    .bnd (F283 r5.2) fun r10 =>
    .ret ((r3.1.1.1, r3.1.1.2.1, r3.1.1.2.2.1, r3.1.1.2.2.2.1, r3.1.1.2.2.2.2.1, r3.1.1.2.2.2.2.2.1, r10.1, r3.1.1.2.2.2.2.2.2.2.1, r4.1), r10.2)) <|
  .ite (r5.1 == (5 : Int)) (
    .bnd (F284 r5.2) fun r11 =>
    .ret ((r3.1.1.1, r3.1.1.2.1, r3.1.1.2.2.1, r3.1.1.2.2.2.1, r3.1.1.2.2.2.2.1, r3.1.1.2.2.2.2.2.1, r3.1.1.2.2.2.2.2.2.1, r11.1, r4.1), r11.2)) <|
  .ite (r5.1 == (6 : Int)) (
    .bnd (F133 (r5.2, [(-1 : Int), (100000 : Int), (100001 : Int)])) fun r12 =>
    .ret ((r3.1.1.1, r3.1.1.2.1, r3.1.1.2.2.1, r3.1.1.2.2.2.1, r3.1.1.2.2.2.2.1, r3.1.1.2.2.2.2.2.1, r3.1.1.2.2.2.2.2.2.1, r3.1.1.2.2.2.2.2.2.2.1, r12.1), r12.2)) <|
  .ite (r5.1 == (7 : Int)) (
    .bnd (F285 r5.2) fun r13 =>
    .ret ((r3.1.1.1, r3.1.1.2.1, r13.1, r3.1.1.2.2.2.1, r3.1.1.2.2.2.2.1, r3.1.1.2.2.2.2.2.1, r3.1.1.2.2.2.2.2.2.1, r3.1.1.2.2.2.2.2.2.2.1, r4.1), r13.2)) <|
  .ret ((r3.1.1.1, r3.1.1.2.1, r3.1.1.2.2.1, r3.1.1.2.2.2.1, r3.1.1.2.2.2.2.1, r3.1.1.2.2.2.2.2.1, r3.1.1.2.2.2.2.2.2.1, r3.1.1.2.2.2.2.2.2.2.1, r4.1), r5.2)
noncomputable def F140 (x : Tl1Cur) : DT (THouse × Tl1Cur) := (B140 x).toDT
noncomputable def con140 : Con := ⟨[.box [.val (yTl1Cur)]], [0], [.agg [.val (yTHouse)]], F140⟩
noncomputable def C140 : Ctx := ⟨tiOf tab, fun t => eqL.contains t, fun g _ => conOf [(133, con133), (135, con135), (136, con136), (141, con141), (193, con193), (247, con247), (282, con282), (283, con283), (284, con284), (285, con285)] g, fun i => match i with | _ => none⟩
theorem cons140 : Cons prog C140 := cons_of _ (allC ⟨ok133, ok135, ok136, ok141, ok193, ok247, ok282, ok283, ok284, ok285, trivial⟩)
theorem ok140 : con140.Sound prog 140 :=
  fn_con (C := C140) (fn := Tryz.f140) (code := (bodyOf Tryz.f140)) (n := 62) ctx cons140 mixed (by kernel_rfl) (by kernel_rfl) (by kernel_rfl) con140 (rg := [.cell 2 32]) (by kernel_rfl) (by kernel_rfl) (loops_all 0 (by kernel_rfl) trivial) (by kernel_rfl) B140 (fun x => by kernel_rfl) (fun _ => rfl)



/-! 139 spec.DrawIsHouse -/
noncomputable def B139 (x : List Int) : DTB (THouse × Unit) :=
  .bnd (F100 x) fun r1 =>
  .bnd (F140 r1.1) fun r2 =>
  .ret (r2.1, ())
noncomputable def F139 (x : List Int) : DT (THouse × Unit) := (B139 x).toDT
noncomputable def con139 : Con := ⟨[.one (.val (.sl (.int .u8)))], [], [.agg [.val (yTHouse)]], F139⟩
noncomputable def C139 : Ctx := ⟨tiOf tab, fun t => eqL.contains t, fun g _ => conOf [(100, con100), (140, con140)] g, fun i => match i with | _ => none⟩
theorem cons139 : Cons prog C139 := cons_of _ (allC ⟨ok100, ok140, trivial⟩)
theorem ok139 : con139.Sound prog 139 :=
  fn_con (C := C139) (fn := Tryz.f139) (code := (bodyOf Tryz.f139)) (n := 8) ctx cons139 mixed (by kernel_rfl) (by kernel_rfl) (by kernel_rfl) con139 (rg := [.cell 2 32]) (by kernel_rfl) (by kernel_rfl) (loops_all 0 (by kernel_rfl) trivial) (by kernel_rfl) B139 (fun x => by kernel_rfl) (fun _ => rfl)



/-! 31 spec.DrawShown -/
noncomputable def L_31_0G (x : THouse × THouse × (List I3) × Int) : DTB (Rd (THouse × THouse × (List I3) × Int) Unit) :=
  .ite (decide (x.2.2.2 < (x.2.1.2.1.length : Int))) (
    .guard (decide (0 ≤ x.2.2.2 ∧ x.2.2.2 < (x.2.1.2.1.length : Int))) <|
    let e1 : TFind := x.2.1.2.1.getD x.2.2.2.toNat d1
    .guard (decide ((x.2.2.1.length + [(IntKind.i64.wrap ((40 : Int) + x.2.2.2), (1 : Int), e1.1.1)].length) * 24 ≤ 140737488355328)) <|
    let l1 : List I3 := x.2.2.1 ++ [(IntKind.i64.wrap ((40 : Int) + x.2.2.2), (1 : Int), e1.1.1)]
    .ret (.on (x.1, x.2.1, l1, IntKind.i64.wrap (x.2.2.2 + (2 : Int))))) <|
  .ret (.out x)
noncomputable def L_31_0 (x : THouse × THouse × (List I3) × Int) : DT ((THouse × THouse × (List I3) × Int) ⊕ Unit) := whileT (fun x => (L_31_0G x).toDT) x
noncomputable def L_31_0C : LC := ⟨[(2, .box [.val (yTHouse)]), (3, .box [.val (yTHouse)]), (4, .one (.own (yI3))), (5, .one (.val (.int .i64)))], [], L_31_0⟩
noncomputable def B31 (x : List Int) : DTB (THouse × Unit) :=
  .bnd (F139 x) fun r1 =>
  .guard (decide ((([] : List I3).length + r1.1.2.2.2.1.length) * 24 ≤ 140737488355328)) <|
  .bnd (L_31_0 (((0 : Int), ([] : List TFind), ([] : List TSecret), ([] : List I3), ([] : List I5), ([] : List I4), ([] : List I5), ([] : List I4), (0 : Int)), r1.1, ([] : List I3) ++ r1.1.2.2.2.1, (0 : Int))) fun
  | .inl y1 =>
    .ret ((y1.2.1.1, y1.2.1.2.1, y1.2.1.2.2.1, y1.2.2.1, y1.2.1.2.2.2.2), ())
  | .inr y1 =>
    .fail
noncomputable def F31 (x : List Int) : DT (THouse × Unit) := (B31 x).toDT
noncomputable def con31 : Con := ⟨[.one (.val (.sl (.int .u8)))], [], [.agg [.val (yTHouse)]], F31⟩
noncomputable def C31 : Ctx := ⟨tiOf tab, fun t => eqL.contains t, fun g _ => conOf [(139, con139)] g, fun i => match i with | 0 => some L_31_0C | _ => none⟩
theorem cons31 : Cons prog C31 := cons_of _ (allC ⟨ok139, trivial⟩)
theorem L_31_0ok : LoopOk prog C31 [] 35 (nthLoop (bodyOf Tryz.f31) 0).1 (nthLoop (bodyOf Tryz.f31) 0).2 :=
  loop_while (l := L_31_0C) ctx cons31 mixed (by kernel_rfl) (loops_all 0 (by kernel_rfl) trivial) (by kernel_rfl) L_31_0G (fun x => by kernel_rfl) (fun _ => rfl)
theorem ok31 : con31.Sound prog 31 :=
  fn_con (C := C31) (fn := Tryz.f31) (code := (bodyOf Tryz.f31)) (n := 35) ctx cons31 mixed (by kernel_rfl) (by kernel_rfl) (by kernel_rfl) con31 (rg := [.cell 2 32]) (by kernel_rfl) (by kernel_rfl) (loops_all 1 (by kernel_rfl) ⟨trivial, L_31_0ok⟩) (by kernel_rfl) B31 (fun x => by kernel_rfl) (fun _ => rfl)



/-! 32 spec.DrawTrialOf -/
noncomputable def B32 (x : List Int) : DTB ((THouse × Int) × Unit) :=
  .bnd (F100 x) fun r1 =>
  .bnd (F140 r1.1) fun r2 =>
  .bnd (F141 (r2.2, (6 : Int))) fun r3 =>
  .ret (((r2.1.1, r2.1.2.1, r2.1.2.2.1, r2.1.2.2.2.1, r2.1.2.2.2.2.1, [((2 : Int), (0 : Int), (0 : Int), (0 : Int)), ((4 : Int), (1 : Int), (1 : Int), (0 : Int))], r2.1.2.2.2.2.2.2), r3.1), ())
noncomputable def F32 (x : List Int) : DT ((THouse × Int) × Unit) := (B32 x).toDT
noncomputable def con32 : Con := ⟨[.one (.val (.sl (.int .u8)))], [], [.agg [.val (yTHouse)], .one (.val (.int .i64))], F32⟩
noncomputable def C32 : Ctx := ⟨tiOf tab, fun t => eqL.contains t, fun g _ => conOf [(100, con100), (140, con140), (141, con141)] g, fun i => match i with | _ => none⟩
theorem cons32 : Cons prog C32 := cons_of _ (allC ⟨ok100, ok140, ok141, trivial⟩)
theorem ok32 : con32.Sound prog 32 :=
  fn_con (C := C32) (fn := Tryz.f32) (code := (bodyOf Tryz.f32)) (n := 17) ctx cons32 mixed (by kernel_rfl) (by kernel_rfl) (by kernel_rfl) con32 (rg := [.cell 2 32, .tmp 3]) (by kernel_rfl) (by kernel_rfl) (loops_all 0 (by kernel_rfl) trivial) (by kernel_rfl) B32 (fun x => by kernel_rfl) (fun _ => rfl)



/-! 33 spec.DrawEqualHouses -/
noncomputable def B33 (x : List Int) : DTB ((THouse × THouse) × Unit) :=
  .bnd (F100 x) fun r1 =>
  .bnd (F140 r1.1) fun r2 =>
  .bnd (F142 r2.1) fun r3 =>
  .bnd (F141 (r2.2, (6 : Int))) fun r4 =>
  .ite (r4.1 == (0 : Int)) (
    .bnd (F140 r4.2) fun r5 =>
    .ret ((r2.1, r5.1), ())) <|
  .ite (r4.1 == (1 : Int)) (
    .ret ((r2.1, r3.1.1, r3.1.2.1, r3.1.2.2.1, r3.1.2.2.2.1, r3.1.2.2.2.2.1, r3.1.2.2.2.2.2.1, r3.1.2.2.2.2.2.2.1, r3.1.2.2.2.2.2.2.2.1, IntKind.i64.wrap (r3.1.2.2.2.2.2.2.2.2 + (1 : Int))), ())) <|
  .ite (r4.1 == (2 : Int)) (
    .guard (decide ((r3.1.2.2.2.2.2.2.2.1.length + [((0 : Int), (1 : Int), (1 : Int), (0 : Int))].length) * 32 ≤ 140737488355328)) <|
    let l1 : List I4 := r3.1.2.2.2.2.2.2.2.1 ++ [((0 : Int), (1 : Int), (1 : Int), (0 : Int))]
    .ret ((r2.1, r3.1.1, r3.1.2.1, r3.1.2.2.1, r3.1.2.2.2.1, r3.1.2.2.2.2.1, r3.1.2.2.2.2.2.1, r3.1.2.2.2.2.2.2.1, l1, r3.1.2.2.2.2.2.2.2.2), ())) <|
  .ite (r4.1 == (3 : Int)) (
    .guard (decide ((r3.1.2.2.2.2.2.1.length + [((1 : Int), (0 : Int), (0 : Int), (0 : Int))].length) * 32 ≤ 140737488355328)) <|
    let l2 : List I4 := r3.1.2.2.2.2.2.1 ++ [((1 : Int), (0 : Int), (0 : Int), (0 : Int))]
    .ret ((r2.1, r3.1.1, r3.1.2.1, r3.1.2.2.1, r3.1.2.2.2.1, r3.1.2.2.2.2.1, l2, r3.1.2.2.2.2.2.2), ())) <|
  .ret ((r2.1, r3.1), ())
noncomputable def F33 (x : List Int) : DT ((THouse × THouse) × Unit) := (B33 x).toDT
noncomputable def con33 : Con := ⟨[.one (.val (.sl (.int .u8)))], [], [.agg [.val (yTHouse)], .agg [.val (yTHouse)]], F33⟩
noncomputable def C33 : Ctx := ⟨tiOf tab, fun t => eqL.contains t, fun g _ => conOf [(100, con100), (140, con140), (141, con141), (142, con142)] g, fun i => match i with | _ => none⟩
theorem cons33 : Cons prog C33 := cons_of _ (allC ⟨ok100, ok140, ok141, ok142, trivial⟩)
theorem ok33 : con33.Sound prog 33 :=
  fn_con (C := C33) (fn := Tryz.f33) (code := (bodyOf Tryz.f33)) (n := 43) ctx cons33 mixed (by kernel_rfl) (by kernel_rfl) (by kernel_rfl) con33 (rg := [.cell 2 32, .cell 3 32]) (by kernel_rfl) (by kernel_rfl) (loops_all 0 (by kernel_rfl) trivial) (by kernel_rfl) B33 (fun x => by kernel_rfl) (fun _ => rfl)



/-! 143 slices.Equal[[]impl.Find,impl.Find] -/
noncomputable def L_143_0G (x : (List TFind) × (List TFind) × Int × Int) : DTB (Rd ((List TFind) × (List TFind) × Int × Int) Bool) :=
  .ite (decide (x.2.2.2 < x.2.2.1)) (
    .guard (decide (0 ≤ x.2.2.2 ∧ x.2.2.2 < (x.1.length : Int))) <|
    let e1 : TFind := x.1.getD x.2.2.2.toNat d1
    .guard (decide (0 ≤ x.2.2.2 ∧ x.2.2.2 < (x.2.1.length : Int))) <|
    let e2 : TFind := x.2.1.getD x.2.2.2.toNat d1
    let v1 : Bool := !((e1.1.1 == e2.1.1) && ((e1.1.2.1 == e2.1.2.1) && ((e1.1.2.2.1 == e2.1.2.2.1) && ((e1.1.2.2.2.1 == e2.1.2.2.2.1) && ((e1.1.2.2.2.2 == e2.1.2.2.2.2) && ((e1.2.1 == e2.2.1) && ((e1.2.2.1 == e2.2.2.1) && (e1.2.2.2 == e2.2.2.2))))))))
    .ite (v1) (
      .ret (.ret false)) <|
    .ret (.on (x.1, x.2.1, x.2.2.1, IntKind.i64.wrap (x.2.2.2 + (1 : Int))))) <|
  .ret (.out x)
noncomputable def L_143_0 (x : (List TFind) × (List TFind) × Int × Int) : DT (((List TFind) × (List TFind) × Int × Int) ⊕ Bool) := whileT (fun x => (L_143_0G x).toDT) x
noncomputable def L_143_0C : LC := ⟨[(0, .one (.val (.sl (yTFind)))), (1, .one (.val (.sl (yTFind)))), (12, .one (.val (.int .i64))), (13, .one (.val (.int .i64)))], [(4, .one (.val (.bool)))], L_143_0⟩
noncomputable def B143 (x : (List TFind) × List TFind) : DTB (Bool × Unit) :=
  .ite ((x.1.length : Int) != (x.2.length : Int)) (
    .ret (false, ())) <|
  .bnd (L_143_0 (x.1, x.2, (x.1.length : Int), (0 : Int))) fun
  | .inl y1 =>
    .ret (true, ())
  | .inr y1 =>
    .ret (y1, ())
noncomputable def F143 (x : (List TFind) × List TFind) : DT (Bool × Unit) := (B143 x).toDT
noncomputable def con143 : Con := ⟨[.one (.val (.sl (yTFind))), .one (.val (.sl (yTFind)))], [], [.one (.val (.bool))], F143⟩
noncomputable def C143 : Ctx := ⟨tiOf tab, fun t => eqL.contains t, fun g _ => conOf [] g, fun i => match i with | 0 => some L_143_0C | _ => none⟩
theorem cons143 : Cons prog C143 := cons_of _ (fun _ h => by cases h)
theorem L_143_0ok : LoopOk prog C143 [] 26 (nthLoop (bodyOf Tryz.f143) 0).1 (nthLoop (bodyOf Tryz.f143) 0).2 :=
  loop_while (l := L_143_0C) ctx cons143 mixed (by kernel_rfl) (loops_all 0 (by kernel_rfl) trivial) (by kernel_rfl) L_143_0G (fun x => by kernel_rfl) (fun _ => rfl)
theorem ok143 : con143.Sound prog 143 :=
  fn_con (C := C143) (fn := Tryz.f143) (code := (bodyOf Tryz.f143)) (n := 26) ctx cons143 mixed (by kernel_rfl) (by kernel_rfl) (by kernel_rfl) con143 (rg := [.tmp 4]) (by kernel_rfl) (by kernel_rfl) (loops_all 1 (by kernel_rfl) ⟨trivial, L_143_0ok⟩) (by kernel_rfl) B143 (fun x => by kernel_rfl) (fun _ => rfl)



/-! 290 slices.Equal[[]impl.Mark,impl.Mark] -/
noncomputable def L_290_0G (x : (List I2) × (List I2) × Int × Int) : DTB (Rd ((List I2) × (List I2) × Int × Int) Bool) :=
  .ite (decide (x.2.2.2 < x.2.2.1)) (
    .guard (decide (0 ≤ x.2.2.2 ∧ x.2.2.2 < (x.1.length : Int))) <|
    let e1 : I2 := x.1.getD x.2.2.2.toNat d2
    .guard (decide (0 ≤ x.2.2.2 ∧ x.2.2.2 < (x.2.1.length : Int))) <|
    let e2 : I2 := x.2.1.getD x.2.2.2.toNat d2
    .ite (!((e1.1 == e2.1) && (e1.2 == e2.2))) (
      .ret (.ret false)) <|
    .ret (.on (x.1, x.2.1, x.2.2.1, IntKind.i64.wrap (x.2.2.2 + (1 : Int))))) <|
  .ret (.out x)
noncomputable def L_290_0 (x : (List I2) × (List I2) × Int × Int) : DT (((List I2) × (List I2) × Int × Int) ⊕ Bool) := whileT (fun x => (L_290_0G x).toDT) x
noncomputable def L_290_0C : LC := ⟨[(0, .one (.val (.sl (yI2)))), (1, .one (.val (.sl (yI2)))), (12, .one (.val (.int .i64))), (13, .one (.val (.int .i64)))], [(4, .one (.val (.bool)))], L_290_0⟩
noncomputable def B290 (x : (List I2) × List I2) : DTB (Bool × Unit) :=
  .ite ((x.1.length : Int) != (x.2.length : Int)) (
    .ret (false, ())) <|
  .bnd (L_290_0 (x.1, x.2, (x.1.length : Int), (0 : Int))) fun
  | .inl y1 =>
    .ret (true, ())
  | .inr y1 =>
    .ret (y1, ())
noncomputable def F290 (x : (List I2) × List I2) : DT (Bool × Unit) := (B290 x).toDT
noncomputable def con290 : Con := ⟨[.one (.val (.sl (yI2))), .one (.val (.sl (yI2)))], [], [.one (.val (.bool))], F290⟩
noncomputable def C290 : Ctx := ⟨tiOf tab, fun t => eqL.contains t, fun g _ => conOf [] g, fun i => match i with | 0 => some L_290_0C | _ => none⟩
theorem cons290 : Cons prog C290 := cons_of _ (fun _ h => by cases h)
theorem L_290_0ok : LoopOk prog C290 [] 26 (nthLoop (bodyOf Tryz.f290) 0).1 (nthLoop (bodyOf Tryz.f290) 0).2 :=
  loop_while (l := L_290_0C) ctx cons290 mixed (by kernel_rfl) (loops_all 0 (by kernel_rfl) trivial) (by kernel_rfl) L_290_0G (fun x => by kernel_rfl) (fun _ => rfl)
theorem ok290 : con290.Sound prog 290 :=
  fn_con (C := C290) (fn := Tryz.f290) (code := (bodyOf Tryz.f290)) (n := 26) ctx cons290 mixed (by kernel_rfl) (by kernel_rfl) (by kernel_rfl) con290 (rg := [.tmp 4]) (by kernel_rfl) (by kernel_rfl) (loops_all 1 (by kernel_rfl) ⟨trivial, L_290_0ok⟩) (by kernel_rfl) B290 (fun x => by kernel_rfl) (fun _ => rfl)



/-! 289 impl.EqualSecrets$1 -/
noncomputable def B289 (x : TSecret × TSecret) : DTB (Bool × Unit) :=
  .ite (x.1.1 == x.2.1) (
    .ite (x.1.2.2 == x.2.2.2) (
      .bnd (F290 (x.1.2.1, x.2.2.1)) fun r1 =>
      .ret (r1.1, ())) <|
    .ret (false, ())) <|
  .ret (false, ())
noncomputable def F289 (x : TSecret × TSecret) : DT (Bool × Unit) := (B289 x).toDT
noncomputable def con289 : Con := ⟨[.agg [.val (yTSecret)], .agg [.val (yTSecret)]], [], [.one (.val (.bool))], F289⟩
noncomputable def C289 : Ctx := ⟨tiOf tab, fun t => eqL.contains t, fun g _ => conOf [(290, con290)] g, fun i => match i with | _ => none⟩
theorem cons289 : Cons prog C289 := cons_of _ (allC ⟨ok290, trivial⟩)
theorem ok289 : con289.Sound prog 289 :=
  fn_con (C := C289) (fn := Tryz.f289) (code := (bodyOf Tryz.f289)) (n := 24) ctx cons289 mixed (by kernel_rfl) (by kernel_rfl) (by kernel_rfl) con289 (rg := [.tmp 4]) (by kernel_rfl) (by kernel_rfl) (loops_all 0 (by kernel_rfl) trivial) (by kernel_rfl) B289 (fun x => by kernel_rfl) (fun _ => rfl)



/-! 288_289 slices.EqualFunc[[]impl.Secret,[]impl.Secret,impl.Secret,impl.Secret] -/
noncomputable def L_288_289_0G (x : (List TSecret) × Unit × (List TSecret) × Int × Int) : DTB (Rd ((List TSecret) × Unit × (List TSecret) × Int × Int) Bool) :=
  .ite (decide (x.2.2.2.2 < x.2.2.2.1)) (
    .guard (decide (0 ≤ x.2.2.2.2 ∧ x.2.2.2.2 < (x.2.2.1.length : Int))) <|
    let e1 : TSecret := x.2.2.1.getD x.2.2.2.2.toNat d0
    .guard (decide (0 ≤ x.2.2.2.2 ∧ x.2.2.2.2 < (x.1.length : Int))) <|
    let e2 : TSecret := x.1.getD x.2.2.2.2.toNat d0
    .bnd (F289 (e1, e2)) fun r1 =>
    .ite (!r1.1) (
      .ret (.ret false)) <|
    .ret (.on (x.1, (), x.2.2.1, x.2.2.2.1, IntKind.i64.wrap (x.2.2.2.2 + (1 : Int))))) <|
  .ret (.out (x.1, (), x.2.2))
noncomputable def L_288_289_0 (x : (List TSecret) × Unit × (List TSecret) × Int × Int) : DT (((List TSecret) × Unit × (List TSecret) × Int × Int) ⊕ Bool) := whileT (fun x => (L_288_289_0G x).toDT) x
noncomputable def L_288_289_0C : LC := ⟨[(1, .one (.val (.sl (yTSecret)))), (2, .fn 289 []), (15, .one (.val (.sl (yTSecret)))), (16, .one (.val (.int .i64))), (17, .one (.val (.int .i64)))], [(6, .one (.val (.bool)))], L_288_289_0⟩
noncomputable def B288_289 (x : (List TSecret) × (List TSecret) × Unit) : DTB (Bool × Unit) :=
  .ite ((x.1.length : Int) != (x.2.1.length : Int)) (
    .ret (false, ())) <|
  .bnd (L_288_289_0 (x.2.1, (), x.1, (x.1.length : Int), (0 : Int))) fun
  | .inl y1 =>
    .ret (true, ())
  | .inr y1 =>
    .ret (y1, ())
noncomputable def F288_289 (x : (List TSecret) × (List TSecret) × Unit) : DT (Bool × Unit) := (B288_289 x).toDT
noncomputable def con288_289 : Con := ⟨[.one (.val (.sl (yTSecret))), .one (.val (.sl (yTSecret))), .fn 289 []], [], [.one (.val (.bool))], F288_289⟩
noncomputable def C288_289 : Ctx := ⟨tiOf tab, fun t => eqL.contains t, fun g _ => conOf [(289, con289)] g, fun i => match i with | 0 => some L_288_289_0C | _ => none⟩
theorem cons288_289 : Cons prog C288_289 := cons_of _ (allC ⟨ok289, trivial⟩)
theorem L_288_289_0ok : LoopOk prog C288_289 [] 32 (nthLoop (bodyOf Tryz.f288) 0).1 (nthLoop (bodyOf Tryz.f288) 0).2 :=
  loop_while (l := L_288_289_0C) ctx cons288_289 mixed (by kernel_rfl) (loops_all 0 (by kernel_rfl) trivial) (by kernel_rfl) L_288_289_0G (fun x => by kernel_rfl) (fun _ => rfl)
theorem ok288_289 : con288_289.Sound prog 288 :=
  fn_con (C := C288_289) (fn := Tryz.f288) (code := (bodyOf Tryz.f288)) (n := 32) ctx cons288_289 mixed (by kernel_rfl) (by kernel_rfl) (by kernel_rfl) con288_289 (rg := [.tmp 6]) (by kernel_rfl) (by kernel_rfl) (loops_all 1 (by kernel_rfl) ⟨trivial, L_288_289_0ok⟩) (by kernel_rfl) B288_289 (fun x => by kernel_rfl) (fun _ => rfl)



/-! 144 impl.EqualSecrets -/
noncomputable def B144 (x : (List TSecret) × List TSecret) : DTB (Bool × Unit) :=
  .bnd (F288_289 (x.1, x.2, ())) fun r1 =>
  .ret (r1.1, ())
noncomputable def F144 (x : (List TSecret) × List TSecret) : DT (Bool × Unit) := (B144 x).toDT
noncomputable def con144 : Con := ⟨[.one (.val (.sl (yTSecret))), .one (.val (.sl (yTSecret)))], [], [.one (.val (.bool))], F144⟩
noncomputable def C144 : Ctx := ⟨tiOf tab, fun t => eqL.contains t, fun g _ => conOf [(288, con288_289)] g, fun i => match i with | _ => none⟩
theorem cons144 : Cons prog C144 := cons_of _ (allC ⟨ok288_289, trivial⟩)
theorem ok144 : con144.Sound prog 144 :=
  fn_con (C := C144) (fn := Tryz.f144) (code := (bodyOf Tryz.f144)) (n := 8) ctx cons144 mixed (by kernel_rfl) (by kernel_rfl) (by kernel_rfl) con144 (rg := [.tmp 4]) (by kernel_rfl) (by kernel_rfl) (loops_all 0 (by kernel_rfl) trivial) (by kernel_rfl) B144 (fun x => by kernel_rfl) (fun _ => rfl)



/-! 145 slices.Equal[[]impl.Slot,impl.Slot] -/
noncomputable def L_145_0G (x : (List I3) × (List I3) × Int × Int) : DTB (Rd ((List I3) × (List I3) × Int × Int) Bool) :=
  .ite (decide (x.2.2.2 < x.2.2.1)) (
    .guard (decide (0 ≤ x.2.2.2 ∧ x.2.2.2 < (x.1.length : Int))) <|
    let e1 : I3 := x.1.getD x.2.2.2.toNat d3
    .guard (decide (0 ≤ x.2.2.2 ∧ x.2.2.2 < (x.2.1.length : Int))) <|
    let e2 : I3 := x.2.1.getD x.2.2.2.toNat d3
    let v1 : Bool := !((e1.1 == e2.1) && ((e1.2.1 == e2.2.1) && (e1.2.2 == e2.2.2)))
    .ite (v1) (
      .ret (.ret false)) <|
    .ret (.on (x.1, x.2.1, x.2.2.1, IntKind.i64.wrap (x.2.2.2 + (1 : Int))))) <|
  .ret (.out x)
noncomputable def L_145_0 (x : (List I3) × (List I3) × Int × Int) : DT (((List I3) × (List I3) × Int × Int) ⊕ Bool) := whileT (fun x => (L_145_0G x).toDT) x
noncomputable def L_145_0C : LC := ⟨[(0, .one (.val (.sl (yI3)))), (1, .one (.val (.sl (yI3)))), (12, .one (.val (.int .i64))), (13, .one (.val (.int .i64)))], [(4, .one (.val (.bool)))], L_145_0⟩
noncomputable def B145 (x : (List I3) × List I3) : DTB (Bool × Unit) :=
  .ite ((x.1.length : Int) != (x.2.length : Int)) (
    .ret (false, ())) <|
  .bnd (L_145_0 (x.1, x.2, (x.1.length : Int), (0 : Int))) fun
  | .inl y1 =>
    .ret (true, ())
  | .inr y1 =>
    .ret (y1, ())
noncomputable def F145 (x : (List I3) × List I3) : DT (Bool × Unit) := (B145 x).toDT
noncomputable def con145 : Con := ⟨[.one (.val (.sl (yI3))), .one (.val (.sl (yI3)))], [], [.one (.val (.bool))], F145⟩
noncomputable def C145 : Ctx := ⟨tiOf tab, fun t => eqL.contains t, fun g _ => conOf [] g, fun i => match i with | 0 => some L_145_0C | _ => none⟩
theorem cons145 : Cons prog C145 := cons_of _ (fun _ h => by cases h)
theorem L_145_0ok : LoopOk prog C145 [] 26 (nthLoop (bodyOf Tryz.f145) 0).1 (nthLoop (bodyOf Tryz.f145) 0).2 :=
  loop_while (l := L_145_0C) ctx cons145 mixed (by kernel_rfl) (loops_all 0 (by kernel_rfl) trivial) (by kernel_rfl) L_145_0G (fun x => by kernel_rfl) (fun _ => rfl)
theorem ok145 : con145.Sound prog 145 :=
  fn_con (C := C145) (fn := Tryz.f145) (code := (bodyOf Tryz.f145)) (n := 26) ctx cons145 mixed (by kernel_rfl) (by kernel_rfl) (by kernel_rfl) con145 (rg := [.tmp 4]) (by kernel_rfl) (by kernel_rfl) (loops_all 1 (by kernel_rfl) ⟨trivial, L_145_0ok⟩) (by kernel_rfl) B145 (fun x => by kernel_rfl) (fun _ => rfl)



/-! 146 slices.Equal[[]impl.Claim,impl.Claim] -/
noncomputable def L_146_0G (x : (List I5) × (List I5) × Int × Int) : DTB (Rd ((List I5) × (List I5) × Int × Int) Bool) :=
  .ite (decide (x.2.2.2 < x.2.2.1)) (
    .guard (decide (0 ≤ x.2.2.2 ∧ x.2.2.2 < (x.1.length : Int))) <|
    let e1 : I5 := x.1.getD x.2.2.2.toNat d4
    .guard (decide (0 ≤ x.2.2.2 ∧ x.2.2.2 < (x.2.1.length : Int))) <|
    let e2 : I5 := x.2.1.getD x.2.2.2.toNat d4
    let v1 : Bool := !((e1.1 == e2.1) && ((e1.2.1 == e2.2.1) && ((e1.2.2.1 == e2.2.2.1) && ((e1.2.2.2.1 == e2.2.2.2.1) && (e1.2.2.2.2 == e2.2.2.2.2)))))
    .ite (v1) (
      .ret (.ret false)) <|
    .ret (.on (x.1, x.2.1, x.2.2.1, IntKind.i64.wrap (x.2.2.2 + (1 : Int))))) <|
  .ret (.out x)
noncomputable def L_146_0 (x : (List I5) × (List I5) × Int × Int) : DT (((List I5) × (List I5) × Int × Int) ⊕ Bool) := whileT (fun x => (L_146_0G x).toDT) x
noncomputable def L_146_0C : LC := ⟨[(0, .one (.val (.sl (yI5)))), (1, .one (.val (.sl (yI5)))), (12, .one (.val (.int .i64))), (13, .one (.val (.int .i64)))], [(4, .one (.val (.bool)))], L_146_0⟩
noncomputable def B146 (x : (List I5) × List I5) : DTB (Bool × Unit) :=
  .ite ((x.1.length : Int) != (x.2.length : Int)) (
    .ret (false, ())) <|
  .bnd (L_146_0 (x.1, x.2, (x.1.length : Int), (0 : Int))) fun
  | .inl y1 =>
    .ret (true, ())
  | .inr y1 =>
    .ret (y1, ())
noncomputable def F146 (x : (List I5) × List I5) : DT (Bool × Unit) := (B146 x).toDT
noncomputable def con146 : Con := ⟨[.one (.val (.sl (yI5))), .one (.val (.sl (yI5)))], [], [.one (.val (.bool))], F146⟩
noncomputable def C146 : Ctx := ⟨tiOf tab, fun t => eqL.contains t, fun g _ => conOf [] g, fun i => match i with | 0 => some L_146_0C | _ => none⟩
theorem cons146 : Cons prog C146 := cons_of _ (fun _ h => by cases h)
theorem L_146_0ok : LoopOk prog C146 [] 26 (nthLoop (bodyOf Tryz.f146) 0).1 (nthLoop (bodyOf Tryz.f146) 0).2 :=
  loop_while (l := L_146_0C) ctx cons146 mixed (by kernel_rfl) (loops_all 0 (by kernel_rfl) trivial) (by kernel_rfl) L_146_0G (fun x => by kernel_rfl) (fun _ => rfl)
theorem ok146 : con146.Sound prog 146 :=
  fn_con (C := C146) (fn := Tryz.f146) (code := (bodyOf Tryz.f146)) (n := 26) ctx cons146 mixed (by kernel_rfl) (by kernel_rfl) (by kernel_rfl) con146 (rg := [.tmp 4]) (by kernel_rfl) (by kernel_rfl) (loops_all 1 (by kernel_rfl) ⟨trivial, L_146_0ok⟩) (by kernel_rfl) B146 (fun x => by kernel_rfl) (fun _ => rfl)

/-! 147 slices.Equal[[]impl.Trial,impl.Trial] -/
noncomputable def L_147_0G (x : (List I4) × (List I4) × Int × Int) : DTB (Rd ((List I4) × (List I4) × Int × Int) Bool) :=
  .ite (decide (x.2.2.2 < x.2.2.1)) (
    .guard (decide (0 ≤ x.2.2.2 ∧ x.2.2.2 < (x.1.length : Int))) <|
    let e1 : I4 := x.1.getD x.2.2.2.toNat d5
    .guard (decide (0 ≤ x.2.2.2 ∧ x.2.2.2 < (x.2.1.length : Int))) <|
    let e2 : I4 := x.2.1.getD x.2.2.2.toNat d5
    let v1 : Bool := !((e1.1 == e2.1) && ((e1.2.1 == e2.2.1) && ((e1.2.2.1 == e2.2.2.1) && (e1.2.2.2 == e2.2.2.2))))
    .ite (v1) (
      .ret (.ret false)) <|
    .ret (.on (x.1, x.2.1, x.2.2.1, IntKind.i64.wrap (x.2.2.2 + (1 : Int))))) <|
  .ret (.out x)
noncomputable def L_147_0 (x : (List I4) × (List I4) × Int × Int) : DT (((List I4) × (List I4) × Int × Int) ⊕ Bool) := whileT (fun x => (L_147_0G x).toDT) x
noncomputable def L_147_0C : LC := ⟨[(0, .one (.val (.sl (yI4)))), (1, .one (.val (.sl (yI4)))), (12, .one (.val (.int .i64))), (13, .one (.val (.int .i64)))], [(4, .one (.val (.bool)))], L_147_0⟩
noncomputable def B147 (x : (List I4) × List I4) : DTB (Bool × Unit) :=
  .ite ((x.1.length : Int) != (x.2.length : Int)) (
    .ret (false, ())) <|
  .bnd (L_147_0 (x.1, x.2, (x.1.length : Int), (0 : Int))) fun
  | .inl y1 =>
    .ret (true, ())
  | .inr y1 =>
    .ret (y1, ())
noncomputable def F147 (x : (List I4) × List I4) : DT (Bool × Unit) := (B147 x).toDT
noncomputable def con147 : Con := ⟨[.one (.val (.sl (yI4))), .one (.val (.sl (yI4)))], [], [.one (.val (.bool))], F147⟩
noncomputable def C147 : Ctx := ⟨tiOf tab, fun t => eqL.contains t, fun g _ => conOf [] g, fun i => match i with | 0 => some L_147_0C | _ => none⟩
theorem cons147 : Cons prog C147 := cons_of _ (fun _ h => by cases h)
theorem L_147_0ok : LoopOk prog C147 [] 26 (nthLoop (bodyOf Tryz.f147) 0).1 (nthLoop (bodyOf Tryz.f147) 0).2 :=
  loop_while (l := L_147_0C) ctx cons147 mixed (by kernel_rfl) (loops_all 0 (by kernel_rfl) trivial) (by kernel_rfl) L_147_0G (fun x => by kernel_rfl) (fun _ => rfl)
theorem ok147 : con147.Sound prog 147 :=
  fn_con (C := C147) (fn := Tryz.f147) (code := (bodyOf Tryz.f147)) (n := 26) ctx cons147 mixed (by kernel_rfl) (by kernel_rfl) (by kernel_rfl) con147 (rg := [.tmp 4]) (by kernel_rfl) (by kernel_rfl) (loops_all 1 (by kernel_rfl) ⟨trivial, L_147_0ok⟩) (by kernel_rfl) B147 (fun x => by kernel_rfl) (fun _ => rfl)



/-! 148 slices.Equal[[]impl.Hand,impl.Hand] -/
noncomputable def L_148_0G (x : (List I5) × (List I5) × Int × Int) : DTB (Rd ((List I5) × (List I5) × Int × Int) Bool) :=
  .ite (decide (x.2.2.2 < x.2.2.1)) (
    .guard (decide (0 ≤ x.2.2.2 ∧ x.2.2.2 < (x.1.length : Int))) <|
    let e1 : I5 := x.1.getD x.2.2.2.toNat d4
    .guard (decide (0 ≤ x.2.2.2 ∧ x.2.2.2 < (x.2.1.length : Int))) <|
    let e2 : I5 := x.2.1.getD x.2.2.2.toNat d4
    let v1 : Bool := !((e1.1 == e2.1) && ((e1.2.1 == e2.2.1) && ((e1.2.2.1 == e2.2.2.1) && ((e1.2.2.2.1 == e2.2.2.2.1) && (e1.2.2.2.2 == e2.2.2.2.2)))))
    .ite (v1) (
      .ret (.ret false)) <|
    .ret (.on (x.1, x.2.1, x.2.2.1, IntKind.i64.wrap (x.2.2.2 + (1 : Int))))) <|
  .ret (.out x)
noncomputable def L_148_0 (x : (List I5) × (List I5) × Int × Int) : DT (((List I5) × (List I5) × Int × Int) ⊕ Bool) := whileT (fun x => (L_148_0G x).toDT) x
noncomputable def L_148_0C : LC := ⟨[(0, .one (.val (.sl (yI5)))), (1, .one (.val (.sl (yI5)))), (12, .one (.val (.int .i64))), (13, .one (.val (.int .i64)))], [(4, .one (.val (.bool)))], L_148_0⟩
noncomputable def B148 (x : (List I5) × List I5) : DTB (Bool × Unit) :=
  .ite ((x.1.length : Int) != (x.2.length : Int)) (
    .ret (false, ())) <|
  .bnd (L_148_0 (x.1, x.2, (x.1.length : Int), (0 : Int))) fun
  | .inl y1 =>
    .ret (true, ())
  | .inr y1 =>
    .ret (y1, ())
noncomputable def F148 (x : (List I5) × List I5) : DT (Bool × Unit) := (B148 x).toDT
noncomputable def con148 : Con := ⟨[.one (.val (.sl (yI5))), .one (.val (.sl (yI5)))], [], [.one (.val (.bool))], F148⟩
noncomputable def C148 : Ctx := ⟨tiOf tab, fun t => eqL.contains t, fun g _ => conOf [] g, fun i => match i with | 0 => some L_148_0C | _ => none⟩
theorem cons148 : Cons prog C148 := cons_of _ (fun _ h => by cases h)
theorem L_148_0ok : LoopOk prog C148 [] 26 (nthLoop (bodyOf Tryz.f148) 0).1 (nthLoop (bodyOf Tryz.f148) 0).2 :=
  loop_while (l := L_148_0C) ctx cons148 mixed (by kernel_rfl) (loops_all 0 (by kernel_rfl) trivial) (by kernel_rfl) L_148_0G (fun x => by kernel_rfl) (fun _ => rfl)
theorem ok148 : con148.Sound prog 148 :=
  fn_con (C := C148) (fn := Tryz.f148) (code := (bodyOf Tryz.f148)) (n := 26) ctx cons148 mixed (by kernel_rfl) (by kernel_rfl) (by kernel_rfl) con148 (rg := [.tmp 4]) (by kernel_rfl) (by kernel_rfl) (loops_all 1 (by kernel_rfl) ⟨trivial, L_148_0ok⟩) (by kernel_rfl) B148 (fun x => by kernel_rfl) (fun _ => rfl)



/-! 149 slices.Equal[[]impl.Entry,impl.Entry] -/
noncomputable def L_149_0G (x : (List I4) × (List I4) × Int × Int) : DTB (Rd ((List I4) × (List I4) × Int × Int) Bool) :=
  .ite (decide (x.2.2.2 < x.2.2.1)) (
    .guard (decide (0 ≤ x.2.2.2 ∧ x.2.2.2 < (x.1.length : Int))) <|
    let e1 : I4 := x.1.getD x.2.2.2.toNat d5
    .guard (decide (0 ≤ x.2.2.2 ∧ x.2.2.2 < (x.2.1.length : Int))) <|
    let e2 : I4 := x.2.1.getD x.2.2.2.toNat d5
    let v1 : Bool := !((e1.1 == e2.1) && ((e1.2.1 == e2.2.1) && ((e1.2.2.1 == e2.2.2.1) && (e1.2.2.2 == e2.2.2.2))))
    .ite (v1) (
      .ret (.ret false)) <|
    .ret (.on (x.1, x.2.1, x.2.2.1, IntKind.i64.wrap (x.2.2.2 + (1 : Int))))) <|
  .ret (.out x)
noncomputable def L_149_0 (x : (List I4) × (List I4) × Int × Int) : DT (((List I4) × (List I4) × Int × Int) ⊕ Bool) := whileT (fun x => (L_149_0G x).toDT) x
noncomputable def L_149_0C : LC := ⟨[(0, .one (.val (.sl (yI4)))), (1, .one (.val (.sl (yI4)))), (12, .one (.val (.int .i64))), (13, .one (.val (.int .i64)))], [(4, .one (.val (.bool)))], L_149_0⟩
noncomputable def B149 (x : (List I4) × List I4) : DTB (Bool × Unit) :=
  .ite ((x.1.length : Int) != (x.2.length : Int)) (
    .ret (false, ())) <|
  .bnd (L_149_0 (x.1, x.2, (x.1.length : Int), (0 : Int))) fun
  | .inl y1 =>
    .ret (true, ())
  | .inr y1 =>
    .ret (y1, ())
noncomputable def F149 (x : (List I4) × List I4) : DT (Bool × Unit) := (B149 x).toDT
noncomputable def con149 : Con := ⟨[.one (.val (.sl (yI4))), .one (.val (.sl (yI4)))], [], [.one (.val (.bool))], F149⟩
noncomputable def C149 : Ctx := ⟨tiOf tab, fun t => eqL.contains t, fun g _ => conOf [] g, fun i => match i with | 0 => some L_149_0C | _ => none⟩
theorem cons149 : Cons prog C149 := cons_of _ (fun _ h => by cases h)
theorem L_149_0ok : LoopOk prog C149 [] 26 (nthLoop (bodyOf Tryz.f149) 0).1 (nthLoop (bodyOf Tryz.f149) 0).2 :=
  loop_while (l := L_149_0C) ctx cons149 mixed (by kernel_rfl) (loops_all 0 (by kernel_rfl) trivial) (by kernel_rfl) L_149_0G (fun x => by kernel_rfl) (fun _ => rfl)
theorem ok149 : con149.Sound prog 149 :=
  fn_con (C := C149) (fn := Tryz.f149) (code := (bodyOf Tryz.f149)) (n := 26) ctx cons149 mixed (by kernel_rfl) (by kernel_rfl) (by kernel_rfl) con149 (rg := [.tmp 4]) (by kernel_rfl) (by kernel_rfl) (loops_all 1 (by kernel_rfl) ⟨trivial, L_149_0ok⟩) (by kernel_rfl) B149 (fun x => by kernel_rfl) (fun _ => rfl)



/-! 34 impl.EqualHouses -/
noncomputable def B34 (x : THouse × THouse) : DTB (Bool × Unit) :=
  .ite (x.1.1 == x.2.1) (
    .ite (x.1.2.2.2.2.2.2.2.2 == x.2.2.2.2.2.2.2.2.2) (
      .bnd (F143 (x.1.2.1, x.2.2.1)) fun r1 =>
      .ite (r1.1) (
        .bnd (F144 (x.1.2.2.1, x.2.2.2.1)) fun r2 =>
        .ite (r2.1) (
          .bnd (F145 (x.1.2.2.2.1, x.2.2.2.2.1)) fun r3 =>
          .ite (r3.1) (
            .bnd (F146 (x.1.2.2.2.2.1, x.2.2.2.2.2.1)) fun r4 =>
            .ite (r4.1) (
              .bnd (F147 (x.1.2.2.2.2.2.1, x.2.2.2.2.2.2.1)) fun r5 =>
              .ite (r5.1) (
                .bnd (F148 (x.1.2.2.2.2.2.2.1, x.2.2.2.2.2.2.2.1)) fun r6 =>
                .ite (r6.1) (
                  .bnd (F149 (x.1.2.2.2.2.2.2.2.1, x.2.2.2.2.2.2.2.2.1)) fun r7 =>
                  .ret (r7.1, ())) <|
                .ret (false, ())) <|
              .ret (false, ())) <|
            .ret (false, ())) <|
          .ret (false, ())) <|
        .ret (false, ())) <|
      .ret (false, ())) <|
    .ret (false, ())) <|
  .ret (false, ())
noncomputable def F34 (x : THouse × THouse) : DT (Bool × Unit) := (B34 x).toDT
noncomputable def con34 : Con := ⟨[.agg [.val (yTHouse)], .agg [.val (yTHouse)]], [], [.one (.val (.bool))], F34⟩
noncomputable def C34 : Ctx := ⟨tiOf tab, fun t => eqL.contains t, fun g _ => conOf [(143, con143), (144, con144), (145, con145), (146, con146), (147, con147), (148, con148), (149, con149)] g, fun i => match i with | _ => none⟩
theorem cons34 : Cons prog C34 := cons_of _ (allC ⟨ok143, ok144, ok145, ok146, ok147, ok148, ok149, trivial⟩)
theorem ok34 : con34.Sound prog 34 :=
  fn_con (C := C34) (fn := Tryz.f34) (code := (bodyOf Tryz.f34)) (n := 66) ctx cons34 mixed (by kernel_rfl) (by kernel_rfl) (by kernel_rfl) con34 (rg := [.tmp 4]) (by kernel_rfl) (by kernel_rfl) (loops_all 0 (by kernel_rfl) trivial) (by kernel_rfl) B34 (fun x => by kernel_rfl) (fun _ => rfl)



/-! 4 laws.FnHouses -/
noncomputable def B4 (x : List Int) : DTB (Bool × Unit) :=
  .bnd (F12 x) fun r1 =>
  .ite (r1.1) (
    .ret (true, ())) <|
  .bnd (F27 x) fun r2 =>
  .bnd (F28 r2.1) fun r3 =>
  .ite (decide (r2.1.1 ≥ (1 : Int))) (
    .ite (decide (r2.1.1 ≤ (9 : Int))) (
      .bnd (F29 r2.1.2) fun r4 =>
      .ite (r4.1) (
        .bnd (F30 r2.1.2) fun r5 =>
        .ite (!(r3.1.2 == (r5.1 == (r2.1.2.length : Int)))) (
          .ret (false, ())) <|
        .ite (r3.1.2) (
          .bnd (F14 r3.1.1) fun r6 =>
          .ite (!r6.1) (
            .ret (false, ())) <|
          .bnd (F19 r3.1.1) fun r7 =>
          .ite ((r7.1.length : Int) != (0 : Int)) (
            .ret (false, ())) <|
          .bnd (F31 x) fun r8 =>
          .bnd (F19 r8.1) fun r9 =>
          .bnd (F14 r8.1) fun r10 =>
          .ite (r10.1) (
            .bnd (F20 (r8.1.2.2.2.2.2.2.1, r8.1.1)) fun r11 =>
            .bnd (F18 (r9.1, r11.1)) fun r12 =>
            .ite (!r12.1) (
              .ret (false, ())) <|
            .bnd (F30 r8.1.2.2.2.1) fun r13 =>
            let v1 : Bool := (r9.1.length : Int) != (IntKind.i64.wrap ((r8.1.2.2.2.1.length : Int) - r13.1))
            .ite (v1) (
              .ret (false, ())) <|
            .bnd (F32 x) fun r14 =>
            .bnd (F24 r14.1) fun r15 =>
            .bnd (F33 x) fun r16 =>
            .ite (!r15.1.2) (
              .bnd (F34 r16.1) fun r17 =>
              .bnd (F34 (r16.1.2, r16.1.1)) fun r18 =>
              .ite (r17.1 == r18.1) (
                .bnd (F34 (r16.1.1, r16.1.1)) fun r19 =>
                .ret (r19.1, ())) <|
              .ret (false, ())) <|
            .ite (r15.1.1.1 == r14.1.2) (
              .bnd (F34 r16.1) fun r20 =>
              .bnd (F34 (r16.1.2, r16.1.1)) fun r21 =>
              .ite (r20.1 == r21.1) (
                .bnd (F34 (r16.1.1, r16.1.1)) fun r22 =>
                .ret (r22.1, ())) <|
              .ret (false, ())) <|
            .ret (false, ())) <|
          .bnd (F32 x) fun r23 =>
          .bnd (F24 r23.1) fun r24 =>
          .bnd (F33 x) fun r25 =>
          .ite (!r24.1.2) (
            .bnd (F34 r25.1) fun r26 =>
            .bnd (F34 (r25.1.2, r25.1.1)) fun r27 =>
            .ite (r26.1 == r27.1) (
              .bnd (F34 (r25.1.1, r25.1.1)) fun r28 =>
              .ret (r28.1, ())) <|
            .ret (false, ())) <|
          .ite (r24.1.1.1 == r23.1.2) (
            .bnd (F34 r25.1) fun r29 =>
            .bnd (F34 (r25.1.2, r25.1.1)) fun r30 =>
            .ite (r29.1 == r30.1) (
              .bnd (F34 (r25.1.1, r25.1.1)) fun r31 =>
              .ret (r31.1, ())) <|
            .ret (false, ())) <|
          .ret (false, ())) <|
        .bnd (F31 x) fun r32 =>
        .bnd (F19 r32.1) fun r33 =>
        .bnd (F14 r32.1) fun r34 =>
        .ite (r34.1) (
          .bnd (F20 (r32.1.2.2.2.2.2.2.1, r32.1.1)) fun r35 =>
          .bnd (F18 (r33.1, r35.1)) fun r36 =>
          .ite (!r36.1) (
            .ret (false, ())) <|
          .bnd (F30 r32.1.2.2.2.1) fun r37 =>
          let v2 : Bool := (r33.1.length : Int) != (IntKind.i64.wrap ((r32.1.2.2.2.1.length : Int) - r37.1))
          .ite (v2) (
            .ret (false, ())) <|
          .bnd (F32 x) fun r38 =>
          .bnd (F24 r38.1) fun r39 =>
          .bnd (F33 x) fun r40 =>
          .ite (!r39.1.2) (
            .bnd (F34 r40.1) fun r41 =>
            .bnd (F34 (r40.1.2, r40.1.1)) fun r42 =>
            .ite (r41.1 == r42.1) (
              .bnd (F34 (r40.1.1, r40.1.1)) fun r43 =>
              .ret (r43.1, ())) <|
            .ret (false, ())) <|
          .ite (r39.1.1.1 == r38.1.2) (
            .bnd (F34 r40.1) fun r44 =>
            .bnd (F34 (r40.1.2, r40.1.1)) fun r45 =>
            .ite (r44.1 == r45.1) (
              .bnd (F34 (r40.1.1, r40.1.1)) fun r46 =>
              .ret (r46.1, ())) <|
            .ret (false, ())) <|
          .ret (false, ())) <|
        .bnd (F32 x) fun r47 =>
        .bnd (F24 r47.1) fun r48 =>
        .bnd (F33 x) fun r49 =>
        .ite (!r48.1.2) (
          .bnd (F34 r49.1) fun r50 =>
          .bnd (F34 (r49.1.2, r49.1.1)) fun r51 =>
          .ite (r50.1 == r51.1) (
            .bnd (F34 (r49.1.1, r49.1.1)) fun r52 =>
            .ret (r52.1, ())) <|
          .ret (false, ())) <|
        .ite (r48.1.1.1 == r47.1.2) (
          .bnd (F34 r49.1) fun r53 =>
          .bnd (F34 (r49.1.2, r49.1.1)) fun r54 =>
          .ite (r53.1 == r54.1) (
            .bnd (F34 (r49.1.1, r49.1.1)) fun r55 =>
            .ret (r55.1, ())) <|
          .ret (false, ())) <|
        .ret (false, ())) <|
      .ite (!(r3.1.2 == false)) (
        .ret (false, ())) <|
      .ite (r3.1.2) (
        .bnd (F14 r3.1.1) fun r56 =>
        .ite (!r56.1) (
          .ret (false, ())) <|
        .bnd (F19 r3.1.1) fun r57 =>
        .ite ((r57.1.length : Int) != (0 : Int)) (
          .ret (false, ())) <|
        .bnd (F31 x) fun r58 =>
        .bnd (F19 r58.1) fun r59 =>
        .bnd (F14 r58.1) fun r60 =>
        .ite (r60.1) (
          .bnd (F20 (r58.1.2.2.2.2.2.2.1, r58.1.1)) fun r61 =>
          .bnd (F18 (r59.1, r61.1)) fun r62 =>
          .ite (!r62.1) (
            .ret (false, ())) <|
          .bnd (F30 r58.1.2.2.2.1) fun r63 =>
          let v3 : Bool := (r59.1.length : Int) != (IntKind.i64.wrap ((r58.1.2.2.2.1.length : Int) - r63.1))
          .ite (v3) (
            .ret (false, ())) <|
          .bnd (F32 x) fun r64 =>
          .bnd (F24 r64.1) fun r65 =>
          .bnd (F33 x) fun r66 =>
          .ite (!r65.1.2) (
            .bnd (F34 r66.1) fun r67 =>
            .bnd (F34 (r66.1.2, r66.1.1)) fun r68 =>
            .ite (r67.1 == r68.1) (
              .bnd (F34 (r66.1.1, r66.1.1)) fun r69 =>
              .ret (r69.1, ())) <|
            .ret (false, ())) <|
          .ite (r65.1.1.1 == r64.1.2) (
            .bnd (F34 r66.1) fun r70 =>
            .bnd (F34 (r66.1.2, r66.1.1)) fun r71 =>
            .ite (r70.1 == r71.1) (
              .bnd (F34 (r66.1.1, r66.1.1)) fun r72 =>
              .ret (r72.1, ())) <|
            .ret (false, ())) <|
          .ret (false, ())) <|
        .bnd (F32 x) fun r73 =>
        .bnd (F24 r73.1) fun r74 =>
        .bnd (F33 x) fun r75 =>
        .ite (!r74.1.2) (
          .bnd (F34 r75.1) fun r76 =>
          .bnd (F34 (r75.1.2, r75.1.1)) fun r77 =>
          .ite (r76.1 == r77.1) (
            .bnd (F34 (r75.1.1, r75.1.1)) fun r78 =>
            .ret (r78.1, ())) <|
          .ret (false, ())) <|
        .ite (r74.1.1.1 == r73.1.2) (
          .bnd (F34 r75.1) fun r79 =>
          .bnd (F34 (r75.1.2, r75.1.1)) fun r80 =>
          .ite (r79.1 == r80.1) (
            .bnd (F34 (r75.1.1, r75.1.1)) fun r81 =>
            .ret (r81.1, ())) <|
          .ret (false, ())) <|
        .ret (false, ())) <|
      .bnd (F31 x) fun r82 =>
      .bnd (F19 r82.1) fun r83 =>
      .bnd (F14 r82.1) fun r84 =>
      .ite (r84.1) (
        .bnd (F20 (r82.1.2.2.2.2.2.2.1, r82.1.1)) fun r85 =>
        .bnd (F18 (r83.1, r85.1)) fun r86 =>
        .ite (!r86.1) (
          .ret (false, ())) <|
        .bnd (F30 r82.1.2.2.2.1) fun r87 =>
        let v4 : Bool := (r83.1.length : Int) != (IntKind.i64.wrap ((r82.1.2.2.2.1.length : Int) - r87.1))
        .ite (v4) (
          .ret (false, ())) <|
        .bnd (F32 x) fun r88 =>
        .bnd (F24 r88.1) fun r89 =>
        .bnd (F33 x) fun r90 =>
        .ite (!r89.1.2) (
          .bnd (F34 r90.1) fun r91 =>
          .bnd (F34 (r90.1.2, r90.1.1)) fun r92 =>
          .ite (r91.1 == r92.1) (
            .bnd (F34 (r90.1.1, r90.1.1)) fun r93 =>
            .ret (r93.1, ())) <|
          .ret (false, ())) <|
        .ite (r89.1.1.1 == r88.1.2) (
          .bnd (F34 r90.1) fun r94 =>
          .bnd (F34 (r90.1.2, r90.1.1)) fun r95 =>
          .ite (r94.1 == r95.1) (
            .bnd (F34 (r90.1.1, r90.1.1)) fun r96 =>
            .ret (r96.1, ())) <|
          .ret (false, ())) <|
        .ret (false, ())) <|
      .bnd (F32 x) fun r97 =>
      .bnd (F24 r97.1) fun r98 =>
      .bnd (F33 x) fun r99 =>
      .ite (!r98.1.2) (
        .bnd (F34 r99.1) fun r100 =>
        .bnd (F34 (r99.1.2, r99.1.1)) fun r101 =>
        .ite (r100.1 == r101.1) (
          .bnd (F34 (r99.1.1, r99.1.1)) fun r102 =>
          .ret (r102.1, ())) <|
        .ret (false, ())) <|
      .ite (r98.1.1.1 == r97.1.2) (
        .bnd (F34 r99.1) fun r103 =>
        .bnd (F34 (r99.1.2, r99.1.1)) fun r104 =>
        .ite (r103.1 == r104.1) (
          .bnd (F34 (r99.1.1, r99.1.1)) fun r105 =>
          .ret (r105.1, ())) <|
        .ret (false, ())) <|
      .ret (false, ())) <|
    .ite (!(r3.1.2 == false)) (
      .ret (false, ())) <|
    .ite (r3.1.2) (
      .bnd (F14 r3.1.1) fun r106 =>
      .ite (!r106.1) (
        .ret (false, ())) <|
      .bnd (F19 r3.1.1) fun r107 =>
      .ite ((r107.1.length : Int) != (0 : Int)) (
        .ret (false, ())) <|
      .bnd (F31 x) fun r108 =>
      .bnd (F19 r108.1) fun r109 =>
      .bnd (F14 r108.1) fun r110 =>
      .ite (r110.1) (
        .bnd (F20 (r108.1.2.2.2.2.2.2.1, r108.1.1)) fun r111 =>
        .bnd (F18 (r109.1, r111.1)) fun r112 =>
        .ite (!r112.1) (
          .ret (false, ())) <|
        .bnd (F30 r108.1.2.2.2.1) fun r113 =>
        let v5 : Bool := (r109.1.length : Int) != (IntKind.i64.wrap ((r108.1.2.2.2.1.length : Int) - r113.1))
        .ite (v5) (
          .ret (false, ())) <|
        .bnd (F32 x) fun r114 =>
        .bnd (F24 r114.1) fun r115 =>
        .bnd (F33 x) fun r116 =>
        .ite (!r115.1.2) (
          .bnd (F34 r116.1) fun r117 =>
          .bnd (F34 (r116.1.2, r116.1.1)) fun r118 =>
          .ite (r117.1 == r118.1) (
            .bnd (F34 (r116.1.1, r116.1.1)) fun r119 =>
            .ret (r119.1, ())) <|
          .ret (false, ())) <|
        .ite (r115.1.1.1 == r114.1.2) (
          .bnd (F34 r116.1) fun r120 =>
          .bnd (F34 (r116.1.2, r116.1.1)) fun r121 =>
          .ite (r120.1 == r121.1) (
            .bnd (F34 (r116.1.1, r116.1.1)) fun r122 =>
            .ret (r122.1, ())) <|
          .ret (false, ())) <|
        .ret (false, ())) <|
      .bnd (F32 x) fun r123 =>
      .bnd (F24 r123.1) fun r124 =>
      .bnd (F33 x) fun r125 =>
      .ite (!r124.1.2) (
        .bnd (F34 r125.1) fun r126 =>
        .bnd (F34 (r125.1.2, r125.1.1)) fun r127 =>
        .ite (r126.1 == r127.1) (
          .bnd (F34 (r125.1.1, r125.1.1)) fun r128 =>
          .ret (r128.1, ())) <|
        .ret (false, ())) <|
      .ite (r124.1.1.1 == r123.1.2) (
        .bnd (F34 r125.1) fun r129 =>
        .bnd (F34 (r125.1.2, r125.1.1)) fun r130 =>
        .ite (r129.1 == r130.1) (
          .bnd (F34 (r125.1.1, r125.1.1)) fun r131 =>
          .ret (r131.1, ())) <|
        .ret (false, ())) <|
      .ret (false, ())) <|
    .bnd (F31 x) fun r132 =>
    .bnd (F19 r132.1) fun r133 =>
    .bnd (F14 r132.1) fun r134 =>
    .ite (r134.1) (
      .bnd (F20 (r132.1.2.2.2.2.2.2.1, r132.1.1)) fun r135 =>
      .bnd (F18 (r133.1, r135.1)) fun r136 =>
      .ite (!r136.1) (
        .ret (false, ())) <|
      .bnd (F30 r132.1.2.2.2.1) fun r137 =>
      let v6 : Bool := (r133.1.length : Int) != (IntKind.i64.wrap ((r132.1.2.2.2.1.length : Int) - r137.1))
      .ite (v6) (
        .ret (false, ())) <|
      .bnd (F32 x) fun r138 =>
      .bnd (F24 r138.1) fun r139 =>
      .bnd (F33 x) fun r140 =>
      .ite (!r139.1.2) (
        .bnd (F34 r140.1) fun r141 =>
        .bnd (F34 (r140.1.2, r140.1.1)) fun r142 =>
        .ite (r141.1 == r142.1) (
          .bnd (F34 (r140.1.1, r140.1.1)) fun r143 =>
          .ret (r143.1, ())) <|
        .ret (false, ())) <|
      .ite (r139.1.1.1 == r138.1.2) (
        .bnd (F34 r140.1) fun r144 =>
        .bnd (F34 (r140.1.2, r140.1.1)) fun r145 =>
        .ite (r144.1 == r145.1) (
          .bnd (F34 (r140.1.1, r140.1.1)) fun r146 =>
          .ret (r146.1, ())) <|
        .ret (false, ())) <|
      .ret (false, ())) <|
    .bnd (F32 x) fun r147 =>
    .bnd (F24 r147.1) fun r148 =>
    .bnd (F33 x) fun r149 =>
    .ite (!r148.1.2) (
      .bnd (F34 r149.1) fun r150 =>
      .bnd (F34 (r149.1.2, r149.1.1)) fun r151 =>
      .ite (r150.1 == r151.1) (
        .bnd (F34 (r149.1.1, r149.1.1)) fun r152 =>
        .ret (r152.1, ())) <|
      .ret (false, ())) <|
    .ite (r148.1.1.1 == r147.1.2) (
      .bnd (F34 r149.1) fun r153 =>
      .bnd (F34 (r149.1.2, r149.1.1)) fun r154 =>
      .ite (r153.1 == r154.1) (
        .bnd (F34 (r149.1.1, r149.1.1)) fun r155 =>
        .ret (r155.1, ())) <|
      .ret (false, ())) <|
    .ret (false, ())) <|
  .ite (!(r3.1.2 == false)) (
    .ret (false, ())) <|
  .ite (r3.1.2) (
    .bnd (F14 r3.1.1) fun r156 =>
    .ite (!r156.1) (
      .ret (false, ())) <|
    .bnd (F19 r3.1.1) fun r157 =>
    .ite ((r157.1.length : Int) != (0 : Int)) (
      .ret (false, ())) <|
    .bnd (F31 x) fun r158 =>
    .bnd (F19 r158.1) fun r159 =>
    .bnd (F14 r158.1) fun r160 =>
    .ite (r160.1) (
      .bnd (F20 (r158.1.2.2.2.2.2.2.1, r158.1.1)) fun r161 =>
      .bnd (F18 (r159.1, r161.1)) fun r162 =>
      .ite (!r162.1) (
        .ret (false, ())) <|
      .bnd (F30 r158.1.2.2.2.1) fun r163 =>
      let v7 : Bool := (r159.1.length : Int) != (IntKind.i64.wrap ((r158.1.2.2.2.1.length : Int) - r163.1))
      .ite (v7) (
        .ret (false, ())) <|
      .bnd (F32 x) fun r164 =>
      .bnd (F24 r164.1) fun r165 =>
      .bnd (F33 x) fun r166 =>
      .ite (!r165.1.2) (
        .bnd (F34 r166.1) fun r167 =>
        .bnd (F34 (r166.1.2, r166.1.1)) fun r168 =>
        .ite (r167.1 == r168.1) (
          .bnd (F34 (r166.1.1, r166.1.1)) fun r169 =>
          .ret (r169.1, ())) <|
        .ret (false, ())) <|
      .ite (r165.1.1.1 == r164.1.2) (
        .bnd (F34 r166.1) fun r170 =>
        .bnd (F34 (r166.1.2, r166.1.1)) fun r171 =>
        .ite (r170.1 == r171.1) (
          .bnd (F34 (r166.1.1, r166.1.1)) fun r172 =>
          .ret (r172.1, ())) <|
        .ret (false, ())) <|
      .ret (false, ())) <|
    .bnd (F32 x) fun r173 =>
    .bnd (F24 r173.1) fun r174 =>
    .bnd (F33 x) fun r175 =>
    .ite (!r174.1.2) (
      .bnd (F34 r175.1) fun r176 =>
      .bnd (F34 (r175.1.2, r175.1.1)) fun r177 =>
      .ite (r176.1 == r177.1) (
        .bnd (F34 (r175.1.1, r175.1.1)) fun r178 =>
        .ret (r178.1, ())) <|
      .ret (false, ())) <|
    .ite (r174.1.1.1 == r173.1.2) (
      .bnd (F34 r175.1) fun r179 =>
      .bnd (F34 (r175.1.2, r175.1.1)) fun r180 =>
      .ite (r179.1 == r180.1) (
        .bnd (F34 (r175.1.1, r175.1.1)) fun r181 =>
        .ret (r181.1, ())) <|
      .ret (false, ())) <|
    .ret (false, ())) <|
  .bnd (F31 x) fun r182 =>
  .bnd (F19 r182.1) fun r183 =>
  .bnd (F14 r182.1) fun r184 =>
  .ite (r184.1) (
    .bnd (F20 (r182.1.2.2.2.2.2.2.1, r182.1.1)) fun r185 =>
    .bnd (F18 (r183.1, r185.1)) fun r186 =>
    .ite (!r186.1) (
      .ret (false, ())) <|
    .bnd (F30 r182.1.2.2.2.1) fun r187 =>
    let v8 : Bool := (r183.1.length : Int) != (IntKind.i64.wrap ((r182.1.2.2.2.1.length : Int) - r187.1))
    .ite (v8) (
      .ret (false, ())) <|
    .bnd (F32 x) fun r188 =>
    .bnd (F24 r188.1) fun r189 =>
    .bnd (F33 x) fun r190 =>
    .ite (!r189.1.2) (
      .bnd (F34 r190.1) fun r191 =>
      .bnd (F34 (r190.1.2, r190.1.1)) fun r192 =>
      .ite (r191.1 == r192.1) (
        .bnd (F34 (r190.1.1, r190.1.1)) fun r193 =>
        .ret (r193.1, ())) <|
      .ret (false, ())) <|
    .ite (r189.1.1.1 == r188.1.2) (
      .bnd (F34 r190.1) fun r194 =>
      .bnd (F34 (r190.1.2, r190.1.1)) fun r195 =>
      .ite (r194.1 == r195.1) (
        .bnd (F34 (r190.1.1, r190.1.1)) fun r196 =>
        .ret (r196.1, ())) <|
      .ret (false, ())) <|
    .ret (false, ())) <|
  .bnd (F32 x) fun r197 =>
  .bnd (F24 r197.1) fun r198 =>
  .bnd (F33 x) fun r199 =>
  .ite (!r198.1.2) (
    .bnd (F34 r199.1) fun r200 =>
    .bnd (F34 (r199.1.2, r199.1.1)) fun r201 =>
    .ite (r200.1 == r201.1) (
      .bnd (F34 (r199.1.1, r199.1.1)) fun r202 =>
      .ret (r202.1, ())) <|
    .ret (false, ())) <|
  .ite (r198.1.1.1 == r197.1.2) (
    .bnd (F34 r199.1) fun r203 =>
    .bnd (F34 (r199.1.2, r199.1.1)) fun r204 =>
    .ite (r203.1 == r204.1) (
      .bnd (F34 (r199.1.1, r199.1.1)) fun r205 =>
      .ret (r205.1, ())) <|
    .ret (false, ())) <|
  .ret (false, ())
noncomputable def F4 (x : List Int) : DT (Bool × Unit) := (B4 x).toDT
noncomputable def con4 : Con := ⟨[.one (.val (.sl (.int .u8)))], [], [.one (.val (.bool))], F4⟩
noncomputable def C4 : Ctx := ⟨tiOf tab, fun t => eqL.contains t, fun g _ => conOf [(12, con12), (14, con14), (18, con18), (19, con19), (20, con20), (24, con24), (27, con27), (28, con28), (29, con29), (30, con30), (31, con31), (32, con32), (33, con33), (34, con34)] g, fun i => match i with | _ => none⟩
theorem cons4 : Cons prog C4 := cons_of _ (allC ⟨ok12, ok14, ok18, ok19, ok20, ok24, ok27, ok28, ok29, ok30, ok31, ok32, ok33, ok34, trivial⟩)
theorem ok4 : con4.Sound prog 4 :=
  fn_con (C := C4) (fn := Tryz.f4) (code := (bodyOf Tryz.f4)) (n := 127) ctx cons4 mixed (by kernel_rfl) (by kernel_rfl) (by kernel_rfl) con4 (rg := [.tmp 2]) (by kernel_rfl) (by kernel_rfl) (loops_all 0 (by kernel_rfl) trivial) (by kernel_rfl) B4 (fun x => by kernel_rfl) (fun _ => rfl)


end Go.Am
