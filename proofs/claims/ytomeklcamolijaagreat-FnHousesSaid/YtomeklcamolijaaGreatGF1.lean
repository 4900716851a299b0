import Derived.Test.YtomeklcamolijaaGreatGH
set_option linter.unusedVariables false
set_option maxRecDepth 100000
namespace Go.Am
open Go Go.Proofs
/-! 12 laws.big -/
noncomputable def B12 (x : List Int) : DTB (Bool × Unit) :=
  .ret (decide ((x.length : Int) > (1048576 : Int)), ())
noncomputable def F12 (x : List Int) : DT (Bool × Unit) := (B12 x).toDT
noncomputable def con12 : Con := ⟨[.one (.val (.sl (.int .u8)))], [], [.one (.val (.bool))], F12⟩
noncomputable def C12 : Ctx := ⟨tiOf tab, fun t => eqL.contains t, fun g _ => conOf [] g, fun i => match i with | _ => none⟩
theorem cons12 : Cons prog C12 := cons_of _ (fun _ h => by cases h)
theorem ok12 : con12.Sound prog 12 :=
  fn_con (C := C12) (fn := Tryz.f12) (code := (bodyOf Tryz.f12)) (n := 6) ctx cons12 mixed (by kernel_rfl) (by kernel_rfl) (by kernel_rfl) con12 (rg := [.tmp 2]) (by kernel_rfl) (by kernel_rfl) (loops_all 0 (by kernel_rfl) trivial) (by kernel_rfl) B12 (fun x => by kernel_rfl) (fun _ => rfl)



/-! 100 spec.l1New -/
noncomputable def L_100_0G (x : (List Int) × Int × Int) : DTB (Rd ((List Int) × Int × Int) Unit) :=
  .ite (decide (x.2.2 < (x.1.length : Int))) (
    .ite (decide (x.2.2 < (4000 : Int))) (
      .guard (decide (0 ≤ x.2.2 ∧ x.2.2 < (x.1.length : Int))) <|
      let v1 : Int := IntKind.i64.wrap ((IntKind.i64.wrap (x.2.1 * (137 : Int))) + (IntKind.i64.wrap (x.1.getD x.2.2.toNat (0 : Int))))
      let v2 : Int := bitsOf .and .i64 (IntKind.i64.wrap (v1 + (11 : Int))) (1073741823 : Int)
      .ret (.on (x.1, v2, IntKind.i64.wrap (x.2.2 + (1 : Int))))) <|
    .ret (.out x)) <|
  .ret (.out x)
noncomputable def L_100_0 (x : (List Int) × Int × Int) : DT (((List Int) × Int × Int) ⊕ Unit) := whileT (fun x => (L_100_0G x).toDT) x
noncomputable def L_100_0C : LC := ⟨[(0, .one (.val (.sl (.int .u8)))), (3, .one (.val (.int .i64))), (4, .one (.val (.int .i64)))], [], L_100_0⟩
noncomputable def B100 (x : List Int) : DTB (Tl1Cur × Unit) :=
  .bnd (L_100_0 (x, IntKind.i64.wrap ((193017 : Int) + (x.length : Int)), (0 : Int))) fun
  | .inl y1 =>
    .ret ((y1.1, (0 : Int), y1.2.1), ())
  | .inr y1 =>
    .fail
noncomputable def F100 (x : List Int) : DT (Tl1Cur × Unit) := (B100 x).toDT
noncomputable def con100 : Con := ⟨[.one (.val (.sl (.int .u8)))], [], [.box [.val (yTl1Cur)]], F100⟩
noncomputable def C100 : Ctx := ⟨tiOf tab, fun t => eqL.contains t, fun g _ => conOf [] g, fun i => match i with | 0 => some L_100_0C | _ => none⟩
theorem cons100 : Cons prog C100 := cons_of _ (fun _ h => by cases h)
theorem L_100_0ok : LoopOk prog C100 [] 32 (nthLoop (bodyOf Tryz.f100) 0).1 (nthLoop (bodyOf Tryz.f100) 0).2 :=
  loop_while (l := L_100_0C) ctx cons100 mixed (by kernel_rfl) (loops_all 0 (by kernel_rfl) trivial) (by kernel_rfl) L_100_0G (fun x => by kernel_rfl) (fun _ => rfl)
theorem ok100 : con100.Sound prog 100 :=
  fn_con (C := C100) (fn := Tryz.f100) (code := (bodyOf Tryz.f100)) (n := 32) ctx cons100 mixed (by kernel_rfl) (by kernel_rfl) (by kernel_rfl) con100 (rg := [.tmp 2]) (by kernel_rfl) (by kernel_rfl) (loops_all 1 (by kernel_rfl) ⟨trivial, L_100_0ok⟩) (by kernel_rfl) B100 (fun x => by kernel_rfl) (fun _ => rfl)



/-! 286 spec.l1Byte -/
noncomputable def B286 (x : Tl1Cur) : DTB (Int × Tl1Cur) :=
  let v1 : Int := IntKind.i64.wrap ((IntKind.i64.wrap (x.2.2 * (6364136223846793005 : Int))) + (1442695040888963407 : Int))
  let v2 : Int := bitsOf .xor .i64 (shOf .shr .i64 v1 (33 : Int)) (shOf .shr .i64 v1 (47 : Int))
  .ite (decide (x.2.1 < (x.1.length : Int))) (
    .guard (decide (0 ≤ x.2.1 ∧ x.2.1 < (x.1.length : Int))) <|
    let v3 : Int := IntKind.i64.wrap ((bitsOf .and .i64 v2 (255 : Int)) + (IntKind.i64.wrap (x.1.getD x.2.1.toNat (0 : Int))))
    .ret (bitsOf .and .i64 v3 (255 : Int), (x.1, IntKind.i64.wrap (x.2.1 + (1 : Int)), v1))) <|
  .ret (bitsOf .and .i64 v2 (255 : Int), (x.1, x.2.1, v1))
noncomputable def F286 (x : Tl1Cur) : DT (Int × Tl1Cur) := (B286 x).toDT
noncomputable def con286 : Con := ⟨[.box [.val (yTl1Cur)]], [0], [.one (.val (.int .i64))], F286⟩
noncomputable def C286 : Ctx := ⟨tiOf tab, fun t => eqL.contains t, fun g _ => conOf [] g, fun i => match i with | _ => none⟩
theorem cons286 : Cons prog C286 := cons_of _ (fun _ h => by cases h)
theorem ok286 : con286.Sound prog 286 :=
  fn_con (C := C286) (fn := Tryz.f286) (code := (bodyOf Tryz.f286)) (n := 58) ctx cons286 mixed (by kernel_rfl) (by kernel_rfl) (by kernel_rfl) con286 (rg := [.tmp 2]) (by kernel_rfl) (by kernel_rfl) (loops_all 0 (by kernel_rfl) trivial) (by kernel_rfl) B286 (fun x => by kernel_rfl) (fun _ => rfl)



/-! 141 spec.l1Below -/
noncomputable def B141 (x : Tl1Cur × Int) : DTB (Int × Tl1Cur) :=
  .ite (decide (x.2 ≤ (0 : Int))) (
    .ret ((0 : Int), x.1)) <|
  .ite (decide (x.2 ≤ (256 : Int))) (
    .bnd (F286 x.1) fun r1 =>
    .guard (decide (x.2 ≠ 0)) <|
    .ret (r1.1.tmod x.2, r1.2)) <|
  .bnd (F286 x.1) fun r2 =>
  .bnd (F286 r2.2) fun r3 =>
  .bnd (F286 r3.2) fun r4 =>
  let v1 : Int := IntKind.i64.wrap ((IntKind.i64.wrap (r2.1 * (65536 : Int))) + (IntKind.i64.wrap (r3.1 * (256 : Int))))
  .guard (decide (x.2 ≠ 0)) <|
  .ret ((IntKind.i64.wrap (v1 + r4.1)).tmod x.2, r4.2)
noncomputable def F141 (x : Tl1Cur × Int) : DT (Int × Tl1Cur) := (B141 x).toDT
noncomputable def con141 : Con := ⟨[.box [.val (yTl1Cur)], .one (.val (.int .i64))], [0], [.one (.val (.int .i64))], F141⟩
noncomputable def C141 : Ctx := ⟨tiOf tab, fun t => eqL.contains t, fun g _ => conOf [(286, con286)] g, fun i => match i with | _ => none⟩
theorem cons141 : Cons prog C141 := cons_of _ (allC ⟨ok286, trivial⟩)
theorem ok141 : con141.Sound prog 141 :=
  fn_con (C := C141) (fn := Tryz.f141) (code := (bodyOf Tryz.f141)) (n := 31) ctx cons141 mixed (by kernel_rfl) (by kernel_rfl) (by kernel_rfl) con141 (rg := [.tmp 4]) (by kernel_rfl) (by kernel_rfl) (loops_all 0 (by kernel_rfl) trivial) (by kernel_rfl) B141 (fun x => by kernel_rfl) (fun _ => rfl)



/-! 136 spec.l33Slots -/
noncomputable def L_136_0G (x : Tl1Cur × (List I3) × Int) : DTB (Rd (Tl1Cur × (List I3) × Int) Unit) :=
  .bnd (F141 (x.1, (5 : Int))) fun r1 =>
  .ite (decide (x.2.2 ≤ (IntKind.i64.wrap ((3 : Int) + r1.1)))) (
    .bnd (F141 (r1.2, (4 : Int))) fun r2 =>
    let v1 : Int := IntKind.i64.wrap ((10 : Int) + (IntKind.i64.wrap ((5 : Int) * r2.1)))
    .guard (decide ((x.2.1.length + [(x.2.2, v1, (0 : Int))].length) * 24 ≤ 140737488355328)) <|
    .ret (.on (r2.2, x.2.1 ++ [(x.2.2, v1, (0 : Int))], IntKind.i64.wrap (x.2.2 + (1 : Int))))) <|
  .ret (.out (r1.2, x.2))
noncomputable def L_136_0 (x : Tl1Cur × (List I3) × Int) : DT ((Tl1Cur × (List I3) × Int) ⊕ Unit) := whileT (fun x => (L_136_0G x).toDT) x
noncomputable def L_136_0C : LC := ⟨[(0, .box [.val (yTl1Cur)]), (3, .one (.own (yI3))), (4, .one (.val (.int .i64)))], [], L_136_0⟩
noncomputable def B136 (x : Tl1Cur) : DTB ((List I3) × Tl1Cur) :=
  .bnd (L_136_0 (x, ([] : List I3), (1 : Int))) fun
  | .inl y1 =>
    .ret (y1.2.1, y1.1)
  | .inr y1 =>
    .fail
noncomputable def F136 (x : Tl1Cur) : DT ((List I3) × Tl1Cur) := (B136 x).toDT
noncomputable def con136 : Con := ⟨[.box [.val (yTl1Cur)]], [0], [.one (.own (yI3))], F136⟩
noncomputable def C136 : Ctx := ⟨tiOf tab, fun t => eqL.contains t, fun g _ => conOf [(141, con141)] g, fun i => match i with | 0 => some L_136_0C | _ => none⟩
theorem cons136 : Cons prog C136 := cons_of _ (allC ⟨ok141, trivial⟩)
theorem L_136_0ok : LoopOk prog C136 [0] 23 (nthLoop (bodyOf Tryz.f136) 0).1 (nthLoop (bodyOf Tryz.f136) 0).2 :=
  loop_while (l := L_136_0C) ctx cons136 mixed (by kernel_rfl) (loops_all 0 (by kernel_rfl) trivial) (by kernel_rfl) L_136_0G (fun x => by kernel_rfl) (fun _ => rfl)
theorem ok136 : con136.Sound prog 136 :=
  fn_con (C := C136) (fn := Tryz.f136) (code := (bodyOf Tryz.f136)) (n := 23) ctx cons136 mixed (by kernel_rfl) (by kernel_rfl) (by kernel_rfl) con136 (rg := [.tmp 2]) (by kernel_rfl) (by kernel_rfl) (loops_all 1 (by kernel_rfl) ⟨trivial, L_136_0ok⟩) (by kernel_rfl) B136 (fun x => by kernel_rfl) (fun _ => rfl)



/-! 287 spec.l31Copy -/
noncomputable def L_287_0G (x : (List TSecret) × (List TSecret) × Int) : DTB (Rd ((List TSecret) × (List TSecret) × Int) Unit) :=
  .ite (decide (x.2.2 < (x.1.length : Int))) (
    .guard (decide (0 ≤ x.2.2 ∧ x.2.2 < (x.1.length : Int))) <|
    let e1 : TSecret := x.1.getD x.2.2.toNat d0
    .guard (decide (0 ≤ x.2.2 ∧ x.2.2 < (x.1.length : Int))) <|
    let e2 : TSecret := x.1.getD x.2.2.toNat d0
    .guard (decide ((([] : List I2).length + e2.2.1.length) * 16 ≤ 140737488355328)) <|
    .guard (decide (0 ≤ x.2.2 ∧ x.2.2 < (x.1.length : Int))) <|
    let e3 : TSecret := x.1.getD x.2.2.toNat d0
    .guard (decide ((x.2.1.length + [(e1.1, ([] : List I2) ++ e2.2.1, e3.2.2)].length) * 40 ≤ 140737488355328)) <|
    .ret (.on (x.1, x.2.1 ++ [(e1.1, ([] : List I2) ++ e2.2.1, e3.2.2)], IntKind.i64.wrap (x.2.2 + (1 : Int))))) <|
  .ret (.out x)
noncomputable def L_287_0 (x : (List TSecret) × (List TSecret) × Int) : DT (((List TSecret) × (List TSecret) × Int) ⊕ Unit) := whileT (fun x => (L_287_0G x).toDT) x
noncomputable def L_287_0C : LC := ⟨[(0, .one (.val (.sl (yTSecret)))), (3, .one (.own (yTSecret))), (4, .one (.val (.int .i64)))], [], L_287_0⟩
noncomputable def B287 (x : List TSecret) : DTB ((List TSecret) × Unit) :=
  .bnd (L_287_0 (x, ([] : List TSecret), (0 : Int))) fun
  | .inl y1 =>
    .ret (y1.2.1, ())
  | .inr y1 =>
    .fail
noncomputable def F287 (x : List TSecret) : DT ((List TSecret) × Unit) := (B287 x).toDT
noncomputable def con287 : Con := ⟨[.one (.val (.sl (yTSecret)))], [], [.one (.own (yTSecret))], F287⟩
noncomputable def C287 : Ctx := ⟨tiOf tab, fun t => eqL.contains t, fun g _ => conOf [] g, fun i => match i with | 0 => some L_287_0C | _ => none⟩
theorem cons287 : Cons prog C287 := cons_of _ (fun _ h => by cases h)
theorem L_287_0ok : LoopOk prog C287 [] 34 (nthLoop (bodyOf Tryz.f287) 0).1 (nthLoop (bodyOf Tryz.f287) 0).2 :=
  loop_while (l := L_287_0C) ctx cons287 mixed (by kernel_rfl) (loops_all 0 (by kernel_rfl) trivial) (by kernel_rfl) L_287_0G (fun x => by kernel_rfl) (fun _ => rfl)
theorem ok287 : con287.Sound prog 287 :=
  fn_con (C := C287) (fn := Tryz.f287) (code := (bodyOf Tryz.f287)) (n := 34) ctx cons287 mixed (by kernel_rfl) (by kernel_rfl) (by kernel_rfl) con287 (rg := [.tmp 2]) (by kernel_rfl) (by kernel_rfl) (loops_all 1 (by kernel_rfl) ⟨trivial, L_287_0ok⟩) (by kernel_rfl) B287 (fun x => by kernel_rfl) (fun _ => rfl)



/-! 142 spec.l33Copy -/
noncomputable def B142 (x : THouse) : DTB ((Int × (List TFind) × (List TSecret) × (List I3) × (List I5) × (List I4) × (List I5) × (List I4) × Int) × Unit) :=
  .guard (decide ((([] : List TFind).length + x.2.1.length) * 64 ≤ 140737488355328)) <|
  .bnd (F287 x.2.2.1) fun r1 =>
  .guard (decide ((([] : List I3).length + x.2.2.2.1.length) * 24 ≤ 140737488355328)) <|
  .guard (decide ((([] : List I5).length + x.2.2.2.2.1.length) * 40 ≤ 140737488355328)) <|
  .guard (decide ((([] : List I4).length + x.2.2.2.2.2.1.length) * 32 ≤ 140737488355328)) <|
  .guard (decide ((([] : List I5).length + x.2.2.2.2.2.2.1.length) * 40 ≤ 140737488355328)) <|
  .guard (decide ((([] : List I4).length + x.2.2.2.2.2.2.2.1.length) * 32 ≤ 140737488355328)) <|
  .ret ((x.1, ([] : List TFind) ++ x.2.1, r1.1, ([] : List I3) ++ x.2.2.2.1, ([] : List I5) ++ x.2.2.2.2.1, ([] : List I4) ++ x.2.2.2.2.2.1, ([] : List I5) ++ x.2.2.2.2.2.2.1, ([] : List I4) ++ x.2.2.2.2.2.2.2.1, x.2.2.2.2.2.2.2.2), ())
noncomputable def F142 (x : THouse) : DT ((Int × (List TFind) × (List TSecret) × (List I3) × (List I5) × (List I4) × (List I5) × (List I4) × Int) × Unit) := (B142 x).toDT
noncomputable def con142 : Con := ⟨[.agg [.val (yTHouse)]], [], [.agg [.val (.int .i64), .own (yTFind), .own (yTSecret), .own (yI3), .own (yI5), .own (yI4), .own (yI5), .own (yI4), .val (.int .i64)]], F142⟩
noncomputable def C142 : Ctx := ⟨tiOf tab, fun t => eqL.contains t, fun g _ => conOf [(287, con287)] g, fun i => match i with | _ => none⟩
theorem cons142 : Cons prog C142 := cons_of _ (allC ⟨ok287, trivial⟩)
theorem ok142 : con142.Sound prog 142 :=
  fn_con (C := C142) (fn := Tryz.f142) (code := (bodyOf Tryz.f142)) (n := 35) ctx cons142 mixed (by kernel_rfl) (by kernel_rfl) (by kernel_rfl) con142 (rg := [.cell 2 32]) (by kernel_rfl) (by kernel_rfl) (loops_all 0 (by kernel_rfl) trivial) (by kernel_rfl) B142 (fun x => by kernel_rfl) (fun _ => rfl)



/-! 111 spec.l1In -/
noncomputable def B111 (x : Int × Int × Int) : DTB (Bool × Unit) :=
  .ite (decide (x.1 ≥ x.2.1)) (
    .ret (decide (x.1 ≤ x.2.2), ())) <|
  .ret (false, ())
noncomputable def F111 (x : Int × Int × Int) : DT (Bool × Unit) := (B111 x).toDT
noncomputable def con111 : Con := ⟨[.one (.val (.int .i64)), .one (.val (.int .i64)), .one (.val (.int .i64))], [], [.one (.val (.bool))], F111⟩
noncomputable def C111 : Ctx := ⟨tiOf tab, fun t => eqL.contains t, fun g _ => conOf [] g, fun i => match i with | _ => none⟩
theorem cons111 : Cons prog C111 := cons_of _ (fun _ h => by cases h)
theorem ok111 : con111.Sound prog 111 :=
  fn_con (C := C111) (fn := Tryz.f111) (code := (bodyOf Tryz.f111)) (n := 15) ctx cons111 mixed (by kernel_rfl) (by kernel_rfl) (by kernel_rfl) con111 (rg := [.tmp 6]) (by kernel_rfl) (by kernel_rfl) (loops_all 0 (by kernel_rfl) trivial) (by kernel_rfl) B111 (fun x => by kernel_rfl) (fun _ => rfl)



/-! 304 spec.IsThing -/
noncomputable def B304 (x : I5) : DTB (Bool × Unit) :=
  .bnd (F111 (x.1, (1 : Int), (999 : Int))) fun r1 =>
  .ite (r1.1) (
    .bnd (F111 (x.2.1, (1 : Int), (8 : Int))) fun r2 =>
    .ite (r2.1) (
      .bnd (F111 (x.2.2.1, (0 : Int), (7 : Int))) fun r3 =>
      .ite (r3.1) (
        .bnd (F111 (x.2.2.2.1, (1 : Int), (50 : Int))) fun r4 =>
        .ite (r4.1) (
          .bnd (F111 (x.2.2.2.2, (0 : Int), (10000000 : Int))) fun r5 =>
          .ret (r5.1, ())) <|
        .ret (false, ())) <|
      .ret (false, ())) <|
    .ret (false, ())) <|
  .ret (false, ())
noncomputable def F304 (x : I5) : DT (Bool × Unit) := (B304 x).toDT
noncomputable def con304 : Con := ⟨[.agg [.val (yI5)]], [], [.one (.val (.bool))], F304⟩
noncomputable def C304 : Ctx := ⟨tiOf tab, fun t => eqL.contains t, fun g _ => conOf [(111, con111)] g, fun i => match i with | _ => none⟩
theorem cons304 : Cons prog C304 := cons_of _ (allC ⟨ok111, trivial⟩)
theorem ok304 : con304.Sound prog 304 :=
  fn_con (C := C304) (fn := Tryz.f304) (code := (bodyOf Tryz.f304)) (n := 26) ctx cons304 mixed (by kernel_rfl) (by kernel_rfl) (by kernel_rfl) con304 (rg := [.tmp 2]) (by kernel_rfl) (by kernel_rfl) (loops_all 0 (by kernel_rfl) trivial) (by kernel_rfl) B304 (fun x => by kernel_rfl) (fun _ => rfl)



/-! 162 spec.IsFind -/
noncomputable def B162 (x : TFind) : DTB (Bool × Unit) :=
  .bnd (F304 x.1) fun r1 =>
  .ite (r1.1) (
    .bnd (F111 (x.2.1, (1 : Int), (30 : Int))) fun r2 =>
    .ite (r2.1) (
      .bnd (F111 (x.2.2.1, (0 : Int), (100000 : Int))) fun r3 =>
      .ite (r3.1) (
        .bnd (F111 (x.2.2.2, (0 : Int), (999 : Int))) fun r4 =>
        .ret (r4.1, ())) <|
      .ret (false, ())) <|
    .ret (false, ())) <|
  .ret (false, ())
noncomputable def F162 (x : TFind) : DT (Bool × Unit) := (B162 x).toDT
noncomputable def con162 : Con := ⟨[.agg [.val (yTFind)]], [], [.one (.val (.bool))], F162⟩
noncomputable def C162 : Ctx := ⟨tiOf tab, fun t => eqL.contains t, fun g _ => conOf [(111, con111), (304, con304)] g, fun i => match i with | _ => none⟩
theorem cons162 : Cons prog C162 := cons_of _ (allC ⟨ok111, ok304, trivial⟩)
theorem ok162 : con162.Sound prog 162 :=
  fn_con (C := C162) (fn := Tryz.f162) (code := (bodyOf Tryz.f162)) (n := 21) ctx cons162 mixed (by kernel_rfl) (by kernel_rfl) (by kernel_rfl) con162 (rg := [.tmp 2]) (by kernel_rfl) (by kernel_rfl) (loops_all 0 (by kernel_rfl) trivial) (by kernel_rfl) B162 (fun x => by kernel_rfl) (fun _ => rfl)



/-! 49 spec.AreFinds -/
noncomputable def L_49_0G (x : (List TFind) × Int) : DTB (Rd ((List TFind) × Int) Bool) :=
  .ite (decide (x.2 < (x.1.length : Int))) (
    .guard (decide (0 ≤ x.2 ∧ x.2 < (x.1.length : Int))) <|
    let e1 : TFind := x.1.getD x.2.toNat d1
    .bnd (F162 e1) fun r1 =>
    .ite (!r1.1) (
      .ret (.ret false)) <|
    .ite (decide (x.2 > (0 : Int))) (
      .guard (decide (0 ≤ IntKind.i64.wrap (x.2 - (1 : Int)) ∧ IntKind.i64.wrap (x.2 - (1 : Int)) < (x.1.length : Int))) <|
      let e2 : TFind := x.1.getD ((IntKind.i64.wrap (x.2 - (1 : Int))).toNat) d1
      .guard (decide (0 ≤ x.2 ∧ x.2 < (x.1.length : Int))) <|
      let e3 : TFind := x.1.getD x.2.toNat d1
      .ite (decide (e2.1.1 ≥ e3.1.1)) (
        .ret (.ret false)) <|
      .ret (.on (x.1, IntKind.i64.wrap (x.2 + (1 : Int))))) <|
    .ret (.on (x.1, IntKind.i64.wrap (x.2 + (1 : Int))))) <|
  .ret (.out x)
noncomputable def L_49_0 (x : (List TFind) × Int) : DT (((List TFind) × Int) ⊕ Bool) := whileT (fun x => (L_49_0G x).toDT) x
noncomputable def L_49_0C : LC := ⟨[(0, .one (.val (.sl (yTFind)))), (3, .one (.val (.int .i64)))], [(2, .one (.val (.bool)))], L_49_0⟩
noncomputable def B49 (x : List TFind) : DTB (Bool × Unit) :=
  .bnd (L_49_0 (x, (0 : Int))) fun
  | .inl y1 =>
    .ret (decide ((y1.1.length : Int) ≤ (20 : Int)), ())
  | .inr y1 =>
    .ret (y1, ())
noncomputable def F49 (x : List TFind) : DT (Bool × Unit) := (B49 x).toDT
noncomputable def con49 : Con := ⟨[.one (.val (.sl (yTFind)))], [], [.one (.val (.bool))], F49⟩
noncomputable def C49 : Ctx := ⟨tiOf tab, fun t => eqL.contains t, fun g _ => conOf [(162, con162)] g, fun i => match i with | 0 => some L_49_0C | _ => none⟩
theorem cons49 : Cons prog C49 := cons_of _ (allC ⟨ok162, trivial⟩)
theorem L_49_0ok : LoopOk prog C49 [] 39 (nthLoop (bodyOf Tryz.f49) 0).1 (nthLoop (bodyOf Tryz.f49) 0).2 :=
  loop_while (l := L_49_0C) ctx cons49 mixed (by kernel_rfl) (loops_all 0 (by kernel_rfl) trivial) (by kernel_rfl) L_49_0G (fun x => by kernel_rfl) (fun _ => rfl)
theorem ok49 : con49.Sound prog 49 :=
  fn_con (C := C49) (fn := Tryz.f49) (code := (bodyOf Tryz.f49)) (n := 39) ctx cons49 mixed (by kernel_rfl) (by kernel_rfl) (by kernel_rfl) con49 (rg := [.tmp 2]) (by kernel_rfl) (by kernel_rfl) (loops_all 1 (by kernel_rfl) ⟨trivial, L_49_0ok⟩) (by kernel_rfl) B49 (fun x => by kernel_rfl) (fun _ => rfl)



/-! 253 spec.AreMarks -/
noncomputable def L_253_0G (x : (List I2) × Int) : DTB (Rd ((List I2) × Int) Bool) :=
  .ite (decide (x.2 < (x.1.length : Int))) (
    .guard (decide (0 ≤ x.2 ∧ x.2 < (x.1.length : Int))) <|
    let e1 : I2 := x.1.getD x.2.toNat d2
    .bnd (F111 (e1.1, (1 : Int), (20 : Int))) fun r1 =>
    .ite (!r1.1) (
      .ret (.ret false)) <|
    .guard (decide (0 ≤ x.2 ∧ x.2 < (x.1.length : Int))) <|
    let e2 : I2 := x.1.getD x.2.toNat d2
    .bnd (F111 (e2.2, (0 : Int), (99 : Int))) fun r2 =>
    .ite (!r2.1) (
      .ret (.ret false)) <|
    .ite (decide (x.2 > (0 : Int))) (
      .guard (decide (0 ≤ IntKind.i64.wrap (x.2 - (1 : Int)) ∧ IntKind.i64.wrap (x.2 - (1 : Int)) < (x.1.length : Int))) <|
      let e3 : I2 := x.1.getD ((IntKind.i64.wrap (x.2 - (1 : Int))).toNat) d2
      .guard (decide (0 ≤ x.2 ∧ x.2 < (x.1.length : Int))) <|
      let e4 : I2 := x.1.getD x.2.toNat d2
      .ite (decide (e3.1 ≥ e4.1)) (
        .ret (.ret false)) <|
      .ret (.on (x.1, IntKind.i64.wrap (x.2 + (1 : Int))))) <|
    .ret (.on (x.1, IntKind.i64.wrap (x.2 + (1 : Int))))) <|
  .ret (.out x)
noncomputable def L_253_0 (x : (List I2) × Int) : DT (((List I2) × Int) ⊕ Bool) := whileT (fun x => (L_253_0G x).toDT) x
noncomputable def L_253_0C : LC := ⟨[(0, .one (.val (.sl (yI2)))), (3, .one (.val (.int .i64)))], [(2, .one (.val (.bool)))], L_253_0⟩
noncomputable def B253 (x : List I2) : DTB (Bool × Unit) :=
  .bnd (L_253_0 (x, (0 : Int))) fun
  | .inl y1 =>
    .ret (decide ((y1.1.length : Int) ≤ (8 : Int)), ())
  | .inr y1 =>
    .ret (y1, ())
noncomputable def F253 (x : List I2) : DT (Bool × Unit) := (B253 x).toDT
noncomputable def con253 : Con := ⟨[.one (.val (.sl (yI2)))], [], [.one (.val (.bool))], F253⟩
noncomputable def C253 : Ctx := ⟨tiOf tab, fun t => eqL.contains t, fun g _ => conOf [(111, con111)] g, fun i => match i with | 0 => some L_253_0C | _ => none⟩
theorem cons253 : Cons prog C253 := cons_of _ (allC ⟨ok111, trivial⟩)
theorem L_253_0ok : LoopOk prog C253 [] 47 (nthLoop (bodyOf Tryz.f253) 0).1 (nthLoop (bodyOf Tryz.f253) 0).2 :=
  loop_while (l := L_253_0C) ctx cons253 mixed (by kernel_rfl) (loops_all 0 (by kernel_rfl) trivial) (by kernel_rfl) L_253_0G (fun x => by kernel_rfl) (fun _ => rfl)
theorem ok253 : con253.Sound prog 253 :=
  fn_con (C := C253) (fn := Tryz.f253) (code := (bodyOf Tryz.f253)) (n := 47) ctx cons253 mixed (by kernel_rfl) (by kernel_rfl) (by kernel_rfl) con253 (rg := [.tmp 2]) (by kernel_rfl) (by kernel_rfl) (loops_all 1 (by kernel_rfl) ⟨trivial, L_253_0ok⟩) (by kernel_rfl) B253 (fun x => by kernel_rfl) (fun _ => rfl)



/-! 112 spec.AreSecrets -/
noncomputable def L_112_0G (x : (List TSecret) × Int) : DTB (Rd ((List TSecret) × Int) Bool) :=
  .ite (decide (x.2 < (x.1.length : Int))) (
    .guard (decide (0 ≤ x.2 ∧ x.2 < (x.1.length : Int))) <|
    let e1 : TSecret := x.1.getD x.2.toNat d0
    .bnd (F111 (e1.1, (1 : Int), (999 : Int))) fun r1 =>
    .ite (!r1.1) (
      .ret (.ret false)) <|
    .guard (decide (0 ≤ x.2 ∧ x.2 < (x.1.length : Int))) <|
    let e2 : TSecret := x.1.getD x.2.toNat d0
    .bnd (F253 e2.2.1) fun r2 =>
    .ite (!r2.1) (
      .ret (.ret false)) <|
    .guard (decide (0 ≤ x.2 ∧ x.2 < (x.1.length : Int))) <|
    let e3 : TSecret := x.1.getD x.2.toNat d0
    .ite ((e3.2.1.length : Int) == (0 : Int)) (
      .ret (.ret false)) <|
    .guard (decide (0 ≤ x.2 ∧ x.2 < (x.1.length : Int))) <|
    let e4 : TSecret := x.1.getD x.2.toNat d0
    .bnd (F111 (e4.2.2, (0 : Int), (1000000 : Int))) fun r3 =>
    .ite (!r3.1) (
      .ret (.ret false)) <|
    .ite (decide (x.2 > (0 : Int))) (
      .guard (decide (0 ≤ IntKind.i64.wrap (x.2 - (1 : Int)) ∧ IntKind.i64.wrap (x.2 - (1 : Int)) < (x.1.length : Int))) <|
      let e5 : TSecret := x.1.getD ((IntKind.i64.wrap (x.2 - (1 : Int))).toNat) d0
      .guard (decide (0 ≤ x.2 ∧ x.2 < (x.1.length : Int))) <|
      let e6 : TSecret := x.1.getD x.2.toNat d0
      .ite (decide (e5.1 ≥ e6.1)) (
        .ret (.ret false)) <|
      .ret (.on (x.1, IntKind.i64.wrap (x.2 + (1 : Int))))) <|
    .ret (.on (x.1, IntKind.i64.wrap (x.2 + (1 : Int))))) <|
  .ret (.out x)
noncomputable def L_112_0 (x : (List TSecret) × Int) : DT (((List TSecret) × Int) ⊕ Bool) := whileT (fun x => (L_112_0G x).toDT) x
noncomputable def L_112_0C : LC := ⟨[(0, .one (.val (.sl (yTSecret)))), (3, .one (.val (.int .i64)))], [(2, .one (.val (.bool)))], L_112_0⟩
noncomputable def B112 (x : List TSecret) : DTB (Bool × Unit) :=
  .bnd (L_112_0 (x, (0 : Int))) fun
  | .inl y1 =>
    .ret (decide ((y1.1.length : Int) ≤ (20 : Int)), ())
  | .inr y1 =>
    .ret (y1, ())
noncomputable def F112 (x : List TSecret) : DT (Bool × Unit) := (B112 x).toDT
noncomputable def con112 : Con := ⟨[.one (.val (.sl (yTSecret)))], [], [.one (.val (.bool))], F112⟩
noncomputable def C112 : Ctx := ⟨tiOf tab, fun t => eqL.contains t, fun g _ => conOf [(111, con111), (253, con253)] g, fun i => match i with | 0 => some L_112_0C | _ => none⟩
theorem cons112 : Cons prog C112 := cons_of _ (allC ⟨ok111, ok253, trivial⟩)
theorem L_112_0ok : LoopOk prog C112 [] 65 (nthLoop (bodyOf Tryz.f112) 0).1 (nthLoop (bodyOf Tryz.f112) 0).2 :=
  loop_while (l := L_112_0C) ctx cons112 mixed (by kernel_rfl) (loops_all 0 (by kernel_rfl) trivial) (by kernel_rfl) L_112_0G (fun x => by kernel_rfl) (fun _ => rfl)
theorem ok112 : con112.Sound prog 112 :=
  fn_con (C := C112) (fn := Tryz.f112) (code := (bodyOf Tryz.f112)) (n := 65) ctx cons112 mixed (by kernel_rfl) (by kernel_rfl) (by kernel_rfl) con112 (rg := [.tmp 2]) (by kernel_rfl) (by kernel_rfl) (loops_all 1 (by kernel_rfl) ⟨trivial, L_112_0ok⟩) (by kernel_rfl) B112 (fun x => by kernel_rfl) (fun _ => rfl)



/-! 113 spec.AreSlots -/
noncomputable def L_113_2G (x : (List I3) × Int × Int) : DTB (Rd ((List I3) × Int × Int) Bool) :=
  .ite (decide (x.2.2 < x.2.1)) (
    .guard (decide (0 ≤ x.2.1 ∧ x.2.1 < (x.1.length : Int))) <|
    let e1 : I3 := x.1.getD x.2.1.toNat d3
    .ite (e1.2.2 != (0 : Int)) (
      .guard (decide (0 ≤ x.2.2 ∧ x.2.2 < (x.1.length : Int))) <|
      let e2 : I3 := x.1.getD x.2.2.toNat d3
      .guard (decide (0 ≤ x.2.1 ∧ x.2.1 < (x.1.length : Int))) <|
      let e3 : I3 := x.1.getD x.2.1.toNat d3
      .ite (e2.2.2 == e3.2.2) (
        .ret (.ret false)) <|
      .ret (.on (x.1, x.2.1, IntKind.i64.wrap (x.2.2 + (1 : Int))))) <|
    .ret (.on (x.1, x.2.1, IntKind.i64.wrap (x.2.2 + (1 : Int))))) <|
  .ret (.out x)
noncomputable def L_113_2 (x : (List I3) × Int × Int) : DT (((List I3) × Int × Int) ⊕ Bool) := whileT (fun x => (L_113_2G x).toDT) x
noncomputable def L_113_2C : LC := ⟨[(0, .one (.val (.sl (yI3)))), (3, .one (.val (.int .i64))), (4, .one (.val (.int .i64)))], [(2, .one (.val (.bool)))], L_113_2⟩
noncomputable def L_113_0G (x : (List I3) × Int) : DTB (Rd ((List I3) × Int) Bool) :=
  .ite (decide (x.2 < (x.1.length : Int))) (
    .guard (decide (0 ≤ x.2 ∧ x.2 < (x.1.length : Int))) <|
    let e1 : I3 := x.1.getD x.2.toNat d3
    .bnd (F111 (e1.1, (1 : Int), (99 : Int))) fun r1 =>
    .ite (!r1.1) (
      .ret (.ret false)) <|
    .guard (decide (0 ≤ x.2 ∧ x.2 < (x.1.length : Int))) <|
    let e2 : I3 := x.1.getD x.2.toNat d3
    .bnd (F111 (e2.2.1, (1 : Int), (50 : Int))) fun r2 =>
    .ite (!r2.1) (
      .ret (.ret false)) <|
    .guard (decide (0 ≤ x.2 ∧ x.2 < (x.1.length : Int))) <|
    let e3 : I3 := x.1.getD x.2.toNat d3
    .bnd (F111 (e3.2.2, (0 : Int), (999 : Int))) fun r3 =>
    .ite (!r3.1) (
      .ret (.ret false)) <|
    .ite (decide (x.2 > (0 : Int))) (
      .guard (decide (0 ≤ IntKind.i64.wrap (x.2 - (1 : Int)) ∧ IntKind.i64.wrap (x.2 - (1 : Int)) < (x.1.length : Int))) <|
      let e4 : I3 := x.1.getD ((IntKind.i64.wrap (x.2 - (1 : Int))).toNat) d3
      .guard (decide (0 ≤ x.2 ∧ x.2 < (x.1.length : Int))) <|
      let e5 : I3 := x.1.getD x.2.toNat d3
      .ite (decide (e4.1 ≥ e5.1)) (
        .ret (.ret false)) <|
      .bnd (L_113_2 (x.1, x.2, (0 : Int))) fun
      | .inl y1 =>
        .ret (.on (y1.1, IntKind.i64.wrap (y1.2.1 + (1 : Int))))
      | .inr y1 =>
        .ret (.ret y1)) <|
    .bnd (L_113_2 (x.1, x.2, (0 : Int))) fun
    | .inl y2 =>
      .ret (.on (y2.1, IntKind.i64.wrap (y2.2.1 + (1 : Int))))
    | .inr y2 =>
      .ret (.ret y2)) <|
  .ret (.out x)
noncomputable def L_113_0 (x : (List I3) × Int) : DT (((List I3) × Int) ⊕ Bool) := whileT (fun x => (L_113_0G x).toDT) x
noncomputable def L_113_0C : LC := ⟨[(0, .one (.val (.sl (yI3)))), (3, .one (.val (.int .i64)))], [(2, .one (.val (.bool)))], L_113_0⟩
noncomputable def B113 (x : List I3) : DTB (Bool × Unit) :=
  .bnd (L_113_0 (x, (0 : Int))) fun
  | .inl y1 =>
    .ret (decide ((y1.1.length : Int) ≤ (30 : Int)), ())
  | .inr y1 =>
    .ret (y1, ())
noncomputable def F113 (x : List I3) : DT (Bool × Unit) := (B113 x).toDT
noncomputable def con113 : Con := ⟨[.one (.val (.sl (yI3)))], [], [.one (.val (.bool))], F113⟩
noncomputable def C113 : Ctx := ⟨tiOf tab, fun t => eqL.contains t, fun g _ => conOf [(111, con111)] g, fun i => match i with | 2 => some L_113_2C | 0 => some L_113_0C | _ => none⟩
theorem cons113 : Cons prog C113 := cons_of _ (allC ⟨ok111, trivial⟩)
theorem L_113_2ok : LoopOk prog C113 [] 81 (nthLoop (nthLoop (bodyOf Tryz.f113) 0).2 0).1 (nthLoop (nthLoop (bodyOf Tryz.f113) 0).2 0).2 :=
  loop_while (l := L_113_2C) ctx cons113 mixed (by kernel_rfl) (loops_all 0 (by kernel_rfl) trivial) (by kernel_rfl) L_113_2G (fun x => by kernel_rfl) (fun _ => rfl)
theorem L_113_0ok : LoopOk prog C113 [] 81 (nthLoop (bodyOf Tryz.f113) 0).1 (nthLoop (bodyOf Tryz.f113) 0).2 :=
  loop_while (l := L_113_0C) ctx cons113 mixed (by kernel_rfl) (loops_all 1 (by kernel_rfl) ⟨trivial, L_113_2ok⟩) (by kernel_rfl) L_113_0G (fun x => by kernel_rfl) (fun _ => rfl)
theorem ok113 : con113.Sound prog 113 :=
  fn_con (C := C113) (fn := Tryz.f113) (code := (bodyOf Tryz.f113)) (n := 81) ctx cons113 mixed (by kernel_rfl) (by kernel_rfl) (by kernel_rfl) con113 (rg := [.tmp 2]) (by kernel_rfl) (by kernel_rfl) (loops_all 1 (by kernel_rfl) ⟨trivial, L_113_0ok⟩) (by kernel_rfl) B113 (fun x => by kernel_rfl) (fun _ => rfl)



/-! 114 spec.AreClaims -/
noncomputable def L_114_2G (x : (List I5) × Int × I5 × Int) : DTB (Rd ((List I5) × Int × I5 × Int) Bool) :=
  .ite (decide (x.2.2.2 < x.2.1)) (
    .ite (x.2.2.1.2.2.2.2 == (3 : Int)) (
      .guard (decide (0 ≤ x.2.2.2 ∧ x.2.2.2 < (x.1.length : Int))) <|
      let e1 : I5 := x.1.getD x.2.2.2.toNat d4
      .ite (e1.2.2.2.2 == (3 : Int)) (
        .guard (decide (0 ≤ x.2.2.2 ∧ x.2.2.2 < (x.1.length : Int))) <|
        let e2 : I5 := x.1.getD x.2.2.2.toNat d4
        .ite (e2.2.2.1 == x.2.2.1.2.2.1) (
          .ret (.ret false)) <|
        .ret (.on (x.1, x.2.1, x.2.2.1, IntKind.i64.wrap (x.2.2.2 + (1 : Int))))) <|
      .ret (.on (x.1, x.2.1, x.2.2.1, IntKind.i64.wrap (x.2.2.2 + (1 : Int))))) <|
    .ret (.on (x.1, x.2.1, x.2.2.1, IntKind.i64.wrap (x.2.2.2 + (1 : Int))))) <|
  .ret (.out x)
noncomputable def L_114_2 (x : (List I5) × Int × I5 × Int) : DT (((List I5) × Int × I5 × Int) ⊕ Bool) := whileT (fun x => (L_114_2G x).toDT) x
noncomputable def L_114_2C : LC := ⟨[(0, .one (.val (.sl (yI5)))), (3, .one (.val (.int .i64))), (4, .box [.val (yI5)]), (5, .one (.val (.int .i64)))], [(2, .one (.val (.bool)))], L_114_2⟩
noncomputable def L_114_0G (x : (List I5) × Int) : DTB (Rd ((List I5) × Int) Bool) :=
  .ite (decide (x.2 < (x.1.length : Int))) (
    .guard (decide (0 ≤ x.2 ∧ x.2 < (x.1.length : Int))) <|
    let e1 : I5 := x.1.getD x.2.toNat d4
    .bnd (F111 (e1.1, (1 : Int), (999 : Int))) fun r1 =>
    .ite (!r1.1) (
      .ret (.ret false)) <|
    .bnd (F111 (e1.2.1, (1 : Int), (999 : Int))) fun r2 =>
    .ite (!r2.1) (
      .ret (.ret false)) <|
    .bnd (F111 (e1.2.2.1, (1 : Int), (999 : Int))) fun r3 =>
    .ite (!r3.1) (
      .ret (.ret false)) <|
    .bnd (F111 (e1.2.2.2.1, (0 : Int), (100000 : Int))) fun r4 =>
    .ite (!r4.1) (
      .ret (.ret false)) <|
    .bnd (F111 (e1.2.2.2.2, (0 : Int), (3 : Int))) fun r5 =>
    .ite (!r5.1) (
      .ret (.ret false)) <|
    .ite (decide (x.2 > (0 : Int))) (
      .guard (decide (0 ≤ IntKind.i64.wrap (x.2 - (1 : Int)) ∧ IntKind.i64.wrap (x.2 - (1 : Int)) < (x.1.length : Int))) <|
      let e2 : I5 := x.1.getD ((IntKind.i64.wrap (x.2 - (1 : Int))).toNat) d4
      .ite (decide (e2.1 ≥ e1.1)) (
        .ret (.ret false)) <|
      .bnd (L_114_2 (x.1, x.2, e1, (0 : Int))) fun
      | .inl y1 =>
        .ret (.on (y1.1, IntKind.i64.wrap (y1.2.1 + (1 : Int))))
      | .inr y1 =>
        .ret (.ret y1)) <|
    .bnd (L_114_2 (x.1, x.2, e1, (0 : Int))) fun
    | .inl y2 =>
      .ret (.on (y2.1, IntKind.i64.wrap (y2.2.1 + (1 : Int))))
    | .inr y2 =>
      .ret (.ret y2)) <|
  .ret (.out x)
noncomputable def L_114_0 (x : (List I5) × Int) : DT (((List I5) × Int) ⊕ Bool) := whileT (fun x => (L_114_0G x).toDT) x
noncomputable def L_114_0C : LC := ⟨[(0, .one (.val (.sl (yI5)))), (3, .one (.val (.int .i64)))], [(2, .one (.val (.bool)))], L_114_0⟩
noncomputable def B114 (x : List I5) : DTB (Bool × Unit) :=
  .bnd (L_114_0 (x, (0 : Int))) fun
  | .inl y1 =>
    .ret (decide ((y1.1.length : Int) ≤ (20 : Int)), ())
  | .inr y1 =>
    .ret (y1, ())
noncomputable def F114 (x : List I5) : DT (Bool × Unit) := (B114 x).toDT
noncomputable def con114 : Con := ⟨[.one (.val (.sl (yI5)))], [], [.one (.val (.bool))], F114⟩
noncomputable def C114 : Ctx := ⟨tiOf tab, fun t => eqL.contains t, fun g _ => conOf [(111, con111)] g, fun i => match i with | 2 => some L_114_2C | 0 => some L_114_0C | _ => none⟩
theorem cons114 : Cons prog C114 := cons_of _ (allC ⟨ok111, trivial⟩)
theorem L_114_2ok : LoopOk prog C114 [] 88 (nthLoop (nthLoop (bodyOf Tryz.f114) 0).2 0).1 (nthLoop (nthLoop (bodyOf Tryz.f114) 0).2 0).2 :=
  loop_while (l := L_114_2C) ctx cons114 mixed (by kernel_rfl) (loops_all 0 (by kernel_rfl) trivial) (by kernel_rfl) L_114_2G (fun x => by kernel_rfl) (fun _ => rfl)
theorem L_114_0ok : LoopOk prog C114 [] 88 (nthLoop (bodyOf Tryz.f114) 0).1 (nthLoop (bodyOf Tryz.f114) 0).2 :=
  loop_while (l := L_114_0C) ctx cons114 mixed (by kernel_rfl) (loops_all 1 (by kernel_rfl) ⟨trivial, L_114_2ok⟩) (by kernel_rfl) L_114_0G (fun x => by kernel_rfl) (fun _ => rfl)
theorem ok114 : con114.Sound prog 114 :=
  fn_con (C := C114) (fn := Tryz.f114) (code := (bodyOf Tryz.f114)) (n := 88) ctx cons114 mixed (by kernel_rfl) (by kernel_rfl) (by kernel_rfl) con114 (rg := [.tmp 2]) (by kernel_rfl) (by kernel_rfl) (loops_all 1 (by kernel_rfl) ⟨trivial, L_114_0ok⟩) (by kernel_rfl) B114 (fun x => by kernel_rfl) (fun _ => rfl)



/-! 420 spec.Mod -/
noncomputable def B420 (x : Int × Int) : DTB (Int × Unit) :=
  .bnd (F111 (x.2, (1 : Int), (1000000000000 : Int))) fun r1 =>
  .ite (!r1.1) (
    .ret ((0 : Int), ())) <|
  .guard (decide (x.2 ≠ 0)) <|
  .guard (decide (x.2 ≠ 0)) <|
  .ret ((IntKind.i64.wrap ((x.1.tmod x.2) + x.2)).tmod x.2, ())
noncomputable def F420 (x : Int × Int) : DT (Int × Unit) := (B420 x).toDT
noncomputable def con420 : Con := ⟨[.one (.val (.int .i64)), .one (.val (.int .i64))], [], [.one (.val (.int .i64))], F420⟩
noncomputable def C420 : Ctx := ⟨tiOf tab, fun t => eqL.contains t, fun g _ => conOf [(111, con111)] g, fun i => match i with | _ => none⟩
theorem cons420 : Cons prog C420 := cons_of _ (allC ⟨ok111, trivial⟩)
theorem ok420 : con420.Sound prog 420 :=
  fn_con (C := C420) (fn := Tryz.f420) (code := (bodyOf Tryz.f420)) (n := 15) ctx cons420 mixed (by kernel_rfl) (by kernel_rfl) (by kernel_rfl) con420 (rg := [.tmp 4]) (by kernel_rfl) (by kernel_rfl) (loops_all 0 (by kernel_rfl) trivial) (by kernel_rfl) B420 (fun x => by kernel_rfl) (fun _ => rfl)



/-! 367 spec.Hash -/
noncomputable def L_367_0G (x : (List Int) × Int × Int) : DTB (Rd ((List Int) × Int × Int) Unit) :=
  .ite (decide (x.2.2 < (x.1.length : Int))) (
    .guard (decide (0 ≤ x.2.2 ∧ x.2.2 < (x.1.length : Int))) <|
    .bnd (F420 (x.1.getD x.2.2.toNat (0 : Int), (2147483647 : Int))) fun r1 =>
    let v1 : Int := IntKind.i64.wrap ((IntKind.i64.wrap (x.2.1 * (1000003 : Int))) + r1.1)
    .ret (.on (x.1, (IntKind.i64.wrap (v1 + (13 : Int))).tmod (2147483647 : Int), IntKind.i64.wrap (x.2.2 + (1 : Int))))) <|
  .ret (.out x)
noncomputable def L_367_0 (x : (List Int) × Int × Int) : DT (((List Int) × Int × Int) ⊕ Unit) := whileT (fun x => (L_367_0G x).toDT) x
noncomputable def L_367_0C : LC := ⟨[(0, .one (.val (.sl (.int .i64)))), (3, .one (.val (.int .i64))), (4, .one (.val (.int .i64)))], [], L_367_0⟩
noncomputable def B367 (x : List Int) : DTB (Int × Unit) :=
  .bnd (L_367_0 (x, (11 : Int), (0 : Int))) fun
  | .inl y1 =>
    .ret (y1.2.1, ())
  | .inr y1 =>
    .fail
noncomputable def F367 (x : List Int) : DT (Int × Unit) := (B367 x).toDT
noncomputable def con367 : Con := ⟨[.one (.val (.sl (.int .i64)))], [], [.one (.val (.int .i64))], F367⟩
noncomputable def C367 : Ctx := ⟨tiOf tab, fun t => eqL.contains t, fun g _ => conOf [(420, con420)] g, fun i => match i with | 0 => some L_367_0C | _ => none⟩
theorem cons367 : Cons prog C367 := cons_of _ (allC ⟨ok420, trivial⟩)
theorem L_367_0ok : LoopOk prog C367 [] 22 (nthLoop (bodyOf Tryz.f367) 0).1 (nthLoop (bodyOf Tryz.f367) 0).2 :=
  loop_while (l := L_367_0C) ctx cons367 mixed (by kernel_rfl) (loops_all 0 (by kernel_rfl) trivial) (by kernel_rfl) L_367_0G (fun x => by kernel_rfl) (fun _ => rfl)
theorem ok367 : con367.Sound prog 367 :=
  fn_con (C := C367) (fn := Tryz.f367) (code := (bodyOf Tryz.f367)) (n := 22) ctx cons367 mixed (by kernel_rfl) (by kernel_rfl) (by kernel_rfl) con367 (rg := [.tmp 2]) (by kernel_rfl) (by kernel_rfl) (loops_all 1 (by kernel_rfl) ⟨trivial, L_367_0ok⟩) (by kernel_rfl) B367 (fun x => by kernel_rfl) (fun _ => rfl)



/-! 254 spec.HandSeal -/
noncomputable def B254 (x : Int × I5) : DTB (Int × Unit) :=
  .bnd (F367 [x.1, x.2.1, x.2.2.1, x.2.2.2.1, x.2.2.2.2.1]) fun r1 =>
  .ret (r1.1, ())
noncomputable def F254 (x : Int × I5) : DT (Int × Unit) := (B254 x).toDT
noncomputable def con254 : Con := ⟨[.one (.val (.int .i64)), .agg [.val (yI5)]], [], [.one (.val (.int .i64))], F254⟩
noncomputable def C254 : Ctx := ⟨tiOf tab, fun t => eqL.contains t, fun g _ => conOf [(367, con367)] g, fun i => match i with | _ => none⟩
theorem cons254 : Cons prog C254 := cons_of _ (allC ⟨ok367, trivial⟩)
theorem ok254 : con254.Sound prog 254 :=
  fn_con (C := C254) (fn := Tryz.f254) (code := (bodyOf Tryz.f254)) (n := 16) ctx cons254 mixed (by kernel_rfl) (by kernel_rfl) (by kernel_rfl) con254 (rg := [.tmp 4]) (by kernel_rfl) (by kernel_rfl) (loops_all 0 (by kernel_rfl) trivial) (by kernel_rfl) B254 (fun x => by kernel_rfl) (fun _ => rfl)



/-! 255 spec.l16Last -/
noncomputable def L_255_0G (x : (List I5) × Int × Int × Int × Int) : DTB (Rd ((List I5) × Int × Int × Int × Int) Unit) :=
  .ite (decide (x.2.2.2.2 < x.2.2.1)) (
    .guard (decide (0 ≤ x.2.2.2.2 ∧ x.2.2.2.2 < (x.1.length : Int))) <|
    let e1 : I5 := x.1.getD x.2.2.2.2.toNat d4
    .ite (e1.1 == x.2.1) (
      .ret (.on (x.1, x.2.1, x.2.2.1, x.2.2.2.2, IntKind.i64.wrap (x.2.2.2.2 + (1 : Int))))) <|
    .ret (.on (x.1, x.2.1, x.2.2.1, x.2.2.2.1, IntKind.i64.wrap (x.2.2.2.2 + (1 : Int))))) <|
  .ret (.out x)
noncomputable def L_255_0 (x : (List I5) × Int × Int × Int × Int) : DT (((List I5) × Int × Int × Int × Int) ⊕ Unit) := whileT (fun x => (L_255_0G x).toDT) x
noncomputable def L_255_0C : LC := ⟨[(0, .one (.val (.sl (yI5)))), (1, .one (.val (.int .i64))), (2, .one (.val (.int .i64))), (7, .one (.val (.int .i64))), (8, .one (.val (.int .i64)))], [], L_255_0⟩
noncomputable def B255 (x : (List I5) × Int × Int) : DTB (Int × Unit) :=
  .bnd (L_255_0 (x.1, x.2.1, x.2.2, (-1 : Int), (0 : Int))) fun
  | .inl y1 =>
    .ret (y1.2.2.2.1, ())
  | .inr y1 =>
    .fail
noncomputable def F255 (x : (List I5) × Int × Int) : DT (Int × Unit) := (B255 x).toDT
noncomputable def con255 : Con := ⟨[.one (.val (.sl (yI5))), .one (.val (.int .i64)), .one (.val (.int .i64))], [], [.one (.val (.int .i64))], F255⟩
noncomputable def C255 : Ctx := ⟨tiOf tab, fun t => eqL.contains t, fun g _ => conOf [] g, fun i => match i with | 0 => some L_255_0C | _ => none⟩
theorem cons255 : Cons prog C255 := cons_of _ (fun _ h => by cases h)
theorem L_255_0ok : LoopOk prog C255 [] 23 (nthLoop (bodyOf Tryz.f255) 0).1 (nthLoop (bodyOf Tryz.f255) 0).2 :=
  loop_while (l := L_255_0C) ctx cons255 mixed (by kernel_rfl) (loops_all 0 (by kernel_rfl) trivial) (by kernel_rfl) L_255_0G (fun x => by kernel_rfl) (fun _ => rfl)
theorem ok255 : con255.Sound prog 255 :=
  fn_con (C := C255) (fn := Tryz.f255) (code := (bodyOf Tryz.f255)) (n := 23) ctx cons255 mixed (by kernel_rfl) (by kernel_rfl) (by kernel_rfl) con255 (rg := [.tmp 6]) (by kernel_rfl) (by kernel_rfl) (loops_all 1 (by kernel_rfl) ⟨trivial, L_255_0ok⟩) (by kernel_rfl) B255 (fun x => by kernel_rfl) (fun _ => rfl)



/-! 115 spec.IsChain -/
noncomputable def L_115_0G (x : (List I5) × Int × Int) : DTB (Rd ((List I5) × Int × Int) Bool) :=
  .ite (decide (x.2.2 < (x.1.length : Int))) (
    .ite (decide ((x.1.length : Int) ≤ (100 : Int))) (
      .guard (decide (0 ≤ x.2.2 ∧ x.2.2 < (x.1.length : Int))) <|
      let e1 : I5 := x.1.getD x.2.2.toNat d4
      .bnd (F254 (x.2.1, e1)) fun r1 =>
      .bnd (F111 (e1.1, (1 : Int), (999 : Int))) fun r2 =>
      .ite (!r2.1) (
        .ret (.ret false)) <|
      .bnd (F111 (e1.2.1, (1 : Int), (5 : Int))) fun r3 =>
      .ite (!r3.1) (
        .ret (.ret false)) <|
      .bnd (F111 (e1.2.2.1, (0 : Int), (999 : Int))) fun r4 =>
      .ite (!r4.1) (
        .ret (.ret false)) <|
      .bnd (F111 (e1.2.2.2.1, (0 : Int), (100000 : Int))) fun r5 =>
      .ite (!r5.1) (
        .ret (.ret false)) <|
      .ite (e1.2.2.2.2 != r1.1) (
        .ret (.ret false)) <|
      .ite (decide (x.2.2 > (0 : Int))) (
        .guard (decide (0 ≤ IntKind.i64.wrap (x.2.2 - (1 : Int)) ∧ IntKind.i64.wrap (x.2.2 - (1 : Int)) < (x.1.length : Int))) <|
        let e2 : I5 := x.1.getD ((IntKind.i64.wrap (x.2.2 - (1 : Int))).toNat) d4
        .ite (decide (e2.2.2.2.1 > e1.2.2.2.1)) (
          .ret (.ret false)) <|
        .bnd (F255 (x.1, e1.1, x.2.2)) fun r6 =>
        .ite (decide (r6.1 < (0 : Int))) (
          .ite (decide (e1.2.1 > (2 : Int))) (
            .ret (.ret false)) <|
          .ite (decide (r6.1 ≥ (0 : Int))) (
            .ite (e1.2.1 == (1 : Int)) (
              .ret (.ret false)) <|
            .guard (decide (0 ≤ r6.1 ∧ r6.1 < (x.1.length : Int))) <|
            let e3 : I5 := x.1.getD r6.1.toNat d4
            .ite (decide (e3.2.1 ≥ (3 : Int))) (
              .ret (.ret false)) <|
            .ret (.on (x.1, r1.1, IntKind.i64.wrap (x.2.2 + (1 : Int))))) <|
          .ret (.on (x.1, r1.1, IntKind.i64.wrap (x.2.2 + (1 : Int))))) <|
        .ite (decide (r6.1 ≥ (0 : Int))) (
          .ite (e1.2.1 == (1 : Int)) (
            .ret (.ret false)) <|
          .guard (decide (0 ≤ r6.1 ∧ r6.1 < (x.1.length : Int))) <|
          let e4 : I5 := x.1.getD r6.1.toNat d4
          .ite (decide (e4.2.1 ≥ (3 : Int))) (
            .ret (.ret false)) <|
          .ret (.on (x.1, r1.1, IntKind.i64.wrap (x.2.2 + (1 : Int))))) <|
        .ret (.on (x.1, r1.1, IntKind.i64.wrap (x.2.2 + (1 : Int))))) <|
      .bnd (F255 (x.1, e1.1, x.2.2)) fun r7 =>
      .ite (decide (r7.1 < (0 : Int))) (
        .ite (decide (e1.2.1 > (2 : Int))) (
          .ret (.ret false)) <|
        .ite (decide (r7.1 ≥ (0 : Int))) (
          .ite (e1.2.1 == (1 : Int)) (
            .ret (.ret false)) <|
          .guard (decide (0 ≤ r7.1 ∧ r7.1 < (x.1.length : Int))) <|
          let e5 : I5 := x.1.getD r7.1.toNat d4
          .ite (decide (e5.2.1 ≥ (3 : Int))) (
            .ret (.ret false)) <|
          .ret (.on (x.1, r1.1, IntKind.i64.wrap (x.2.2 + (1 : Int))))) <|
        .ret (.on (x.1, r1.1, IntKind.i64.wrap (x.2.2 + (1 : Int))))) <|
      .ite (decide (r7.1 ≥ (0 : Int))) (
        .ite (e1.2.1 == (1 : Int)) (
          .ret (.ret false)) <|
        .guard (decide (0 ≤ r7.1 ∧ r7.1 < (x.1.length : Int))) <|
        let e6 : I5 := x.1.getD r7.1.toNat d4
        .ite (decide (e6.2.1 ≥ (3 : Int))) (
          .ret (.ret false)) <|
        .ret (.on (x.1, r1.1, IntKind.i64.wrap (x.2.2 + (1 : Int))))) <|
      .ret (.on (x.1, r1.1, IntKind.i64.wrap (x.2.2 + (1 : Int))))) <|
    .ret (.out x)) <|
  .ret (.out x)
noncomputable def L_115_0 (x : (List I5) × Int × Int) : DT (((List I5) × Int × Int) ⊕ Bool) := whileT (fun x => (L_115_0G x).toDT) x
noncomputable def L_115_0C : LC := ⟨[(0, .one (.val (.sl (yI5)))), (3, .one (.val (.int .i64))), (4, .one (.val (.int .i64)))], [(2, .one (.val (.bool)))], L_115_0⟩
noncomputable def B115 (x : List I5) : DTB (Bool × Unit) :=
  .bnd (L_115_0 (x, (0 : Int), (0 : Int))) fun
  | .inl y1 =>
    .ret (decide ((y1.1.length : Int) ≤ (100 : Int)), ())
  | .inr y1 =>
    .ret (y1, ())
noncomputable def F115 (x : List I5) : DT (Bool × Unit) := (B115 x).toDT
noncomputable def con115 : Con := ⟨[.one (.val (.sl (yI5)))], [], [.one (.val (.bool))], F115⟩
noncomputable def C115 : Ctx := ⟨tiOf tab, fun t => eqL.contains t, fun g _ => conOf [(111, con111), (254, con254), (255, con255)] g, fun i => match i with | 0 => some L_115_0C | _ => none⟩
theorem cons115 : Cons prog C115 := cons_of _ (allC ⟨ok111, ok254, ok255, trivial⟩)
theorem L_115_0ok : LoopOk prog C115 [] 100 (nthLoop (bodyOf Tryz.f115) 0).1 (nthLoop (bodyOf Tryz.f115) 0).2 :=
  loop_while (l := L_115_0C) ctx cons115 mixed (by kernel_rfl) (loops_all 0 (by kernel_rfl) trivial) (by kernel_rfl) L_115_0G (fun x => by kernel_rfl) (fun _ => rfl)
theorem ok115 : con115.Sound prog 115 :=
  fn_con (C := C115) (fn := Tryz.f115) (code := (bodyOf Tryz.f115)) (n := 100) ctx cons115 mixed (by kernel_rfl) (by kernel_rfl) (by kernel_rfl) con115 (rg := [.tmp 2]) (by kernel_rfl) (by kernel_rfl) (loops_all 1 (by kernel_rfl) ⟨trivial, L_115_0ok⟩) (by kernel_rfl) B115 (fun x => by kernel_rfl) (fun _ => rfl)



/-! 116 spec.AreEntries -/
noncomputable def L_116_0G (x : (List I4) × Int) : DTB (Rd ((List I4) × Int) Bool) :=
  .ite (decide (x.2 < (x.1.length : Int))) (
    .guard (decide (0 ≤ x.2 ∧ x.2 < (x.1.length : Int))) <|
    let e1 : I4 := x.1.getD x.2.toNat d5
    .bnd (F111 (e1.1, (0 : Int), (999 : Int))) fun r1 =>
    .ite (!r1.1) (
      .ret (.ret false)) <|
    .bnd (F111 (e1.2.1, (0 : Int), (999 : Int))) fun r2 =>
    .ite (!r2.1) (
      .ret (.ret false)) <|
    .ite (e1.1 == e1.2.1) (
      .ret (.ret false)) <|
    .bnd (F111 (e1.2.2.1, (1 : Int), (10000000 : Int))) fun r3 =>
    .ite (!r3.1) (
      .ret (.ret false)) <|
    .bnd (F111 (e1.2.2.2, (0 : Int), (100000 : Int))) fun r4 =>
    .ite (!r4.1) (
      .ret (.ret false)) <|
    .ite (decide (x.2 > (0 : Int))) (
      .guard (decide (0 ≤ IntKind.i64.wrap (x.2 - (1 : Int)) ∧ IntKind.i64.wrap (x.2 - (1 : Int)) < (x.1.length : Int))) <|
      let e2 : I4 := x.1.getD ((IntKind.i64.wrap (x.2 - (1 : Int))).toNat) d5
      .ite (decide (e2.2.2.2 > e1.2.2.2)) (
        .ret (.ret false)) <|
      .ret (.on (x.1, IntKind.i64.wrap (x.2 + (1 : Int))))) <|
    .ret (.on (x.1, IntKind.i64.wrap (x.2 + (1 : Int))))) <|
  .ret (.out x)
noncomputable def L_116_0 (x : (List I4) × Int) : DT (((List I4) × Int) ⊕ Bool) := whileT (fun x => (L_116_0G x).toDT) x
noncomputable def L_116_0C : LC := ⟨[(0, .one (.val (.sl (yI4)))), (3, .one (.val (.int .i64)))], [(2, .one (.val (.bool)))], L_116_0⟩
noncomputable def B116 (x : List I4) : DTB (Bool × Unit) :=
  .bnd (L_116_0 (x, (0 : Int))) fun
  | .inl y1 =>
    .ret (decide ((y1.1.length : Int) ≤ (100 : Int)), ())
  | .inr y1 =>
    .ret (y1, ())
noncomputable def F116 (x : List I4) : DT (Bool × Unit) := (B116 x).toDT
noncomputable def con116 : Con := ⟨[.one (.val (.sl (yI4)))], [], [.one (.val (.bool))], F116⟩
noncomputable def C116 : Ctx := ⟨tiOf tab, fun t => eqL.contains t, fun g _ => conOf [(111, con111)] g, fun i => match i with | 0 => some L_116_0C | _ => none⟩
theorem cons116 : Cons prog C116 := cons_of _ (allC ⟨ok111, trivial⟩)
theorem L_116_0ok : LoopOk prog C116 [] 62 (nthLoop (bodyOf Tryz.f116) 0).1 (nthLoop (bodyOf Tryz.f116) 0).2 :=
  loop_while (l := L_116_0C) ctx cons116 mixed (by kernel_rfl) (loops_all 0 (by kernel_rfl) trivial) (by kernel_rfl) L_116_0G (fun x => by kernel_rfl) (fun _ => rfl)
theorem ok116 : con116.Sound prog 116 :=
  fn_con (C := C116) (fn := Tryz.f116) (code := (bodyOf Tryz.f116)) (n := 62) ctx cons116 mixed (by kernel_rfl) (by kernel_rfl) (by kernel_rfl) con116 (rg := [.tmp 2]) (by kernel_rfl) (by kernel_rfl) (loops_all 1 (by kernel_rfl) ⟨trivial, L_116_0ok⟩) (by kernel_rfl) B116 (fun x => by kernel_rfl) (fun _ => rfl)



/-! 368 spec.l9Put -/
noncomputable def L_368_0G (x : (List Int) × Int × Int) : DTB (Rd ((List Int) × Int × Int) Unit) :=
  .ite (decide (x.2.2 < (x.1.length : Int))) (
    .guard (decide (0 ≤ x.2.2 ∧ x.2.2 < (x.1.length : Int))) <|
    .ite (decide ((x.1.getD x.2.2.toNat (0 : Int)) < x.2.1)) (
      .ret (.on (x.1, x.2.1, IntKind.i64.wrap (x.2.2 + (1 : Int))))) <|
    .ret (.out x)) <|
  .ret (.out x)
noncomputable def L_368_0 (x : (List Int) × Int × Int) : DT (((List Int) × Int × Int) ⊕ Unit) := whileT (fun x => (L_368_0G x).toDT) x
noncomputable def L_368_0C : LC := ⟨[(0, .one (.val (.sl (.int .i64)))), (1, .one (.val (.int .i64))), (5, .one (.val (.int .i64)))], [], L_368_0⟩
noncomputable def B368 (x : (List Int) × Int) : DTB ((List Int) × Unit) :=
  .bnd (L_368_0 (x.1, x.2, (0 : Int))) fun
  | .inl y1 =>
    .ite (decide (y1.2.2 < (y1.1.length : Int))) (
      .guard (decide (0 ≤ y1.2.2 ∧ y1.2.2 < (y1.1.length : Int))) <|
      .ite ((y1.1.getD y1.2.2.toNat (0 : Int)) == y1.2.1) (
        .guard (decide ((([] : List Int).length + y1.1.length) * 8 ≤ 140737488355328)) <|
        .ret (([] : List Int) ++ y1.1, ())) <|
      .guard (decide (0 ≤ (0 : Int) ∧ (0 : Int) ≤ y1.2.2 ∧ y1.2.2 ≤ (y1.1.length : Int))) <|
      .guard (decide ((([] : List Int).length + ((y1.1.take y1.2.2.toNat).drop (0 : Int).toNat).length) * 8 ≤ 140737488355328)) <|
      let l1 : List Int := ([] : List Int) ++ ((y1.1.take y1.2.2.toNat).drop (0 : Int).toNat)
      .guard (decide ((l1.length + [y1.2.1].length) * 8 ≤ 140737488355328)) <|
      .guard (decide (0 ≤ y1.2.2 ∧ y1.2.2 ≤ (y1.1.length : Int) ∧ (y1.1.length : Int) ≤ (y1.1.length : Int))) <|
      .guard (decide (((l1 ++ [y1.2.1]).length + ((y1.1.take (y1.1.length : Int).toNat).drop y1.2.2.toNat).length) * 8 ≤ 140737488355328)) <|
      let l2 : List Int := (l1 ++ [y1.2.1]) ++ ((y1.1.take (y1.1.length : Int).toNat).drop y1.2.2.toNat)
      .ret (l2, ())) <|
    .guard (decide (0 ≤ (0 : Int) ∧ (0 : Int) ≤ y1.2.2 ∧ y1.2.2 ≤ (y1.1.length : Int))) <|
    .guard (decide ((([] : List Int).length + ((y1.1.take y1.2.2.toNat).drop (0 : Int).toNat).length) * 8 ≤ 140737488355328)) <|
    let l3 : List Int := ([] : List Int) ++ ((y1.1.take y1.2.2.toNat).drop (0 : Int).toNat)
    .guard (decide ((l3.length + [y1.2.1].length) * 8 ≤ 140737488355328)) <|
    .guard (decide (0 ≤ y1.2.2 ∧ y1.2.2 ≤ (y1.1.length : Int) ∧ (y1.1.length : Int) ≤ (y1.1.length : Int))) <|
    .guard (decide (((l3 ++ [y1.2.1]).length + ((y1.1.take (y1.1.length : Int).toNat).drop y1.2.2.toNat).length) * 8 ≤ 140737488355328)) <|
    let l4 : List Int := (l3 ++ [y1.2.1]) ++ ((y1.1.take (y1.1.length : Int).toNat).drop y1.2.2.toNat)
    .ret (l4, ())
  | .inr y1 =>
    .fail
noncomputable def F368 (x : (List Int) × Int) : DT ((List Int) × Unit) := (B368 x).toDT
noncomputable def con368 : Con := ⟨[.one (.val (.sl (.int .i64))), .one (.val (.int .i64))], [], [.one (.own (.int .i64))], F368⟩
noncomputable def C368 : Ctx := ⟨tiOf tab, fun t => eqL.contains t, fun g _ => conOf [] g, fun i => match i with | 0 => some L_368_0C | _ => none⟩
theorem cons368 : Cons prog C368 := cons_of _ (fun _ h => by cases h)
theorem L_368_0ok : LoopOk prog C368 [] 47 (nthLoop (bodyOf Tryz.f368) 0).1 (nthLoop (bodyOf Tryz.f368) 0).2 :=
  loop_while (l := L_368_0C) ctx cons368 mixed (by kernel_rfl) (loops_all 0 (by kernel_rfl) trivial) (by kernel_rfl) L_368_0G (fun x => by kernel_rfl) (fun _ => rfl)
theorem ok368 : con368.Sound prog 368 :=
  fn_con (C := C368) (fn := Tryz.f368) (code := (bodyOf Tryz.f368)) (n := 47) ctx cons368 mixed (by kernel_rfl) (by kernel_rfl) (by kernel_rfl) con368 (rg := [.tmp 4]) (by kernel_rfl) (by kernel_rfl) (loops_all 1 (by kernel_rfl) ⟨trivial, L_368_0ok⟩) (by kernel_rfl) B368 (fun x => by kernel_rfl) (fun _ => rfl)



/-! 256 spec.InHouse -/
noncomputable def L_256_0G (x : (List I5) × Int × (List Int) × Int) : DTB (Rd ((List I5) × Int × (List Int) × Int) Unit) :=
  .ite (decide (x.2.2.2 < (x.1.length : Int))) (
    .bnd (F115 x.1) fun r1 =>
    .ite (r1.1) (
      .guard (decide (0 ≤ x.2.2.2 ∧ x.2.2.2 < (x.1.length : Int))) <|
      let e1 : I5 := x.1.getD x.2.2.2.toNat d4
      .bnd (F255 (x.1, e1.1, (x.1.length : Int))) fun r2 =>
      .guard (decide (0 ≤ r2.1 ∧ r2.1 < (x.1.length : Int))) <|
      let e2 : I5 := x.1.getD r2.1.toNat d4
      .ite (e2.2.1 == (2 : Int)) (
        .guard (decide (0 ≤ r2.1 ∧ r2.1 < (x.1.length : Int))) <|
        let e3 : I5 := x.1.getD r2.1.toNat d4
        .ite (e3.2.2.1 == x.2.1) (
          .guard (decide (0 ≤ x.2.2.2 ∧ x.2.2.2 < (x.1.length : Int))) <|
          let e4 : I5 := x.1.getD x.2.2.2.toNat d4
          .bnd (F368 (x.2.2.1, e4.1)) fun r3 =>
          .ret (.on (x.1, x.2.1, r3.1, IntKind.i64.wrap (x.2.2.2 + (1 : Int))))) <|
        .ret (.on (x.1, x.2.1, x.2.2.1, IntKind.i64.wrap (x.2.2.2 + (1 : Int))))) <|
      .ret (.on (x.1, x.2.1, x.2.2.1, IntKind.i64.wrap (x.2.2.2 + (1 : Int))))) <|
    .ret (.out x)) <|
  .ret (.out x)
noncomputable def L_256_0 (x : (List I5) × Int × (List Int) × Int) : DT (((List I5) × Int × (List Int) × Int) ⊕ Unit) := whileT (fun x => (L_256_0G x).toDT) x
noncomputable def L_256_0C : LC := ⟨[(0, .one (.val (.sl (yI5)))), (1, .one (.val (.int .i64))), (5, .one (.own (.int .i64))), (6, .one (.val (.int .i64)))], [], L_256_0⟩
noncomputable def B256 (x : (List I5) × Int) : DTB ((List Int) × Unit) :=
  .bnd (L_256_0 (x.1, x.2, ([] : List Int), (0 : Int))) fun
  | .inl y1 =>
    .ret (y1.2.2.1, ())
  | .inr y1 =>
    .fail
noncomputable def F256 (x : (List I5) × Int) : DT ((List Int) × Unit) := (B256 x).toDT
noncomputable def con256 : Con := ⟨[.one (.val (.sl (yI5))), .one (.val (.int .i64))], [], [.one (.own (.int .i64))], F256⟩
noncomputable def C256 : Ctx := ⟨tiOf tab, fun t => eqL.contains t, fun g _ => conOf [(115, con115), (255, con255), (368, con368)] g, fun i => match i with | 0 => some L_256_0C | _ => none⟩
theorem cons256 : Cons prog C256 := cons_of _ (allC ⟨ok115, ok255, ok368, trivial⟩)
theorem L_256_0ok : LoopOk prog C256 [] 51 (nthLoop (bodyOf Tryz.f256) 0).1 (nthLoop (bodyOf Tryz.f256) 0).2 :=
  loop_while (l := L_256_0C) ctx cons256 mixed (by kernel_rfl) (loops_all 0 (by kernel_rfl) trivial) (by kernel_rfl) L_256_0G (fun x => by kernel_rfl) (fun _ => rfl)
theorem ok256 : con256.Sound prog 256 :=
  fn_con (C := C256) (fn := Tryz.f256) (code := (bodyOf Tryz.f256)) (n := 51) ctx cons256 mixed (by kernel_rfl) (by kernel_rfl) (by kernel_rfl) con256 (rg := [.tmp 4]) (by kernel_rfl) (by kernel_rfl) (loops_all 1 (by kernel_rfl) ⟨trivial, L_256_0ok⟩) (by kernel_rfl) B256 (fun x => by kernel_rfl) (fun _ => rfl)



/-! 257 spec.FindThing -/
noncomputable def L_257_0G (x : (List TFind) × Int × Int) : DTB (Rd ((List TFind) × Int × Int) Int) :=
  .ite (decide (x.2.2 < (x.1.length : Int))) (
    .guard (decide (0 ≤ x.2.2 ∧ x.2.2 < (x.1.length : Int))) <|
    let e1 : TFind := x.1.getD x.2.2.toNat d1
    .ite (e1.1.1 == x.2.1) (
      .ret (.ret x.2.2)) <|
    .ret (.on (x.1, x.2.1, IntKind.i64.wrap (x.2.2 + (1 : Int))))) <|
  .ret (.out x)
noncomputable def L_257_0 (x : (List TFind) × Int × Int) : DT (((List TFind) × Int × Int) ⊕ Int) := whileT (fun x => (L_257_0G x).toDT) x
noncomputable def L_257_0C : LC := ⟨[(0, .one (.val (.sl (yTFind)))), (1, .one (.val (.int .i64))), (5, .one (.val (.int .i64)))], [(4, .one (.val (.int .i64)))], L_257_0⟩
noncomputable def B257 (x : (List TFind) × Int) : DTB (Int × Unit) :=
  .bnd (L_257_0 (x.1, x.2, (0 : Int))) fun
  | .inl y1 =>
    .ret ((-1 : Int), ())
  | .inr y1 =>
    .ret (y1, ())
noncomputable def F257 (x : (List TFind) × Int) : DT (Int × Unit) := (B257 x).toDT
noncomputable def con257 : Con := ⟨[.one (.val (.sl (yTFind))), .one (.val (.int .i64))], [], [.one (.val (.int .i64))], F257⟩
noncomputable def C257 : Ctx := ⟨tiOf tab, fun t => eqL.contains t, fun g _ => conOf [] g, fun i => match i with | 0 => some L_257_0C | _ => none⟩
theorem cons257 : Cons prog C257 := cons_of _ (fun _ h => by cases h)
theorem L_257_0ok : LoopOk prog C257 [] 21 (nthLoop (bodyOf Tryz.f257) 0).1 (nthLoop (bodyOf Tryz.f257) 0).2 :=
  loop_while (l := L_257_0C) ctx cons257 mixed (by kernel_rfl) (loops_all 0 (by kernel_rfl) trivial) (by kernel_rfl) L_257_0G (fun x => by kernel_rfl) (fun _ => rfl)
theorem ok257 : con257.Sound prog 257 :=
  fn_con (C := C257) (fn := Tryz.f257) (code := (bodyOf Tryz.f257)) (n := 21) ctx cons257 mixed (by kernel_rfl) (by kernel_rfl) (by kernel_rfl) con257 (rg := [.tmp 4]) (by kernel_rfl) (by kernel_rfl) (loops_all 1 (by kernel_rfl) ⟨trivial, L_257_0ok⟩) (by kernel_rfl) B257 (fun x => by kernel_rfl) (fun _ => rfl)



/-! 258 spec.SlotOf -/
noncomputable def L_258_0G (x : (List I3) × Int × Int) : DTB (Rd ((List I3) × Int × Int) Int) :=
  .ite (decide (x.2.2 < (x.1.length : Int))) (
    .ite (x.2.1 != (0 : Int)) (
      .guard (decide (0 ≤ x.2.2 ∧ x.2.2 < (x.1.length : Int))) <|
      let e1 : I3 := x.1.getD x.2.2.toNat d3
      .ite (e1.2.2 == x.2.1) (
        .guard (decide (0 ≤ x.2.2 ∧ x.2.2 < (x.1.length : Int))) <|
        let e2 : I3 := x.1.getD x.2.2.toNat d3
        .ret (.ret e2.1)) <|
      .ret (.on (x.1, x.2.1, IntKind.i64.wrap (x.2.2 + (1 : Int))))) <|
    .ret (.on (x.1, x.2.1, IntKind.i64.wrap (x.2.2 + (1 : Int))))) <|
  .ret (.out x)
noncomputable def L_258_0 (x : (List I3) × Int × Int) : DT (((List I3) × Int × Int) ⊕ Int) := whileT (fun x => (L_258_0G x).toDT) x
noncomputable def L_258_0C : LC := ⟨[(0, .one (.val (.sl (yI3)))), (1, .one (.val (.int .i64))), (5, .one (.val (.int .i64)))], [(4, .one (.val (.int .i64)))], L_258_0⟩
noncomputable def B258 (x : (List I3) × Int) : DTB (Int × Unit) :=
  .bnd (L_258_0 (x.1, x.2, (0 : Int))) fun
  | .inl y1 =>
    .ret ((0 : Int), ())
  | .inr y1 =>
    .ret (y1, ())
noncomputable def F258 (x : (List I3) × Int) : DT (Int × Unit) := (B258 x).toDT
noncomputable def con258 : Con := ⟨[.one (.val (.sl (yI3))), .one (.val (.int .i64))], [], [.one (.val (.int .i64))], F258⟩
noncomputable def C258 : Ctx := ⟨tiOf tab, fun t => eqL.contains t, fun g _ => conOf [] g, fun i => match i with | 0 => some L_258_0C | _ => none⟩
theorem cons258 : Cons prog C258 := cons_of _ (fun _ h => by cases h)
theorem L_258_0ok : LoopOk prog C258 [] 28 (nthLoop (bodyOf Tryz.f258) 0).1 (nthLoop (bodyOf Tryz.f258) 0).2 :=
  loop_while (l := L_258_0C) ctx cons258 mixed (by kernel_rfl) (loops_all 0 (by kernel_rfl) trivial) (by kernel_rfl) L_258_0G (fun x => by kernel_rfl) (fun _ => rfl)
theorem ok258 : con258.Sound prog 258 :=
  fn_con (C := C258) (fn := Tryz.f258) (code := (bodyOf Tryz.f258)) (n := 28) ctx cons258 mixed (by kernel_rfl) (by kernel_rfl) (by kernel_rfl) con258 (rg := [.tmp 4]) (by kernel_rfl) (by kernel_rfl) (loops_all 1 (by kernel_rfl) ⟨trivial, L_258_0ok⟩) (by kernel_rfl) B258 (fun x => by kernel_rfl) (fun _ => rfl)



/-! 259 spec.l8Has -/
noncomputable def L_259_0G (x : (List Int) × Int × Int) : DTB (Rd ((List Int) × Int × Int) Bool) :=
  .ite (decide (x.2.2 < (x.1.length : Int))) (
    .guard (decide (0 ≤ x.2.2 ∧ x.2.2 < (x.1.length : Int))) <|
    .ite ((x.1.getD x.2.2.toNat (0 : Int)) == x.2.1) (
      .ret (.ret true)) <|
    .ret (.on (x.1, x.2.1, IntKind.i64.wrap (x.2.2 + (1 : Int))))) <|
  .ret (.out x)
noncomputable def L_259_0 (x : (List Int) × Int × Int) : DT (((List Int) × Int × Int) ⊕ Bool) := whileT (fun x => (L_259_0G x).toDT) x
noncomputable def L_259_0C : LC := ⟨[(0, .one (.val (.sl (.int .i64)))), (1, .one (.val (.int .i64))), (5, .one (.val (.int .i64)))], [(4, .one (.val (.bool)))], L_259_0⟩
noncomputable def B259 (x : (List Int) × Int) : DTB (Bool × Unit) :=
  .bnd (L_259_0 (x.1, x.2, (0 : Int))) fun
  | .inl y1 =>
    .ret (false, ())
  | .inr y1 =>
    .ret (y1, ())
noncomputable def F259 (x : (List Int) × Int) : DT (Bool × Unit) := (B259 x).toDT
noncomputable def con259 : Con := ⟨[.one (.val (.sl (.int .i64))), .one (.val (.int .i64))], [], [.one (.val (.bool))], F259⟩
noncomputable def C259 : Ctx := ⟨tiOf tab, fun t => eqL.contains t, fun g _ => conOf [] g, fun i => match i with | 0 => some L_259_0C | _ => none⟩
theorem cons259 : Cons prog C259 := cons_of _ (fun _ h => by cases h)
theorem L_259_0ok : LoopOk prog C259 [] 18 (nthLoop (bodyOf Tryz.f259) 0).1 (nthLoop (bodyOf Tryz.f259) 0).2 :=
  loop_while (l := L_259_0C) ctx cons259 mixed (by kernel_rfl) (loops_all 0 (by kernel_rfl) trivial) (by kernel_rfl) L_259_0G (fun x => by kernel_rfl) (fun _ => rfl)
theorem ok259 : con259.Sound prog 259 :=
  fn_con (C := C259) (fn := Tryz.f259) (code := (bodyOf Tryz.f259)) (n := 18) ctx cons259 mixed (by kernel_rfl) (by kernel_rfl) (by kernel_rfl) con259 (rg := [.tmp 4]) (by kernel_rfl) (by kernel_rfl) (loops_all 1 (by kernel_rfl) ⟨trivial, L_259_0ok⟩) (by kernel_rfl) B259 (fun x => by kernel_rfl) (fun _ => rfl)

/-! 117 spec.l33Things -/
noncomputable def L_117_0G (x : THouse × (List Int) × Int) : DTB (Rd (THouse × (List Int) × Int) Bool) :=
  .ite (decide (x.2.2 < (x.2.1.length : Int))) (
    .guard (decide (0 ≤ x.2.2 ∧ x.2.2 < (x.2.1.length : Int))) <|
    .bnd (F257 (x.1.2.1, x.2.1.getD x.2.2.toNat (0 : Int))) fun r1 =>
    .ite (decide (r1.1 < (0 : Int))) (
      .ret (.ret false)) <|
    .ret (.on (x.1, x.2.1, IntKind.i64.wrap (x.2.2 + (1 : Int))))) <|
  .ret (.out x)
noncomputable def L_117_0 (x : THouse × (List Int) × Int) : DT ((THouse × (List Int) × Int) ⊕ Bool) := whileT (fun x => (L_117_0G x).toDT) x
noncomputable def L_117_0C : LC := ⟨[(1, .box [.val (yTHouse)]), (3, .one (.own (.int .i64))), (4, .one (.val (.int .i64)))], [(2, .one (.val (.bool)))], L_117_0⟩
noncomputable def L_117_2G (x : THouse × (List Int) × Int) : DTB (Rd (THouse × (List Int) × Int) Bool) :=
  .ite (decide (x.2.2 < (x.1.2.1.length : Int))) (
    .guard (decide (0 ≤ x.2.2 ∧ x.2.2 < (x.1.2.1.length : Int))) <|
    let e1 : TFind := x.1.2.1.getD x.2.2.toNat d1
    .guard (decide (0 ≤ x.2.2 ∧ x.2.2 < (x.1.2.2.1.length : Int))) <|
    let e2 : TSecret := x.1.2.2.1.getD x.2.2.toNat d0
    .ite (e2.1 != e1.1.1) (
      .ret (.ret false)) <|
    .bnd (F258 (x.1.2.2.2.1, e1.1.1)) fun r1 =>
    .bnd (F259 (x.2.1, e1.1.1)) fun r2 =>
    .ite (!((r1.1 != (0 : Int)) == r2.1)) (
      .ret (.ret false)) <|
    .guard (decide (0 ≤ x.2.2 ∧ x.2.2 < (x.1.2.1.length : Int))) <|
    let e3 : TFind := x.1.2.1.getD x.2.2.toNat d1
    .ite (decide (e3.2.2.1 > x.1.2.2.2.2.2.2.2.2)) (
      .ret (.ret false)) <|
    .ret (.on (x.1, x.2.1, IntKind.i64.wrap (x.2.2 + (1 : Int))))) <|
  .ret (.out x)
noncomputable def L_117_2 (x : THouse × (List Int) × Int) : DT ((THouse × (List Int) × Int) ⊕ Bool) := whileT (fun x => (L_117_2G x).toDT) x
noncomputable def L_117_2C : LC := ⟨[(1, .box [.val (yTHouse)]), (3, .one (.own (.int .i64))), (5, .one (.val (.int .i64)))], [(2, .one (.val (.bool)))], L_117_2⟩
noncomputable def L_117_4G (x : THouse × Int) : DTB (Rd (THouse × Int) Bool) :=
  .ite (decide (x.2 < (x.1.2.2.2.1.length : Int))) (
    .guard (decide (0 ≤ x.2 ∧ x.2 < (x.1.2.2.2.1.length : Int))) <|
    let e1 : I3 := x.1.2.2.2.1.getD x.2.toNat d3
    .ite (e1.2.2 != (0 : Int)) (
      .guard (decide (0 ≤ x.2 ∧ x.2 < (x.1.2.2.2.1.length : Int))) <|
      let e2 : I3 := x.1.2.2.2.1.getD x.2.toNat d3
      .bnd (F257 (x.1.2.1, e2.2.2)) fun r1 =>
      .ite (decide (r1.1 < (0 : Int))) (
        .ret (.ret false)) <|
      .ret (.on (x.1, IntKind.i64.wrap (x.2 + (1 : Int))))) <|
    .ret (.on (x.1, IntKind.i64.wrap (x.2 + (1 : Int))))) <|
  .ret (.out x)
noncomputable def L_117_4 (x : THouse × Int) : DT ((THouse × Int) ⊕ Bool) := whileT (fun x => (L_117_4G x).toDT) x
noncomputable def L_117_4C : LC := ⟨[(1, .box [.val (yTHouse)]), (7, .one (.val (.int .i64)))], [(2, .one (.val (.bool)))], L_117_4⟩
noncomputable def B117 (x : THouse) : DTB (Bool × Unit) :=
  .ite ((x.2.2.1.length : Int) != (x.2.1.length : Int)) (
    .ret (false, ())) <|
  .bnd (F256 (x.2.2.2.2.2.2.1, x.1)) fun r1 =>
  .bnd (L_117_0 (x, r1.1, (0 : Int))) fun
  | .inl y1 =>
    .bnd (L_117_2 (y1.1, y1.2.1, (0 : Int))) fun
    | .inl y2 =>
      .bnd (L_117_4 (y2.1, (0 : Int))) fun
      | .inl y3 =>
        .ret (true, ())
      | .inr y3 =>
        .ret (y3, ())
    | .inr y2 =>
      .ret (y2, ())
  | .inr y1 =>
    .ret (y1, ())
noncomputable def F117 (x : THouse) : DT (Bool × Unit) := (B117 x).toDT
noncomputable def con117 : Con := ⟨[.agg [.val (yTHouse)]], [], [.one (.val (.bool))], F117⟩
noncomputable def C117 : Ctx := ⟨tiOf tab, fun t => eqL.contains t, fun g _ => conOf [(256, con256), (257, con257), (258, con258), (259, con259)] g, fun i => match i with | 0 => some L_117_0C | 2 => some L_117_2C | 4 => some L_117_4C | _ => none⟩
theorem cons117 : Cons prog C117 := cons_of _ (allC ⟨ok256, ok257, ok258, ok259, trivial⟩)
theorem L_117_0ok : LoopOk prog C117 [] 104 (nthLoop (bodyOf Tryz.f117) 0).1 (nthLoop (bodyOf Tryz.f117) 0).2 :=
  loop_while (l := L_117_0C) ctx cons117 mixed (by kernel_rfl) (loops_all 0 (by kernel_rfl) trivial) (by kernel_rfl) L_117_0G (fun x => by kernel_rfl) (fun _ => rfl)
theorem L_117_2ok : LoopOk prog C117 [] 104 (nthLoop (bodyOf Tryz.f117) 1).1 (nthLoop (bodyOf Tryz.f117) 1).2 :=
  loop_while (l := L_117_2C) ctx cons117 mixed (by kernel_rfl) (loops_all 0 (by kernel_rfl) trivial) (by kernel_rfl) L_117_2G (fun x => by kernel_rfl) (fun _ => rfl)
theorem L_117_4ok : LoopOk prog C117 [] 104 (nthLoop (bodyOf Tryz.f117) 2).1 (nthLoop (bodyOf Tryz.f117) 2).2 :=
  loop_while (l := L_117_4C) ctx cons117 mixed (by kernel_rfl) (loops_all 0 (by kernel_rfl) trivial) (by kernel_rfl) L_117_4G (fun x => by kernel_rfl) (fun _ => rfl)
theorem ok117 : con117.Sound prog 117 :=
  fn_con (C := C117) (fn := Tryz.f117) (code := (bodyOf Tryz.f117)) (n := 104) ctx cons117 mixed (by kernel_rfl) (by kernel_rfl) (by kernel_rfl) con117 (rg := [.tmp 2]) (by kernel_rfl) (by kernel_rfl) (loops_all 3 (by kernel_rfl) ⟨⟨⟨trivial, L_117_0ok⟩, L_117_2ok⟩, L_117_4ok⟩) (by kernel_rfl) B117 (fun x => by kernel_rfl) (fun _ => rfl)



/-! 260 spec.IsTrial -/
noncomputable def B260 (x : I4) : DTB (Bool × Unit) :=
  .bnd (F111 (x.1, (1 : Int), (999 : Int))) fun r1 =>
  .ite (r1.1) (
    .bnd (F111 (x.2.2.1, (0 : Int), (100 : Int))) fun r2 =>
    .ite (r2.1) (
      .bnd (F111 (x.2.2.2, (0 : Int), (100 : Int))) fun r3 =>
      .ite (r3.1) (
        .ret (x.2.1 == (IntKind.i64.wrap (x.2.2.1 + x.2.2.2)), ())) <|
      .ret (false, ())) <|
    .ret (false, ())) <|
  .ret (false, ())
noncomputable def F260 (x : I4) : DT (Bool × Unit) := (B260 x).toDT
noncomputable def con260 : Con := ⟨[.agg [.val (yI4)]], [], [.one (.val (.bool))], F260⟩
noncomputable def C260 : Ctx := ⟨tiOf tab, fun t => eqL.contains t, fun g _ => conOf [(111, con111)] g, fun i => match i with | _ => none⟩
theorem cons260 : Cons prog C260 := cons_of _ (allC ⟨ok111, trivial⟩)
theorem ok260 : con260.Sound prog 260 :=
  fn_con (C := C260) (fn := Tryz.f260) (code := (bodyOf Tryz.f260)) (n := 26) ctx cons260 mixed (by kernel_rfl) (by kernel_rfl) (by kernel_rfl) con260 (rg := [.tmp 2]) (by kernel_rfl) (by kernel_rfl) (loops_all 0 (by kernel_rfl) trivial) (by kernel_rfl) B260 (fun x => by kernel_rfl) (fun _ => rfl)



/-! 370 spec.l31Find -/
noncomputable def L_370_0G (x : (List TSecret) × Int × Int) : DTB (Rd ((List TSecret) × Int × Int) Int) :=
  .ite (decide (x.2.2 < (x.1.length : Int))) (
    .guard (decide (0 ≤ x.2.2 ∧ x.2.2 < (x.1.length : Int))) <|
    let e1 : TSecret := x.1.getD x.2.2.toNat d0
    .ite (e1.1 == x.2.1) (
      .ret (.ret x.2.2)) <|
    .ret (.on (x.1, x.2.1, IntKind.i64.wrap (x.2.2 + (1 : Int))))) <|
  .ret (.out x)
noncomputable def L_370_0 (x : (List TSecret) × Int × Int) : DT (((List TSecret) × Int × Int) ⊕ Int) := whileT (fun x => (L_370_0G x).toDT) x
noncomputable def L_370_0C : LC := ⟨[(0, .one (.val (.sl (yTSecret)))), (1, .one (.val (.int .i64))), (5, .one (.val (.int .i64)))], [(4, .one (.val (.int .i64)))], L_370_0⟩
noncomputable def B370 (x : (List TSecret) × Int) : DTB (Int × Unit) :=
  .bnd (L_370_0 (x.1, x.2, (0 : Int))) fun
  | .inl y1 =>
    .ret ((-1 : Int), ())
  | .inr y1 =>
    .ret (y1, ())
noncomputable def F370 (x : (List TSecret) × Int) : DT (Int × Unit) := (B370 x).toDT
noncomputable def con370 : Con := ⟨[.one (.val (.sl (yTSecret))), .one (.val (.int .i64))], [], [.one (.val (.int .i64))], F370⟩
noncomputable def C370 : Ctx := ⟨tiOf tab, fun t => eqL.contains t, fun g _ => conOf [] g, fun i => match i with | 0 => some L_370_0C | _ => none⟩
theorem cons370 : Cons prog C370 := cons_of _ (fun _ h => by cases h)
theorem L_370_0ok : LoopOk prog C370 [] 20 (nthLoop (bodyOf Tryz.f370) 0).1 (nthLoop (bodyOf Tryz.f370) 0).2 :=
  loop_while (l := L_370_0C) ctx cons370 mixed (by kernel_rfl) (loops_all 0 (by kernel_rfl) trivial) (by kernel_rfl) L_370_0G (fun x => by kernel_rfl) (fun _ => rfl)
theorem ok370 : con370.Sound prog 370 :=
  fn_con (C := C370) (fn := Tryz.f370) (code := (bodyOf Tryz.f370)) (n := 20) ctx cons370 mixed (by kernel_rfl) (by kernel_rfl) (by kernel_rfl) con370 (rg := [.tmp 4]) (by kernel_rfl) (by kernel_rfl) (loops_all 1 (by kernel_rfl) ⟨trivial, L_370_0ok⟩) (by kernel_rfl) B370 (fun x => by kernel_rfl) (fun _ => rfl)



/-! 262 spec.MarksOf -/
noncomputable def B262 (x : (List TSecret) × Int) : DTB ((List I2) × Unit) :=
  .bnd (F370 x) fun r1 =>
  .ite (decide (r1.1 < (0 : Int))) (
    .ret (([] : List I2), ())) <|
  .guard (decide (0 ≤ r1.1 ∧ r1.1 < (x.1.length : Int))) <|
  let e1 : TSecret := x.1.getD r1.1.toNat d0
  .guard (decide ((([] : List I2).length + e1.2.1.length) * 16 ≤ 140737488355328)) <|
  .ret (([] : List I2) ++ e1.2.1, ())
noncomputable def F262 (x : (List TSecret) × Int) : DT ((List I2) × Unit) := (B262 x).toDT
noncomputable def con262 : Con := ⟨[.one (.val (.sl (yTSecret))), .one (.val (.int .i64))], [], [.one (.own (yI2))], F262⟩
noncomputable def C262 : Ctx := ⟨tiOf tab, fun t => eqL.contains t, fun g _ => conOf [(370, con370)] g, fun i => match i with | _ => none⟩
theorem cons262 : Cons prog C262 := cons_of _ (allC ⟨ok370, trivial⟩)
theorem ok262 : con262.Sound prog 262 :=
  fn_con (C := C262) (fn := Tryz.f262) (code := (bodyOf Tryz.f262)) (n := 19) ctx cons262 mixed (by kernel_rfl) (by kernel_rfl) (by kernel_rfl) con262 (rg := [.tmp 4]) (by kernel_rfl) (by kernel_rfl) (loops_all 0 (by kernel_rfl) trivial) (by kernel_rfl) B262 (fun x => by kernel_rfl) (fun _ => rfl)



/-! 170 spec.Min -/
noncomputable def B170 (x : Int × Int) : DTB (Int × Unit) :=
  .ite (decide (x.2 < x.1)) (
    .ret (x.2, ())) <|
  .ret (x.1, ())
noncomputable def F170 (x : Int × Int) : DT (Int × Unit) := (B170 x).toDT
noncomputable def con170 : Con := ⟨[.one (.val (.int .i64)), .one (.val (.int .i64))], [], [.one (.val (.int .i64))], F170⟩
noncomputable def C170 : Ctx := ⟨tiOf tab, fun t => eqL.contains t, fun g _ => conOf [] g, fun i => match i with | _ => none⟩
theorem cons170 : Cons prog C170 := cons_of _ (fun _ h => by cases h)
theorem ok170 : con170.Sound prog 170 :=
  fn_con (C := C170) (fn := Tryz.f170) (code := (bodyOf Tryz.f170)) (n := 10) ctx cons170 mixed (by kernel_rfl) (by kernel_rfl) (by kernel_rfl) con170 (rg := [.tmp 4]) (by kernel_rfl) (by kernel_rfl) (loops_all 0 (by kernel_rfl) trivial) (by kernel_rfl) B170 (fun x => by kernel_rfl) (fun _ => rfl)



/-! 369 spec.NeedFor -/
noncomputable def B369 (x : List I2) : DTB (Int × Unit) :=
  .bnd (F170 ((3 : Int), (x.length : Int))) fun r1 =>
  .ret (r1.1, ())
noncomputable def F369 (x : List I2) : DT (Int × Unit) := (B369 x).toDT
noncomputable def con369 : Con := ⟨[.one (.val (.sl (yI2)))], [], [.one (.val (.int .i64))], F369⟩
noncomputable def C369 : Ctx := ⟨tiOf tab, fun t => eqL.contains t, fun g _ => conOf [(170, con170)] g, fun i => match i with | _ => none⟩
theorem cons369 : Cons prog C369 := cons_of _ (allC ⟨ok170, trivial⟩)
theorem ok369 : con369.Sound prog 369 :=
  fn_con (C := C369) (fn := Tryz.f369) (code := (bodyOf Tryz.f369)) (n := 6) ctx cons369 mixed (by kernel_rfl) (by kernel_rfl) (by kernel_rfl) con369 (rg := [.tmp 2]) (by kernel_rfl) (by kernel_rfl) (loops_all 0 (by kernel_rfl) trivial) (by kernel_rfl) B369 (fun x => by kernel_rfl) (fun _ => rfl)



/-! 261 spec.TrialState -/
noncomputable def B261 (x : (List I2) × I4) : DTB (Int × Unit) :=
  .bnd (F260 x.2) fun r1 =>
  .ite (!r1.1) (
    .ret ((2 : Int), ())) <|
  .bnd (F253 x.1) fun r2 =>
  .ite (!r2.1) (
    .ret ((2 : Int), ())) <|
  .ite (decide (x.2.2.2.2 > (1 : Int))) (
    .ret ((2 : Int), ())) <|
  .ite (decide ((x.1.length : Int) > (0 : Int))) (
    .bnd (F369 x.1) fun r3 =>
    .ite (decide (x.2.2.2.1 ≥ r3.1)) (
      .ret ((1 : Int), ())) <|
    .ret ((0 : Int), ())) <|
  .ret ((0 : Int), ())
noncomputable def F261 (x : (List I2) × I4) : DT (Int × Unit) := (B261 x).toDT
noncomputable def con261 : Con := ⟨[.one (.val (.sl (yI2))), .agg [.val (yI4)]], [], [.one (.val (.int .i64))], F261⟩
noncomputable def C261 : Ctx := ⟨tiOf tab, fun t => eqL.contains t, fun g _ => conOf [(253, con253), (260, con260), (369, con369)] g, fun i => match i with | _ => none⟩
theorem cons261 : Cons prog C261 := cons_of _ (allC ⟨ok253, ok260, ok369, trivial⟩)
theorem ok261 : con261.Sound prog 261 :=
  fn_con (C := C261) (fn := Tryz.f261) (code := (bodyOf Tryz.f261)) (n := 30) ctx cons261 mixed (by kernel_rfl) (by kernel_rfl) (by kernel_rfl) con261 (rg := [.tmp 4]) (by kernel_rfl) (by kernel_rfl) (loops_all 0 (by kernel_rfl) trivial) (by kernel_rfl) B261 (fun x => by kernel_rfl) (fun _ => rfl)



/-! 118 spec.l33Claims -/
noncomputable def L_118_0G (x : THouse × Int) : DTB (Rd (THouse × Int) Bool) :=
  .ite (decide (x.2 < (x.1.2.2.2.2.1.length : Int))) (
    .guard (decide (0 ≤ x.2 ∧ x.2 < (x.1.2.2.2.2.1.length : Int))) <|
    let e1 : I5 := x.1.2.2.2.2.1.getD x.2.toNat d4
    .guard (decide (0 ≤ e1.2.2.2.2 ∧ e1.2.2.2.2 < ([(0 : Int), (1 : Int), (2 : Int), (1 : Int)].length : Int))) <|
    .bnd (F257 (x.1.2.1, e1.2.2.1)) fun r1 =>
    .ite (decide (r1.1 < (0 : Int))) (
      .ret (.ret false)) <|
    .guard (decide (0 ≤ x.2 ∧ x.2 < (x.1.2.2.2.2.2.1.length : Int))) <|
    let e2 : I4 := x.1.2.2.2.2.2.1.getD x.2.toNat d5
    .ite (e2.1 != e1.1) (
      .ret (.ret false)) <|
    .guard (decide (0 ≤ x.2 ∧ x.2 < (x.1.2.2.2.2.2.1.length : Int))) <|
    let e3 : I4 := x.1.2.2.2.2.2.1.getD x.2.toNat d5
    .bnd (F260 e3) fun r2 =>
    .ite (!r2.1) (
      .ret (.ret false)) <|
    .bnd (F262 (x.1.2.2.1, e1.2.2.1)) fun r3 =>
    .guard (decide (0 ≤ x.2 ∧ x.2 < (x.1.2.2.2.2.2.1.length : Int))) <|
    let e4 : I4 := x.1.2.2.2.2.2.1.getD x.2.toNat d5
    .bnd (F261 (r3.1, e4)) fun r4 =>
    let v1 : Bool := r4.1 != ([(0 : Int), (1 : Int), (2 : Int), (1 : Int)].getD e1.2.2.2.2.toNat (0 : Int))
    .ite (v1) (
      .ret (.ret false)) <|
    .ite (decide (e1.2.2.2.1 > x.1.2.2.2.2.2.2.2.2)) (
      .ret (.ret false)) <|
    .ret (.on (x.1, IntKind.i64.wrap (x.2 + (1 : Int))))) <|
  .ret (.out x)
noncomputable def L_118_0 (x : THouse × Int) : DT ((THouse × Int) ⊕ Bool) := whileT (fun x => (L_118_0G x).toDT) x
noncomputable def L_118_0C : LC := ⟨[(1, .box [.val (yTHouse)]), (3, .one (.val (.int .i64)))], [(2, .one (.val (.bool)))], L_118_0⟩
noncomputable def B118 (x : THouse) : DTB (Bool × Unit) :=
  .ite ((x.2.2.2.2.2.1.length : Int) != (x.2.2.2.2.1.length : Int)) (
    .ret (false, ())) <|
  .bnd (L_118_0 (x, (0 : Int))) fun
  | .inl y1 =>
    .ret (true, ())
  | .inr y1 =>
    .ret (y1, ())
noncomputable def F118 (x : THouse) : DT (Bool × Unit) := (B118 x).toDT
noncomputable def con118 : Con := ⟨[.agg [.val (yTHouse)]], [], [.one (.val (.bool))], F118⟩
noncomputable def C118 : Ctx := ⟨tiOf tab, fun t => eqL.contains t, fun g _ => conOf [(257, con257), (260, con260), (261, con261), (262, con262)] g, fun i => match i with | 0 => some L_118_0C | _ => none⟩
theorem cons118 : Cons prog C118 := cons_of _ (allC ⟨ok257, ok260, ok261, ok262, trivial⟩)
theorem L_118_0ok : LoopOk prog C118 [] 78 (nthLoop (bodyOf Tryz.f118) 0).1 (nthLoop (bodyOf Tryz.f118) 0).2 :=
  loop_while (l := L_118_0C) ctx cons118 mixed (by kernel_rfl) (loops_all 0 (by kernel_rfl) trivial) (by kernel_rfl) L_118_0G (fun x => by kernel_rfl) (fun _ => rfl)
theorem ok118 : con118.Sound prog 118 :=
  fn_con (C := C118) (fn := Tryz.f118) (code := (bodyOf Tryz.f118)) (n := 78) ctx cons118 mixed (by kernel_rfl) (by kernel_rfl) (by kernel_rfl) con118 (rg := [.tmp 2]) (by kernel_rfl) (by kernel_rfl) (loops_all 1 (by kernel_rfl) ⟨trivial, L_118_0ok⟩) (by kernel_rfl) B118 (fun x => by kernel_rfl) (fun _ => rfl)



/-! 15 spec.IsHouse -/
noncomputable def B15 (x : THouse) : DTB (Bool × Unit) :=
  .bnd (F111 (x.1, (1 : Int), (9 : Int))) fun r1 =>
  .ite (!r1.1) (
    .ret (false, ())) <|
  .bnd (F49 x.2.1) fun r2 =>
  .ite (!r2.1) (
    .ret (false, ())) <|
  .bnd (F112 x.2.2.1) fun r3 =>
  .ite (!r3.1) (
    .ret (false, ())) <|
  .bnd (F113 x.2.2.2.1) fun r4 =>
  .ite (!r4.1) (
    .ret (false, ())) <|
  .bnd (F114 x.2.2.2.2.1) fun r5 =>
  .ite (!r5.1) (
    .ret (false, ())) <|
  .bnd (F115 x.2.2.2.2.2.2.1) fun r6 =>
  .ite (!r6.1) (
    .ret (false, ())) <|
  .bnd (F116 x.2.2.2.2.2.2.2.1) fun r7 =>
  .ite (!r7.1) (
    .ret (false, ())) <|
  .bnd (F111 (x.2.2.2.2.2.2.2.2, (0 : Int), (100000 : Int))) fun r8 =>
  .ite (!r8.1) (
    .ret (false, ())) <|
  .ite (decide ((x.2.2.2.2.2.2.1.length : Int) > (0 : Int))) (
    let v1 : Int := IntKind.i64.wrap ((x.2.2.2.2.2.2.1.length : Int) - (1 : Int))
    .guard (decide (0 ≤ v1 ∧ v1 < (x.2.2.2.2.2.2.1.length : Int))) <|
    let e1 : I5 := x.2.2.2.2.2.2.1.getD v1.toNat d4
    .ite (decide (e1.2.2.2.1 > x.2.2.2.2.2.2.2.2)) (
      .ret (false, ())) <|
    .ite (decide ((x.2.2.2.2.2.2.2.1.length : Int) > (0 : Int))) (
      let v2 : Int := IntKind.i64.wrap ((x.2.2.2.2.2.2.2.1.length : Int) - (1 : Int))
      .guard (decide (0 ≤ v2 ∧ v2 < (x.2.2.2.2.2.2.2.1.length : Int))) <|
      let e2 : I4 := x.2.2.2.2.2.2.2.1.getD v2.toNat d5
      .ite (decide (e2.2.2.2 > x.2.2.2.2.2.2.2.2)) (
        .ret (false, ())) <|
      .bnd (F117 x) fun r9 =>
      .ite (r9.1) (
        .bnd (F118 x) fun r10 =>
        .ret (r10.1, ())) <|
      .ret (false, ())) <|
    .bnd (F117 x) fun r11 =>
    .ite (r11.1) (
      .bnd (F118 x) fun r12 =>
      .ret (r12.1, ())) <|
    .ret (false, ())) <|
  .ite (decide ((x.2.2.2.2.2.2.2.1.length : Int) > (0 : Int))) (
    let v3 : Int := IntKind.i64.wrap ((x.2.2.2.2.2.2.2.1.length : Int) - (1 : Int))
    .guard (decide (0 ≤ v3 ∧ v3 < (x.2.2.2.2.2.2.2.1.length : Int))) <|
    let e3 : I4 := x.2.2.2.2.2.2.2.1.getD v3.toNat d5
    .ite (decide (e3.2.2.2 > x.2.2.2.2.2.2.2.2)) (
      .ret (false, ())) <|
    .bnd (F117 x) fun r13 =>
    .ite (r13.1) (
      .bnd (F118 x) fun r14 =>
      .ret (r14.1, ())) <|
    .ret (false, ())) <|
  .bnd (F117 x) fun r15 =>
  .ite (r15.1) (
    .bnd (F118 x) fun r16 =>
    .ret (r16.1, ())) <|
  .ret (false, ())
noncomputable def F15 (x : THouse) : DT (Bool × Unit) := (B15 x).toDT
noncomputable def con15 : Con := ⟨[.agg [.val (yTHouse)]], [], [.one (.val (.bool))], F15⟩
noncomputable def C15 : Ctx := ⟨tiOf tab, fun t => eqL.contains t, fun g _ => conOf [(111, con111), (112, con112), (113, con113), (114, con114), (115, con115), (116, con116), (117, con117), (118, con118), (49, con49)] g, fun i => match i with | _ => none⟩
theorem cons15 : Cons prog C15 := cons_of _ (allC ⟨ok111, ok112, ok113, ok114, ok115, ok116, ok117, ok118, ok49, trivial⟩)
theorem ok15 : con15.Sound prog 15 :=
  fn_con (C := C15) (fn := Tryz.f15) (code := (bodyOf Tryz.f15)) (n := 93) ctx cons15 mixed (by kernel_rfl) (by kernel_rfl) (by kernel_rfl) con15 (rg := [.tmp 2]) (by kernel_rfl) (by kernel_rfl) (loops_all 0 (by kernel_rfl) trivial) (by kernel_rfl) B15 (fun x => by kernel_rfl) (fun _ => rfl)



/-! 365 spec.FreeSlots -/
noncomputable def L_365_0G (x : (List I3) × Int × Int) : DTB (Rd ((List I3) × Int × Int) Unit) :=
  .ite (decide (x.2.2 < (x.1.length : Int))) (
    .guard (decide (0 ≤ x.2.2 ∧ x.2.2 < (x.1.length : Int))) <|
    let e1 : I3 := x.1.getD x.2.2.toNat d3
    .ite (e1.2.2 == (0 : Int)) (
      .ret (.on (x.1, IntKind.i64.wrap (x.2.1 + (1 : Int)), IntKind.i64.wrap (x.2.2 + (1 : Int))))) <|
    .ret (.on (x.1, x.2.1, IntKind.i64.wrap (x.2.2 + (1 : Int))))) <|
  .ret (.out x)
noncomputable def L_365_0 (x : (List I3) × Int × Int) : DT (((List I3) × Int × Int) ⊕ Unit) := whileT (fun x => (L_365_0G x).toDT) x
noncomputable def L_365_0C : LC := ⟨[(0, .one (.val (.sl (yI3)))), (3, .one (.val (.int .i64))), (4, .one (.val (.int .i64)))], [], L_365_0⟩
noncomputable def B365 (x : List I3) : DTB (Int × Unit) :=
  .bnd (L_365_0 (x, (0 : Int), (0 : Int))) fun
  | .inl y1 =>
    .ret (y1.2.1, ())
  | .inr y1 =>
    .fail
noncomputable def F365 (x : List I3) : DT (Int × Unit) := (B365 x).toDT
noncomputable def con365 : Con := ⟨[.one (.val (.sl (yI3)))], [], [.one (.val (.int .i64))], F365⟩
noncomputable def C365 : Ctx := ⟨tiOf tab, fun t => eqL.contains t, fun g _ => conOf [] g, fun i => match i with | 0 => some L_365_0C | _ => none⟩
theorem cons365 : Cons prog C365 := cons_of _ (fun _ h => by cases h)
theorem L_365_0ok : LoopOk prog C365 [] 20 (nthLoop (bodyOf Tryz.f365) 0).1 (nthLoop (bodyOf Tryz.f365) 0).2 :=
  loop_while (l := L_365_0C) ctx cons365 mixed (by kernel_rfl) (loops_all 0 (by kernel_rfl) trivial) (by kernel_rfl) L_365_0G (fun x => by kernel_rfl) (fun _ => rfl)
theorem ok365 : con365.Sound prog 365 :=
  fn_con (C := C365) (fn := Tryz.f365) (code := (bodyOf Tryz.f365)) (n := 20) ctx cons365 mixed (by kernel_rfl) (by kernel_rfl) (by kernel_rfl) con365 (rg := [.tmp 2]) (by kernel_rfl) (by kernel_rfl) (loops_all 1 (by kernel_rfl) ⟨trivial, L_365_0ok⟩) (by kernel_rfl) B365 (fun x => by kernel_rfl) (fun _ => rfl)



/-! 247 spec.NewHouse -/
noncomputable def B247 (x : Int × List I3) : DTB ((THouse × Bool) × Unit) :=
  .bnd (F142 (x.1, ([] : List TFind), ([] : List TSecret), x.2, ([] : List I5), ([] : List I4), ([] : List I5), ([] : List I4), (0 : Int))) fun r1 =>
  .bnd (F15 r1.1) fun r2 =>
  .ite (!r2.1) (
    .ret ((((0 : Int), ([] : List TFind), ([] : List TSecret), ([] : List I3), ([] : List I5), ([] : List I4), ([] : List I5), ([] : List I4), (0 : Int)), false), ())) <|
  .bnd (F365 x.2) fun r3 =>
  .ite (r3.1 != (x.2.length : Int)) (
    .ret ((((0 : Int), ([] : List TFind), ([] : List TSecret), ([] : List I3), ([] : List I5), ([] : List I4), ([] : List I5), ([] : List I4), (0 : Int)), false), ())) <|
  .ret ((r1.1, true), ())
noncomputable def F247 (x : Int × List I3) : DT ((THouse × Bool) × Unit) := (B247 x).toDT
noncomputable def con247 : Con := ⟨[.one (.val (.int .i64)), .one (.val (.sl (yI3)))], [], [.agg [.val (yTHouse)], .one (.val (.bool))], F247⟩
noncomputable def C247 : Ctx := ⟨tiOf tab, fun t => eqL.contains t, fun g _ => conOf [(142, con142), (15, con15), (365, con365)] g, fun i => match i with | _ => none⟩
theorem cons247 : Cons prog C247 := cons_of _ (allC ⟨ok142, ok15, ok365, trivial⟩)
theorem ok247 : con247.Sound prog 247 :=
  fn_con (C := C247) (fn := Tryz.f247) (code := (bodyOf Tryz.f247)) (n := 23) ctx cons247 mixed (by kernel_rfl) (by kernel_rfl) (by kernel_rfl) con247 (rg := [.cell 4 32, .tmp 5]) (by kernel_rfl) (by kernel_rfl) (loops_all 0 (by kernel_rfl) trivial) (by kernel_rfl) B247 (fun x => by kernel_rfl) (fun _ => rfl)



/-! 308 spec.l4Draw -/
noncomputable def B308 (x : Tl1Cur × Int) : DTB (I5 × Tl1Cur) :=
  .bnd (F141 (x.1, (8 : Int))) fun r1 =>
  .bnd (F141 (r1.2, (8 : Int))) fun r2 =>
  .bnd (F141 (r2.2, (20 : Int))) fun r3 =>
  .bnd (F141 (r3.2, (500 : Int))) fun r4 =>
  .ret ((x.2, IntKind.i64.wrap ((1 : Int) + r1.1), r2.1, IntKind.i64.wrap ((1 : Int) + r3.1), IntKind.i64.wrap ((10 : Int) * r4.1)), r4.2)
noncomputable def F308 (x : Tl1Cur × Int) : DT (I5 × Tl1Cur) := (B308 x).toDT
noncomputable def con308 : Con := ⟨[.box [.val (yTl1Cur)], .one (.val (.int .i64))], [0], [.agg [.val (yI5)]], F308⟩
noncomputable def C308 : Ctx := ⟨tiOf tab, fun t => eqL.contains t, fun g _ => conOf [(141, con141)] g, fun i => match i with | _ => none⟩
theorem cons308 : Cons prog C308 := cons_of _ (allC ⟨ok141, trivial⟩)
theorem ok308 : con308.Sound prog 308 :=
  fn_con (C := C308) (fn := Tryz.f308) (code := (bodyOf Tryz.f308)) (n := 18) ctx cons308 mixed (by kernel_rfl) (by kernel_rfl) (by kernel_rfl) con308 (rg := [.cell 4 40]) (by kernel_rfl) (by kernel_rfl) (loops_all 0 (by kernel_rfl) trivial) (by kernel_rfl) B308 (fun x => by kernel_rfl) (fun _ => rfl)



/-! 169 spec.l6Draw -/
noncomputable def B169 (x : Tl1Cur × Int) : DTB (TFind × Tl1Cur) :=
  .bnd (F308 x) fun r1 =>
  .bnd (F141 (r1.2, (6 : Int))) fun r2 =>
  .bnd (F141 (r2.2, (80 : Int))) fun r3 =>
  .bnd (F141 (r3.2, (5 : Int))) fun r4 =>
  .ret ((r1.1, IntKind.i64.wrap ((1 : Int) + r2.1), r3.1, r4.1), r4.2)
noncomputable def F169 (x : Tl1Cur × Int) : DT (TFind × Tl1Cur) := (B169 x).toDT
noncomputable def con169 : Con := ⟨[.box [.val (yTl1Cur)], .one (.val (.int .i64))], [0], [.agg [.val (yTFind)]], F169⟩
noncomputable def C169 : Ctx := ⟨tiOf tab, fun t => eqL.contains t, fun g _ => conOf [(141, con141), (308, con308)] g, fun i => match i with | _ => none⟩
theorem cons169 : Cons prog C169 := cons_of _ (allC ⟨ok141, ok308, trivial⟩)
theorem ok169 : con169.Sound prog 169 :=
  fn_con (C := C169) (fn := Tryz.f169) (code := (bodyOf Tryz.f169)) (n := 16) ctx cons169 mixed (by kernel_rfl) (by kernel_rfl) (by kernel_rfl) con169 (rg := [.cell 4 42]) (by kernel_rfl) (by kernel_rfl) (loops_all 0 (by kernel_rfl) trivial) (by kernel_rfl) B169 (fun x => by kernel_rfl) (fun _ => rfl)



/-! 133 spec.l1Int -/
noncomputable def B133 (x : Tl1Cur × List Int) : DTB (Int × Tl1Cur) :=
  .bnd (F141 (x.1, (x.2.length : Int))) fun r1 =>
  .guard (decide (0 ≤ r1.1 ∧ r1.1 < (x.2.length : Int))) <|
  .ret (x.2.getD r1.1.toNat (0 : Int), r1.2)
noncomputable def F133 (x : Tl1Cur × List Int) : DT (Int × Tl1Cur) := (B133 x).toDT
noncomputable def con133 : Con := ⟨[.box [.val (yTl1Cur)], .one (.val (.sl (.int .i64)))], [0], [.one (.val (.int .i64))], F133⟩
noncomputable def C133 : Ctx := ⟨tiOf tab, fun t => eqL.contains t, fun g _ => conOf [(141, con141)] g, fun i => match i with | _ => none⟩
theorem cons133 : Cons prog C133 := cons_of _ (allC ⟨ok141, trivial⟩)
theorem ok133 : con133.Sound prog 133 :=
  fn_con (C := C133) (fn := Tryz.f133) (code := (bodyOf Tryz.f133)) (n := 12) ctx cons133 mixed (by kernel_rfl) (by kernel_rfl) (by kernel_rfl) con133 (rg := [.tmp 4]) (by kernel_rfl) (by kernel_rfl) (loops_all 0 (by kernel_rfl) trivial) (by kernel_rfl) B133 (fun x => by kernel_rfl) (fun _ => rfl)



/-! 103 impl.InRange -/
noncomputable def B103 (x : Int × Int × Int) : DTB (Bool × Unit) :=
  .ite (decide (x.2.1 ≤ x.1)) (
    .ret (decide (x.1 ≤ x.2.2), ())) <|
  .ret (false, ())
noncomputable def F103 (x : Int × Int × Int) : DT (Bool × Unit) := (B103 x).toDT
noncomputable def con103 : Con := ⟨[.one (.val (.int .i64)), .one (.val (.int .i64)), .one (.val (.int .i64))], [], [.one (.val (.bool))], F103⟩
noncomputable def C103 : Ctx := ⟨tiOf tab, fun t => eqL.contains t, fun g _ => conOf [] g, fun i => match i with | _ => none⟩
theorem cons103 : Cons prog C103 := cons_of _ (fun _ h => by cases h)
theorem ok103 : con103.Sound prog 103 :=
  fn_con (C := C103) (fn := Tryz.f103) (code := (bodyOf Tryz.f103)) (n := 15) ctx cons103 mixed (by kernel_rfl) (by kernel_rfl) (by kernel_rfl) con103 (rg := [.tmp 6]) (by kernel_rfl) (by kernel_rfl) (loops_all 0 (by kernel_rfl) trivial) (by kernel_rfl) B103 (fun x => by kernel_rfl) (fun _ => rfl)



/-! 303 impl.IsThing -/
noncomputable def B303 (x : I5) : DTB (Bool × Unit) :=
  .bnd (F103 (x.1, (1 : Int), (999 : Int))) fun r1 =>
  .ite (r1.1) (
    .bnd (F103 (x.2.1, (1 : Int), (8 : Int))) fun r2 =>
    .ite (r2.1) (
      .bnd (F103 (x.2.2.1, (0 : Int), (7 : Int))) fun r3 =>
      .ite (r3.1) (
        .bnd (F103 (x.2.2.2.1, (1 : Int), (50 : Int))) fun r4 =>
        .ite (r4.1) (
          .bnd (F103 (x.2.2.2.2, (0 : Int), (10000000 : Int))) fun r5 =>
          .ret (r5.1, ())) <|
        .ret (false, ())) <|
      .ret (false, ())) <|
    .ret (false, ())) <|
  .ret (false, ())
noncomputable def F303 (x : I5) : DT (Bool × Unit) := (B303 x).toDT
noncomputable def con303 : Con := ⟨[.agg [.val (yI5)]], [], [.one (.val (.bool))], F303⟩
noncomputable def C303 : Ctx := ⟨tiOf tab, fun t => eqL.contains t, fun g _ => conOf [(103, con103)] g, fun i => match i with | _ => none⟩
theorem cons303 : Cons prog C303 := cons_of _ (allC ⟨ok103, trivial⟩)
theorem ok303 : con303.Sound prog 303 :=
  fn_con (C := C303) (fn := Tryz.f303) (code := (bodyOf Tryz.f303)) (n := 26) ctx cons303 mixed (by kernel_rfl) (by kernel_rfl) (by kernel_rfl) con303 (rg := [.tmp 2]) (by kernel_rfl) (by kernel_rfl) (loops_all 0 (by kernel_rfl) trivial) (by kernel_rfl) B303 (fun x => by kernel_rfl) (fun _ => rfl)



/-! 161 impl.IsFind -/
noncomputable def B161 (x : TFind) : DTB (Bool × Unit) :=
  .bnd (F303 x.1) fun r1 =>
  .ite (r1.1) (
    .bnd (F103 (x.2.1, (1 : Int), (30 : Int))) fun r2 =>
    .ite (r2.1) (
      .bnd (F103 (x.2.2.1, (0 : Int), (100000 : Int))) fun r3 =>
      .ite (r3.1) (
        .bnd (F103 (x.2.2.2, (0 : Int), (999 : Int))) fun r4 =>
        .ret (r4.1, ())) <|
      .ret (false, ())) <|
    .ret (false, ())) <|
  .ret (false, ())
noncomputable def F161 (x : TFind) : DT (Bool × Unit) := (B161 x).toDT
noncomputable def con161 : Con := ⟨[.agg [.val (yTFind)]], [], [.one (.val (.bool))], F161⟩
noncomputable def C161 : Ctx := ⟨tiOf tab, fun t => eqL.contains t, fun g _ => conOf [(103, con103), (303, con303)] g, fun i => match i with | _ => none⟩
theorem cons161 : Cons prog C161 := cons_of _ (allC ⟨ok103, ok303, trivial⟩)
theorem ok161 : con161.Sound prog 161 :=
  fn_con (C := C161) (fn := Tryz.f161) (code := (bodyOf Tryz.f161)) (n := 21) ctx cons161 mixed (by kernel_rfl) (by kernel_rfl) (by kernel_rfl) con161 (rg := [.tmp 2]) (by kernel_rfl) (by kernel_rfl) (loops_all 0 (by kernel_rfl) trivial) (by kernel_rfl) B161 (fun x => by kernel_rfl) (fun _ => rfl)



/-! 48 impl.AreFinds -/
noncomputable def L_48_0G (x : (List TFind) × (List TFind) × Int × Int) : DTB (Rd ((List TFind) × (List TFind) × Int × Int) Bool) :=
  .ite (decide (x.2.2.2 < x.2.2.1)) (
    .guard (decide (0 ≤ x.2.2.2 ∧ x.2.2.2 < (x.2.1.length : Int))) <|
    let e1 : TFind := x.2.1.getD x.2.2.2.toNat d1
    .bnd (F161 e1) fun r1 =>
    .ite (!r1.1) (
      .ret (.ret false)) <|
    .ite (decide (x.2.2.2 > (0 : Int))) (
      .guard (decide (0 ≤ IntKind.i64.wrap (x.2.2.2 - (1 : Int)) ∧ IntKind.i64.wrap (x.2.2.2 - (1 : Int)) < (x.1.length : Int))) <|
      let e2 : TFind := x.1.getD ((IntKind.i64.wrap (x.2.2.2 - (1 : Int))).toNat) d1
      .ite (decide (e1.1.1 ≤ e2.1.1)) (
        .ret (.ret false)) <|
      .ret (.on (x.1, x.2.1, x.2.2.1, IntKind.i64.wrap (x.2.2.2 + (1 : Int))))) <|
    .ret (.on (x.1, x.2.1, x.2.2.1, IntKind.i64.wrap (x.2.2.2 + (1 : Int))))) <|
  .ret (.out x)
noncomputable def L_48_0 (x : (List TFind) × (List TFind) × Int × Int) : DT (((List TFind) × (List TFind) × Int × Int) ⊕ Bool) := whileT (fun x => (L_48_0G x).toDT) x
noncomputable def L_48_0C : LC := ⟨[(0, .one (.val (.sl (yTFind)))), (8, .one (.val (.sl (yTFind)))), (9, .one (.val (.int .i64))), (10, .one (.val (.int .i64)))], [(2, .one (.val (.bool)))], L_48_0⟩
noncomputable def B48 (x : List TFind) : DTB (Bool × Unit) :=
  .ite (decide ((x.length : Int) > (20 : Int))) (
    .ret (false, ())) <|
  .bnd (L_48_0 (x, x, (x.length : Int), (0 : Int))) fun
  | .inl y1 =>
    .ret (true, ())
  | .inr y1 =>
    .ret (y1, ())
noncomputable def F48 (x : List TFind) : DT (Bool × Unit) := (B48 x).toDT
noncomputable def con48 : Con := ⟨[.one (.val (.sl (yTFind)))], [], [.one (.val (.bool))], F48⟩
noncomputable def C48 : Ctx := ⟨tiOf tab, fun t => eqL.contains t, fun g _ => conOf [(161, con161)] g, fun i => match i with | 0 => some L_48_0C | _ => none⟩
theorem cons48 : Cons prog C48 := cons_of _ (allC ⟨ok161, trivial⟩)
theorem L_48_0ok : LoopOk prog C48 [] 36 (nthLoop (bodyOf Tryz.f48) 0).1 (nthLoop (bodyOf Tryz.f48) 0).2 :=
  loop_while (l := L_48_0C) ctx cons48 mixed (by kernel_rfl) (loops_all 0 (by kernel_rfl) trivial) (by kernel_rfl) L_48_0G (fun x => by kernel_rfl) (fun _ => rfl)
theorem ok48 : con48.Sound prog 48 :=
  fn_con (C := C48) (fn := Tryz.f48) (code := (bodyOf Tryz.f48)) (n := 36) ctx cons48 mixed (by kernel_rfl) (by kernel_rfl) (by kernel_rfl) con48 (rg := [.tmp 2]) (by kernel_rfl) (by kernel_rfl) (loops_all 1 (by kernel_rfl) ⟨trivial, L_48_0ok⟩) (by kernel_rfl) B48 (fun x => by kernel_rfl) (fun _ => rfl)



/-! 249 impl.AreMarks -/
noncomputable def L_249_0G (x : (List I2) × (List I2) × Int × Int) : DTB (Rd ((List I2) × (List I2) × Int × Int) Bool) :=
  .ite (decide (x.2.2.2 < x.2.2.1)) (
    .guard (decide (0 ≤ x.2.2.2 ∧ x.2.2.2 < (x.2.1.length : Int))) <|
    let e1 : I2 := x.2.1.getD x.2.2.2.toNat d2
    .bnd (F103 (e1.1, (1 : Int), (20 : Int))) fun r1 =>
    .ite (!r1.1) (
      .ret (.ret false)) <|
    .bnd (F103 (e1.2, (0 : Int), (99 : Int))) fun r2 =>
    .ite (!r2.1) (
      .ret (.ret false)) <|
    .ite (decide (x.2.2.2 > (0 : Int))) (
      .guard (decide (0 ≤ IntKind.i64.wrap (x.2.2.2 - (1 : Int)) ∧ IntKind.i64.wrap (x.2.2.2 - (1 : Int)) < (x.1.length : Int))) <|
      let e2 : I2 := x.1.getD ((IntKind.i64.wrap (x.2.2.2 - (1 : Int))).toNat) d2
      .ite (decide (e1.1 ≤ e2.1)) (
        .ret (.ret false)) <|
      .ret (.on (x.1, x.2.1, x.2.2.1, IntKind.i64.wrap (x.2.2.2 + (1 : Int))))) <|
    .ret (.on (x.1, x.2.1, x.2.2.1, IntKind.i64.wrap (x.2.2.2 + (1 : Int))))) <|
  .ret (.out x)
noncomputable def L_249_0 (x : (List I2) × (List I2) × Int × Int) : DT (((List I2) × (List I2) × Int × Int) ⊕ Bool) := whileT (fun x => (L_249_0G x).toDT) x
noncomputable def L_249_0C : LC := ⟨[(0, .one (.val (.sl (yI2)))), (8, .one (.val (.sl (yI2)))), (9, .one (.val (.int .i64))), (10, .one (.val (.int .i64)))], [(2, .one (.val (.bool)))], L_249_0⟩
noncomputable def B249 (x : List I2) : DTB (Bool × Unit) :=
  .ite (decide ((x.length : Int) > (8 : Int))) (
    .ret (false, ())) <|
  .bnd (L_249_0 (x, x, (x.length : Int), (0 : Int))) fun
  | .inl y1 =>
    .ret (true, ())
  | .inr y1 =>
    .ret (y1, ())
noncomputable def F249 (x : List I2) : DT (Bool × Unit) := (B249 x).toDT
noncomputable def con249 : Con := ⟨[.one (.val (.sl (yI2)))], [], [.one (.val (.bool))], F249⟩
noncomputable def C249 : Ctx := ⟨tiOf tab, fun t => eqL.contains t, fun g _ => conOf [(103, con103)] g, fun i => match i with | 0 => some L_249_0C | _ => none⟩
theorem cons249 : Cons prog C249 := cons_of _ (allC ⟨ok103, trivial⟩)
theorem L_249_0ok : LoopOk prog C249 [] 41 (nthLoop (bodyOf Tryz.f249) 0).1 (nthLoop (bodyOf Tryz.f249) 0).2 :=
  loop_while (l := L_249_0C) ctx cons249 mixed (by kernel_rfl) (loops_all 0 (by kernel_rfl) trivial) (by kernel_rfl) L_249_0G (fun x => by kernel_rfl) (fun _ => rfl)
theorem ok249 : con249.Sound prog 249 :=
  fn_con (C := C249) (fn := Tryz.f249) (code := (bodyOf Tryz.f249)) (n := 41) ctx cons249 mixed (by kernel_rfl) (by kernel_rfl) (by kernel_rfl) con249 (rg := [.tmp 2]) (by kernel_rfl) (by kernel_rfl) (loops_all 1 (by kernel_rfl) ⟨trivial, L_249_0ok⟩) (by kernel_rfl) B249 (fun x => by kernel_rfl) (fun _ => rfl)



/-! 104 impl.AreSecrets -/
noncomputable def L_104_0G (x : (List TSecret) × (List TSecret) × Int × Int) : DTB (Rd ((List TSecret) × (List TSecret) × Int × Int) Bool) :=
  .ite (decide (x.2.2.2 < x.2.2.1)) (
    .guard (decide (0 ≤ x.2.2.2 ∧ x.2.2.2 < (x.2.1.length : Int))) <|
    let e1 : TSecret := x.2.1.getD x.2.2.2.toNat d0
    .bnd (F103 (e1.1, (1 : Int), (999 : Int))) fun r1 =>
    .ite (!r1.1) (
      .ret (.ret false)) <|
    .ite (decide (x.2.2.2 > (0 : Int))) (
      .guard (decide (0 ≤ IntKind.i64.wrap (x.2.2.2 - (1 : Int)) ∧ IntKind.i64.wrap (x.2.2.2 - (1 : Int)) < (x.1.length : Int))) <|
      let e2 : TSecret := x.1.getD ((IntKind.i64.wrap (x.2.2.2 - (1 : Int))).toNat) d0
      .ite (decide (e1.1 ≤ e2.1)) (
        .ret (.ret false)) <|
      .ite ((e1.2.1.length : Int) == (0 : Int)) (
        .ret (.ret false)) <|
      .bnd (F249 e1.2.1) fun r2 =>
      .ite (!r2.1) (
        .ret (.ret false)) <|
      .bnd (F103 (e1.2.2, (0 : Int), (1000000 : Int))) fun r3 =>
      .ite (!r3.1) (
        .ret (.ret false)) <|
      .ret (.on (x.1, x.2.1, x.2.2.1, IntKind.i64.wrap (x.2.2.2 + (1 : Int))))) <|
    .ite ((e1.2.1.length : Int) == (0 : Int)) (
      .ret (.ret false)) <|
    .bnd (F249 e1.2.1) fun r4 =>
    .ite (!r4.1) (
      .ret (.ret false)) <|
    .bnd (F103 (e1.2.2, (0 : Int), (1000000 : Int))) fun r5 =>
    .ite (!r5.1) (
      .ret (.ret false)) <|
    .ret (.on (x.1, x.2.1, x.2.2.1, IntKind.i64.wrap (x.2.2.2 + (1 : Int))))) <|
  .ret (.out x)
noncomputable def L_104_0 (x : (List TSecret) × (List TSecret) × Int × Int) : DT (((List TSecret) × (List TSecret) × Int × Int) ⊕ Bool) := whileT (fun x => (L_104_0G x).toDT) x
noncomputable def L_104_0C : LC := ⟨[(0, .one (.val (.sl (yTSecret)))), (8, .one (.val (.sl (yTSecret)))), (9, .one (.val (.int .i64))), (10, .one (.val (.int .i64)))], [(2, .one (.val (.bool)))], L_104_0⟩
noncomputable def B104 (x : List TSecret) : DTB (Bool × Unit) :=
  .ite (decide ((x.length : Int) > (20 : Int))) (
    .ret (false, ())) <|
  .bnd (L_104_0 (x, x, (x.length : Int), (0 : Int))) fun
  | .inl y1 =>
    .ret (true, ())
  | .inr y1 =>
    .ret (y1, ())
noncomputable def F104 (x : List TSecret) : DT (Bool × Unit) := (B104 x).toDT
noncomputable def con104 : Con := ⟨[.one (.val (.sl (yTSecret)))], [], [.one (.val (.bool))], F104⟩
noncomputable def C104 : Ctx := ⟨tiOf tab, fun t => eqL.contains t, fun g _ => conOf [(103, con103), (249, con249)] g, fun i => match i with | 0 => some L_104_0C | _ => none⟩
theorem cons104 : Cons prog C104 := cons_of _ (allC ⟨ok103, ok249, trivial⟩)
theorem L_104_0ok : LoopOk prog C104 [] 53 (nthLoop (bodyOf Tryz.f104) 0).1 (nthLoop (bodyOf Tryz.f104) 0).2 :=
  loop_while (l := L_104_0C) ctx cons104 mixed (by kernel_rfl) (loops_all 0 (by kernel_rfl) trivial) (by kernel_rfl) L_104_0G (fun x => by kernel_rfl) (fun _ => rfl)
theorem ok104 : con104.Sound prog 104 :=
  fn_con (C := C104) (fn := Tryz.f104) (code := (bodyOf Tryz.f104)) (n := 53) ctx cons104 mixed (by kernel_rfl) (by kernel_rfl) (by kernel_rfl) con104 (rg := [.tmp 2]) (by kernel_rfl) (by kernel_rfl) (loops_all 1 (by kernel_rfl) ⟨trivial, L_104_0ok⟩) (by kernel_rfl) B104 (fun x => by kernel_rfl) (fun _ => rfl)



/-! 270 impl.slotWith$1 -/
noncomputable def B270 (x : I3 × Int) : DTB (Bool × Int) :=
  .ret (x.1.2.2 == x.2, x.2)
noncomputable def F270 (x : I3 × Int) : DT (Bool × Int) := (B270 x).toDT
noncomputable def con270 : Con := ⟨[.agg [.val (yI3)], .box [.val (.int .i64)]], [1], [.one (.val (.bool))], F270⟩
noncomputable def C270 : Ctx := ⟨tiOf tab, fun t => eqL.contains t, fun g _ => conOf [] g, fun i => match i with | _ => none⟩
theorem cons270 : Cons prog C270 := cons_of _ (fun _ h => by cases h)
theorem ok270 : con270.Sound prog 270 :=
  fn_con (C := C270) (fn := Tryz.f270) (code := (bodyOf Tryz.f270)) (n := 8) ctx cons270 mixed (by kernel_rfl) (by kernel_rfl) (by kernel_rfl) con270 (rg := [.tmp 3]) (by kernel_rfl) (by kernel_rfl) (loops_all 0 (by kernel_rfl) trivial) (by kernel_rfl) B270 (fun x => by kernel_rfl) (fun _ => rfl)



/-! 269_270 slices.IndexFunc[[]impl.Slot,impl.Slot] -/
noncomputable def L_269_270_0G (x : (List I3) × Int × Int × Int) : DTB (Rd ((List I3) × Int × Int × Int) (Int × Int)) :=
  .ite (decide (x.2.2.2 < x.2.2.1)) (
    .guard (decide (0 ≤ x.2.2.2 ∧ x.2.2.2 < (x.1.length : Int))) <|
    let e1 : I3 := x.1.getD x.2.2.2.toNat d3
    .bnd (F270 (e1, x.2.1)) fun r1 =>
    .ite (r1.1) (
      .ret (.ret (x.2.2.2, r1.2))) <|
    .ret (.on (x.1, r1.2, x.2.2.1, IntKind.i64.wrap (x.2.2.2 + (1 : Int))))) <|
  .ret (.out x)
noncomputable def L_269_270_0 (x : (List I3) × Int × Int × Int) : DT (((List I3) × Int × Int × Int) ⊕ (Int × Int)) := whileT (fun x => (L_269_270_0G x).toDT) x
noncomputable def L_269_270_0C : LC := ⟨[(0, .one (.val (.sl (yI3)))), (1, .fnb 270 [.val (.int .i64)]), (7, .one (.val (.int .i64))), (8, .one (.val (.int .i64)))], [(4, .one (.val (.int .i64))), (1, .fnb 270 [.val (.int .i64)])], L_269_270_0⟩
noncomputable def B269_270 (x : (List I3) × Int) : DTB (Int × Int) :=
  .bnd (L_269_270_0 (x.1, x.2, (x.1.length : Int), (0 : Int))) fun
  | .inl y1 =>
    .ret ((-1 : Int), y1.2.1)
  | .inr y1 =>
    .ret (y1.1, y1.2)
noncomputable def F269_270 (x : (List I3) × Int) : DT (Int × Int) := (B269_270 x).toDT
noncomputable def con269_270 : Con := ⟨[.one (.val (.sl (yI3))), .fnb 270 [.val (.int .i64)]], [1], [.one (.val (.int .i64))], F269_270⟩
noncomputable def C269_270 : Ctx := ⟨tiOf tab, fun t => eqL.contains t, fun g _ => conOf [(270, con270)] g, fun i => match i with | 0 => some L_269_270_0C | _ => none⟩
theorem cons269_270 : Cons prog C269_270 := cons_of _ (allC ⟨ok270, trivial⟩)
theorem L_269_270_0ok : LoopOk prog C269_270 [1] 19 (nthLoop (bodyOf Tryz.f269) 0).1 (nthLoop (bodyOf Tryz.f269) 0).2 :=
  loop_while (l := L_269_270_0C) ctx cons269_270 mixed (by kernel_rfl) (loops_all 0 (by kernel_rfl) trivial) (by kernel_rfl) L_269_270_0G (fun x => by kernel_rfl) (fun _ => rfl)
theorem ok269_270 : con269_270.Sound prog 269 :=
  fn_con (C := C269_270) (fn := Tryz.f269) (code := (bodyOf Tryz.f269)) (n := 19) ctx cons269_270 mixed (by kernel_rfl) (by kernel_rfl) (by kernel_rfl) con269_270 (rg := [.tmp 4]) (by kernel_rfl) (by kernel_rfl) (loops_all 1 (by kernel_rfl) ⟨trivial, L_269_270_0ok⟩) (by kernel_rfl) B269_270 (fun x => by kernel_rfl) (fun _ => rfl)


end Go.Am
