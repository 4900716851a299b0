import Derived.Test.YtomeklcamolijaaGreatGF1
set_option linter.unusedVariables false
set_option maxRecDepth 100000
namespace Go.Am
open Go Go.Proofs
/-! 120 impl.slotWith -/
noncomputable def B120 (x : (List I3) × Int) : DTB (Int × Unit) :=
  .ite (x.2 == (0 : Int)) (
    .ret ((-1 : Int), ())) <|
  .bnd (F269_270 x) fun r1 =>
  .ret (r1.1, ())
noncomputable def F120 (x : (List I3) × Int) : DT (Int × Unit) := (B120 x).toDT
noncomputable def con120 : Con := ⟨[.one (.val (.sl (yI3))), .one (.val (.int .i64))], [], [.one (.val (.int .i64))], F120⟩
noncomputable def C120 : Ctx := ⟨tiOf tab, fun t => eqL.contains t, fun g _ => conOf [(269, con269_270)] g, fun i => match i with | _ => none⟩
theorem cons120 : Cons prog C120 := cons_of _ (allC ⟨ok269_270, trivial⟩)
theorem ok120 : con120.Sound prog 120 :=
  fn_con (C := C120) (fn := Tryz.f120) (code := (bodyOf Tryz.f120)) (n := 10) ctx cons120 mixed (by kernel_rfl) (by kernel_rfl) (by kernel_rfl) con120 (rg := [.tmp 4]) (by kernel_rfl) (by kernel_rfl) (loops_all 0 (by kernel_rfl) trivial) (by kernel_rfl) B120 (fun x => by kernel_rfl) (fun _ => rfl)



/-! 138 impl.SlotOf -/
noncomputable def B138 (x : (List I3) × Int) : DTB (Int × Unit) :=
  .bnd (F120 x) fun r1 =>
  .ite (decide (r1.1 < (0 : Int))) (
    .ret ((0 : Int), ())) <|
  .guard (decide (0 ≤ r1.1 ∧ r1.1 < (x.1.length : Int))) <|
  let e1 : I3 := x.1.getD r1.1.toNat d3
  .ret (e1.1, ())
noncomputable def F138 (x : (List I3) × Int) : DT (Int × Unit) := (B138 x).toDT
noncomputable def con138 : Con := ⟨[.one (.val (.sl (yI3))), .one (.val (.int .i64))], [], [.one (.val (.int .i64))], F138⟩
noncomputable def C138 : Ctx := ⟨tiOf tab, fun t => eqL.contains t, fun g _ => conOf [(120, con120)] g, fun i => match i with | _ => none⟩
theorem cons138 : Cons prog C138 := cons_of _ (allC ⟨ok120, trivial⟩)
theorem ok138 : con138.Sound prog 138 :=
  fn_con (C := C138) (fn := Tryz.f138) (code := (bodyOf Tryz.f138)) (n := 16) ctx cons138 mixed (by kernel_rfl) (by kernel_rfl) (by kernel_rfl) con138 (rg := [.tmp 4]) (by kernel_rfl) (by kernel_rfl) (loops_all 0 (by kernel_rfl) trivial) (by kernel_rfl) B138 (fun x => by kernel_rfl) (fun _ => rfl)



/-! 29 impl.AreSlots -/
noncomputable def L_29_0G (x : (List I3) × (List I3) × Int × Int) : DTB (Rd ((List I3) × (List I3) × Int × Int) Bool) :=
  .ite (decide (x.2.2.2 < x.2.2.1)) (
    .guard (decide (0 ≤ x.2.2.2 ∧ x.2.2.2 < (x.2.1.length : Int))) <|
    let e1 : I3 := x.2.1.getD x.2.2.2.toNat d3
    .bnd (F103 (e1.1, (1 : Int), (99 : Int))) fun r1 =>
    .ite (!r1.1) (
      .ret (.ret false)) <|
    .ite (decide (x.2.2.2 > (0 : Int))) (
      .guard (decide (0 ≤ IntKind.i64.wrap (x.2.2.2 - (1 : Int)) ∧ IntKind.i64.wrap (x.2.2.2 - (1 : Int)) < (x.1.length : Int))) <|
      let e2 : I3 := x.1.getD ((IntKind.i64.wrap (x.2.2.2 - (1 : Int))).toNat) d3
      .ite (decide (e1.1 ≤ e2.1)) (
        .ret (.ret false)) <|
      .bnd (F103 (e1.2.1, (1 : Int), (50 : Int))) fun r2 =>
      .ite (!r2.1) (
        .ret (.ret false)) <|
      .bnd (F103 (e1.2.2, (0 : Int), (999 : Int))) fun r3 =>
      .ite (!r3.1) (
        .ret (.ret false)) <|
      .guard (decide (0 ≤ (0 : Int) ∧ (0 : Int) ≤ x.2.2.2 ∧ x.2.2.2 ≤ (x.1.length : Int))) <|
      .bnd (F138 ((x.1.take x.2.2.2.toNat).drop (0 : Int).toNat, e1.2.2)) fun r4 =>
      .ite (r4.1 != (0 : Int)) (
        .ret (.ret false)) <|
      .ret (.on (x.1, x.2.1, x.2.2.1, IntKind.i64.wrap (x.2.2.2 + (1 : Int))))) <|
    .bnd (F103 (e1.2.1, (1 : Int), (50 : Int))) fun r5 =>
    .ite (!r5.1) (
      .ret (.ret false)) <|
    .bnd (F103 (e1.2.2, (0 : Int), (999 : Int))) fun r6 =>
    .ite (!r6.1) (
      .ret (.ret false)) <|
    .guard (decide (0 ≤ (0 : Int) ∧ (0 : Int) ≤ x.2.2.2 ∧ x.2.2.2 ≤ (x.1.length : Int))) <|
    .bnd (F138 ((x.1.take x.2.2.2.toNat).drop (0 : Int).toNat, e1.2.2)) fun r7 =>
    .ite (r7.1 != (0 : Int)) (
      .ret (.ret false)) <|
    .ret (.on (x.1, x.2.1, x.2.2.1, IntKind.i64.wrap (x.2.2.2 + (1 : Int))))) <|
  .ret (.out x)
noncomputable def L_29_0 (x : (List I3) × (List I3) × Int × Int) : DT (((List I3) × (List I3) × Int × Int) ⊕ Bool) := whileT (fun x => (L_29_0G x).toDT) x
noncomputable def L_29_0C : LC := ⟨[(0, .one (.val (.sl (yI3)))), (8, .one (.val (.sl (yI3)))), (9, .one (.val (.int .i64))), (10, .one (.val (.int .i64)))], [(2, .one (.val (.bool)))], L_29_0⟩
noncomputable def B29 (x : List I3) : DTB (Bool × Unit) :=
  .ite (decide ((x.length : Int) > (30 : Int))) (
    .ret (false, ())) <|
  .bnd (L_29_0 (x, x, (x.length : Int), (0 : Int))) fun
  | .inl y1 =>
    .ret (true, ())
  | .inr y1 =>
    .ret (y1, ())
noncomputable def F29 (x : List I3) : DT (Bool × Unit) := (B29 x).toDT
noncomputable def con29 : Con := ⟨[.one (.val (.sl (yI3)))], [], [.one (.val (.bool))], F29⟩
noncomputable def C29 : Ctx := ⟨tiOf tab, fun t => eqL.contains t, fun g _ => conOf [(103, con103), (138, con138)] g, fun i => match i with | 0 => some L_29_0C | _ => none⟩
theorem cons29 : Cons prog C29 := cons_of _ (allC ⟨ok103, ok138, trivial⟩)
theorem L_29_0ok : LoopOk prog C29 [] 56 (nthLoop (bodyOf Tryz.f29) 0).1 (nthLoop (bodyOf Tryz.f29) 0).2 :=
  loop_while (l := L_29_0C) ctx cons29 mixed (by kernel_rfl) (loops_all 0 (by kernel_rfl) trivial) (by kernel_rfl) L_29_0G (fun x => by kernel_rfl) (fun _ => rfl)
theorem ok29 : con29.Sound prog 29 :=
  fn_con (C := C29) (fn := Tryz.f29) (code := (bodyOf Tryz.f29)) (n := 56) ctx cons29 mixed (by kernel_rfl) (by kernel_rfl) (by kernel_rfl) con29 (rg := [.tmp 2]) (by kernel_rfl) (by kernel_rfl) (loops_all 1 (by kernel_rfl) ⟨trivial, L_29_0ok⟩) (by kernel_rfl) B29 (fun x => by kernel_rfl) (fun _ => rfl)

/-! 105 impl.AreClaims -/
noncomputable def L_105_2G (x : (List I5) × I5 × (List I5) × Int × Int × (List I5) × Int × Int) : DTB (Rd ((List I5) × I5 × (List I5) × Int × Int × (List I5) × Int × Int) Bool) :=
  .ite (decide (x.2.2.2.2.2.2.2 < x.2.2.2.2.2.2.1)) (
    .guard (decide (0 ≤ x.2.2.2.2.2.2.2 ∧ x.2.2.2.2.2.2.2 < (x.2.2.2.2.2.1.length : Int))) <|
    let e1 : I5 := x.2.2.2.2.2.1.getD x.2.2.2.2.2.2.2.toNat d4
    .ite (x.2.1.2.2.2.2 == (3 : Int)) (
      .ite (e1.2.2.2.2 == (3 : Int)) (
        .ite (x.2.1.2.2.1 == e1.2.2.1) (
          .ret (.ret false)) <|
        .ret (.on (x.1, x.2.1, x.2.2.1, x.2.2.2.1, x.2.2.2.2.1, x.2.2.2.2.2.1, x.2.2.2.2.2.2.1, IntKind.i64.wrap (x.2.2.2.2.2.2.2 + (1 : Int))))) <|
      .ret (.on (x.1, x.2.1, x.2.2.1, x.2.2.2.1, x.2.2.2.2.1, x.2.2.2.2.2.1, x.2.2.2.2.2.2.1, IntKind.i64.wrap (x.2.2.2.2.2.2.2 + (1 : Int))))) <|
    .ret (.on (x.1, x.2.1, x.2.2.1, x.2.2.2.1, x.2.2.2.2.1, x.2.2.2.2.2.1, x.2.2.2.2.2.2.1, IntKind.i64.wrap (x.2.2.2.2.2.2.2 + (1 : Int))))) <|
  .ret (.out x)
noncomputable def L_105_2 (x : (List I5) × I5 × (List I5) × Int × Int × (List I5) × Int × Int) : DT (((List I5) × I5 × (List I5) × Int × Int × (List I5) × Int × Int) ⊕ Bool) := whileT (fun x => (L_105_2G x).toDT) x
noncomputable def L_105_2C : LC := ⟨[(0, .one (.val (.sl (yI5)))), (4, .box [.val (yI5)]), (10, .one (.val (.sl (yI5)))), (11, .one (.val (.int .i64))), (12, .one (.val (.int .i64))), (62, .one (.val (.sl (yI5)))), (63, .one (.val (.int .i64))), (64, .one (.val (.int .i64)))], [(2, .one (.val (.bool)))], L_105_2⟩
noncomputable def L_105_0G (x : (List I5) × (List I5) × Int × Int) : DTB (Rd ((List I5) × (List I5) × Int × Int) Bool) :=
  .ite (decide (x.2.2.2 < x.2.2.1)) (
    .guard (decide (0 ≤ x.2.2.2 ∧ x.2.2.2 < (x.2.1.length : Int))) <|
    let e1 : I5 := x.2.1.getD x.2.2.2.toNat d4
    .bnd (F103 (e1.1, (1 : Int), (999 : Int))) fun r1 =>
    .ite (!r1.1) (
      .ret (.ret false)) <|
    .ite (decide (x.2.2.2 > (0 : Int))) (
      .guard (decide (0 ≤ IntKind.i64.wrap (x.2.2.2 - (1 : Int)) ∧ IntKind.i64.wrap (x.2.2.2 - (1 : Int)) < (x.1.length : Int))) <|
      let e2 : I5 := x.1.getD ((IntKind.i64.wrap (x.2.2.2 - (1 : Int))).toNat) d4
      .ite (decide (e1.1 ≤ e2.1)) (
        .ret (.ret false)) <|
      .bnd (F103 (e1.2.1, (1 : Int), (999 : Int))) fun r2 =>
      .ite (!r2.1) (
        .ret (.ret false)) <|
      .bnd (F103 (e1.2.2.1, (1 : Int), (999 : Int))) fun r3 =>
      .ite (!r3.1) (
        .ret (.ret false)) <|
      .bnd (F103 (e1.2.2.2.1, (0 : Int), (100000 : Int))) fun r4 =>
      .ite (!r4.1) (
        .ret (.ret false)) <|
      .bnd (F103 (e1.2.2.2.2, (0 : Int), (3 : Int))) fun r5 =>
      .ite (!r5.1) (
        .ret (.ret false)) <|
      .guard (decide (0 ≤ (0 : Int) ∧ (0 : Int) ≤ x.2.2.2 ∧ x.2.2.2 ≤ (x.1.length : Int))) <|
      .bnd (L_105_2 (x.1, e1, x.2.1, x.2.2.1, x.2.2.2, (x.1.take x.2.2.2.toNat).drop (0 : Int).toNat, (((x.1.take x.2.2.2.toNat).drop (0 : Int).toNat).length : Int), (0 : Int))) fun
      | .inl y1 =>
        .ret (.on (y1.1, y1.2.2.1, y1.2.2.2.1, IntKind.i64.wrap (y1.2.2.2.2.1 + (1 : Int))))
      | .inr y1 =>
        .ret (.ret y1)) <|
    .bnd (F103 (e1.2.1, (1 : Int), (999 : Int))) fun r6 =>
    .ite (!r6.1) (
      .ret (.ret false)) <|
    .bnd (F103 (e1.2.2.1, (1 : Int), (999 : Int))) fun r7 =>
    .ite (!r7.1) (
      .ret (.ret false)) <|
    .bnd (F103 (e1.2.2.2.1, (0 : Int), (100000 : Int))) fun r8 =>
    .ite (!r8.1) (
      .ret (.ret false)) <|
    .bnd (F103 (e1.2.2.2.2, (0 : Int), (3 : Int))) fun r9 =>
    .ite (!r9.1) (
      .ret (.ret false)) <|
    .guard (decide (0 ≤ (0 : Int) ∧ (0 : Int) ≤ x.2.2.2 ∧ x.2.2.2 ≤ (x.1.length : Int))) <|
    .bnd (L_105_2 (x.1, e1, x.2.1, x.2.2.1, x.2.2.2, (x.1.take x.2.2.2.toNat).drop (0 : Int).toNat, (((x.1.take x.2.2.2.toNat).drop (0 : Int).toNat).length : Int), (0 : Int))) fun
    | .inl y2 =>
      .ret (.on (y2.1, y2.2.2.1, y2.2.2.2.1, IntKind.i64.wrap (y2.2.2.2.2.1 + (1 : Int))))
    | .inr y2 =>
      .ret (.ret y2)) <|
  .ret (.out x)
noncomputable def L_105_0 (x : (List I5) × (List I5) × Int × Int) : DT (((List I5) × (List I5) × Int × Int) ⊕ Bool) := whileT (fun x => (L_105_0G x).toDT) x
noncomputable def L_105_0C : LC := ⟨[(0, .one (.val (.sl (yI5)))), (10, .one (.val (.sl (yI5)))), (11, .one (.val (.int .i64))), (12, .one (.val (.int .i64)))], [(2, .one (.val (.bool)))], L_105_0⟩
noncomputable def B105 (x : List I5) : DTB (Bool × Unit) :=
  .ite (decide ((x.length : Int) > (20 : Int))) (
    .ret (false, ())) <|
  .bnd (L_105_0 (x, x, (x.length : Int), (0 : Int))) fun
  | .inl y1 =>
    .ret (true, ())
  | .inr y1 =>
    .ret (y1, ())
noncomputable def F105 (x : List I5) : DT (Bool × Unit) := (B105 x).toDT
noncomputable def con105 : Con := ⟨[.one (.val (.sl (yI5)))], [], [.one (.val (.bool))], F105⟩
noncomputable def C105 : Ctx := ⟨tiOf tab, fun t => eqL.contains t, fun g _ => conOf [(103, con103)] g, fun i => match i with | 2 => some L_105_2C | 0 => some L_105_0C | _ => none⟩
theorem cons105 : Cons prog C105 := cons_of _ (allC ⟨ok103, trivial⟩)
theorem L_105_2ok : LoopOk prog C105 [] 85 (nthLoop (nthLoop (bodyOf Tryz.f105) 0).2 0).1 (nthLoop (nthLoop (bodyOf Tryz.f105) 0).2 0).2 :=
  loop_while (l := L_105_2C) ctx cons105 mixed (by kernel_rfl) (loops_all 0 (by kernel_rfl) trivial) (by kernel_rfl) L_105_2G (fun x => by kernel_rfl) (fun _ => rfl)
theorem L_105_0ok : LoopOk prog C105 [] 85 (nthLoop (bodyOf Tryz.f105) 0).1 (nthLoop (bodyOf Tryz.f105) 0).2 :=
  loop_while (l := L_105_0C) ctx cons105 mixed (by kernel_rfl) (loops_all 1 (by kernel_rfl) ⟨trivial, L_105_2ok⟩) (by kernel_rfl) L_105_0G (fun x => by kernel_rfl) (fun _ => rfl)
theorem ok105 : con105.Sound prog 105 :=
  fn_con (C := C105) (fn := Tryz.f105) (code := (bodyOf Tryz.f105)) (n := 85) ctx cons105 mixed (by kernel_rfl) (by kernel_rfl) (by kernel_rfl) con105 (rg := [.tmp 2]) (by kernel_rfl) (by kernel_rfl) (loops_all 1 (by kernel_rfl) ⟨trivial, L_105_0ok⟩) (by kernel_rfl) B105 (fun x => by kernel_rfl) (fun _ => rfl)



/-! 439 impl.Mod -/
noncomputable def B439 (x : Int × Int) : DTB (Int × Unit) :=
  .bnd (F103 (x.2, (1 : Int), (1000000000000 : Int))) fun r1 =>
  .ite (!r1.1) (
    .ret ((0 : Int), ())) <|
  .guard (decide (x.2 ≠ 0)) <|
  .ite (decide ((x.1.tmod x.2) < (0 : Int))) (
    .ret (IntKind.i64.wrap ((x.1.tmod x.2) + x.2), ())) <|
  .ret (x.1.tmod x.2, ())
noncomputable def F439 (x : Int × Int) : DT (Int × Unit) := (B439 x).toDT
noncomputable def con439 : Con := ⟨[.one (.val (.int .i64)), .one (.val (.int .i64))], [], [.one (.val (.int .i64))], F439⟩
noncomputable def C439 : Ctx := ⟨tiOf tab, fun t => eqL.contains t, fun g _ => conOf [(103, con103)] g, fun i => match i with | _ => none⟩
theorem cons439 : Cons prog C439 := cons_of _ (allC ⟨ok103, trivial⟩)
theorem ok439 : con439.Sound prog 439 :=
  fn_con (C := C439) (fn := Tryz.f439) (code := (bodyOf Tryz.f439)) (n := 18) ctx cons439 mixed (by kernel_rfl) (by kernel_rfl) (by kernel_rfl) con439 (rg := [.tmp 4]) (by kernel_rfl) (by kernel_rfl) (loops_all 0 (by kernel_rfl) trivial) (by kernel_rfl) B439 (fun x => by kernel_rfl) (fun _ => rfl)



/-! 419 impl.fold -/
noncomputable def B419 (x : Int × Int) : DTB (Int × Unit) :=
  .bnd (F439 (x.2, (2147483647 : Int))) fun r1 =>
  let v1 : Int := IntKind.i64.wrap ((IntKind.i64.wrap (x.1 * (1000003 : Int))) + r1.1)
  .ret ((IntKind.i64.wrap (v1 + (13 : Int))).tmod (2147483647 : Int), ())
noncomputable def F419 (x : Int × Int) : DT (Int × Unit) := (B419 x).toDT
noncomputable def con419 : Con := ⟨[.one (.val (.int .i64)), .one (.val (.int .i64))], [], [.one (.val (.int .i64))], F419⟩
noncomputable def C419 : Ctx := ⟨tiOf tab, fun t => eqL.contains t, fun g _ => conOf [(439, con439)] g, fun i => match i with | _ => none⟩
theorem cons419 : Cons prog C419 := cons_of _ (allC ⟨ok439, trivial⟩)
theorem ok419 : con419.Sound prog 419 :=
  fn_con (C := C419) (fn := Tryz.f419) (code := (bodyOf Tryz.f419)) (n := 12) ctx cons419 mixed (by kernel_rfl) (by kernel_rfl) (by kernel_rfl) con419 (rg := [.tmp 4]) (by kernel_rfl) (by kernel_rfl) (loops_all 0 (by kernel_rfl) trivial) (by kernel_rfl) B419 (fun x => by kernel_rfl) (fun _ => rfl)



/-! 366 impl.Hash -/
noncomputable def L_366_0G (x : Int × (List Int) × Int × Int) : DTB (Rd (Int × (List Int) × Int × Int) Unit) :=
  .ite (decide (x.2.2.2 < x.2.2.1)) (
    .guard (decide (0 ≤ x.2.2.2 ∧ x.2.2.2 < (x.2.1.length : Int))) <|
    .bnd (F419 (x.1, x.2.1.getD x.2.2.2.toNat (0 : Int))) fun r1 =>
    .ret (.on (r1.1, x.2.1, x.2.2.1, IntKind.i64.wrap (x.2.2.2 + (1 : Int))))) <|
  .ret (.out x)
noncomputable def L_366_0 (x : Int × (List Int) × Int × Int) : DT ((Int × (List Int) × Int × Int) ⊕ Unit) := whileT (fun x => (L_366_0G x).toDT) x
noncomputable def L_366_0C : LC := ⟨[(3, .one (.val (.int .i64))), (6, .one (.val (.sl (.int .i64)))), (7, .one (.val (.int .i64))), (8, .one (.val (.int .i64)))], [], L_366_0⟩
noncomputable def B366 (x : List Int) : DTB (Int × Unit) :=
  .bnd (L_366_0 ((11 : Int), x, (x.length : Int), (0 : Int))) fun
  | .inl y1 =>
    .ret (y1.1, ())
  | .inr y1 =>
    .fail
noncomputable def F366 (x : List Int) : DT (Int × Unit) := (B366 x).toDT
noncomputable def con366 : Con := ⟨[.one (.val (.sl (.int .i64)))], [], [.one (.val (.int .i64))], F366⟩
noncomputable def C366 : Ctx := ⟨tiOf tab, fun t => eqL.contains t, fun g _ => conOf [(419, con419)] g, fun i => match i with | 0 => some L_366_0C | _ => none⟩
theorem cons366 : Cons prog C366 := cons_of _ (allC ⟨ok419, trivial⟩)
theorem L_366_0ok : LoopOk prog C366 [] 17 (nthLoop (bodyOf Tryz.f366) 0).1 (nthLoop (bodyOf Tryz.f366) 0).2 :=
  loop_while (l := L_366_0C) ctx cons366 mixed (by kernel_rfl) (loops_all 0 (by kernel_rfl) trivial) (by kernel_rfl) L_366_0G (fun x => by kernel_rfl) (fun _ => rfl)
theorem ok366 : con366.Sound prog 366 :=
  fn_con (C := C366) (fn := Tryz.f366) (code := (bodyOf Tryz.f366)) (n := 17) ctx cons366 mixed (by kernel_rfl) (by kernel_rfl) (by kernel_rfl) con366 (rg := [.tmp 2]) (by kernel_rfl) (by kernel_rfl) (loops_all 1 (by kernel_rfl) ⟨trivial, L_366_0ok⟩) (by kernel_rfl) B366 (fun x => by kernel_rfl) (fun _ => rfl)



/-! 250 impl.HandSeal -/
noncomputable def B250 (x : Int × I5) : DTB (Int × Unit) :=
  .bnd (F366 [x.1, x.2.1, x.2.2.1, x.2.2.2.1, x.2.2.2.2.1]) fun r1 =>
  .ret (r1.1, ())
noncomputable def F250 (x : Int × I5) : DT (Int × Unit) := (B250 x).toDT
noncomputable def con250 : Con := ⟨[.one (.val (.int .i64)), .agg [.val (yI5)]], [], [.one (.val (.int .i64))], F250⟩
noncomputable def C250 : Ctx := ⟨tiOf tab, fun t => eqL.contains t, fun g _ => conOf [(366, con366)] g, fun i => match i with | _ => none⟩
theorem cons250 : Cons prog C250 := cons_of _ (allC ⟨ok366, trivial⟩)
theorem ok250 : con250.Sound prog 250 :=
  fn_con (C := C250) (fn := Tryz.f250) (code := (bodyOf Tryz.f250)) (n := 16) ctx cons250 mixed (by kernel_rfl) (by kernel_rfl) (by kernel_rfl) con250 (rg := [.tmp 4]) (by kernel_rfl) (by kernel_rfl) (loops_all 0 (by kernel_rfl) trivial) (by kernel_rfl) B250 (fun x => by kernel_rfl) (fun _ => rfl)



/-! 121 impl.lastHand -/
noncomputable def L_121_0G (x : (List I5) × Int × Int) : DTB (Rd ((List I5) × Int × Int) Int) :=
  .ite (decide (x.2.2 ≥ (0 : Int))) (
    .guard (decide (0 ≤ x.2.2 ∧ x.2.2 < (x.1.length : Int))) <|
    let e1 : I5 := x.1.getD x.2.2.toNat d4
    .ite (e1.1 == x.2.1) (
      .ret (.ret x.2.2)) <|
    .ret (.on (x.1, x.2.1, IntKind.i64.wrap (x.2.2 - (1 : Int))))) <|
  .ret (.out x)
noncomputable def L_121_0 (x : (List I5) × Int × Int) : DT (((List I5) × Int × Int) ⊕ Int) := whileT (fun x => (L_121_0G x).toDT) x
noncomputable def L_121_0C : LC := ⟨[(0, .one (.val (.sl (yI5)))), (1, .one (.val (.int .i64))), (5, .one (.val (.int .i64)))], [(4, .one (.val (.int .i64)))], L_121_0⟩
noncomputable def B121 (x : (List I5) × Int) : DTB (Int × Unit) :=
  .bnd (L_121_0 (x.1, x.2, IntKind.i64.wrap ((x.1.length : Int) - (1 : Int)))) fun
  | .inl y1 =>
    .ret ((-1 : Int), ())
  | .inr y1 =>
    .ret (y1, ())
noncomputable def F121 (x : (List I5) × Int) : DT (Int × Unit) := (B121 x).toDT
noncomputable def con121 : Con := ⟨[.one (.val (.sl (yI5))), .one (.val (.int .i64))], [], [.one (.val (.int .i64))], F121⟩
noncomputable def C121 : Ctx := ⟨tiOf tab, fun t => eqL.contains t, fun g _ => conOf [] g, fun i => match i with | 0 => some L_121_0C | _ => none⟩
theorem cons121 : Cons prog C121 := cons_of _ (fun _ h => by cases h)
theorem L_121_0ok : LoopOk prog C121 [] 21 (nthLoop (bodyOf Tryz.f121) 0).1 (nthLoop (bodyOf Tryz.f121) 0).2 :=
  loop_while (l := L_121_0C) ctx cons121 mixed (by kernel_rfl) (loops_all 0 (by kernel_rfl) trivial) (by kernel_rfl) L_121_0G (fun x => by kernel_rfl) (fun _ => rfl)
theorem ok121 : con121.Sound prog 121 :=
  fn_con (C := C121) (fn := Tryz.f121) (code := (bodyOf Tryz.f121)) (n := 21) ctx cons121 mixed (by kernel_rfl) (by kernel_rfl) (by kernel_rfl) con121 (rg := [.tmp 4]) (by kernel_rfl) (by kernel_rfl) (loops_all 1 (by kernel_rfl) ⟨trivial, L_121_0ok⟩) (by kernel_rfl) B121 (fun x => by kernel_rfl) (fun _ => rfl)



/-! 106 impl.IsChain -/
noncomputable def L_106_0G (x : (List I5) × Int × (List I5) × Int × Int) : DTB (Rd ((List I5) × Int × (List I5) × Int × Int) Bool) :=
  .ite (decide (x.2.2.2.2 < x.2.2.2.1)) (
    .guard (decide (0 ≤ x.2.2.2.2 ∧ x.2.2.2.2 < (x.2.2.1.length : Int))) <|
    let e1 : I5 := x.2.2.1.getD x.2.2.2.2.toNat d4
    .bnd (F103 (e1.1, (1 : Int), (999 : Int))) fun r1 =>
    .ite (!r1.1) (
      .ret (.ret false)) <|
    .bnd (F103 (e1.2.1, (1 : Int), (5 : Int))) fun r2 =>
    .ite (!r2.1) (
      .ret (.ret false)) <|
    .bnd (F103 (e1.2.2.1, (0 : Int), (999 : Int))) fun r3 =>
    .ite (!r3.1) (
      .ret (.ret false)) <|
    .bnd (F103 (e1.2.2.2.1, (0 : Int), (100000 : Int))) fun r4 =>
    .ite (!r4.1) (
      .ret (.ret false)) <|
    .ite (decide (x.2.2.2.2 > (0 : Int))) (
      .guard (decide (0 ≤ IntKind.i64.wrap (x.2.2.2.2 - (1 : Int)) ∧ IntKind.i64.wrap (x.2.2.2.2 - (1 : Int)) < (x.1.length : Int))) <|
      let e2 : I5 := x.1.getD ((IntKind.i64.wrap (x.2.2.2.2 - (1 : Int))).toNat) d4
      .ite (decide (e1.2.2.2.1 < e2.2.2.2.1)) (
        .ret (.ret false)) <|
      .bnd (F250 (x.2.1, e1)) fun r5 =>
      .ite (e1.2.2.2.2 != r5.1) (
        .ret (.ret false)) <|
      .guard (decide (0 ≤ (0 : Int) ∧ (0 : Int) ≤ x.2.2.2.2 ∧ x.2.2.2.2 ≤ (x.1.length : Int))) <|
      .bnd (F121 ((x.1.take x.2.2.2.2.toNat).drop (0 : Int).toNat, e1.1)) fun r6 =>
      .ite (decide (r6.1 < (0 : Int))) (
        .ite (decide (e1.2.1 > (2 : Int))) (
          .ret (.ret false)) <|
        .ret (.on (x.1, e1.2.2.2.2, x.2.2.1, x.2.2.2.1, IntKind.i64.wrap (x.2.2.2.2 + (1 : Int))))) <|
      .ite (e1.2.1 == (1 : Int)) (
        .ret (.ret false)) <|
      .guard (decide (0 ≤ r6.1 ∧ r6.1 < (x.1.length : Int))) <|
      let e3 : I5 := x.1.getD r6.1.toNat d4
      .ite (decide (e3.2.1 > (2 : Int))) (
        .ret (.ret false)) <|
      .ret (.on (x.1, e1.2.2.2.2, x.2.2.1, x.2.2.2.1, IntKind.i64.wrap (x.2.2.2.2 + (1 : Int))))) <|
    .bnd (F250 (x.2.1, e1)) fun r7 =>
    .ite (e1.2.2.2.2 != r7.1) (
      .ret (.ret false)) <|
    .guard (decide (0 ≤ (0 : Int) ∧ (0 : Int) ≤ x.2.2.2.2 ∧ x.2.2.2.2 ≤ (x.1.length : Int))) <|
    .bnd (F121 ((x.1.take x.2.2.2.2.toNat).drop (0 : Int).toNat, e1.1)) fun r8 =>
    .ite (decide (r8.1 < (0 : Int))) (
      .ite (decide (e1.2.1 > (2 : Int))) (
        .ret (.ret false)) <|
      .ret (.on (x.1, e1.2.2.2.2, x.2.2.1, x.2.2.2.1, IntKind.i64.wrap (x.2.2.2.2 + (1 : Int))))) <|
    .ite (e1.2.1 == (1 : Int)) (
      .ret (.ret false)) <|
    .guard (decide (0 ≤ r8.1 ∧ r8.1 < (x.1.length : Int))) <|
    let e4 : I5 := x.1.getD r8.1.toNat d4
    .ite (decide (e4.2.1 > (2 : Int))) (
      .ret (.ret false)) <|
    .ret (.on (x.1, e1.2.2.2.2, x.2.2.1, x.2.2.2.1, IntKind.i64.wrap (x.2.2.2.2 + (1 : Int))))) <|
  .ret (.out x)
noncomputable def L_106_0 (x : (List I5) × Int × (List I5) × Int × Int) : DT (((List I5) × Int × (List I5) × Int × Int) ⊕ Bool) := whileT (fun x => (L_106_0G x).toDT) x
noncomputable def L_106_0C : LC := ⟨[(0, .one (.val (.sl (yI5)))), (3, .one (.val (.int .i64))), (10, .one (.val (.sl (yI5)))), (11, .one (.val (.int .i64))), (12, .one (.val (.int .i64)))], [(2, .one (.val (.bool)))], L_106_0⟩
noncomputable def B106 (x : List I5) : DTB (Bool × Unit) :=
  .ite (decide ((x.length : Int) > (100 : Int))) (
    .ret (false, ())) <|
  .bnd (L_106_0 (x, (0 : Int), x, (x.length : Int), (0 : Int))) fun
  | .inl y1 =>
    .ret (true, ())
  | .inr y1 =>
    .ret (y1, ())
noncomputable def F106 (x : List I5) : DT (Bool × Unit) := (B106 x).toDT
noncomputable def con106 : Con := ⟨[.one (.val (.sl (yI5)))], [], [.one (.val (.bool))], F106⟩
noncomputable def C106 : Ctx := ⟨tiOf tab, fun t => eqL.contains t, fun g _ => conOf [(103, con103), (121, con121), (250, con250)] g, fun i => match i with | 0 => some L_106_0C | _ => none⟩
theorem cons106 : Cons prog C106 := cons_of _ (allC ⟨ok103, ok121, ok250, trivial⟩)
theorem L_106_0ok : LoopOk prog C106 [] 87 (nthLoop (bodyOf Tryz.f106) 0).1 (nthLoop (bodyOf Tryz.f106) 0).2 :=
  loop_while (l := L_106_0C) ctx cons106 mixed (by kernel_rfl) (loops_all 0 (by kernel_rfl) trivial) (by kernel_rfl) L_106_0G (fun x => by kernel_rfl) (fun _ => rfl)
theorem ok106 : con106.Sound prog 106 :=
  fn_con (C := C106) (fn := Tryz.f106) (code := (bodyOf Tryz.f106)) (n := 87) ctx cons106 mixed (by kernel_rfl) (by kernel_rfl) (by kernel_rfl) con106 (rg := [.tmp 2]) (by kernel_rfl) (by kernel_rfl) (loops_all 1 (by kernel_rfl) ⟨trivial, L_106_0ok⟩) (by kernel_rfl) B106 (fun x => by kernel_rfl) (fun _ => rfl)



/-! 107 impl.AreEntries -/
noncomputable def L_107_0G (x : (List I4) × (List I4) × Int × Int) : DTB (Rd ((List I4) × (List I4) × Int × Int) Bool) :=
  .ite (decide (x.2.2.2 < x.2.2.1)) (
    .guard (decide (0 ≤ x.2.2.2 ∧ x.2.2.2 < (x.2.1.length : Int))) <|
    let e1 : I4 := x.2.1.getD x.2.2.2.toNat d5
    .bnd (F103 (e1.1, (0 : Int), (999 : Int))) fun r1 =>
    .ite (!r1.1) (
      .ret (.ret false)) <|
    .bnd (F103 (e1.2.1, (0 : Int), (999 : Int))) fun r2 =>
    .ite (!r2.1) (
      .ret (.ret false)) <|
    .ite (e1.1 == e1.2.1) (
      .ret (.ret false)) <|
    .bnd (F103 (e1.2.2.1, (1 : Int), (10000000 : Int))) fun r3 =>
    .ite (!r3.1) (
      .ret (.ret false)) <|
    .bnd (F103 (e1.2.2.2, (0 : Int), (100000 : Int))) fun r4 =>
    .ite (!r4.1) (
      .ret (.ret false)) <|
    .ite (decide (x.2.2.2 > (0 : Int))) (
      .guard (decide (0 ≤ IntKind.i64.wrap (x.2.2.2 - (1 : Int)) ∧ IntKind.i64.wrap (x.2.2.2 - (1 : Int)) < (x.1.length : Int))) <|
      let e2 : I4 := x.1.getD ((IntKind.i64.wrap (x.2.2.2 - (1 : Int))).toNat) d5
      .ite (decide (e1.2.2.2 < e2.2.2.2)) (
        .ret (.ret false)) <|
      .ret (.on (x.1, x.2.1, x.2.2.1, IntKind.i64.wrap (x.2.2.2 + (1 : Int))))) <|
    .ret (.on (x.1, x.2.1, x.2.2.1, IntKind.i64.wrap (x.2.2.2 + (1 : Int))))) <|
  .ret (.out x)
noncomputable def L_107_0 (x : (List I4) × (List I4) × Int × Int) : DT (((List I4) × (List I4) × Int × Int) ⊕ Bool) := whileT (fun x => (L_107_0G x).toDT) x
noncomputable def L_107_0C : LC := ⟨[(0, .one (.val (.sl (yI4)))), (8, .one (.val (.sl (yI4)))), (9, .one (.val (.int .i64))), (10, .one (.val (.int .i64)))], [(2, .one (.val (.bool)))], L_107_0⟩
noncomputable def B107 (x : List I4) : DTB (Bool × Unit) :=
  .ite (decide ((x.length : Int) > (100 : Int))) (
    .ret (false, ())) <|
  .bnd (L_107_0 (x, x, (x.length : Int), (0 : Int))) fun
  | .inl y1 =>
    .ret (true, ())
  | .inr y1 =>
    .ret (y1, ())
noncomputable def F107 (x : List I4) : DT (Bool × Unit) := (B107 x).toDT
noncomputable def con107 : Con := ⟨[.one (.val (.sl (yI4)))], [], [.one (.val (.bool))], F107⟩
noncomputable def C107 : Ctx := ⟨tiOf tab, fun t => eqL.contains t, fun g _ => conOf [(103, con103)] g, fun i => match i with | 0 => some L_107_0C | _ => none⟩
theorem cons107 : Cons prog C107 := cons_of _ (allC ⟨ok103, trivial⟩)
theorem L_107_0ok : LoopOk prog C107 [] 60 (nthLoop (bodyOf Tryz.f107) 0).1 (nthLoop (bodyOf Tryz.f107) 0).2 :=
  loop_while (l := L_107_0C) ctx cons107 mixed (by kernel_rfl) (loops_all 0 (by kernel_rfl) trivial) (by kernel_rfl) L_107_0G (fun x => by kernel_rfl) (fun _ => rfl)
theorem ok107 : con107.Sound prog 107 :=
  fn_con (C := C107) (fn := Tryz.f107) (code := (bodyOf Tryz.f107)) (n := 60) ctx cons107 mixed (by kernel_rfl) (by kernel_rfl) (by kernel_rfl) con107 (rg := [.tmp 2]) (by kernel_rfl) (by kernel_rfl) (loops_all 1 (by kernel_rfl) ⟨trivial, L_107_0ok⟩) (by kernel_rfl) B107 (fun x => by kernel_rfl) (fun _ => rfl)



/-! 20 impl.InHouse -/
noncomputable def L_20_0G (x : (List I5) × Int × (List Int) × (List I5) × Int × Int) : DTB (Rd ((List I5) × Int × (List Int) × (List I5) × Int × Int) Unit) :=
  .ite (decide (x.2.2.2.2.2 < x.2.2.2.2.1)) (
    .guard (decide (0 ≤ x.2.2.2.2.2 ∧ x.2.2.2.2.2 < (x.2.2.2.1.length : Int))) <|
    let e1 : I5 := x.2.2.2.1.getD x.2.2.2.2.2.toNat d4
    .ite (e1.2.1 == (2 : Int)) (
      .ite (e1.2.2.1 == x.2.1) (
        .bnd (F121 (x.1, e1.1)) fun r1 =>
        .ite (r1.1 == x.2.2.2.2.2) (
          .guard (decide ((x.2.2.1.length + [e1.1].length) * 8 ≤ 140737488355328)) <|
          .ret (.on (x.1, x.2.1, x.2.2.1 ++ [e1.1], x.2.2.2.1, x.2.2.2.2.1, IntKind.i64.wrap (x.2.2.2.2.2 + (1 : Int))))) <|
        .ret (.on (x.1, x.2.1, x.2.2.1, x.2.2.2.1, x.2.2.2.2.1, IntKind.i64.wrap (x.2.2.2.2.2 + (1 : Int))))) <|
      .ret (.on (x.1, x.2.1, x.2.2.1, x.2.2.2.1, x.2.2.2.2.1, IntKind.i64.wrap (x.2.2.2.2.2 + (1 : Int))))) <|
    .ret (.on (x.1, x.2.1, x.2.2.1, x.2.2.2.1, x.2.2.2.2.1, IntKind.i64.wrap (x.2.2.2.2.2 + (1 : Int))))) <|
  .ret (.out x)
noncomputable def L_20_0 (x : (List I5) × Int × (List Int) × (List I5) × Int × Int) : DT (((List I5) × Int × (List Int) × (List I5) × Int × Int) ⊕ Unit) := whileT (fun x => (L_20_0G x).toDT) x
noncomputable def L_20_0C : LC := ⟨[(0, .one (.val (.sl (yI5)))), (1, .one (.val (.int .i64))), (5, .one (.own (.int .i64))), (13, .one (.val (.sl (yI5)))), (14, .one (.val (.int .i64))), (15, .one (.val (.int .i64)))], [], L_20_0⟩
noncomputable def B20 (x : (List I5) × Int) : DTB ((List Int) × Unit) :=
  .bnd (F106 x.1) fun r1 =>
  .ite (!r1.1) (
    .ret (([] : List Int), ())) <|
  .bnd (L_20_0 (x.1, x.2, ([] : List Int), x.1, (x.1.length : Int), (0 : Int))) fun
  | .inl y1 =>
    .bnd (F122 y1.2.2.1) fun r2 =>
    .ret (r2.2, ())
  | .inr y1 =>
    .fail
noncomputable def F20 (x : (List I5) × Int) : DT ((List Int) × Unit) := (B20 x).toDT
noncomputable def con20 : Con := ⟨[.one (.val (.sl (yI5))), .one (.val (.int .i64))], [], [.one (.own (.int .i64))], F20⟩
noncomputable def C20 : Ctx := ⟨tiOf tab, fun t => eqL.contains t, fun g _ => conOf [(106, con106), (121, con121), (122, con122)] g, fun i => match i with | 0 => some L_20_0C | _ => none⟩
theorem cons20 : Cons prog C20 := cons_of _ (allC ⟨ok106, ok121, ok122, trivial⟩)
theorem L_20_0ok : LoopOk prog C20 [] 46 (nthLoop (bodyOf Tryz.f20) 0).1 (nthLoop (bodyOf Tryz.f20) 0).2 :=
  loop_while (l := L_20_0C) ctx cons20 mixed (by kernel_rfl) (loops_all 0 (by kernel_rfl) trivial) (by kernel_rfl) L_20_0G (fun x => by kernel_rfl) (fun _ => rfl)
theorem ok20 : con20.Sound prog 20 :=
  fn_con (C := C20) (fn := Tryz.f20) (code := (bodyOf Tryz.f20)) (n := 46) ctx cons20 mixed (by kernel_rfl) (by kernel_rfl) (by kernel_rfl) con20 (rg := [.tmp 4]) (by kernel_rfl) (by kernel_rfl) (loops_all 1 (by kernel_rfl) ⟨trivial, L_20_0ok⟩) (by kernel_rfl) B20 (fun x => by kernel_rfl) (fun _ => rfl)



/-! 305 slices.Index[[]int,int] -/
noncomputable def L_305_0G (x : (List Int) × Int × Int × Int) : DTB (Rd ((List Int) × Int × Int × Int) Int) :=
  .ite (decide (x.2.2.2 < x.2.2.1)) (
    .guard (decide (0 ≤ x.2.2.2 ∧ x.2.2.2 < (x.1.length : Int))) <|
    .ite (x.2.1 == (x.1.getD x.2.2.2.toNat (0 : Int))) (
      .ret (.ret x.2.2.2)) <|
    .ret (.on (x.1, x.2.1, x.2.2.1, IntKind.i64.wrap (x.2.2.2 + (1 : Int))))) <|
  .ret (.out x)
noncomputable def L_305_0 (x : (List Int) × Int × Int × Int) : DT (((List Int) × Int × Int × Int) ⊕ Int) := whileT (fun x => (L_305_0G x).toDT) x
noncomputable def L_305_0C : LC := ⟨[(0, .one (.val (.sl (.int .i64)))), (1, .one (.val (.int .i64))), (7, .one (.val (.int .i64))), (8, .one (.val (.int .i64)))], [(4, .one (.val (.int .i64)))], L_305_0⟩
noncomputable def B305 (x : (List Int) × Int) : DTB (Int × Unit) :=
  .bnd (L_305_0 (x.1, x.2, (x.1.length : Int), (0 : Int))) fun
  | .inl y1 =>
    .ret ((-1 : Int), ())
  | .inr y1 =>
    .ret (y1, ())
noncomputable def F305 (x : (List Int) × Int) : DT (Int × Unit) := (B305 x).toDT
noncomputable def con305 : Con := ⟨[.one (.val (.sl (.int .i64))), .one (.val (.int .i64))], [], [.one (.val (.int .i64))], F305⟩
noncomputable def C305 : Ctx := ⟨tiOf tab, fun t => eqL.contains t, fun g _ => conOf [] g, fun i => match i with | 0 => some L_305_0C | _ => none⟩
theorem cons305 : Cons prog C305 := cons_of _ (fun _ h => by cases h)
theorem L_305_0ok : LoopOk prog C305 [] 19 (nthLoop (bodyOf Tryz.f305) 0).1 (nthLoop (bodyOf Tryz.f305) 0).2 :=
  loop_while (l := L_305_0C) ctx cons305 mixed (by kernel_rfl) (loops_all 0 (by kernel_rfl) trivial) (by kernel_rfl) L_305_0G (fun x => by kernel_rfl) (fun _ => rfl)
theorem ok305 : con305.Sound prog 305 :=
  fn_con (C := C305) (fn := Tryz.f305) (code := (bodyOf Tryz.f305)) (n := 19) ctx cons305 mixed (by kernel_rfl) (by kernel_rfl) (by kernel_rfl) con305 (rg := [.tmp 4]) (by kernel_rfl) (by kernel_rfl) (loops_all 1 (by kernel_rfl) ⟨trivial, L_305_0ok⟩) (by kernel_rfl) B305 (fun x => by kernel_rfl) (fun _ => rfl)



/-! 165 slices.Contains[[]int,int] -/
noncomputable def B165 (x : (List Int) × Int) : DTB (Bool × Unit) :=
  .bnd (F305 x) fun r1 =>
  .ret (decide (r1.1 ≥ (0 : Int)), ())
noncomputable def F165 (x : (List Int) × Int) : DT (Bool × Unit) := (B165 x).toDT
noncomputable def con165 : Con := ⟨[.one (.val (.sl (.int .i64))), .one (.val (.int .i64))], [], [.one (.val (.bool))], F165⟩
noncomputable def C165 : Ctx := ⟨tiOf tab, fun t => eqL.contains t, fun g _ => conOf [(305, con305)] g, fun i => match i with | _ => none⟩
theorem cons165 : Cons prog C165 := cons_of _ (allC ⟨ok305, trivial⟩)
theorem ok165 : con165.Sound prog 165 :=
  fn_con (C := C165) (fn := Tryz.f165) (code := (bodyOf Tryz.f165)) (n := 9) ctx cons165 mixed (by kernel_rfl) (by kernel_rfl) (by kernel_rfl) con165 (rg := [.tmp 4]) (by kernel_rfl) (by kernel_rfl) (loops_all 0 (by kernel_rfl) trivial) (by kernel_rfl) B165 (fun x => by kernel_rfl) (fun _ => rfl)



/-! 124 impl.FindThing$1 -/
noncomputable def B124 (x : TFind × Int) : DTB (Bool × Int) :=
  .ret (x.1.1.1 == x.2, x.2)
noncomputable def F124 (x : TFind × Int) : DT (Bool × Int) := (B124 x).toDT
noncomputable def con124 : Con := ⟨[.agg [.val (yTFind)], .box [.val (.int .i64)]], [1], [.one (.val (.bool))], F124⟩
noncomputable def C124 : Ctx := ⟨tiOf tab, fun t => eqL.contains t, fun g _ => conOf [] g, fun i => match i with | _ => none⟩
theorem cons124 : Cons prog C124 := cons_of _ (fun _ h => by cases h)
theorem ok124 : con124.Sound prog 124 :=
  fn_con (C := C124) (fn := Tryz.f124) (code := (bodyOf Tryz.f124)) (n := 9) ctx cons124 mixed (by kernel_rfl) (by kernel_rfl) (by kernel_rfl) con124 (rg := [.tmp 3]) (by kernel_rfl) (by kernel_rfl) (loops_all 0 (by kernel_rfl) trivial) (by kernel_rfl) B124 (fun x => by kernel_rfl) (fun _ => rfl)



/-! 123_124 slices.IndexFunc[[]impl.Find,impl.Find] -/
noncomputable def L_123_124_0G (x : (List TFind) × Int × Int × Int) : DTB (Rd ((List TFind) × Int × Int × Int) (Int × Int)) :=
  .ite (decide (x.2.2.2 < x.2.2.1)) (
    .guard (decide (0 ≤ x.2.2.2 ∧ x.2.2.2 < (x.1.length : Int))) <|
    let e1 : TFind := x.1.getD x.2.2.2.toNat d1
    .bnd (F124 (e1, x.2.1)) fun r1 =>
    .ite (r1.1) (
      .ret (.ret (x.2.2.2, r1.2))) <|
    .ret (.on (x.1, r1.2, x.2.2.1, IntKind.i64.wrap (x.2.2.2 + (1 : Int))))) <|
  .ret (.out x)
noncomputable def L_123_124_0 (x : (List TFind) × Int × Int × Int) : DT (((List TFind) × Int × Int × Int) ⊕ (Int × Int)) := whileT (fun x => (L_123_124_0G x).toDT) x
noncomputable def L_123_124_0C : LC := ⟨[(0, .one (.val (.sl (yTFind)))), (1, .fnb 124 [.val (.int .i64)]), (7, .one (.val (.int .i64))), (8, .one (.val (.int .i64)))], [(4, .one (.val (.int .i64))), (1, .fnb 124 [.val (.int .i64)])], L_123_124_0⟩
noncomputable def B123_124 (x : (List TFind) × Int) : DTB (Int × Int) :=
  .bnd (L_123_124_0 (x.1, x.2, (x.1.length : Int), (0 : Int))) fun
  | .inl y1 =>
    .ret ((-1 : Int), y1.2.1)
  | .inr y1 =>
    .ret (y1.1, y1.2)
noncomputable def F123_124 (x : (List TFind) × Int) : DT (Int × Int) := (B123_124 x).toDT
noncomputable def con123_124 : Con := ⟨[.one (.val (.sl (yTFind))), .fnb 124 [.val (.int .i64)]], [1], [.one (.val (.int .i64))], F123_124⟩
noncomputable def C123_124 : Ctx := ⟨tiOf tab, fun t => eqL.contains t, fun g _ => conOf [(124, con124)] g, fun i => match i with | 0 => some L_123_124_0C | _ => none⟩
theorem cons123_124 : Cons prog C123_124 := cons_of _ (allC ⟨ok124, trivial⟩)
theorem L_123_124_0ok : LoopOk prog C123_124 [1] 19 (nthLoop (bodyOf Tryz.f123) 0).1 (nthLoop (bodyOf Tryz.f123) 0).2 :=
  loop_while (l := L_123_124_0C) ctx cons123_124 mixed (by kernel_rfl) (loops_all 0 (by kernel_rfl) trivial) (by kernel_rfl) L_123_124_0G (fun x => by kernel_rfl) (fun _ => rfl)
theorem ok123_124 : con123_124.Sound prog 123 :=
  fn_con (C := C123_124) (fn := Tryz.f123) (code := (bodyOf Tryz.f123)) (n := 19) ctx cons123_124 mixed (by kernel_rfl) (by kernel_rfl) (by kernel_rfl) con123_124 (rg := [.tmp 4]) (by kernel_rfl) (by kernel_rfl) (loops_all 1 (by kernel_rfl) ⟨trivial, L_123_124_0ok⟩) (by kernel_rfl) B123_124 (fun x => by kernel_rfl) (fun _ => rfl)



/-! 21 impl.FindThing -/
noncomputable def B21 (x : (List TFind) × Int) : DTB (Int × Unit) :=
  .bnd (F123_124 x) fun r1 =>
  .ret (r1.1, ())
noncomputable def F21 (x : (List TFind) × Int) : DT (Int × Unit) := (B21 x).toDT
noncomputable def con21 : Con := ⟨[.one (.val (.sl (yTFind))), .one (.val (.int .i64))], [], [.one (.val (.int .i64))], F21⟩
noncomputable def C21 : Ctx := ⟨tiOf tab, fun t => eqL.contains t, fun g _ => conOf [(123, con123_124)] g, fun i => match i with | _ => none⟩
theorem cons21 : Cons prog C21 := cons_of _ (allC ⟨ok123_124, trivial⟩)
theorem ok21 : con21.Sound prog 21 :=
  fn_con (C := C21) (fn := Tryz.f21) (code := (bodyOf Tryz.f21)) (n := 8) ctx cons21 mixed (by kernel_rfl) (by kernel_rfl) (by kernel_rfl) con21 (rg := [.tmp 4]) (by kernel_rfl) (by kernel_rfl) (loops_all 0 (by kernel_rfl) trivial) (by kernel_rfl) B21 (fun x => by kernel_rfl) (fun _ => rfl)



/-! 108 impl.areKept -/
noncomputable def L_108_0G (x : THouse × (List Int) × (List TFind) × Int × Int) : DTB (Rd (THouse × (List Int) × (List TFind) × Int × Int) Bool) :=
  .ite (decide (x.2.2.2.2 < x.2.2.2.1)) (
    .guard (decide (0 ≤ x.2.2.2.2 ∧ x.2.2.2.2 < (x.2.2.1.length : Int))) <|
    let e1 : TFind := x.2.2.1.getD x.2.2.2.2.toNat d1
    .guard (decide (0 ≤ x.2.2.2.2 ∧ x.2.2.2.2 < (x.1.2.2.1.length : Int))) <|
    let e2 : TSecret := x.1.2.2.1.getD x.2.2.2.2.toNat d0
    .ite (e2.1 != e1.1.1) (
      .ret (.ret false)) <|
    .bnd (F120 (x.1.2.2.2.1, e1.1.1)) fun r1 =>
    .bnd (F165 (x.2.1, e1.1.1)) fun r2 =>
    .ite (!((decide (r1.1 ≥ (0 : Int))) == r2.1)) (
      .ret (.ret false)) <|
    .ret (.on (x.1, x.2.1, x.2.2.1, x.2.2.2.1, IntKind.i64.wrap (x.2.2.2.2 + (1 : Int))))) <|
  .ret (.out x)
noncomputable def L_108_0 (x : THouse × (List Int) × (List TFind) × Int × Int) : DT ((THouse × (List Int) × (List TFind) × Int × Int) ⊕ Bool) := whileT (fun x => (L_108_0G x).toDT) x
noncomputable def L_108_0C : LC := ⟨[(1, .box [.val (yTHouse)]), (3, .one (.own (.int .i64))), (23, .one (.val (.sl (yTFind)))), (24, .one (.val (.int .i64))), (25, .one (.val (.int .i64)))], [(2, .one (.val (.bool)))], L_108_0⟩
noncomputable def L_108_2G (x : THouse × (List Int) × (List I3) × Int × Int) : DTB (Rd (THouse × (List Int) × (List I3) × Int × Int) Bool) :=
  .ite (decide (x.2.2.2.2 < x.2.2.2.1)) (
    .guard (decide (0 ≤ x.2.2.2.2 ∧ x.2.2.2.2 < (x.2.2.1.length : Int))) <|
    let e1 : I3 := x.2.2.1.getD x.2.2.2.2.toNat d3
    .ite (e1.2.2 != (0 : Int)) (
      .bnd (F21 (x.1.2.1, e1.2.2)) fun r1 =>
      .ite (decide (r1.1 < (0 : Int))) (
        .ret (.ret false)) <|
      .ret (.on (x.1, x.2.1, x.2.2.1, x.2.2.2.1, IntKind.i64.wrap (x.2.2.2.2 + (1 : Int))))) <|
    .ret (.on (x.1, x.2.1, x.2.2.1, x.2.2.2.1, IntKind.i64.wrap (x.2.2.2.2 + (1 : Int))))) <|
  .ret (.out x)
noncomputable def L_108_2 (x : THouse × (List Int) × (List I3) × Int × Int) : DT ((THouse × (List Int) × (List I3) × Int × Int) ⊕ Bool) := whileT (fun x => (L_108_2G x).toDT) x
noncomputable def L_108_2C : LC := ⟨[(1, .box [.val (yTHouse)]), (3, .one (.own (.int .i64))), (57, .one (.val (.sl (yI3)))), (58, .one (.val (.int .i64))), (59, .one (.val (.int .i64)))], [(2, .one (.val (.bool)))], L_108_2⟩
noncomputable def L_108_4G (x : THouse × (List Int) × Int × Int) : DTB (Rd (THouse × (List Int) × Int × Int) Bool) :=
  .ite (decide (x.2.2.2 < x.2.2.1)) (
    .guard (decide (0 ≤ x.2.2.2 ∧ x.2.2.2 < (x.2.1.length : Int))) <|
    .bnd (F21 (x.1.2.1, x.2.1.getD x.2.2.2.toNat (0 : Int))) fun r1 =>
    .ite (decide (r1.1 < (0 : Int))) (
      .ret (.ret false)) <|
    .ret (.on (x.1, x.2.1, x.2.2.1, IntKind.i64.wrap (x.2.2.2 + (1 : Int))))) <|
  .ret (.out x)
noncomputable def L_108_4 (x : THouse × (List Int) × Int × Int) : DT ((THouse × (List Int) × Int × Int) ⊕ Bool) := whileT (fun x => (L_108_4G x).toDT) x
noncomputable def L_108_4C : LC := ⟨[(1, .box [.val (yTHouse)]), (75, .one (.own (.int .i64))), (76, .one (.val (.int .i64))), (77, .one (.val (.int .i64)))], [(2, .one (.val (.bool)))], L_108_4⟩
noncomputable def B108 (x : THouse) : DTB (Bool × Unit) :=
  .ite ((x.2.2.1.length : Int) != (x.2.1.length : Int)) (
    .ret (false, ())) <|
  .bnd (F20 (x.2.2.2.2.2.2.1, x.1)) fun r1 =>
  .bnd (L_108_0 (x, r1.1, x.2.1, (x.2.1.length : Int), (0 : Int))) fun
  | .inl y1 =>
    .bnd (L_108_2 (y1.1, y1.2.1, y1.1.2.2.2.1, (y1.1.2.2.2.1.length : Int), (0 : Int))) fun
    | .inl y2 =>
      .bnd (L_108_4 (y2.1, y2.2.1, (y2.2.1.length : Int), (0 : Int))) fun
      | .inl y3 =>
        .ret (true, ())
      | .inr y3 =>
        .ret (y3, ())
    | .inr y2 =>
      .ret (y2, ())
  | .inr y1 =>
    .ret (y1, ())
noncomputable def F108 (x : THouse) : DT (Bool × Unit) := (B108 x).toDT
noncomputable def con108 : Con := ⟨[.agg [.val (yTHouse)]], [], [.one (.val (.bool))], F108⟩
noncomputable def C108 : Ctx := ⟨tiOf tab, fun t => eqL.contains t, fun g _ => conOf [(120, con120), (165, con165), (20, con20), (21, con21)] g, fun i => match i with | 0 => some L_108_0C | 2 => some L_108_2C | 4 => some L_108_4C | _ => none⟩
theorem cons108 : Cons prog C108 := cons_of _ (allC ⟨ok120, ok165, ok20, ok21, trivial⟩)
theorem L_108_0ok : LoopOk prog C108 [] 87 (nthLoop (bodyOf Tryz.f108) 0).1 (nthLoop (bodyOf Tryz.f108) 0).2 :=
  loop_while (l := L_108_0C) ctx cons108 mixed (by kernel_rfl) (loops_all 0 (by kernel_rfl) trivial) (by kernel_rfl) L_108_0G (fun x => by kernel_rfl) (fun _ => rfl)
theorem L_108_2ok : LoopOk prog C108 [] 87 (nthLoop (bodyOf Tryz.f108) 1).1 (nthLoop (bodyOf Tryz.f108) 1).2 :=
  loop_while (l := L_108_2C) ctx cons108 mixed (by kernel_rfl) (loops_all 0 (by kernel_rfl) trivial) (by kernel_rfl) L_108_2G (fun x => by kernel_rfl) (fun _ => rfl)
theorem L_108_4ok : LoopOk prog C108 [] 87 (nthLoop (bodyOf Tryz.f108) 2).1 (nthLoop (bodyOf Tryz.f108) 2).2 :=
  loop_while (l := L_108_4C) ctx cons108 mixed (by kernel_rfl) (loops_all 0 (by kernel_rfl) trivial) (by kernel_rfl) L_108_4G (fun x => by kernel_rfl) (fun _ => rfl)
theorem ok108 : con108.Sound prog 108 :=
  fn_con (C := C108) (fn := Tryz.f108) (code := (bodyOf Tryz.f108)) (n := 87) ctx cons108 mixed (by kernel_rfl) (by kernel_rfl) (by kernel_rfl) con108 (rg := [.tmp 2]) (by kernel_rfl) (by kernel_rfl) (loops_all 3 (by kernel_rfl) ⟨⟨⟨trivial, L_108_0ok⟩, L_108_2ok⟩, L_108_4ok⟩) (by kernel_rfl) B108 (fun x => by kernel_rfl) (fun _ => rfl)



/-! 251 impl.IsTrial -/
noncomputable def B251 (x : I4) : DTB (Bool × Unit) :=
  .bnd (F103 (x.1, (1 : Int), (999 : Int))) fun r1 =>
  .ite (r1.1) (
    .bnd (F103 (x.2.2.1, (0 : Int), (100 : Int))) fun r2 =>
    .ite (r2.1) (
      .bnd (F103 (x.2.2.2, (0 : Int), (100 : Int))) fun r3 =>
      .ite (r3.1) (
        .ret (x.2.1 == (IntKind.i64.wrap (x.2.2.1 + x.2.2.2)), ())) <|
      .ret (false, ())) <|
    .ret (false, ())) <|
  .ret (false, ())
noncomputable def F251 (x : I4) : DT (Bool × Unit) := (B251 x).toDT
noncomputable def con251 : Con := ⟨[.agg [.val (yI4)]], [], [.one (.val (.bool))], F251⟩
noncomputable def C251 : Ctx := ⟨tiOf tab, fun t => eqL.contains t, fun g _ => conOf [(103, con103)] g, fun i => match i with | _ => none⟩
theorem cons251 : Cons prog C251 := cons_of _ (allC ⟨ok103, trivial⟩)
theorem ok251 : con251.Sound prog 251 :=
  fn_con (C := C251) (fn := Tryz.f251) (code := (bodyOf Tryz.f251)) (n := 26) ctx cons251 mixed (by kernel_rfl) (by kernel_rfl) (by kernel_rfl) con251 (rg := [.tmp 2]) (by kernel_rfl) (by kernel_rfl) (loops_all 0 (by kernel_rfl) trivial) (by kernel_rfl) B251 (fun x => by kernel_rfl) (fun _ => rfl)



/-! 279 impl.secretOf$1 -/
noncomputable def B279 (x : TSecret × Int) : DTB (Bool × Int) :=
  .ret (x.1.1 == x.2, x.2)
noncomputable def F279 (x : TSecret × Int) : DT (Bool × Int) := (B279 x).toDT
noncomputable def con279 : Con := ⟨[.agg [.val (yTSecret)], .box [.val (.int .i64)]], [1], [.one (.val (.bool))], F279⟩
noncomputable def C279 : Ctx := ⟨tiOf tab, fun t => eqL.contains t, fun g _ => conOf [] g, fun i => match i with | _ => none⟩
theorem cons279 : Cons prog C279 := cons_of _ (fun _ h => by cases h)
theorem ok279 : con279.Sound prog 279 :=
  fn_con (C := C279) (fn := Tryz.f279) (code := (bodyOf Tryz.f279)) (n := 8) ctx cons279 mixed (by kernel_rfl) (by kernel_rfl) (by kernel_rfl) con279 (rg := [.tmp 3]) (by kernel_rfl) (by kernel_rfl) (loops_all 0 (by kernel_rfl) trivial) (by kernel_rfl) B279 (fun x => by kernel_rfl) (fun _ => rfl)



/-! 278_279 slices.IndexFunc[[]impl.Secret,impl.Secret] -/
noncomputable def L_278_279_0G (x : (List TSecret) × Int × Int × Int) : DTB (Rd ((List TSecret) × Int × Int × Int) (Int × Int)) :=
  .ite (decide (x.2.2.2 < x.2.2.1)) (
    .guard (decide (0 ≤ x.2.2.2 ∧ x.2.2.2 < (x.1.length : Int))) <|
    let e1 : TSecret := x.1.getD x.2.2.2.toNat d0
    .bnd (F279 (e1, x.2.1)) fun r1 =>
    .ite (r1.1) (
      .ret (.ret (x.2.2.2, r1.2))) <|
    .ret (.on (x.1, r1.2, x.2.2.1, IntKind.i64.wrap (x.2.2.2 + (1 : Int))))) <|
  .ret (.out x)
noncomputable def L_278_279_0 (x : (List TSecret) × Int × Int × Int) : DT (((List TSecret) × Int × Int × Int) ⊕ (Int × Int)) := whileT (fun x => (L_278_279_0G x).toDT) x
noncomputable def L_278_279_0C : LC := ⟨[(0, .one (.val (.sl (yTSecret)))), (1, .fnb 279 [.val (.int .i64)]), (7, .one (.val (.int .i64))), (8, .one (.val (.int .i64)))], [(4, .one (.val (.int .i64))), (1, .fnb 279 [.val (.int .i64)])], L_278_279_0⟩
noncomputable def B278_279 (x : (List TSecret) × Int) : DTB (Int × Int) :=
  .bnd (L_278_279_0 (x.1, x.2, (x.1.length : Int), (0 : Int))) fun
  | .inl y1 =>
    .ret ((-1 : Int), y1.2.1)
  | .inr y1 =>
    .ret (y1.1, y1.2)
noncomputable def F278_279 (x : (List TSecret) × Int) : DT (Int × Int) := (B278_279 x).toDT
noncomputable def con278_279 : Con := ⟨[.one (.val (.sl (yTSecret))), .fnb 279 [.val (.int .i64)]], [1], [.one (.val (.int .i64))], F278_279⟩
noncomputable def C278_279 : Ctx := ⟨tiOf tab, fun t => eqL.contains t, fun g _ => conOf [(279, con279)] g, fun i => match i with | 0 => some L_278_279_0C | _ => none⟩
theorem cons278_279 : Cons prog C278_279 := cons_of _ (allC ⟨ok279, trivial⟩)
theorem L_278_279_0ok : LoopOk prog C278_279 [1] 19 (nthLoop (bodyOf Tryz.f278) 0).1 (nthLoop (bodyOf Tryz.f278) 0).2 :=
  loop_while (l := L_278_279_0C) ctx cons278_279 mixed (by kernel_rfl) (loops_all 0 (by kernel_rfl) trivial) (by kernel_rfl) L_278_279_0G (fun x => by kernel_rfl) (fun _ => rfl)
theorem ok278_279 : con278_279.Sound prog 278 :=
  fn_con (C := C278_279) (fn := Tryz.f278) (code := (bodyOf Tryz.f278)) (n := 19) ctx cons278_279 mixed (by kernel_rfl) (by kernel_rfl) (by kernel_rfl) con278_279 (rg := [.tmp 4]) (by kernel_rfl) (by kernel_rfl) (loops_all 1 (by kernel_rfl) ⟨trivial, L_278_279_0ok⟩) (by kernel_rfl) B278_279 (fun x => by kernel_rfl) (fun _ => rfl)



/-! 131 impl.secretOf -/
noncomputable def B131 (x : (List TSecret) × Int) : DTB (Int × Unit) :=
  .bnd (F278_279 x) fun r1 =>
  .ret (r1.1, ())
noncomputable def F131 (x : (List TSecret) × Int) : DT (Int × Unit) := (B131 x).toDT
noncomputable def con131 : Con := ⟨[.one (.val (.sl (yTSecret))), .one (.val (.int .i64))], [], [.one (.val (.int .i64))], F131⟩
noncomputable def C131 : Ctx := ⟨tiOf tab, fun t => eqL.contains t, fun g _ => conOf [(278, con278_279)] g, fun i => match i with | _ => none⟩
theorem cons131 : Cons prog C131 := cons_of _ (allC ⟨ok278_279, trivial⟩)
theorem ok131 : con131.Sound prog 131 :=
  fn_con (C := C131) (fn := Tryz.f131) (code := (bodyOf Tryz.f131)) (n := 8) ctx cons131 mixed (by kernel_rfl) (by kernel_rfl) (by kernel_rfl) con131 (rg := [.tmp 4]) (by kernel_rfl) (by kernel_rfl) (loops_all 0 (by kernel_rfl) trivial) (by kernel_rfl) B131 (fun x => by kernel_rfl) (fun _ => rfl)



/-! 26 impl.MarksOf -/
noncomputable def B26 (x : (List TSecret) × Int) : DTB ((List I2) × Unit) :=
  .bnd (F131 x) fun r1 =>
  .ite (decide (r1.1 < (0 : Int))) (
    .ret (([] : List I2), ())) <|
  .guard (decide (0 ≤ r1.1 ∧ r1.1 < (x.1.length : Int))) <|
  let e1 : TSecret := x.1.getD r1.1.toNat d0
  .bnd (F132 e1.2.1) fun r2 =>
  .ret (r2.1, ())
noncomputable def F26 (x : (List TSecret) × Int) : DT ((List I2) × Unit) := (B26 x).toDT
noncomputable def con26 : Con := ⟨[.one (.val (.sl (yTSecret))), .one (.val (.int .i64))], [], [.one (.own (yI2))], F26⟩
noncomputable def C26 : Ctx := ⟨tiOf tab, fun t => eqL.contains t, fun g _ => conOf [(131, con131), (132, con132)] g, fun i => match i with | _ => none⟩
theorem cons26 : Cons prog C26 := cons_of _ (allC ⟨ok131, ok132, trivial⟩)
theorem ok26 : con26.Sound prog 26 :=
  fn_con (C := C26) (fn := Tryz.f26) (code := (bodyOf Tryz.f26)) (n := 18) ctx cons26 mixed (by kernel_rfl) (by kernel_rfl) (by kernel_rfl) con26 (rg := [.tmp 4]) (by kernel_rfl) (by kernel_rfl) (loops_all 0 (by kernel_rfl) trivial) (by kernel_rfl) B26 (fun x => by kernel_rfl) (fun _ => rfl)



/-! 25 impl.NeedFor -/
noncomputable def B25 (x : List I2) : DTB (Int × Unit) :=
  let v1 : Int := if (x.length : Int) < (3 : Int) then (x.length : Int) else (3 : Int)
  .ret (v1, ())
noncomputable def F25 (x : List I2) : DT (Int × Unit) := (B25 x).toDT
noncomputable def con25 : Con := ⟨[.one (.val (.sl (yI2)))], [], [.one (.val (.int .i64))], F25⟩
noncomputable def C25 : Ctx := ⟨tiOf tab, fun t => eqL.contains t, fun g _ => conOf [] g, fun i => match i with | _ => none⟩
theorem cons25 : Cons prog C25 := cons_of _ (fun _ h => by cases h)
theorem ok25 : con25.Sound prog 25 :=
  fn_con (C := C25) (fn := Tryz.f25) (code := (bodyOf Tryz.f25)) (n := 6) ctx cons25 mixed (by kernel_rfl) (by kernel_rfl) (by kernel_rfl) con25 (rg := [.tmp 2]) (by kernel_rfl) (by kernel_rfl) (loops_all 0 (by kernel_rfl) trivial) (by kernel_rfl) B25 (fun x => by kernel_rfl) (fun _ => rfl)



/-! 181 impl.TrialState -/
noncomputable def B181 (x : (List I2) × I4) : DTB (Int × Unit) :=
  .bnd (F251 x.2) fun r1 =>
  .ite (!r1.1) (
    .ret ((2 : Int), ())) <|
  .bnd (F249 x.1) fun r2 =>
  .ite (!r2.1) (
    .ret ((2 : Int), ())) <|
  .ite (decide (x.2.2.2.2 > (1 : Int))) (
    .ret ((2 : Int), ())) <|
  .ite (decide ((x.1.length : Int) > (0 : Int))) (
    .bnd (F25 x.1) fun r3 =>
    .ite (decide (x.2.2.2.1 ≥ r3.1)) (
      .ret ((1 : Int), ())) <|
    .ret ((0 : Int), ())) <|
  .ret ((0 : Int), ())
noncomputable def F181 (x : (List I2) × I4) : DT (Int × Unit) := (B181 x).toDT
noncomputable def con181 : Con := ⟨[.one (.val (.sl (yI2))), .agg [.val (yI4)]], [], [.one (.val (.int .i64))], F181⟩
noncomputable def C181 : Ctx := ⟨tiOf tab, fun t => eqL.contains t, fun g _ => conOf [(249, con249), (25, con25), (251, con251)] g, fun i => match i with | _ => none⟩
theorem cons181 : Cons prog C181 := cons_of _ (allC ⟨ok249, ok25, ok251, trivial⟩)
theorem ok181 : con181.Sound prog 181 :=
  fn_con (C := C181) (fn := Tryz.f181) (code := (bodyOf Tryz.f181)) (n := 30) ctx cons181 mixed (by kernel_rfl) (by kernel_rfl) (by kernel_rfl) con181 (rg := [.tmp 4]) (by kernel_rfl) (by kernel_rfl) (loops_all 0 (by kernel_rfl) trivial) (by kernel_rfl) B181 (fun x => by kernel_rfl) (fun _ => rfl)



/-! 252 impl.wanted -/
noncomputable def B252 (x : Int) : DTB (Int × Unit) :=
  .ite (x == (0 : Int)) (
    .ret ((0 : Int), ())) <|
  .ite (x == (2 : Int)) (
    .ret ((2 : Int), ())) <|
  .ret ((1 : Int), ())
noncomputable def F252 (x : Int) : DT (Int × Unit) := (B252 x).toDT
noncomputable def con252 : Con := ⟨[.one (.val (.int .i64))], [], [.one (.val (.int .i64))], F252⟩
noncomputable def C252 : Ctx := ⟨tiOf tab, fun t => eqL.contains t, fun g _ => conOf [] g, fun i => match i with | _ => none⟩
theorem cons252 : Cons prog C252 := cons_of _ (fun _ h => by cases h)
theorem ok252 : con252.Sound prog 252 :=
  fn_con (C := C252) (fn := Tryz.f252) (code := (bodyOf Tryz.f252)) (n := 8) ctx cons252 mixed (by kernel_rfl) (by kernel_rfl) (by kernel_rfl) con252 (rg := [.tmp 2]) (by kernel_rfl) (by kernel_rfl) (loops_all 0 (by kernel_rfl) trivial) (by kernel_rfl) B252 (fun x => by kernel_rfl) (fun _ => rfl)



/-! 109 impl.areTrials -/
noncomputable def L_109_0G (x : THouse × (List I5) × Int × Int) : DTB (Rd (THouse × (List I5) × Int × Int) Bool) :=
  .ite (decide (x.2.2.2 < x.2.2.1)) (
    .guard (decide (0 ≤ x.2.2.2 ∧ x.2.2.2 < (x.2.1.length : Int))) <|
    let e1 : I5 := x.2.1.getD x.2.2.2.toNat d4
    .guard (decide (0 ≤ x.2.2.2 ∧ x.2.2.2 < (x.1.2.2.2.2.2.1.length : Int))) <|
    let e2 : I4 := x.1.2.2.2.2.2.1.getD x.2.2.2.toNat d5
    .bnd (F21 (x.1.2.1, e1.2.2.1)) fun r1 =>
    .ite (decide (r1.1 < (0 : Int))) (
      .ret (.ret false)) <|
    .bnd (F251 e2) fun r2 =>
    .ite (!r2.1) (
      .ret (.ret false)) <|
    .ite (e2.1 != e1.1) (
      .ret (.ret false)) <|
    .bnd (F26 (x.1.2.2.1, e1.2.2.1)) fun r3 =>
    .bnd (F181 (r3.1, e2)) fun r4 =>
    .bnd (F252 e1.2.2.2.2) fun r5 =>
    .ite (r4.1 != r5.1) (
      .ret (.ret false)) <|
    .ret (.on (x.1, x.2.1, x.2.2.1, IntKind.i64.wrap (x.2.2.2 + (1 : Int))))) <|
  .ret (.out x)
noncomputable def L_109_0 (x : THouse × (List I5) × Int × Int) : DT ((THouse × (List I5) × Int × Int) ⊕ Bool) := whileT (fun x => (L_109_0G x).toDT) x
noncomputable def L_109_0C : LC := ⟨[(1, .box [.val (yTHouse)]), (14, .one (.val (.sl (yI5)))), (15, .one (.val (.int .i64))), (16, .one (.val (.int .i64)))], [(2, .one (.val (.bool)))], L_109_0⟩
noncomputable def B109 (x : THouse) : DTB (Bool × Unit) :=
  .ite ((x.2.2.2.2.2.1.length : Int) != (x.2.2.2.2.1.length : Int)) (
    .ret (false, ())) <|
  .bnd (L_109_0 (x, x.2.2.2.2.1, (x.2.2.2.2.1.length : Int), (0 : Int))) fun
  | .inl y1 =>
    .ret (true, ())
  | .inr y1 =>
    .ret (y1, ())
noncomputable def F109 (x : THouse) : DT (Bool × Unit) := (B109 x).toDT
noncomputable def con109 : Con := ⟨[.agg [.val (yTHouse)]], [], [.one (.val (.bool))], F109⟩
noncomputable def C109 : Ctx := ⟨tiOf tab, fun t => eqL.contains t, fun g _ => conOf [(181, con181), (21, con21), (251, con251), (252, con252), (26, con26)] g, fun i => match i with | 0 => some L_109_0C | _ => none⟩
theorem cons109 : Cons prog C109 := cons_of _ (allC ⟨ok181, ok21, ok251, ok252, ok26, trivial⟩)
theorem L_109_0ok : LoopOk prog C109 [] 58 (nthLoop (bodyOf Tryz.f109) 0).1 (nthLoop (bodyOf Tryz.f109) 0).2 :=
  loop_while (l := L_109_0C) ctx cons109 mixed (by kernel_rfl) (loops_all 0 (by kernel_rfl) trivial) (by kernel_rfl) L_109_0G (fun x => by kernel_rfl) (fun _ => rfl)
theorem ok109 : con109.Sound prog 109 :=
  fn_con (C := C109) (fn := Tryz.f109) (code := (bodyOf Tryz.f109)) (n := 58) ctx cons109 mixed (by kernel_rfl) (by kernel_rfl) (by kernel_rfl) con109 (rg := [.tmp 2]) (by kernel_rfl) (by kernel_rfl) (loops_all 1 (by kernel_rfl) ⟨trivial, L_109_0ok⟩) (by kernel_rfl) B109 (fun x => by kernel_rfl) (fun _ => rfl)



/-! 110 impl.latest -/
noncomputable def L_110_0G (x : THouse × Int × (List TFind) × Int × Int) : DTB (Rd (THouse × Int × (List TFind) × Int × Int) Unit) :=
  .ite (decide (x.2.2.2.2 < x.2.2.2.1)) (
    .guard (decide (0 ≤ x.2.2.2.2 ∧ x.2.2.2.2 < (x.2.2.1.length : Int))) <|
    let e1 : TFind := x.2.2.1.getD x.2.2.2.2.toNat d1
    .ret (.on (x.1, if e1.2.2.1 > x.2.1 then e1.2.2.1 else x.2.1, x.2.2.1, x.2.2.2.1, IntKind.i64.wrap (x.2.2.2.2 + (1 : Int))))) <|
  .ret (.out x)
noncomputable def L_110_0 (x : THouse × Int × (List TFind) × Int × Int) : DT ((THouse × Int × (List TFind) × Int × Int) ⊕ Unit) := whileT (fun x => (L_110_0G x).toDT) x
noncomputable def L_110_0C : LC := ⟨[(1, .box [.val (yTHouse)]), (3, .one (.val (.int .i64))), (13, .one (.val (.sl (yTFind)))), (14, .one (.val (.int .i64))), (15, .one (.val (.int .i64)))], [], L_110_0⟩
noncomputable def L_110_2G (x : THouse × Int × (List I5) × Int × Int) : DTB (Rd (THouse × Int × (List I5) × Int × Int) Unit) :=
  .ite (decide (x.2.2.2.2 < x.2.2.2.1)) (
    .guard (decide (0 ≤ x.2.2.2.2 ∧ x.2.2.2.2 < (x.2.2.1.length : Int))) <|
    let e1 : I5 := x.2.2.1.getD x.2.2.2.2.toNat d4
    .ret (.on (x.1, if e1.2.2.2.1 > x.2.1 then e1.2.2.2.1 else x.2.1, x.2.2.1, x.2.2.2.1, IntKind.i64.wrap (x.2.2.2.2 + (1 : Int))))) <|
  .ret (.out x)
noncomputable def L_110_2 (x : THouse × Int × (List I5) × Int × Int) : DT ((THouse × Int × (List I5) × Int × Int) ⊕ Unit) := whileT (fun x => (L_110_2G x).toDT) x
noncomputable def L_110_2C : LC := ⟨[(1, .box [.val (yTHouse)]), (3, .one (.val (.int .i64))), (25, .one (.val (.sl (yI5)))), (26, .one (.val (.int .i64))), (27, .one (.val (.int .i64)))], [], L_110_2⟩
noncomputable def L_110_4G (x : THouse × Int × (List I5) × Int × Int) : DTB (Rd (THouse × Int × (List I5) × Int × Int) Unit) :=
  .ite (decide (x.2.2.2.2 < x.2.2.2.1)) (
    .guard (decide (0 ≤ x.2.2.2.2 ∧ x.2.2.2.2 < (x.2.2.1.length : Int))) <|
    let e1 : I5 := x.2.2.1.getD x.2.2.2.2.toNat d4
    .ret (.on (x.1, if e1.2.2.2.1 > x.2.1 then e1.2.2.2.1 else x.2.1, x.2.2.1, x.2.2.2.1, IntKind.i64.wrap (x.2.2.2.2 + (1 : Int))))) <|
  .ret (.out x)
noncomputable def L_110_4 (x : THouse × Int × (List I5) × Int × Int) : DT ((THouse × Int × (List I5) × Int × Int) ⊕ Unit) := whileT (fun x => (L_110_4G x).toDT) x
noncomputable def L_110_4C : LC := ⟨[(1, .box [.val (yTHouse)]), (3, .one (.val (.int .i64))), (37, .one (.val (.sl (yI5)))), (38, .one (.val (.int .i64))), (39, .one (.val (.int .i64)))], [], L_110_4⟩
noncomputable def L_110_6G (x : Int × (List I4) × Int × Int) : DTB (Rd (Int × (List I4) × Int × Int) Unit) :=
  .ite (decide (x.2.2.2 < x.2.2.1)) (
    .guard (decide (0 ≤ x.2.2.2 ∧ x.2.2.2 < (x.2.1.length : Int))) <|
    let e1 : I4 := x.2.1.getD x.2.2.2.toNat d5
    .ret (.on (if e1.2.2.2 > x.1 then e1.2.2.2 else x.1, x.2.1, x.2.2.1, IntKind.i64.wrap (x.2.2.2 + (1 : Int))))) <|
  .ret (.out x)
noncomputable def L_110_6 (x : Int × (List I4) × Int × Int) : DT ((Int × (List I4) × Int × Int) ⊕ Unit) := whileT (fun x => (L_110_6G x).toDT) x
noncomputable def L_110_6C : LC := ⟨[(3, .one (.val (.int .i64))), (49, .one (.val (.sl (yI4)))), (50, .one (.val (.int .i64))), (51, .one (.val (.int .i64)))], [], L_110_6⟩
noncomputable def B110 (x : THouse) : DTB (Int × Unit) :=
  .bnd (L_110_0 (x, (-1 : Int), x.2.1, (x.2.1.length : Int), (0 : Int))) fun
  | .inl y1 =>
    .bnd (L_110_2 (y1.1, y1.2.1, y1.1.2.2.2.2.1, (y1.1.2.2.2.2.1.length : Int), (0 : Int))) fun
    | .inl y2 =>
      .bnd (L_110_4 (y2.1, y2.2.1, y2.1.2.2.2.2.2.2.1, (y2.1.2.2.2.2.2.2.1.length : Int), (0 : Int))) fun
      | .inl y3 =>
        .bnd (L_110_6 (y3.2.1, y3.1.2.2.2.2.2.2.2.1, (y3.1.2.2.2.2.2.2.2.1.length : Int), (0 : Int))) fun
        | .inl y4 =>
          .ret (y4.1, ())
        | .inr y4 =>
          .fail
      | .inr y3 =>
        .fail
    | .inr y2 =>
      .fail
  | .inr y1 =>
    .fail
noncomputable def F110 (x : THouse) : DT (Int × Unit) := (B110 x).toDT
noncomputable def con110 : Con := ⟨[.agg [.val (yTHouse)]], [], [.one (.val (.int .i64))], F110⟩
noncomputable def C110 : Ctx := ⟨tiOf tab, fun t => eqL.contains t, fun g _ => conOf [] g, fun i => match i with | 0 => some L_110_0C | 2 => some L_110_2C | 4 => some L_110_4C | 6 => some L_110_6C | _ => none⟩
theorem cons110 : Cons prog C110 := cons_of _ (fun _ h => by cases h)
theorem L_110_0ok : LoopOk prog C110 [] 61 (nthLoop (bodyOf Tryz.f110) 0).1 (nthLoop (bodyOf Tryz.f110) 0).2 :=
  loop_while (l := L_110_0C) ctx cons110 mixed (by kernel_rfl) (loops_all 0 (by kernel_rfl) trivial) (by kernel_rfl) L_110_0G (fun x => by kernel_rfl) (fun _ => rfl)
theorem L_110_2ok : LoopOk prog C110 [] 61 (nthLoop (bodyOf Tryz.f110) 1).1 (nthLoop (bodyOf Tryz.f110) 1).2 :=
  loop_while (l := L_110_2C) ctx cons110 mixed (by kernel_rfl) (loops_all 0 (by kernel_rfl) trivial) (by kernel_rfl) L_110_2G (fun x => by kernel_rfl) (fun _ => rfl)
theorem L_110_4ok : LoopOk prog C110 [] 61 (nthLoop (bodyOf Tryz.f110) 2).1 (nthLoop (bodyOf Tryz.f110) 2).2 :=
  loop_while (l := L_110_4C) ctx cons110 mixed (by kernel_rfl) (loops_all 0 (by kernel_rfl) trivial) (by kernel_rfl) L_110_4G (fun x => by kernel_rfl) (fun _ => rfl)
theorem L_110_6ok : LoopOk prog C110 [] 61 (nthLoop (bodyOf Tryz.f110) 3).1 (nthLoop (bodyOf Tryz.f110) 3).2 :=
  loop_while (l := L_110_6C) ctx cons110 mixed (by kernel_rfl) (loops_all 0 (by kernel_rfl) trivial) (by kernel_rfl) L_110_6G (fun x => by kernel_rfl) (fun _ => rfl)
theorem ok110 : con110.Sound prog 110 :=
  fn_con (C := C110) (fn := Tryz.f110) (code := (bodyOf Tryz.f110)) (n := 61) ctx cons110 mixed (by kernel_rfl) (by kernel_rfl) (by kernel_rfl) con110 (rg := [.tmp 2]) (by kernel_rfl) (by kernel_rfl) (loops_all 4 (by kernel_rfl) ⟨⟨⟨⟨trivial, L_110_0ok⟩, L_110_2ok⟩, L_110_4ok⟩, L_110_6ok⟩) (by kernel_rfl) B110 (fun x => by kernel_rfl) (fun _ => rfl)



/-! 14 impl.IsHouse -/
noncomputable def B14 (x : THouse) : DTB (Bool × Unit) :=
  .bnd (F103 (x.1, (1 : Int), (9 : Int))) fun r1 =>
  .ite (r1.1) (
    .bnd (F48 x.2.1) fun r2 =>
    .ite (r2.1) (
      .bnd (F104 x.2.2.1) fun r3 =>
      .ite (r3.1) (
        .bnd (F29 x.2.2.2.1) fun r4 =>
        .ite (r4.1) (
          .bnd (F105 x.2.2.2.2.1) fun r5 =>
          .ite (r5.1) (
            .bnd (F106 x.2.2.2.2.2.2.1) fun r6 =>
            .ite (r6.1) (
              .bnd (F107 x.2.2.2.2.2.2.2.1) fun r7 =>
              .ite (r7.1) (
                .bnd (F108 x) fun r8 =>
                .ite (r8.1) (
                  .bnd (F109 x) fun r9 =>
                  .ite (r9.1) (
                    .bnd (F110 x) fun r10 =>
                    .ite (decide (r10.1 ≤ x.2.2.2.2.2.2.2.2)) (
                      .bnd (F103 (x.2.2.2.2.2.2.2.2, (0 : Int), (100000 : Int))) fun r11 =>
                      .ret (r11.1, ())) <|
                    .ret (false, ())) <|
                  .ret (false, ())) <|
                .ret (false, ())) <|
              .ret (false, ())) <|
            .ret (false, ())) <|
          .ret (false, ())) <|
        .ret (false, ())) <|
      .ret (false, ())) <|
    .ret (false, ())) <|
  .ret (false, ())
noncomputable def F14 (x : THouse) : DT (Bool × Unit) := (B14 x).toDT
noncomputable def con14 : Con := ⟨[.agg [.val (yTHouse)]], [], [.one (.val (.bool))], F14⟩
noncomputable def C14 : Ctx := ⟨tiOf tab, fun t => eqL.contains t, fun g _ => conOf [(103, con103), (104, con104), (105, con105), (106, con106), (107, con107), (108, con108), (109, con109), (110, con110), (29, con29), (48, con48)] g, fun i => match i with | _ => none⟩
theorem cons14 : Cons prog C14 := cons_of _ (allC ⟨ok103, ok104, ok105, ok106, ok107, ok108, ok109, ok110, ok29, ok48, trivial⟩)
theorem ok14 : con14.Sound prog 14 :=
  fn_con (C := C14) (fn := Tryz.f14) (code := (bodyOf Tryz.f14)) (n := 56) ctx cons14 mixed (by kernel_rfl) (by kernel_rfl) (by kernel_rfl) con14 (rg := [.tmp 2]) (by kernel_rfl) (by kernel_rfl) (loops_all 0 (by kernel_rfl) trivial) (by kernel_rfl) B14 (fun x => by kernel_rfl) (fun _ => rfl)



/-! 19 impl.Shown -/
noncomputable def L_19_0G (x : THouse × (List Int) × (List TFind) × Int × Int) : DTB (Rd (THouse × (List Int) × (List TFind) × Int × Int) Unit) :=
  .ite (decide (x.2.2.2.2 < x.2.2.2.1)) (
    .guard (decide (0 ≤ x.2.2.2.2 ∧ x.2.2.2.2 < (x.2.2.1.length : Int))) <|
    let e1 : TFind := x.2.2.1.getD x.2.2.2.2.toNat d1
    .bnd (F120 (x.1.2.2.2.1, e1.1.1)) fun r1 =>
    .ite (decide (r1.1 ≥ (0 : Int))) (
      .guard (decide ((x.2.1.length + [e1.1.1].length) * 8 ≤ 140737488355328)) <|
      .ret (.on (x.1, x.2.1 ++ [e1.1.1], x.2.2.1, x.2.2.2.1, IntKind.i64.wrap (x.2.2.2.2 + (1 : Int))))) <|
    .ret (.on (x.1, x.2.1, x.2.2.1, x.2.2.2.1, IntKind.i64.wrap (x.2.2.2.2 + (1 : Int))))) <|
  .ret (.out x)
noncomputable def L_19_0 (x : THouse × (List Int) × (List TFind) × Int × Int) : DT ((THouse × (List Int) × (List TFind) × Int × Int) ⊕ Unit) := whileT (fun x => (L_19_0G x).toDT) x
noncomputable def L_19_0C : LC := ⟨[(1, .box [.val (yTHouse)]), (3, .one (.own (.int .i64))), (8, .one (.val (.sl (yTFind)))), (9, .one (.val (.int .i64))), (10, .one (.val (.int .i64)))], [], L_19_0⟩
noncomputable def B19 (x : THouse) : DTB ((List Int) × Unit) :=
  .bnd (L_19_0 (x, ([] : List Int), x.2.1, (x.2.1.length : Int), (0 : Int))) fun
  | .inl y1 =>
    .ret (y1.2.1, ())
  | .inr y1 =>
    .fail
noncomputable def F19 (x : THouse) : DT ((List Int) × Unit) := (B19 x).toDT
noncomputable def con19 : Con := ⟨[.agg [.val (yTHouse)]], [], [.one (.own (.int .i64))], F19⟩
noncomputable def C19 : Ctx := ⟨tiOf tab, fun t => eqL.contains t, fun g _ => conOf [(120, con120)] g, fun i => match i with | 0 => some L_19_0C | _ => none⟩
theorem cons19 : Cons prog C19 := cons_of _ (allC ⟨ok120, trivial⟩)
theorem L_19_0ok : LoopOk prog C19 [] 29 (nthLoop (bodyOf Tryz.f19) 0).1 (nthLoop (bodyOf Tryz.f19) 0).2 :=
  loop_while (l := L_19_0C) ctx cons19 mixed (by kernel_rfl) (loops_all 0 (by kernel_rfl) trivial) (by kernel_rfl) L_19_0G (fun x => by kernel_rfl) (fun _ => rfl)
theorem ok19 : con19.Sound prog 19 :=
  fn_con (C := C19) (fn := Tryz.f19) (code := (bodyOf Tryz.f19)) (n := 29) ctx cons19 mixed (by kernel_rfl) (by kernel_rfl) (by kernel_rfl) con19 (rg := [.tmp 2]) (by kernel_rfl) (by kernel_rfl) (loops_all 1 (by kernel_rfl) ⟨trivial, L_19_0ok⟩) (by kernel_rfl) B19 (fun x => by kernel_rfl) (fun _ => rfl)



/-! 18 laws.sameInts -/
noncomputable def L_18_0G (x : (List Int) × (List Int) × Int) : DTB (Rd ((List Int) × (List Int) × Int) Bool) :=
  .ite (decide (x.2.2 < (x.1.length : Int))) (
    .guard (decide (0 ≤ x.2.2 ∧ x.2.2 < (x.1.length : Int))) <|
    .guard (decide (0 ≤ x.2.2 ∧ x.2.2 < (x.2.1.length : Int))) <|
    let v1 : Bool := (x.1.getD x.2.2.toNat (0 : Int)) != (x.2.1.getD x.2.2.toNat (0 : Int))
    .ite (v1) (
      .ret (.ret false)) <|
    .ret (.on (x.1, x.2.1, IntKind.i64.wrap (x.2.2 + (1 : Int))))) <|
  .ret (.out x)
noncomputable def L_18_0 (x : (List Int) × (List Int) × Int) : DT (((List Int) × (List Int) × Int) ⊕ Bool) := whileT (fun x => (L_18_0G x).toDT) x
noncomputable def L_18_0C : LC := ⟨[(0, .one (.val (.sl (.int .i64)))), (1, .one (.val (.sl (.int .i64)))), (5, .one (.val (.int .i64)))], [(4, .one (.val (.bool)))], L_18_0⟩
noncomputable def B18 (x : (List Int) × List Int) : DTB (Bool × Unit) :=
  .ite ((x.1.length : Int) != (x.2.length : Int)) (
    .ret (false, ())) <|
  .bnd (L_18_0 (x.1, x.2, (0 : Int))) fun
  | .inl y1 =>
    .ret (true, ())
  | .inr y1 =>
    .ret (y1, ())
noncomputable def F18 (x : (List Int) × List Int) : DT (Bool × Unit) := (B18 x).toDT
noncomputable def con18 : Con := ⟨[.one (.val (.sl (.int .i64))), .one (.val (.sl (.int .i64)))], [], [.one (.val (.bool))], F18⟩
noncomputable def C18 : Ctx := ⟨tiOf tab, fun t => eqL.contains t, fun g _ => conOf [] g, fun i => match i with | 0 => some L_18_0C | _ => none⟩
theorem cons18 : Cons prog C18 := cons_of _ (fun _ h => by cases h)
theorem L_18_0ok : LoopOk prog C18 [] 26 (nthLoop (bodyOf Tryz.f18) 0).1 (nthLoop (bodyOf Tryz.f18) 0).2 :=
  loop_while (l := L_18_0C) ctx cons18 mixed (by kernel_rfl) (loops_all 0 (by kernel_rfl) trivial) (by kernel_rfl) L_18_0G (fun x => by kernel_rfl) (fun _ => rfl)
theorem ok18 : con18.Sound prog 18 :=
  fn_con (C := C18) (fn := Tryz.f18) (code := (bodyOf Tryz.f18)) (n := 26) ctx cons18 mixed (by kernel_rfl) (by kernel_rfl) (by kernel_rfl) con18 (rg := [.tmp 4]) (by kernel_rfl) (by kernel_rfl) (loops_all 1 (by kernel_rfl) ⟨trivial, L_18_0ok⟩) (by kernel_rfl) B18 (fun x => by kernel_rfl) (fun _ => rfl)



/-! 277 impl.trialAt$1 -/
noncomputable def B277 (x : I4 × Int) : DTB (Bool × Int) :=
  .ret (x.1.1 == x.2, x.2)
noncomputable def F277 (x : I4 × Int) : DT (Bool × Int) := (B277 x).toDT
noncomputable def con277 : Con := ⟨[.agg [.val (yI4)], .box [.val (.int .i64)]], [1], [.one (.val (.bool))], F277⟩
noncomputable def C277 : Ctx := ⟨tiOf tab, fun t => eqL.contains t, fun g _ => conOf [] g, fun i => match i with | _ => none⟩
theorem cons277 : Cons prog C277 := cons_of _ (fun _ h => by cases h)
theorem ok277 : con277.Sound prog 277 :=
  fn_con (C := C277) (fn := Tryz.f277) (code := (bodyOf Tryz.f277)) (n := 8) ctx cons277 mixed (by kernel_rfl) (by kernel_rfl) (by kernel_rfl) con277 (rg := [.tmp 3]) (by kernel_rfl) (by kernel_rfl) (loops_all 0 (by kernel_rfl) trivial) (by kernel_rfl) B277 (fun x => by kernel_rfl) (fun _ => rfl)



/-! 276_277 slices.IndexFunc[[]impl.Trial,impl.Trial] -/
noncomputable def L_276_277_0G (x : (List I4) × Int × Int × Int) : DTB (Rd ((List I4) × Int × Int × Int) (Int × Int)) :=
  .ite (decide (x.2.2.2 < x.2.2.1)) (
    .guard (decide (0 ≤ x.2.2.2 ∧ x.2.2.2 < (x.1.length : Int))) <|
    let e1 : I4 := x.1.getD x.2.2.2.toNat d5
    .bnd (F277 (e1, x.2.1)) fun r1 =>
    .ite (r1.1) (
      .ret (.ret (x.2.2.2, r1.2))) <|
    .ret (.on (x.1, r1.2, x.2.2.1, IntKind.i64.wrap (x.2.2.2 + (1 : Int))))) <|
  .ret (.out x)
noncomputable def L_276_277_0 (x : (List I4) × Int × Int × Int) : DT (((List I4) × Int × Int × Int) ⊕ (Int × Int)) := whileT (fun x => (L_276_277_0G x).toDT) x
noncomputable def L_276_277_0C : LC := ⟨[(0, .one (.val (.sl (yI4)))), (1, .fnb 277 [.val (.int .i64)]), (7, .one (.val (.int .i64))), (8, .one (.val (.int .i64)))], [(4, .one (.val (.int .i64))), (1, .fnb 277 [.val (.int .i64)])], L_276_277_0⟩
noncomputable def B276_277 (x : (List I4) × Int) : DTB (Int × Int) :=
  .bnd (L_276_277_0 (x.1, x.2, (x.1.length : Int), (0 : Int))) fun
  | .inl y1 =>
    .ret ((-1 : Int), y1.2.1)
  | .inr y1 =>
    .ret (y1.1, y1.2)
noncomputable def F276_277 (x : (List I4) × Int) : DT (Int × Int) := (B276_277 x).toDT
noncomputable def con276_277 : Con := ⟨[.one (.val (.sl (yI4))), .fnb 277 [.val (.int .i64)]], [1], [.one (.val (.int .i64))], F276_277⟩
noncomputable def C276_277 : Ctx := ⟨tiOf tab, fun t => eqL.contains t, fun g _ => conOf [(277, con277)] g, fun i => match i with | 0 => some L_276_277_0C | _ => none⟩
theorem cons276_277 : Cons prog C276_277 := cons_of _ (allC ⟨ok277, trivial⟩)
theorem L_276_277_0ok : LoopOk prog C276_277 [1] 19 (nthLoop (bodyOf Tryz.f276) 0).1 (nthLoop (bodyOf Tryz.f276) 0).2 :=
  loop_while (l := L_276_277_0C) ctx cons276_277 mixed (by kernel_rfl) (loops_all 0 (by kernel_rfl) trivial) (by kernel_rfl) L_276_277_0G (fun x => by kernel_rfl) (fun _ => rfl)
theorem ok276_277 : con276_277.Sound prog 276 :=
  fn_con (C := C276_277) (fn := Tryz.f276) (code := (bodyOf Tryz.f276)) (n := 19) ctx cons276_277 mixed (by kernel_rfl) (by kernel_rfl) (by kernel_rfl) con276_277 (rg := [.tmp 4]) (by kernel_rfl) (by kernel_rfl) (loops_all 1 (by kernel_rfl) ⟨trivial, L_276_277_0ok⟩) (by kernel_rfl) B276_277 (fun x => by kernel_rfl) (fun _ => rfl)



/-! 130 impl.trialAt -/
noncomputable def B130 (x : THouse × Int) : DTB (Int × Unit) :=
  .bnd (F276_277 (x.1.2.2.2.2.2.1, x.2)) fun r1 =>
  .ret (r1.1, ())
noncomputable def F130 (x : THouse × Int) : DT (Int × Unit) := (B130 x).toDT
noncomputable def con130 : Con := ⟨[.agg [.val (yTHouse)], .one (.val (.int .i64))], [], [.one (.val (.int .i64))], F130⟩
noncomputable def C130 : Ctx := ⟨tiOf tab, fun t => eqL.contains t, fun g _ => conOf [(276, con276_277)] g, fun i => match i with | _ => none⟩
theorem cons130 : Cons prog C130 := cons_of _ (allC ⟨ok276_277, trivial⟩)
theorem ok130 : con130.Sound prog 130 :=
  fn_con (C := C130) (fn := Tryz.f130) (code := (bodyOf Tryz.f130)) (n := 9) ctx cons130 mixed (by kernel_rfl) (by kernel_rfl) (by kernel_rfl) con130 (rg := [.tmp 4]) (by kernel_rfl) (by kernel_rfl) (loops_all 0 (by kernel_rfl) trivial) (by kernel_rfl) B130 (fun x => by kernel_rfl) (fun _ => rfl)



/-! 24 impl.TrialOf -/
noncomputable def B24 (x : THouse × Int) : DTB ((I4 × Bool) × Unit) :=
  .bnd (F130 x) fun r1 =>
  .ite (decide (r1.1 < (0 : Int))) (
    .ret ((((0 : Int), (0 : Int), (0 : Int), (0 : Int)), false), ())) <|
  .guard (decide (0 ≤ r1.1 ∧ r1.1 < (x.1.2.2.2.2.2.1.length : Int))) <|
  let e1 : I4 := x.1.2.2.2.2.2.1.getD r1.1.toNat d5
  .ret ((e1, true), ())
noncomputable def F24 (x : THouse × Int) : DT ((I4 × Bool) × Unit) := (B24 x).toDT
noncomputable def con24 : Con := ⟨[.agg [.val (yTHouse)], .one (.val (.int .i64))], [], [.agg [.val (yI4)], .one (.val (.bool))], F24⟩
noncomputable def C24 : Ctx := ⟨tiOf tab, fun t => eqL.contains t, fun g _ => conOf [(130, con130)] g, fun i => match i with | _ => none⟩
theorem cons24 : Cons prog C24 := cons_of _ (allC ⟨ok130, trivial⟩)
theorem ok24 : con24.Sound prog 24 :=
  fn_con (C := C24) (fn := Tryz.f24) (code := (bodyOf Tryz.f24)) (n := 18) ctx cons24 mixed (by kernel_rfl) (by kernel_rfl) (by kernel_rfl) con24 (rg := [.cell 4 60, .tmp 5]) (by kernel_rfl) (by kernel_rfl) (loops_all 0 (by kernel_rfl) trivial) (by kernel_rfl) B24 (fun x => by kernel_rfl) (fun _ => rfl)



/-! 134 spec.l1Once -/
noncomputable def B134 (x : Tl1Cur × Int) : DTB (Bool × Tl1Cur) :=
  .bnd (F141 x) fun r1 =>
  .ret (r1.1 == (0 : Int), r1.2)
noncomputable def F134 (x : Tl1Cur × Int) : DT (Bool × Tl1Cur) := (B134 x).toDT
noncomputable def con134 : Con := ⟨[.box [.val (yTl1Cur)], .one (.val (.int .i64))], [0], [.one (.val (.bool))], F134⟩
noncomputable def C134 : Ctx := ⟨tiOf tab, fun t => eqL.contains t, fun g _ => conOf [(141, con141)] g, fun i => match i with | _ => none⟩
theorem cons134 : Cons prog C134 := cons_of _ (allC ⟨ok141, trivial⟩)
theorem ok134 : con134.Sound prog 134 :=
  fn_con (C := C134) (fn := Tryz.f134) (code := (bodyOf Tryz.f134)) (n := 9) ctx cons134 mixed (by kernel_rfl) (by kernel_rfl) (by kernel_rfl) con134 (rg := [.tmp 4]) (by kernel_rfl) (by kernel_rfl) (loops_all 0 (by kernel_rfl) trivial) (by kernel_rfl) B134 (fun x => by kernel_rfl) (fun _ => rfl)



/-! 414 spec.SmallestFree -/
noncomputable def L_414_0G (x : (List I3) × Int × Int × Int) : DTB (Rd ((List I3) × Int × Int × Int) Unit) :=
  .ite (decide (x.2.2.2 < (x.1.length : Int))) (
    .guard (decide (0 ≤ x.2.2.2 ∧ x.2.2.2 < (x.1.length : Int))) <|
    let e1 : I3 := x.1.getD x.2.2.2.toNat d3
    .ite (e1.2.2 == (0 : Int)) (
      .guard (decide (0 ≤ x.2.2.2 ∧ x.2.2.2 < (x.1.length : Int))) <|
      let e2 : I3 := x.1.getD x.2.2.2.toNat d3
      .ite (decide (e2.2.1 ≥ x.2.1)) (
        .ite (decide (x.2.2.1 < (0 : Int))) (
          .ret (.on (x.1, x.2.1, x.2.2.2, IntKind.i64.wrap (x.2.2.2 + (1 : Int))))) <|
        .guard (decide (0 ≤ x.2.2.2 ∧ x.2.2.2 < (x.1.length : Int))) <|
        let e3 : I3 := x.1.getD x.2.2.2.toNat d3
        .guard (decide (0 ≤ x.2.2.1 ∧ x.2.2.1 < (x.1.length : Int))) <|
        let e4 : I3 := x.1.getD x.2.2.1.toNat d3
        .ite (decide (e3.2.1 < e4.2.1)) (
          .ret (.on (x.1, x.2.1, x.2.2.2, IntKind.i64.wrap (x.2.2.2 + (1 : Int))))) <|
        .ret (.on (x.1, x.2.1, x.2.2.1, IntKind.i64.wrap (x.2.2.2 + (1 : Int))))) <|
      .ret (.on (x.1, x.2.1, x.2.2.1, IntKind.i64.wrap (x.2.2.2 + (1 : Int))))) <|
    .ret (.on (x.1, x.2.1, x.2.2.1, IntKind.i64.wrap (x.2.2.2 + (1 : Int))))) <|
  .ret (.out x)
noncomputable def L_414_0 (x : (List I3) × Int × Int × Int) : DT (((List I3) × Int × Int × Int) ⊕ Unit) := whileT (fun x => (L_414_0G x).toDT) x
noncomputable def L_414_0C : LC := ⟨[(0, .one (.val (.sl (yI3)))), (1, .one (.val (.int .i64))), (5, .one (.val (.int .i64))), (6, .one (.val (.int .i64)))], [], L_414_0⟩
noncomputable def B414 (x : (List I3) × Int) : DTB (Int × Unit) :=
  .bnd (L_414_0 (x.1, x.2, (-1 : Int), (0 : Int))) fun
  | .inl y1 =>
    .ite (decide (y1.2.2.1 < (0 : Int))) (
      .ret ((0 : Int), ())) <|
    .guard (decide (0 ≤ y1.2.2.1 ∧ y1.2.2.1 < (y1.1.length : Int))) <|
    let e1 : I3 := y1.1.getD y1.2.2.1.toNat d3
    .ret (e1.1, ())
  | .inr y1 =>
    .fail
noncomputable def F414 (x : (List I3) × Int) : DT (Int × Unit) := (B414 x).toDT
noncomputable def con414 : Con := ⟨[.one (.val (.sl (yI3))), .one (.val (.int .i64))], [], [.one (.val (.int .i64))], F414⟩
noncomputable def C414 : Ctx := ⟨tiOf tab, fun t => eqL.contains t, fun g _ => conOf [] g, fun i => match i with | 0 => some L_414_0C | _ => none⟩
theorem cons414 : Cons prog C414 := cons_of _ (fun _ h => by cases h)
theorem L_414_0ok : LoopOk prog C414 [] 53 (nthLoop (bodyOf Tryz.f414) 0).1 (nthLoop (bodyOf Tryz.f414) 0).2 :=
  loop_while (l := L_414_0C) ctx cons414 mixed (by kernel_rfl) (loops_all 0 (by kernel_rfl) trivial) (by kernel_rfl) L_414_0G (fun x => by kernel_rfl) (fun _ => rfl)
theorem ok414 : con414.Sound prog 414 :=
  fn_con (C := C414) (fn := Tryz.f414) (code := (bodyOf Tryz.f414)) (n := 53) ctx cons414 mixed (by kernel_rfl) (by kernel_rfl) (by kernel_rfl) con414 (rg := [.tmp 4]) (by kernel_rfl) (by kernel_rfl) (loops_all 1 (by kernel_rfl) ⟨trivial, L_414_0ok⟩) (by kernel_rfl) B414 (fun x => by kernel_rfl) (fun _ => rfl)



/-! 334 spec.PutAway -/
noncomputable def L_334_0G (x : I5 × (List I3) × Int × Int) : DTB (Rd (I5 × (List I3) × Int × Int) Unit) :=
  .ite (decide (x.2.2.2 < (x.2.1.length : Int))) (
    .guard (decide (0 ≤ x.2.2.2 ∧ x.2.2.2 < (x.2.1.length : Int))) <|
    let e1 : I3 := x.2.1.getD x.2.2.2.toNat d3
    .ite (e1.1 == x.2.2.1) (
      .guard (decide (0 ≤ x.2.2.2 ∧ x.2.2.2 < (x.2.1.length : Int))) <|
      let e2 : I3 := x.2.1.getD x.2.2.2.toNat d3
      .ret (.on (x.1, x.2.1.set x.2.2.2.toNat (e2.1, e2.2.1, x.1.1), x.2.2.1, IntKind.i64.wrap (x.2.2.2 + (1 : Int))))) <|
    .ret (.on (x.1, x.2.1, x.2.2.1, IntKind.i64.wrap (x.2.2.2 + (1 : Int))))) <|
  .ret (.out x)
noncomputable def L_334_0 (x : I5 × (List I3) × Int × Int) : DT ((I5 × (List I3) × Int × Int) ⊕ Unit) := whileT (fun x => (L_334_0G x).toDT) x
noncomputable def L_334_0C : LC := ⟨[(3, .box [.val (yI5)]), (6, .one (.own (yI3))), (7, .one (.val (.int .i64))), (8, .one (.val (.int .i64)))], [], L_334_0⟩
noncomputable def B334 (x : (List I3) × I5) : DTB (((List I3) × Bool) × Unit) :=
  .guard (decide ((([] : List I3).length + x.1.length) * 24 ≤ 140737488355328)) <|
  .bnd (F414 (x.1, x.2.2.2.2.1)) fun r1 =>
  .bnd (F113 x.1) fun r2 =>
  .ite (!r2.1) (
    .ret ((([] : List I3) ++ x.1, false), ())) <|
  .bnd (F304 x.2) fun r3 =>
  .ite (!r3.1) (
    .ret ((([] : List I3) ++ x.1, false), ())) <|
  .ite (r1.1 == (0 : Int)) (
    .ret ((([] : List I3) ++ x.1, false), ())) <|
  .bnd (F258 (x.1, x.2.1)) fun r4 =>
  .ite (r4.1 != (0 : Int)) (
    .ret ((([] : List I3) ++ x.1, false), ())) <|
  .bnd (L_334_0 (x.2, ([] : List I3) ++ x.1, r1.1, (0 : Int))) fun
  | .inl y1 =>
    .ret ((y1.2.1, true), ())
  | .inr y1 =>
    .fail
noncomputable def F334 (x : (List I3) × I5) : DT (((List I3) × Bool) × Unit) := (B334 x).toDT
noncomputable def con334 : Con := ⟨[.one (.val (.sl (yI3))), .agg [.val (yI5)]], [], [.one (.own (yI3)), .one (.val (.bool))], F334⟩
noncomputable def C334 : Ctx := ⟨tiOf tab, fun t => eqL.contains t, fun g _ => conOf [(113, con113), (258, con258), (304, con304), (414, con414)] g, fun i => match i with | 0 => some L_334_0C | _ => none⟩
theorem cons334 : Cons prog C334 := cons_of _ (allC ⟨ok113, ok258, ok304, ok414, trivial⟩)
theorem L_334_0ok : LoopOk prog C334 [] 56 (nthLoop (bodyOf Tryz.f334) 0).1 (nthLoop (bodyOf Tryz.f334) 0).2 :=
  loop_while (l := L_334_0C) ctx cons334 mixed (by kernel_rfl) (loops_all 0 (by kernel_rfl) trivial) (by kernel_rfl) L_334_0G (fun x => by kernel_rfl) (fun _ => rfl)
theorem ok334 : con334.Sound prog 334 :=
  fn_con (C := C334) (fn := Tryz.f334) (code := (bodyOf Tryz.f334)) (n := 56) ctx cons334 mixed (by kernel_rfl) (by kernel_rfl) (by kernel_rfl) con334 (rg := [.tmp 4, .tmp 5]) (by kernel_rfl) (by kernel_rfl) (loops_all 1 (by kernel_rfl) ⟨trivial, L_334_0ok⟩) (by kernel_rfl) B334 (fun x => by kernel_rfl) (fun _ => rfl)



/-! 280 spec.l14Draw -/
noncomputable def L_280_0G (x : Tl1Cur × (List I3) × Int) : DTB (Rd (Tl1Cur × (List I3) × Int) Unit) :=
  .bnd (F141 (x.1, (7 : Int))) fun r1 =>
  .ite (decide (x.2.2 ≤ (IntKind.i64.wrap ((2 : Int) + r1.1)))) (
    .bnd (F141 (r1.2, (6 : Int))) fun r2 =>
    let v1 : Int := IntKind.i64.wrap ((5 : Int) * (IntKind.i64.wrap ((1 : Int) + r2.1)))
    .guard (decide ((x.2.1.length + [(x.2.2, v1, (0 : Int))].length) * 24 ≤ 140737488355328)) <|
    .ret (.on (r2.2, x.2.1 ++ [(x.2.2, v1, (0 : Int))], IntKind.i64.wrap (x.2.2 + (1 : Int))))) <|
  .ret (.out (r1.2, x.2))
noncomputable def L_280_0 (x : Tl1Cur × (List I3) × Int) : DT ((Tl1Cur × (List I3) × Int) ⊕ Unit) := whileT (fun x => (L_280_0G x).toDT) x
noncomputable def L_280_0C : LC := ⟨[(0, .box [.val (yTl1Cur)]), (3, .one (.own (yI3))), (4, .one (.val (.int .i64)))], [], L_280_0⟩
noncomputable def L_280_2G (x : Tl1Cur × (List I3) × Int) : DTB (Rd (Tl1Cur × (List I3) × Int) Unit) :=
  .ite (decide (x.2.2 > (0 : Int))) (
    .bnd (F141 (x.1, (20 : Int))) fun r1 =>
    .bnd (F308 (r1.2, IntKind.i64.wrap ((1 : Int) + r1.1))) fun r2 =>
    .bnd (F334 (x.2.1, r2.1)) fun r3 =>
    .ret (.on (r2.2, r3.1.1, IntKind.i64.wrap (x.2.2 - (1 : Int))))) <|
  .ret (.out x)
noncomputable def L_280_2 (x : Tl1Cur × (List I3) × Int) : DT ((Tl1Cur × (List I3) × Int) ⊕ Unit) := whileT (fun x => (L_280_2G x).toDT) x
noncomputable def L_280_2C : LC := ⟨[(0, .box [.val (yTl1Cur)]), (3, .one (.own (yI3))), (5, .one (.val (.int .i64)))], [], L_280_2⟩
noncomputable def B280 (x : Tl1Cur) : DTB ((List I3) × Tl1Cur) :=
  .bnd (L_280_0 (x, ([] : List I3), (1 : Int))) fun
  | .inl y1 =>
    .bnd (F141 (y1.1, (5 : Int))) fun r1 =>
    .bnd (L_280_2 (r1.2, y1.2.1, r1.1)) fun
    | .inl y2 =>
      .ret (y2.2.1, y2.1)
    | .inr y2 =>
      .fail
  | .inr y1 =>
    .fail
noncomputable def F280 (x : Tl1Cur) : DT ((List I3) × Tl1Cur) := (B280 x).toDT
noncomputable def con280 : Con := ⟨[.box [.val (yTl1Cur)]], [0], [.one (.own (yI3))], F280⟩
noncomputable def C280 : Ctx := ⟨tiOf tab, fun t => eqL.contains t, fun g _ => conOf [(141, con141), (308, con308), (334, con334)] g, fun i => match i with | 0 => some L_280_0C | 2 => some L_280_2C | _ => none⟩
theorem cons280 : Cons prog C280 := cons_of _ (allC ⟨ok141, ok308, ok334, trivial⟩)
theorem L_280_0ok : LoopOk prog C280 [0] 40 (nthLoop (bodyOf Tryz.f280) 0).1 (nthLoop (bodyOf Tryz.f280) 0).2 :=
  loop_while (l := L_280_0C) ctx cons280 mixed (by kernel_rfl) (loops_all 0 (by kernel_rfl) trivial) (by kernel_rfl) L_280_0G (fun x => by kernel_rfl) (fun _ => rfl)
theorem L_280_2ok : LoopOk prog C280 [0] 40 (nthLoop (bodyOf Tryz.f280) 1).1 (nthLoop (bodyOf Tryz.f280) 1).2 :=
  loop_while (l := L_280_2C) ctx cons280 mixed (by kernel_rfl) (loops_all 0 (by kernel_rfl) trivial) (by kernel_rfl) L_280_2G (fun x => by kernel_rfl) (fun _ => rfl)
theorem ok280 : con280.Sound prog 280 :=
  fn_con (C := C280) (fn := Tryz.f280) (code := (bodyOf Tryz.f280)) (n := 40) ctx cons280 mixed (by kernel_rfl) (by kernel_rfl) (by kernel_rfl) con280 (rg := [.tmp 2]) (by kernel_rfl) (by kernel_rfl) (loops_all 2 (by kernel_rfl) ⟨⟨trivial, L_280_0ok⟩, L_280_2ok⟩) (by kernel_rfl) B280 (fun x => by kernel_rfl) (fun _ => rfl)



/-! 281 spec.l4Raw -/
noncomputable def B281 (x : Tl1Cur) : DTB (Int × Tl1Cur) :=
  .bnd (F133 (x, [(-1 : Int), (0 : Int), (8 : Int), (50 : Int), (51 : Int), (1000 : Int), (9223372036854775807 : Int), (-9223372036854775808 : Int)])) fun r1 =>
  .ret (r1.1, r1.2)
noncomputable def F281 (x : Tl1Cur) : DT (Int × Tl1Cur) := (B281 x).toDT
noncomputable def con281 : Con := ⟨[.box [.val (yTl1Cur)]], [0], [.one (.val (.int .i64))], F281⟩
noncomputable def C281 : Ctx := ⟨tiOf tab, fun t => eqL.contains t, fun g _ => conOf [(133, con133)] g, fun i => match i with | _ => none⟩
theorem cons281 : Cons prog C281 := cons_of _ (allC ⟨ok133, trivial⟩)
theorem ok281 : con281.Sound prog 281 :=
  fn_con (C := C281) (fn := Tryz.f281) (code := (bodyOf Tryz.f281)) (n := 6) ctx cons281 mixed (by kernel_rfl) (by kernel_rfl) (by kernel_rfl) con281 (rg := [.tmp 2]) (by kernel_rfl) (by kernel_rfl) (loops_all 0 (by kernel_rfl) trivial) (by kernel_rfl) B281 (fun x => by kernel_rfl) (fun _ => rfl)



/-! 135 spec.l14Any -/
noncomputable def B135 (x : Tl1Cur) : DTB ((List I3) × Tl1Cur) :=
  .bnd (F280 x) fun r1 =>
  .bnd (F141 (r1.2, (r1.1.length : Int))) fun r2 =>
  .bnd (F141 (r2.2, (10 : Int))) fun r3 =>
  .ite (r3.1 == (0 : Int)) (
    .bnd (F133 (r3.2, [(0 : Int), (1 : Int), (99 : Int), (100 : Int)])) fun r4 =>
    .guard (decide (0 ≤ r2.1 ∧ r2.1 < (r1.1.length : Int))) <|
    let e1 : I3 := r1.1.getD r2.1.toNat d3
    .ret (r1.1.set r2.1.toNat (r4.1, e1.2), r4.2)) <|
  .ite (r3.1 == (1 : Int)) (
    .bnd (F281 r3.2) fun r5 =>
    .guard (decide (0 ≤ r2.1 ∧ r2.1 < (r1.1.length : Int))) <|
    let e2 : I3 := r1.1.getD r2.1.toNat d3
    .ret (r1.1.set r2.1.toNat (e2.1, r5.1, e2.2.2), r5.2)) <|
  .ite (r3.1 == (2 : Int)) (
    .bnd (F133 (r3.2, [(-1 : Int), (999 : Int), (1000 : Int)])) fun r6 =>
    .guard (decide (0 ≤ r2.1 ∧ r2.1 < (r1.1.length : Int))) <|
    let e3 : I3 := r1.1.getD r2.1.toNat d3
    .ret (r1.1.set r2.1.toNat (e3.1, e3.2.1, r6.1), r6.2)) <|
  .ite (r3.1 == (3 : Int)) (
    .guard (decide (0 ≤ (0 : Int) ∧ (0 : Int) < (r1.1.length : Int))) <|
    let e4 : I3 := r1.1.getD ((0 : Int).toNat) d3
    .guard (decide (0 ≤ r2.1 ∧ r2.1 < (r1.1.length : Int))) <|
    let e5 : I3 := r1.1.getD r2.1.toNat d3
    .ret (r1.1.set r2.1.toNat (e5.1, e5.2.1, e4.2.2), r3.2)) <|
  .ret (r1.1, r3.2)
noncomputable def F135 (x : Tl1Cur) : DT ((List I3) × Tl1Cur) := (B135 x).toDT
noncomputable def con135 : Con := ⟨[.box [.val (yTl1Cur)]], [0], [.one (.own (yI3))], F135⟩
noncomputable def C135 : Ctx := ⟨tiOf tab, fun t => eqL.contains t, fun g _ => conOf [(133, con133), (141, con141), (280, con280), (281, con281)] g, fun i => match i with | _ => none⟩
theorem cons135 : Cons prog C135 := cons_of _ (allC ⟨ok133, ok141, ok280, ok281, trivial⟩)
theorem ok135 : con135.Sound prog 135 :=
  fn_con (C := C135) (fn := Tryz.f135) (code := (bodyOf Tryz.f135)) (n := 50) ctx cons135 mixed (by kernel_rfl) (by kernel_rfl) (by kernel_rfl) con135 (rg := [.tmp 2]) (by kernel_rfl) (by kernel_rfl) (loops_all 0 (by kernel_rfl) trivial) (by kernel_rfl) B135 (fun x => by kernel_rfl) (fun _ => rfl)



/-! 27 spec.DrawNewHouse -/
noncomputable def B27 (x : List Int) : DTB ((Int × List I3) × Unit) :=
  .bnd (F100 x) fun r1 =>
  .bnd (F133 (r1.1, [(1 : Int), (5 : Int), (9 : Int), (10 : Int), (0 : Int)])) fun r2 =>
  .bnd (F134 (r2.2, (3 : Int))) fun r3 =>
  .ite (r3.1) (
    .bnd (F135 r3.2) fun r4 =>
    .ret ((r2.1, r4.1), ())) <|
  .bnd (F136 r3.2) fun r5 =>
  .ret ((r2.1, r5.1), ())
noncomputable def F27 (x : List Int) : DT ((Int × List I3) × Unit) := (B27 x).toDT
noncomputable def con27 : Con := ⟨[.one (.val (.sl (.int .u8)))], [], [.one (.val (.int .i64)), .one (.own (yI3))], F27⟩
noncomputable def C27 : Ctx := ⟨tiOf tab, fun t => eqL.contains t, fun g _ => conOf [(100, con100), (133, con133), (134, con134), (135, con135), (136, con136)] g, fun i => match i with | _ => none⟩
theorem cons27 : Cons prog C27 := cons_of _ (allC ⟨ok100, ok133, ok134, ok135, ok136, trivial⟩)
theorem ok27 : con27.Sound prog 27 :=
  fn_con (C := C27) (fn := Tryz.f27) (code := (bodyOf Tryz.f27)) (n := 19) ctx cons27 mixed (by kernel_rfl) (by kernel_rfl) (by kernel_rfl) con27 (rg := [.tmp 2, .tmp 3]) (by kernel_rfl) (by kernel_rfl) (loops_all 0 (by kernel_rfl) trivial) (by kernel_rfl) B27 (fun x => by kernel_rfl) (fun _ => rfl)



/-! 28 impl.NewHouse -/
noncomputable def B28 (x : Int × List I3) : DTB ((THouse × Bool) × Unit) :=
  .bnd (F137 x.2) fun r1 =>
  .bnd (F14 (x.1, ([] : List TFind), ([] : List TSecret), r1.1, ([] : List I5), ([] : List I4), ([] : List I5), ([] : List I4), (0 : Int))) fun r2 =>
  .ite (!r2.1) (
    .ret ((((0 : Int), ([] : List TFind), ([] : List TSecret), ([] : List I3), ([] : List I5), ([] : List I4), ([] : List I5), ([] : List I4), (0 : Int)), false), ())) <|
  .ret (((x.1, ([] : List TFind), ([] : List TSecret), r1.1, ([] : List I5), ([] : List I4), ([] : List I5), ([] : List I4), (0 : Int)), true), ())
noncomputable def F28 (x : Int × List I3) : DT ((THouse × Bool) × Unit) := (B28 x).toDT
noncomputable def con28 : Con := ⟨[.one (.val (.int .i64)), .one (.val (.sl (yI3)))], [], [.agg [.val (yTHouse)], .one (.val (.bool))], F28⟩
noncomputable def C28 : Ctx := ⟨tiOf tab, fun t => eqL.contains t, fun g _ => conOf [(137, con137), (14, con14)] g, fun i => match i with | _ => none⟩
theorem cons28 : Cons prog C28 := cons_of _ (allC ⟨ok137, ok14, trivial⟩)
theorem ok28 : con28.Sound prog 28 :=
  fn_con (C := C28) (fn := Tryz.f28) (code := (bodyOf Tryz.f28)) (n := 16) ctx cons28 mixed (by kernel_rfl) (by kernel_rfl) (by kernel_rfl) con28 (rg := [.cell 4 32, .tmp 5]) (by kernel_rfl) (by kernel_rfl) (loops_all 0 (by kernel_rfl) trivial) (by kernel_rfl) B28 (fun x => by kernel_rfl) (fun _ => rfl)



/-! 30 impl.FreeSlots -/
noncomputable def L_30_0G (x : Int × (List I3) × Int × Int) : DTB (Rd (Int × (List I3) × Int × Int) Unit) :=
  .ite (decide (x.2.2.2 < x.2.2.1)) (
    .guard (decide (0 ≤ x.2.2.2 ∧ x.2.2.2 < (x.2.1.length : Int))) <|
    let e1 : I3 := x.2.1.getD x.2.2.2.toNat d3
    .ite (e1.2.2 == (0 : Int)) (
      .ret (.on (IntKind.i64.wrap (x.1 + (1 : Int)), x.2.1, x.2.2.1, IntKind.i64.wrap (x.2.2.2 + (1 : Int))))) <|
    .ret (.on (x.1, x.2.1, x.2.2.1, IntKind.i64.wrap (x.2.2.2 + (1 : Int))))) <|
  .ret (.out x)
noncomputable def L_30_0 (x : Int × (List I3) × Int × Int) : DT ((Int × (List I3) × Int × Int) ⊕ Unit) := whileT (fun x => (L_30_0G x).toDT) x
noncomputable def L_30_0C : LC := ⟨[(3, .one (.val (.int .i64))), (6, .one (.val (.sl (yI3)))), (7, .one (.val (.int .i64))), (8, .one (.val (.int .i64)))], [], L_30_0⟩
noncomputable def B30 (x : List I3) : DTB (Int × Unit) :=
  .bnd (L_30_0 ((0 : Int), x, (x.length : Int), (0 : Int))) fun
  | .inl y1 =>
    .ret (y1.1, ())
  | .inr y1 =>
    .fail
noncomputable def F30 (x : List I3) : DT (Int × Unit) := (B30 x).toDT
noncomputable def con30 : Con := ⟨[.one (.val (.sl (yI3)))], [], [.one (.val (.int .i64))], F30⟩
noncomputable def C30 : Ctx := ⟨tiOf tab, fun t => eqL.contains t, fun g _ => conOf [] g, fun i => match i with | 0 => some L_30_0C | _ => none⟩
theorem cons30 : Cons prog C30 := cons_of _ (fun _ h => by cases h)
theorem L_30_0ok : LoopOk prog C30 [] 19 (nthLoop (bodyOf Tryz.f30) 0).1 (nthLoop (bodyOf Tryz.f30) 0).2 :=
  loop_while (l := L_30_0C) ctx cons30 mixed (by kernel_rfl) (loops_all 0 (by kernel_rfl) trivial) (by kernel_rfl) L_30_0G (fun x => by kernel_rfl) (fun _ => rfl)
theorem ok30 : con30.Sound prog 30 :=
  fn_con (C := C30) (fn := Tryz.f30) (code := (bodyOf Tryz.f30)) (n := 19) ctx cons30 mixed (by kernel_rfl) (by kernel_rfl) (by kernel_rfl) con30 (rg := [.tmp 2]) (by kernel_rfl) (by kernel_rfl) (loops_all 1 (by kernel_rfl) ⟨trivial, L_30_0ok⟩) (by kernel_rfl) B30 (fun x => by kernel_rfl) (fun _ => rfl)



/-! 329 spec.l6List -/
noncomputable def L_329_0G (x : Tl1Cur × (List TFind) × Int) : DTB (Rd (Tl1Cur × (List TFind) × Int) Unit) :=
  .bnd (F141 (x.1, (8 : Int))) fun r1 =>
  .ite (decide (x.2.2 ≤ r1.1)) (
    .bnd (F169 (r1.2, IntKind.i64.wrap ((2 : Int) * x.2.2))) fun r2 =>
    .guard (decide ((x.2.1.length + [r2.1].length) * 64 ≤ 140737488355328)) <|
    .ret (.on (r2.2, x.2.1 ++ [r2.1], IntKind.i64.wrap (x.2.2 + (1 : Int))))) <|
  .ret (.out (r1.2, x.2))
noncomputable def L_329_0 (x : Tl1Cur × (List TFind) × Int) : DT ((Tl1Cur × (List TFind) × Int) ⊕ Unit) := whileT (fun x => (L_329_0G x).toDT) x
noncomputable def L_329_0C : LC := ⟨[(0, .box [.val (yTl1Cur)]), (3, .one (.own (yTFind))), (4, .one (.val (.int .i64)))], [], L_329_0⟩
noncomputable def B329 (x : Tl1Cur) : DTB ((List TFind) × Tl1Cur) :=
  .bnd (L_329_0 (x, ([] : List TFind), (1 : Int))) fun
  | .inl y1 =>
    .ret (y1.2.1, y1.1)
  | .inr y1 =>
    .fail
noncomputable def F329 (x : Tl1Cur) : DT ((List TFind) × Tl1Cur) := (B329 x).toDT
noncomputable def con329 : Con := ⟨[.box [.val (yTl1Cur)]], [0], [.one (.own (yTFind))], F329⟩
noncomputable def C329 : Ctx := ⟨tiOf tab, fun t => eqL.contains t, fun g _ => conOf [(141, con141), (169, con169)] g, fun i => match i with | 0 => some L_329_0C | _ => none⟩
theorem cons329 : Cons prog C329 := cons_of _ (allC ⟨ok141, ok169, trivial⟩)
theorem L_329_0ok : LoopOk prog C329 [0] 20 (nthLoop (bodyOf Tryz.f329) 0).1 (nthLoop (bodyOf Tryz.f329) 0).2 :=
  loop_while (l := L_329_0C) ctx cons329 mixed (by kernel_rfl) (loops_all 0 (by kernel_rfl) trivial) (by kernel_rfl) L_329_0G (fun x => by kernel_rfl) (fun _ => rfl)
theorem ok329 : con329.Sound prog 329 :=
  fn_con (C := C329) (fn := Tryz.f329) (code := (bodyOf Tryz.f329)) (n := 20) ctx cons329 mixed (by kernel_rfl) (by kernel_rfl) (by kernel_rfl) con329 (rg := [.tmp 2]) (by kernel_rfl) (by kernel_rfl) (loops_all 1 (by kernel_rfl) ⟨trivial, L_329_0ok⟩) (by kernel_rfl) B329 (fun x => by kernel_rfl) (fun _ => rfl)



/-! 330 spec.l4Any -/
noncomputable def B330 (x : Tl1Cur) : DTB (I5 × Tl1Cur) :=
  .bnd (F141 (x, (40 : Int))) fun r1 =>
  .bnd (F308 (r1.2, IntKind.i64.wrap ((1 : Int) + r1.1))) fun r2 =>
  .bnd (F141 (r2.2, (14 : Int))) fun r3 =>
  .ite (r3.1 == (0 : Int)) (
    .bnd (F133 (r3.2, [(0 : Int), (999 : Int), (1000 : Int)])) fun r4 =>
    .ret ((r4.1, r2.1.2), r4.2)) <|
  .ite (r3.1 == (1 : Int)) (
    .bnd (F133 (r3.2, [(0 : Int), (8 : Int), (9 : Int)])) fun r5 =>
    .ret ((r2.1.1, r5.1, r2.1.2.2), r5.2)) <|
  .ite (r3.1 == (2 : Int)) (
    .bnd (F133 (r3.2, [(-1 : Int), (7 : Int), (8 : Int)])) fun r6 =>
    .ret ((r2.1.1, r2.1.2.1, r6.1, r2.1.2.2.2), r6.2)) <|
  .ite (r3.1 == (3 : Int)) (
    .bnd (F281 r3.2) fun r7 =>
    .ret ((r2.1.1, r2.1.2.1, r2.1.2.2.1, r7.1, r2.1.2.2.2.2), r7.2)) <|
  .ite (r3.1 == (4 : Int)) (
    .bnd (F133 (r3.2, [(-1 : Int), (10000000 : Int), (10000001 : Int)])) fun r8 =>
    .ret ((r2.1.1, r2.1.2.1, r2.1.2.2.1, r2.1.2.2.2.1, r8.1), r8.2)) <|
  .ret (r2.1, r3.2)
noncomputable def F330 (x : Tl1Cur) : DT (I5 × Tl1Cur) := (B330 x).toDT
noncomputable def con330 : Con := ⟨[.box [.val (yTl1Cur)]], [0], [.agg [.val (yI5)]], F330⟩
noncomputable def C330 : Ctx := ⟨tiOf tab, fun t => eqL.contains t, fun g _ => conOf [(133, con133), (141, con141), (281, con281), (308, con308)] g, fun i => match i with | _ => none⟩
theorem cons330 : Cons prog C330 := cons_of _ (allC ⟨ok133, ok141, ok281, ok308, trivial⟩)
theorem ok330 : con330.Sound prog 330 :=
  fn_con (C := C330) (fn := Tryz.f330) (code := (bodyOf Tryz.f330)) (n := 41) ctx cons330 mixed (by kernel_rfl) (by kernel_rfl) (by kernel_rfl) con330 (rg := [.cell 2 40]) (by kernel_rfl) (by kernel_rfl) (loops_all 0 (by kernel_rfl) trivial) (by kernel_rfl) B330 (fun x => by kernel_rfl) (fun _ => rfl)



/-! 193 spec.l6Any -/
noncomputable def B193 (x : Tl1Cur) : DTB ((List TFind) × Tl1Cur) :=
  .bnd (F329 x) fun r1 =>
  .ite ((r1.1.length : Int) == (0 : Int)) (
    .ret (r1.1, r1.2)) <|
  .bnd (F141 (r1.2, (r1.1.length : Int))) fun r2 =>
  .bnd (F141 (r2.2, (12 : Int))) fun r3 =>
  .ite (r3.1 == (0 : Int)) (
    .bnd (F330 r3.2) fun r4 =>
    .guard (decide (0 ≤ r2.1 ∧ r2.1 < (r1.1.length : Int))) <|
    let e1 : TFind := r1.1.getD r2.1.toNat d1
    .ret (r1.1.set r2.1.toNat (r4.1, e1.2), r4.2)) <|
  .ite (r3.1 == (1 : Int)) (
    .bnd (F133 (r3.2, [(0 : Int), (30 : Int), (31 : Int)])) fun r5 =>
    .guard (decide (0 ≤ r2.1 ∧ r2.1 < (r1.1.length : Int))) <|
    let e2 : TFind := r1.1.getD r2.1.toNat d1
    .ret (r1.1.set r2.1.toNat (e2.1, r5.1, e2.2.2), r5.2)) <|
  .ite (r3.1 == (2 : Int)) (
    .bnd (F281 r3.2) fun r6 =>
    .guard (decide (0 ≤ r2.1 ∧ r2.1 < (r1.1.length : Int))) <|
    let e3 : TFind := r1.1.getD r2.1.toNat d1
    .ret (r1.1.set r2.1.toNat (e3.1, e3.2.1, r6.1, e3.2.2.2), r6.2)) <|
  .ite (r3.1 == (3 : Int)) (
    .bnd (F133 (r3.2, [(-1 : Int), (999 : Int), (1000 : Int)])) fun r7 =>
    .guard (decide (0 ≤ r2.1 ∧ r2.1 < (r1.1.length : Int))) <|
    let e4 : TFind := r1.1.getD r2.1.toNat d1
    .ret (r1.1.set r2.1.toNat (e4.1, e4.2.1, e4.2.2.1, r7.1), r7.2)) <|
  .ret (r1.1, r3.2)
noncomputable def F193 (x : Tl1Cur) : DT ((List TFind) × Tl1Cur) := (B193 x).toDT
noncomputable def con193 : Con := ⟨[.box [.val (yTl1Cur)]], [0], [.one (.own (yTFind))], F193⟩
noncomputable def C193 : Ctx := ⟨tiOf tab, fun t => eqL.contains t, fun g _ => conOf [(133, con133), (141, con141), (281, con281), (329, con329), (330, con330)] g, fun i => match i with | _ => none⟩
theorem cons193 : Cons prog C193 := cons_of _ (allC ⟨ok133, ok141, ok281, ok329, ok330, trivial⟩)
theorem ok193 : con193.Sound prog 193 :=
  fn_con (C := C193) (fn := Tryz.f193) (code := (bodyOf Tryz.f193)) (n := 52) ctx cons193 mixed (by kernel_rfl) (by kernel_rfl) (by kernel_rfl) con193 (rg := [.tmp 2]) (by kernel_rfl) (by kernel_rfl) (loops_all 0 (by kernel_rfl) trivial) (by kernel_rfl) B193 (fun x => by kernel_rfl) (fun _ => rfl)



/-! 336 spec.AddClaim -/
noncomputable def L_336_0G (x : (List I5) × I5 × Int × Bool × Int) : DTB (Rd ((List I5) × I5 × Int × Bool × Int) Unit) :=
  .ite (decide (x.2.2.2.2 < (x.1.length : Int))) (
    .ite (x.2.2.2.1) (
      .guard (decide (0 ≤ x.2.2.2.2 ∧ x.2.2.2.2 < (x.1.length : Int))) <|
      let e1 : I5 := x.1.getD x.2.2.2.2.toNat d4
      .ite (decide (e1.1 < x.2.1.1)) (
        .ret (.on (x.1, x.2.1, IntKind.i64.wrap (x.2.2.2.2 + (1 : Int)), true, IntKind.i64.wrap (x.2.2.2.2 + (1 : Int))))) <|
      .ret (.on (x.1, x.2.1, x.2.2.1, true, IntKind.i64.wrap (x.2.2.2.2 + (1 : Int))))) <|
    .guard (decide (0 ≤ x.2.2.2.2 ∧ x.2.2.2.2 < (x.1.length : Int))) <|
    let e2 : I5 := x.1.getD x.2.2.2.2.toNat d4
    .ite (e2.2.1 == x.2.1.2.1) (
      .guard (decide (0 ≤ x.2.2.2.2 ∧ x.2.2.2.2 < (x.1.length : Int))) <|
      let e3 : I5 := x.1.getD x.2.2.2.2.toNat d4
      .guard (decide (0 ≤ x.2.2.2.2 ∧ x.2.2.2.2 < (x.1.length : Int))) <|
      let e4 : I5 := x.1.getD x.2.2.2.2.toNat d4
      .ite (decide (e4.1 < x.2.1.1)) (
        .ret (.on (x.1, x.2.1, IntKind.i64.wrap (x.2.2.2.2 + (1 : Int)), e3.2.2.1 == x.2.1.2.2.1, IntKind.i64.wrap (x.2.2.2.2 + (1 : Int))))) <|
      .ret (.on (x.1, x.2.1, x.2.2.1, e3.2.2.1 == x.2.1.2.2.1, IntKind.i64.wrap (x.2.2.2.2 + (1 : Int))))) <|
    .guard (decide (0 ≤ x.2.2.2.2 ∧ x.2.2.2.2 < (x.1.length : Int))) <|
    let e5 : I5 := x.1.getD x.2.2.2.2.toNat d4
    .ite (decide (e5.1 < x.2.1.1)) (
      .ret (.on (x.1, x.2.1, IntKind.i64.wrap (x.2.2.2.2 + (1 : Int)), false, IntKind.i64.wrap (x.2.2.2.2 + (1 : Int))))) <|
    .ret (.on (x.1, x.2.1, x.2.2.1, false, IntKind.i64.wrap (x.2.2.2.2 + (1 : Int))))) <|
  .ret (.out x)
noncomputable def L_336_0 (x : (List I5) × I5 × Int × Bool × Int) : DT (((List I5) × I5 × Int × Bool × Int) ⊕ Unit) := whileT (fun x => (L_336_0G x).toDT) x
noncomputable def L_336_0C : LC := ⟨[(0, .one (.val (.sl (yI5)))), (3, .box [.val (yI5)]), (6, .one (.val (.int .i64))), (7, .one (.val (.bool))), (8, .one (.val (.int .i64)))], [], L_336_0⟩
noncomputable def B336 (x : (List I5) × I5) : DTB (((List I5) × Bool) × Unit) :=
  .bnd (L_336_0 (x.1, x.2, (0 : Int), x.2.2.2.2.2 != (0 : Int), (0 : Int))) fun
  | .inl y1 =>
    .guard (decide (0 ≤ (0 : Int) ∧ (0 : Int) ≤ y1.2.2.1 ∧ y1.2.2.1 ≤ (y1.1.length : Int))) <|
    .guard (decide ((([] : List I5).length + ((y1.1.take y1.2.2.1.toNat).drop (0 : Int).toNat).length) * 40 ≤ 140737488355328)) <|
    let l1 : List I5 := ([] : List I5) ++ ((y1.1.take y1.2.2.1.toNat).drop (0 : Int).toNat)
    .guard (decide ((l1.length + [y1.2.1].length) * 40 ≤ 140737488355328)) <|
    .guard (decide (0 ≤ y1.2.2.1 ∧ y1.2.2.1 ≤ (y1.1.length : Int) ∧ (y1.1.length : Int) ≤ (y1.1.length : Int))) <|
    .guard (decide (((l1 ++ [y1.2.1]).length + ((y1.1.take (y1.1.length : Int).toNat).drop y1.2.2.1.toNat).length) * 40 ≤ 140737488355328)) <|
    let l2 : List I5 := (l1 ++ [y1.2.1]) ++ ((y1.1.take (y1.1.length : Int).toNat).drop y1.2.2.1.toNat)
    .ite (y1.2.2.2.1) (
      .guard (decide ((([] : List I5).length + y1.1.length) * 40 ≤ 140737488355328)) <|
      .ret ((([] : List I5) ++ y1.1, false), ())) <|
    .bnd (F114 l2) fun r1 =>
    .ite (!r1.1) (
      .guard (decide ((([] : List I5).length + y1.1.length) * 40 ≤ 140737488355328)) <|
      .ret ((([] : List I5) ++ y1.1, false), ())) <|
    .ret ((l2, true), ())
  | .inr y1 =>
    .fail
noncomputable def F336 (x : (List I5) × I5) : DT (((List I5) × Bool) × Unit) := (B336 x).toDT
noncomputable def con336 : Con := ⟨[.one (.val (.sl (yI5))), .agg [.val (yI5)]], [], [.one (.own (yI5)), .one (.val (.bool))], F336⟩
noncomputable def C336 : Ctx := ⟨tiOf tab, fun t => eqL.contains t, fun g _ => conOf [(114, con114)] g, fun i => match i with | 0 => some L_336_0C | _ => none⟩
theorem cons336 : Cons prog C336 := cons_of _ (allC ⟨ok114, trivial⟩)
theorem L_336_0ok : LoopOk prog C336 [] 72 (nthLoop (bodyOf Tryz.f336) 0).1 (nthLoop (bodyOf Tryz.f336) 0).2 :=
  loop_while (l := L_336_0C) ctx cons336 mixed (by kernel_rfl) (loops_all 0 (by kernel_rfl) trivial) (by kernel_rfl) L_336_0G (fun x => by kernel_rfl) (fun _ => rfl)
theorem ok336 : con336.Sound prog 336 :=
  fn_con (C := C336) (fn := Tryz.f336) (code := (bodyOf Tryz.f336)) (n := 72) ctx cons336 mixed (by kernel_rfl) (by kernel_rfl) (by kernel_rfl) con336 (rg := [.tmp 4, .tmp 5]) (by kernel_rfl) (by kernel_rfl) (loops_all 1 (by kernel_rfl) ⟨trivial, L_336_0ok⟩) (by kernel_rfl) B336 (fun x => by kernel_rfl) (fun _ => rfl)


end Go.Am
