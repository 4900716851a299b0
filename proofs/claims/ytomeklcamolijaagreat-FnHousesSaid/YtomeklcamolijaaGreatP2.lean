import Derived.Test.YtomeklcamolijaaGreatAmPu
import Derived.Test.YtomeklcamolijaaGreatP1
import Derived.Test.YtomeklcamolijaaGreatGF3
set_option linter.unusedVariables false
set_option linter.unusedSimpArgs false
set_option maxRecDepth 20000
namespace Go.Am
open Go

/-! ### the cursor -/
abbrev cok (c : Tl1Cur) : Prop := 0 ≤ c.2.1 ∧ c.2.1 ≤ c.1.length ∧ c.1.length ≤ 1048576
theorem sL_100_0 : SpecOf L_100_0 (fun x => 0 ≤ x.2.2 ∧ x.2.2 ≤ x.1.length ∧ x.1.length ≤ 1048576) (fun x r => ∃ y, r = .inl y ∧ y.1 = x.1) := ⟨by
  refine vloop (G := L_100_0G) (fun x y => y.1 = x.1 ∧ 0 ≤ y.2.2 ∧ y.2.2 ≤ y.1.length) (fun y => (y.1.length - y.2.2).toNat) (by grind [wrap1, wrapm]) ?_
  intro x hx y hy
  unfold L_100_0G; ((try dsimp only); repeat' ((first | (refine wret ?_) | (refine wguard ?_ (fun hg => ?_) <;> (try simp only [decide_eq_true_eq] at hg)) | (refine wite (fun hb => ?_) (fun hb => ?_) <;> (try simp only [decide_eq_true_eq, decide_eq_false_iff_not, Bool.not_eq_true', Bool.not_eq_false', beq_iff_eq, bne_iff_ne, ne_eq, beq_eq_false_iff_ne, bne_eq_false_iff_eq, Int.not_lt, Int.not_le] at hb)) | split); all_goals (try dsimp only)))
  all_goals grind [wrap1, wrapm]⟩
theorem sF100 : SpecOf F100 (fun x => x.length ≤ 1048576) (fun x r => cok r.1) := ⟨by
  intro x hx; refine vfn (t := B100 x) ?_; unfold B100; ((try dsimp only); repeat' ((first | (refine wret ?_) | (refine wguard ?_ (fun hg => ?_) <;> (try simp only [decide_eq_true_eq] at hg)) | (refine wite (fun hb => ?_) (fun hb => ?_) <;> (try simp only [decide_eq_true_eq, decide_eq_false_iff_not, Bool.not_eq_true', Bool.not_eq_false', beq_iff_eq, bne_iff_ne, ne_eq, beq_eq_false_iff_ne, bne_eq_false_iff_eq, Int.not_lt, Int.not_le] at hb)) | (refine wbndS sL_100_0 ?_ (fun a ha => ?_); rotate_left; (try dsimp only at ha); (try subst ha); rotate_right) | split); all_goals (try dsimp only)))
  all_goals grind [wrap1, wrapm]⟩
theorem sF286 : SpecOf F286 cok (fun x r => cok r.2 ∧ 0 ≤ r.1 ∧ r.1 ≤ 255) := ⟨by
  intro x hx; refine vfn (t := B286 x) ?_; unfold B286; ((try dsimp only); repeat' ((first | (refine wret ?_) | (refine wguard ?_ (fun hg => ?_) <;> (try simp only [decide_eq_true_eq] at hg)) | (refine wite (fun hb => ?_) (fun hb => ?_) <;> (try simp only [decide_eq_true_eq, decide_eq_false_iff_not, Bool.not_eq_true', Bool.not_eq_false', beq_iff_eq, bne_iff_ne, ne_eq, beq_eq_false_iff_ne, bne_eq_false_iff_eq, Int.not_lt, Int.not_le] at hb)) | split); all_goals (try dsimp only)))
  all_goals first | refine ⟨?_, and255 _⟩ | skip
  all_goals grind [wrap1, wrapm]⟩
theorem sF141 : SpecOf F141 (fun x => cok x.1) (fun x r => cok r.2 ∧ 0 ≤ r.1 ∧ (r.1 < x.2 ∨ r.1 = 0)) := ⟨by
  intro x hx; refine vfn (t := B141 x) ?_; unfold B141; ((try dsimp only); repeat' ((first | (refine wret ?_) | (refine wguard ?_ (fun hg => ?_) <;> (try simp only [decide_eq_true_eq] at hg)) | (refine wite (fun hb => ?_) (fun hb => ?_) <;> (try simp only [decide_eq_true_eq, decide_eq_false_iff_not, Bool.not_eq_true', Bool.not_eq_false', beq_iff_eq, bne_iff_ne, ne_eq, beq_eq_false_iff_ne, bne_eq_false_iff_eq, Int.not_lt, Int.not_le] at hb)) | (refine wbndS sF286 ?_ (fun a ha => ?_); rotate_left; (try dsimp only at ha); (try subst ha); rotate_right) | split); all_goals (try dsimp only)))
  all_goals first | (refine ⟨by grind [wrap1, wrapm], (tmodB (by grind [wrap1, wrapm, wrapI]) (by grind [wrap1, wrapm])).1, .inl (tmodB (by grind [wrap1, wrapm, wrapI]) (by grind [wrap1, wrapm])).2⟩) | grind [wrap1, wrapm]⟩
theorem sF133 : SpecOf F133 (fun x => cok x.1 ∧ 0 < x.2.length) (fun x r => cok r.2) := ⟨by
  intro x hx; refine vfn (t := B133 x) ?_; unfold B133; ((try dsimp only); repeat' ((first | (refine wret ?_) | (refine wguard ?_ (fun hg => ?_) <;> (try simp only [decide_eq_true_eq] at hg)) | (refine wite (fun hb => ?_) (fun hb => ?_) <;> (try simp only [decide_eq_true_eq, decide_eq_false_iff_not, Bool.not_eq_true', Bool.not_eq_false', beq_iff_eq, bne_iff_ne, ne_eq, beq_eq_false_iff_ne, bne_eq_false_iff_eq, Int.not_lt, Int.not_le] at hb)) | (refine wbndS sF141 ?_ (fun a ha => ?_); rotate_left; (try dsimp only at ha); (try subst ha); rotate_right) | split); all_goals (try dsimp only)))
  all_goals grind [wrap1, wrapm]⟩
theorem sF134 : SpecOf F134 (fun x => cok x.1) (fun x r => cok r.2) := ⟨by
  intro x hx; refine vfn (t := B134 x) ?_; unfold B134; ((try dsimp only); repeat' ((first | (refine wret ?_) | (refine wguard ?_ (fun hg => ?_) <;> (try simp only [decide_eq_true_eq] at hg)) | (refine wite (fun hb => ?_) (fun hb => ?_) <;> (try simp only [decide_eq_true_eq, decide_eq_false_iff_not, Bool.not_eq_true', Bool.not_eq_false', beq_iff_eq, bne_iff_ne, ne_eq, beq_eq_false_iff_ne, bne_eq_false_iff_eq, Int.not_lt, Int.not_le] at hb)) | (refine wbndS sF141 ?_ (fun a ha => ?_); rotate_left; (try dsimp only at ha); (try subst ha); rotate_right) | split); all_goals (try dsimp only)))
  all_goals grind [wrap1, wrapm]⟩
theorem sF308 : SpecOf F308 (fun x => cok x.1) (fun x r => cok r.2) := ⟨by
  intro x hx; refine vfn (t := B308 x) ?_; unfold B308; ((try dsimp only); repeat' ((first | (refine wret ?_) | (refine wguard ?_ (fun hg => ?_) <;> (try simp only [decide_eq_true_eq] at hg)) | (refine wite (fun hb => ?_) (fun hb => ?_) <;> (try simp only [decide_eq_true_eq, decide_eq_false_iff_not, Bool.not_eq_true', Bool.not_eq_false', beq_iff_eq, bne_iff_ne, ne_eq, beq_eq_false_iff_ne, bne_eq_false_iff_eq, Int.not_lt, Int.not_le] at hb)) | (refine wbndS sF141 ?_ (fun a ha => ?_); rotate_left; (try dsimp only at ha); (try subst ha); rotate_right) | split); all_goals (try dsimp only)))
  all_goals grind [wrap1, wrapm]⟩
theorem sF169 : SpecOf F169 (fun x => cok x.1) (fun x r => cok r.2) := ⟨by
  intro x hx; refine vfn (t := B169 x) ?_; unfold B169; ((try dsimp only); repeat' ((first | (refine wret ?_) | (refine wguard ?_ (fun hg => ?_) <;> (try simp only [decide_eq_true_eq] at hg)) | (refine wite (fun hb => ?_) (fun hb => ?_) <;> (try simp only [decide_eq_true_eq, decide_eq_false_iff_not, Bool.not_eq_true', Bool.not_eq_false', beq_iff_eq, bne_iff_ne, ne_eq, beq_eq_false_iff_ne, bne_eq_false_iff_eq, Int.not_lt, Int.not_le] at hb)) | (refine wbndS sF141 ?_ (fun a ha => ?_); rotate_left; (try dsimp only at ha); (try subst ha); rotate_right) | (refine wbndS sF308 ?_ (fun a ha => ?_); rotate_left; (try dsimp only at ha); (try subst ha); rotate_right) | split); all_goals (try dsimp only)))
  all_goals grind [wrap1, wrapm]⟩
theorem sF281 : SpecOf F281 cok (fun x r => cok r.2) := ⟨by
  intro x hx; refine vfn (t := B281 x) ?_; unfold B281; ((try dsimp only); repeat' ((first | (refine wret ?_) | (refine wguard ?_ (fun hg => ?_) <;> (try simp only [decide_eq_true_eq] at hg)) | (refine wite (fun hb => ?_) (fun hb => ?_) <;> (try simp only [decide_eq_true_eq, decide_eq_false_iff_not, Bool.not_eq_true', Bool.not_eq_false', beq_iff_eq, bne_iff_ne, ne_eq, beq_eq_false_iff_ne, bne_eq_false_iff_eq, Int.not_lt, Int.not_le] at hb)) | (refine wbndS sF133 ?_ (fun a ha => ?_); rotate_left; (try dsimp only at ha); (try subst ha); rotate_right) | split); all_goals (try dsimp only)))
  all_goals grind [wrap1, wrapm]⟩
theorem sF330 : SpecOf F330 cok (fun x r => cok r.2) := ⟨by
  intro x hx; refine vfn (t := B330 x) ?_; unfold B330; ((try dsimp only); repeat' ((first | (refine wret ?_) | (refine wguard ?_ (fun hg => ?_) <;> (try simp only [decide_eq_true_eq] at hg)) | (refine wite (fun hb => ?_) (fun hb => ?_) <;> (try simp only [decide_eq_true_eq, decide_eq_false_iff_not, Bool.not_eq_true', Bool.not_eq_false', beq_iff_eq, bne_iff_ne, ne_eq, beq_eq_false_iff_ne, bne_eq_false_iff_eq, Int.not_lt, Int.not_le] at hb)) | (refine wbndS sF133 ?_ (fun a ha => ?_); rotate_left; (try dsimp only at ha); (try subst ha); rotate_right) | (refine wbndS sF141 ?_ (fun a ha => ?_); rotate_left; (try dsimp only at ha); (try subst ha); rotate_right) | (refine wbndS sF281 ?_ (fun a ha => ?_); rotate_left; (try dsimp only at ha); (try subst ha); rotate_right) | (refine wbndS sF308 ?_ (fun a ha => ?_); rotate_left; (try dsimp only at ha); (try subst ha); rotate_right) | split); all_goals (try dsimp only)))
  all_goals grind [wrap1, wrapm]⟩
theorem sL_136_0 : SpecOf L_136_0 (fun x => cok x.1 ∧ x.2.1 = [] ∧ x.2.2 = 1) (fun x r => ∃ y, r = .inl y ∧ cok y.1 ∧ y.2.1.length ≤ 7) := ⟨by
  refine vloop (G := L_136_0G) (fun x y => cok y.1 ∧ 1 ≤ y.2.2 ∧ y.2.2 ≤ 8 ∧ y.2.1.length = y.2.2 - 1) (fun y => (8 - y.2.2).toNat) (by grind [wrap1, wrapm]) ?_
  intro x hx y hy
  unfold L_136_0G; ((try dsimp only); repeat' ((first | (refine wret ?_) | (refine wguard ?_ (fun hg => ?_) <;> (try simp only [decide_eq_true_eq] at hg)) | (refine wite (fun hb => ?_) (fun hb => ?_) <;> (try simp only [decide_eq_true_eq, decide_eq_false_iff_not, Bool.not_eq_true', Bool.not_eq_false', beq_iff_eq, bne_iff_ne, ne_eq, beq_eq_false_iff_ne, bne_eq_false_iff_eq, Int.not_lt, Int.not_le] at hb)) | (refine wbndS sF141 ?_ (fun a ha => ?_); rotate_left; (try dsimp only at ha); (try subst ha); rotate_right) | split); all_goals (try dsimp only)))
  all_goals grind [wrap1, wrapm, wrapI]⟩
theorem sF136 : SpecOf F136 cok (fun x r => cok r.2 ∧ r.1.length ≤ 7) := ⟨by
  intro x hx; refine vfn (t := B136 x) ?_; unfold B136; ((try dsimp only); repeat' ((first | (refine wret ?_) | (refine wguard ?_ (fun hg => ?_) <;> (try simp only [decide_eq_true_eq] at hg)) | (refine wite (fun hb => ?_) (fun hb => ?_) <;> (try simp only [decide_eq_true_eq, decide_eq_false_iff_not, Bool.not_eq_true', Bool.not_eq_false', beq_iff_eq, bne_iff_ne, ne_eq, beq_eq_false_iff_ne, bne_eq_false_iff_eq, Int.not_lt, Int.not_le] at hb)) | (refine wbndS sL_136_0 ?_ (fun a ha => ?_); rotate_left; (try dsimp only at ha); (try subst ha); rotate_right) | split); all_goals (try dsimp only)))
  all_goals grind [wrap1, wrapm]⟩
theorem sL_329_0 : SpecOf L_329_0 (fun x => cok x.1 ∧ x.2.1 = [] ∧ x.2.2 = 1) (fun x r => ∃ y, r = .inl y ∧ cok y.1 ∧ y.2.1.length ≤ 7) := ⟨by
  refine vloop (G := L_329_0G) (fun x y => cok y.1 ∧ 1 ≤ y.2.2 ∧ y.2.2 ≤ 8 ∧ y.2.1.length = y.2.2 - 1) (fun y => (8 - y.2.2).toNat) (by grind [wrap1, wrapm]) ?_
  intro x hx y hy
  unfold L_329_0G; ((try dsimp only); repeat' ((first | (refine wret ?_) | (refine wguard ?_ (fun hg => ?_) <;> (try simp only [decide_eq_true_eq] at hg)) | (refine wite (fun hb => ?_) (fun hb => ?_) <;> (try simp only [decide_eq_true_eq, decide_eq_false_iff_not, Bool.not_eq_true', Bool.not_eq_false', beq_iff_eq, bne_iff_ne, ne_eq, beq_eq_false_iff_ne, bne_eq_false_iff_eq, Int.not_lt, Int.not_le] at hb)) | (refine wbndS sF141 ?_ (fun a ha => ?_); rotate_left; (try dsimp only at ha); (try subst ha); rotate_right) | (refine wbndS sF169 ?_ (fun a ha => ?_); rotate_left; (try dsimp only at ha); (try subst ha); rotate_right) | split); all_goals (try dsimp only)))
  all_goals grind [wrap1, wrapm, wrapI]⟩
theorem sF329 : SpecOf F329 cok (fun x r => cok r.2 ∧ r.1.length ≤ 7) := ⟨by
  intro x hx; refine vfn (t := B329 x) ?_; unfold B329; ((try dsimp only); repeat' ((first | (refine wret ?_) | (refine wguard ?_ (fun hg => ?_) <;> (try simp only [decide_eq_true_eq] at hg)) | (refine wite (fun hb => ?_) (fun hb => ?_) <;> (try simp only [decide_eq_true_eq, decide_eq_false_iff_not, Bool.not_eq_true', Bool.not_eq_false', beq_iff_eq, bne_iff_ne, ne_eq, beq_eq_false_iff_ne, bne_eq_false_iff_eq, Int.not_lt, Int.not_le] at hb)) | (refine wbndS sL_329_0 ?_ (fun a ha => ?_); rotate_left; (try dsimp only at ha); (try subst ha); rotate_right) | split); all_goals (try dsimp only)))
  all_goals grind [wrap1, wrapm]⟩
theorem sF193 : SpecOf F193 cok (fun x r => cok r.2 ∧ r.1.length ≤ 7) := ⟨by
  intro x hx; refine vfn (t := B193 x) ?_; unfold B193; ((try dsimp only); repeat' ((first | (refine wret ?_) | (refine wguard ?_ (fun hg => ?_) <;> (try simp only [decide_eq_true_eq] at hg)) | (refine wite (fun hb => ?_) (fun hb => ?_) <;> (try simp only [decide_eq_true_eq, decide_eq_false_iff_not, Bool.not_eq_true', Bool.not_eq_false', beq_iff_eq, bne_iff_ne, ne_eq, beq_eq_false_iff_ne, bne_eq_false_iff_eq, Int.not_lt, Int.not_le] at hb)) | (refine wbndS sF133 ?_ (fun a ha => ?_); rotate_left; (try dsimp only at ha); (try subst ha); rotate_right) | (refine wbndS sF141 ?_ (fun a ha => ?_); rotate_left; (try dsimp only at ha); (try subst ha); rotate_right) | (refine wbndS sF281 ?_ (fun a ha => ?_); rotate_left; (try dsimp only at ha); (try subst ha); rotate_right) | (refine wbndS sF329 ?_ (fun a ha => ?_); rotate_left; (try dsimp only at ha); (try subst ha); rotate_right) | (refine wbndS sF330 ?_ (fun a ha => ?_); rotate_left; (try dsimp only at ha); (try subst ha); rotate_right) | split); all_goals (try dsimp only)))
  all_goals grind [wrap1, wrapm]⟩
end Go.Am
