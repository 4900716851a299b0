import Derived.Test.YtomeklcamolijaaGreatP2
set_option linter.unusedVariables false
set_option linter.unusedSimpArgs false
set_option maxRecDepth 20000
namespace Go.Am
open Go
theorem allI_get {A : Type} {q : Nat → A → Bool} : ∀ {l : List A} {k : Nat}, allI q l k = true → ∀ {i : Nat} {a : A}, l[i]? = some a → q (k + i) a = true
  | [], _, _, _, _, h => by simp at h
  | b :: l, k, hq, i, a, h => by
    simp only [allI, Bool.and_eq_true] at hq
    cases i with
    | zero => simp at h; subst h; exact hq.1
    | succ i => simp at h; have := allI_get hq.2 h; rw [show k + (i + 1) = k + 1 + i by omega]; exact this
theorem getD_mem {A : Type} (l : List A) (i : Nat) (d : A) (h : i < l.length) : l.getD i d ∈ l := by
  simp [List.getD_eq_getElem?_getD, h]
theorem take_getD {A : Type} (l : List A) (i : Nat) (d : A) (h : i < l.length) : l.take i ++ [l.getD i d] = l.take (i + 1) := by
  simp [List.getD_eq_getElem?_getD, h]
abbrev mkB (l : List TSecret) : Prop := ∀ s ∈ l, s.2.1.length ≤ 1000
abbrev hs (h : THouse) : Prop := h.2.1.length ≤ 1000 ∧ h.2.2.1.length ≤ 1000 ∧ mkB h.2.2.1 ∧ h.2.2.2.1.length ≤ 1000 ∧ h.2.2.2.2.1.length ≤ 1000 ∧ h.2.2.2.2.2.1.length ≤ 1000 ∧ h.2.2.2.2.2.2.1.length ≤ 1000 ∧ h.2.2.2.2.2.2.2.1.length ≤ 1000
theorem sF111 : SpecOf F111 (fun _ => True) (fun x r => r = (inR x.1 x.2.1 x.2.2, ())) := ⟨fun x _ => V.of (v111 x)⟩
theorem sF304 : SpecOf F304 (fun _ => True) (fun x r => r = (thingOk x, ())) := ⟨fun x _ => V.of (v304 x)⟩
theorem sF162 : SpecOf F162 (fun _ => True) (fun x r => r = (findOk x, ())) := ⟨fun x _ => V.of (v162 x)⟩
theorem sF49 : SpecOf F49 (fun x => x.length ≤ 100000) (fun x r => r.1 = areFinds x ∧ (r.1 = true → x.length ≤ 20)) := ⟨fun x hx => (V.of (v49 x (by grind [wrap1, wrapm]))).imp fun r hr => by subst hr; simp only [areFinds]; grind [wrap1, wrapm]⟩
theorem sF253 : SpecOf F253 (fun x => x.length ≤ 100000) (fun x r => r = (areMarks x, ())) := ⟨fun x hx => V.of (v253 x (by grind [wrap1, wrapm]))⟩
theorem areMarks_len {l : List I2} (h : areMarks l = true) : l.length ≤ 8 := by unfold areMarks at h; grind [wrap1, wrapm]
theorem sF112 : SpecOf F112 (fun x => x.length ≤ 100000 ∧ mkB x) (fun x r => r.1 = areSecrets x ∧ (r.1 = true → x.length ≤ 20 ∧ mkB x)) := ⟨fun x hx => (V.of (v112 x (by grind [wrap1, wrapm]) (by grind [wrap1, wrapm]))).imp fun r hr => by subst hr; simp only [areSecrets]; grind [wrap1, wrapm]⟩
theorem sF113 : SpecOf F113 (fun x => x.length ≤ 100000) (fun x r => r.1 = areSlots x ∧ (r.1 = true → x.length ≤ 30)) := ⟨fun x hx => (V.of (v113 x (by grind [wrap1, wrapm]))).imp fun r hr => by subst hr; simp only [areSlots]; grind [wrap1, wrapm]⟩
theorem areClaims_st {l : List I5} (h : areClaims l = true) : ∀ i : Nat, i < l.length → 0 ≤ (l.getD i d4).2.2.2.2 ∧ (l.getD i d4).2.2.2.2 ≤ 3 := by
  intro i hi
  unfold areClaims at h
  simp only [Bool.and_eq_true] at h
  have := allI_get h.1 (show l[i]? = some (l.getD i d4) by simp [List.getD_eq_getElem?_getD, hi])
  simp only [Bool.and_eq_true, claimOk, inR] at this
  grind [wrap1, wrapm]
theorem sF114 : SpecOf F114 (fun x => x.length ≤ 100000) (fun x r => r.1 = areClaims x ∧ (r.1 = true → x.length ≤ 20 ∧ ∀ i : Nat, i < x.length → 0 ≤ (x.getD i d4).2.2.2.2 ∧ (x.getD i d4).2.2.2.2 ≤ 3)) := ⟨fun x hx => (V.of (v114 x (by grind [wrap1, wrapm]))).imp fun r hr => by
  subst hr; refine ⟨rfl, fun h => ⟨?_, areClaims_st h⟩⟩; simp only [areClaims] at h; grind [wrap1, wrapm]⟩
theorem sF254 : SpecOf F254 (fun _ => True) (fun x r => r = (sealOf x.1 x.2, ())) := ⟨fun x _ => V.of (v254 x)⟩
theorem sF116 : SpecOf F116 (fun x => x.length ≤ 100000) (fun x r => r.1 = areEntries x ∧ (r.1 = true → x.length ≤ 100)) := ⟨fun x hx => (V.of (v116 x (by grind [wrap1, wrapm]))).imp fun r hr => by subst hr; simp only [areEntries]; grind [wrap1, wrapm]⟩
theorem sL_287_0 : SpecOf L_287_0 (fun x => x.1.length ≤ 1000 ∧ mkB x.1 ∧ x.2.1 = [] ∧ x.2.2 = 0) (fun x r => ∃ y, r = .inl y ∧ y.2.1 = x.1) := ⟨by
  refine vloop (G := L_287_0G) (fun x y => y.1 = x.1 ∧ 0 ≤ y.2.2 ∧ y.2.2 ≤ y.1.length ∧ y.2.1 = x.1.take y.2.2.toNat) (fun y => (y.1.length - y.2.2).toNat) (by simp +contextual) ?_
  intro x hx y hy
  unfold L_287_0G; ((try dsimp only); repeat' ((first | (refine wret ?_) | (refine wguard ?_ (fun hg => ?_) <;> (try simp only [decide_eq_true_eq] at hg)) | (refine wite (fun hb => ?_) (fun hb => ?_) <;> (try simp only [decide_eq_true_eq, decide_eq_false_iff_not, Bool.not_eq_true', Bool.not_eq_false', beq_iff_eq, bne_iff_ne, ne_eq, beq_eq_false_iff_ne, bne_eq_false_iff_eq, Int.not_lt, Int.not_le] at hb)) | split); all_goals (try dsimp only)))
  all_goals grind [wrap1, wrapm, getD_mem, take_getD, List.take_of_length_le]⟩
theorem sF287 : SpecOf F287 (fun x => x.length ≤ 1000 ∧ mkB x) (fun x r => r = (x, ())) := ⟨by
  intro x hx; refine vfn (t := B287 x) ?_; unfold B287; ((try dsimp only); repeat' ((first | (refine wret ?_) | (refine wguard ?_ (fun hg => ?_) <;> (try simp only [decide_eq_true_eq] at hg)) | (refine wite (fun hb => ?_) (fun hb => ?_) <;> (try simp only [decide_eq_true_eq, decide_eq_false_iff_not, Bool.not_eq_true', Bool.not_eq_false', beq_iff_eq, bne_iff_ne, ne_eq, beq_eq_false_iff_ne, bne_eq_false_iff_eq, Int.not_lt, Int.not_le] at hb)) | (refine wbndS sL_287_0 ?_ (fun a ha => ?_); rotate_left; (try dsimp only at ha); (try subst ha); rotate_right) | split); all_goals (try dsimp only)))
  all_goals grind [wrap1, wrapm]⟩
theorem sF142 : SpecOf F142 hs (fun x r => r = (x, ())) := ⟨by
  intro x hx; refine vfn (t := B142 x) ?_; unfold B142; ((try dsimp only); repeat' ((first | (refine wret ?_) | (refine wguard ?_ (fun hg => ?_) <;> (try simp only [decide_eq_true_eq] at hg)) | (refine wite (fun hb => ?_) (fun hb => ?_) <;> (try simp only [decide_eq_true_eq, decide_eq_false_iff_not, Bool.not_eq_true', Bool.not_eq_false', beq_iff_eq, bne_iff_ne, ne_eq, beq_eq_false_iff_ne, bne_eq_false_iff_eq, Int.not_lt, Int.not_le] at hb)) | (refine wbndS sF287 ?_ (fun a ha => ?_); rotate_left; (try dsimp only at ha); (try subst ha); rotate_right) | split); all_goals (try dsimp only)))
  all_goals grind [wrap1, wrapm]⟩
end Go.Am
