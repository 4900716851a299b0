import Derived.Test.YtomeklcamolijaaGreatP8
set_option linter.unusedVariables false
set_option linter.unusedSimpArgs false
set_option maxRecDepth 20000
set_option maxHeartbeats 400000
namespace Go.Am
open Go
/-- the place of the slot with a thing -/
def slotW (l : List I3) (t : Int) : Int := if t = 0 then -1 else idx (fun s => s.2.2 == t) l
theorem v120 (l : List I3) (t : Int) (hl : fit l) : (F120 (l, t)).val = some (slotW l t, ()) := by
  show (B120 (l, t)).toDT.val = _
  simp only [B120, bv_ite, bv_ret, bv_bnd, v269_270 l t hl, Option.bind_some, slotW, beq_iff_eq]
  split <;> rfl
theorem sF120 : SpecOf F120 (fun x => x.1.length ≤ 100000) (fun x r => r = (slotW x.1 x.2, ())) := ⟨fun x hx => V.of (v120 x.1 x.2 (by grind [wrap1, wrapm]))⟩
def findW (l : List TFind) (t : Int) : Int := idx (fun s => s.1.1 == t) l
theorem sF21 : SpecOf F21 (fun x => x.1.length ≤ 100000) (fun x r => r = (findW x.1 x.2, ())) := ⟨fun x hx => V.of (by
  show (B21 x).toDT.val = _
  obtain ⟨l, t⟩ := x
  simp only [B21, bv_ret, bv_bnd, v123_124 l t (by grind [wrap1, wrapm]), Option.bind_some, findW])⟩
theorem sF165 : SpecOf F165 (fun x => x.1.length ≤ 100000) (fun x r => r = (decide (x.2 ∈ x.1), ())) := ⟨fun x hx => V.of (by
  show (B165 x).toDT.val = _
  obtain ⟨l, t⟩ := x
  simp only [B165, bv_ret, bv_bnd, v305 l t (by grind [wrap1, wrapm]), Option.bind_some]
  have := idx_nonneg (p := fun s : Int => s == t) (l := l)
  simp [this])⟩
theorem sF131 : SpecOf F131 (fun x => x.1.length ≤ 100000) (fun x r => r = (idx (fun s => s.1 == x.2) x.1, ())) := ⟨fun x hx => V.of (by
  show (B131 x).toDT.val = _
  obtain ⟨l, t⟩ := x
  simp only [B131, bv_ret, bv_bnd, v278_279 l t (by grind [wrap1, wrapm]), Option.bind_some])⟩
theorem sF130 : SpecOf F130 (fun x => x.1.2.2.2.2.2.1.length ≤ 100000) (fun x r => r = (idx (fun s => s.1 == x.2) x.1.2.2.2.2.2.1, ())) := ⟨fun x hx => V.of (by
  show (B130 x).toDT.val = _
  obtain ⟨l, t⟩ := x
  simp only [B130, bv_ret, bv_bnd, v276_277 _ t (by grind [wrap1, wrapm] : fit l.2.2.2.2.2.1), Option.bind_some])⟩
theorem sF24 : SpecOf F24 (fun x => x.1.2.2.2.2.2.1.length ≤ 100000) (fun x r => r.1.2 = true → r.1.1.1 = x.2) := ⟨by
  intro x hx; refine vfn (t := B24 x) ?_; unfold B24; ((try dsimp only); repeat' ((first | (refine wret ?_) | (refine wguard ?_ (fun hg => ?_) <;> (try simp only [decide_eq_true_eq] at hg)) | (refine wite (fun hb => ?_) (fun hb => ?_) <;> (try simp only [decide_eq_true_eq, decide_eq_false_iff_not, Bool.not_eq_true', Bool.not_eq_false', beq_iff_eq, bne_iff_ne, ne_eq, beq_eq_false_iff_ne, bne_eq_false_iff_eq, Int.not_lt, Int.not_le] at hb)) | (refine wbndS sF130 ?_ (fun a ha => ?_); rotate_left; (try dsimp only at ha); (try subst ha); rotate_right) | split); all_goals (try dsimp only)))
  all_goals grind [wrap1, wrapm, idx_lt, idx_at]⟩
/-! ### the impl's slots -/
def slotO (l : List I3) (t : Int) : Int := if slotW l t < 0 then 0 else (l.getD (slotW l t).toNat d3).1
theorem slotW_lt (l : List I3) (t : Int) : slotW l t < l.length ∧ -1 ≤ slotW l t := by
  unfold slotW; split
  · omega
  · exact idx_lt _ _
theorem v138 (l : List I3) (t : Int) (hl : fit l) : (F138 (l, t)).val = some (slotO l t, ()) := by
  show (B138 (l, t)).toDT.val = _
  have := slotW_lt l t
  simp only [B138, bv_ite, bv_ret, bv_guard, bv_bnd, v120 l t hl, Option.bind_some, slotO]
  grind [wrap1, wrapm]
def slotOk1 (l : List I3) (i : Nat) (a : I3) : Bool := slotOk a && (i == 0 || decide ((l.getD (i - 1) d3).1 < a.1)) && slotO (l.take i) a.2.2 == 0
def areSlotsI (l : List I3) : Bool := allI (slotOk1 l) l 0 && decide ((l.length : Int) ≤ 30)
theorem v29 (l : List I3) (hl : fit l) : (F29 l).val = some (areSlotsI l, ()) := by
  show (B29 l).toDT.val = _
  have hw := while_all (G := fun x => (L_29_0G x).toDT) l (fun i => (l, l, (l.length : Int), (i : Int))) (slotOk1 l) false
    (fun i a ha => by
      have hi := lt_of_get ha
      have hf : fit ((l.take i).drop 0) := by simp; omega
      simp only [L_29_0G, bv_ite, bv_guard, bv_ret, bv_bnd, v103, Option.bind_some, getD_nat ha, wsucc hi hl, wpred hi hl, pred_get, slotOk1, slotOk, Int.toNat_natCast, Int.toNat_zero, v138 _ _ hf]
      grind [wrap1, wrapm])
    (by simp [L_29_0G, bv_ite, bv_ret])
  simp only [B29, bv_bnd, L_29_0, bv_ite, bv_ret]
  rw [show ((0 : Nat) : Int) = 0 from rfl] at hw
  rw [hw]
  unfold areSlotsI
  (repeat' split) <;> (try simp only [Option.bind_some, bv_ret]) <;> grind [wrap1, wrapm]
theorem sF29 : SpecOf F29 (fun x => x.length ≤ 100000) (fun x r => r = (areSlotsI x, ())) := ⟨fun x hx => V.of (v29 x (by grind [wrap1, wrapm]))⟩
/-! ### the impl's claims -/
theorem v105i (l : List I5) (hl : fit l) (i : Nat) (a : I5) (ha : l[i]? = some a) : (L_105_2 (l, a, l, (l.length : Int), (i : Int), (l.take i).drop 0, (((l.take i).drop 0).length : Int), (0 : Int))).val = some (if ((l.take i).all (claimAp a)) = true then .inl (l, a, l, (l.length : Int), (i : Int), (l.take i).drop 0, (((l.take i).drop 0).length : Int), (i : Int)) else .inr false) := by
  have hi := lt_of_get ha
  have hlen : (l.take i).length = i := by rw [List.length_take]; omega
  rw [List.drop_zero]
  have hw := while_all (G := fun x => (L_105_2G x).toDT) (l.take i) (fun k => (l, a, l, (l.length : Int), (i : Int), l.take i, ((l.take i).length : Int), (k : Int))) (fun _ b => claimAp a b) false
    (fun k b hb => by
      have hk := lt_of_get hb
      simp only [L_105_2G, bv_ite, bv_guard, bv_ret, bv_bnd, Option.bind_some, getD_nat hb, wsucc (show k < l.length by omega) hl, claimAp]
      grind [wrap1, wrapm])
    (by simp [L_105_2G, bv_ite, bv_ret])
  rw [allI_all, hlen] at hw
  rw [hlen]
  exact hw
def areClaimsI (l : List I5) : Bool := areClaims l
theorem v105 (l : List I5) (hl : fit l) : (F105 l).val = some (areClaims l, ()) := by
  show (B105 l).toDT.val = _
  have hw := while_all (G := fun x => (L_105_0G x).toDT) l (fun i => (l, l, (l.length : Int), (i : Int))) (fun i a => claimOk a && (i == 0 || decide ((l.getD (i - 1) d4).1 < a.1)) && (l.take i).all (claimAp a)) false
    (fun i a ha => by
      have hi := lt_of_get ha
      have hd : l.getD i d4 = a := by simp [List.getD_eq_getElem?_getD, ha]
      simp only [L_105_0G, bv_ite, bv_guard, bv_ret, bv_bnd, v103, Option.bind_some, getD_nat ha, wsucc hi hl, wpred hi hl, pred_get, Int.toNat_natCast, Int.toNat_zero, hd, v105i l hl i a ha, claimOk]
      generalize ((l.take i).all (claimAp a)) = q
      cases q <;> simp only [Bool.false_eq_true, if_false, if_true, Bool.and_true, Bool.and_false, Option.bind_some, bv_ret, wsucc hi hl] <;> grind [wrap1, wrapm])
    (by simp [L_105_0G, bv_ite, bv_ret])
  simp only [B105, bv_bnd, L_105_0, bv_ite, bv_ret]
  rw [show ((0 : Nat) : Int) = 0 from rfl] at hw
  rw [hw]
  unfold areClaims
  (repeat' split) <;> (try simp only [Option.bind_some, bv_ret]) <;> grind [wrap1, wrapm]
theorem sF105 : SpecOf F105 (fun x => x.length ≤ 100000) (fun x r => r = (areClaims x, ())) := ⟨fun x hx => V.of (v105 x (by grind [wrap1, wrapm]))⟩
end Go.Am
