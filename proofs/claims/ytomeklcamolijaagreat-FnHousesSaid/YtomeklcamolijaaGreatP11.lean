import Derived.Test.YtomeklcamolijaaGreatP10
set_option linter.unusedVariables false
set_option linter.unusedSimpArgs false
set_option maxRecDepth 20000
set_option maxHeartbeats 400000
namespace Go.Am
open Go
/-! ### what is in a house -/
theorem forI_filt {Y A B : Type} {c : Nat → A → Bool} {g : A → B} {body : Nat → A → List B → Rd (List B) Y} (hb : ∀ i a s, body i a s = .on (if c i a = true then s ++ [g a] else s)) : ∀ (xs : List A) (i : Nat) (s : List B),
    forI body xs i s = .inl (i + xs.length, s ++ (xs.zipIdx i).filterMap fun q => if c q.2 q.1 = true then some (g q.1) else none)
  | [], i, s => by simp [forI]
  | a :: xs, i, s => by
    simp only [forI, hb, List.zipIdx_cons, List.filterMap_cons, List.length_cons]
    rw [forI_filt hb xs (i + 1)]
    by_cases h : c i a = true
    · simp [h]; omega
    · simp [h]; omega
def inC (c : List I5) (no : Int) (i : Nat) (a : I5) : Bool := a.2.1 == 2 && a.2.2.1 == no && lastW c a.1 == (i : Int)
def inRaw (c : List I5) (no : Int) : List Int := (c.zipIdx 0).filterMap fun q => if inC c no q.2 q.1 = true then some q.1.1 else none
def inH (c : List I5) (no : Int) : List Int := if isChain c then (inRaw c no).mergeSort fun a b => decide (a ≤ b) else []
theorem filterMap_len {A B : Type} (f : A → Option B) (l : List A) : (l.filterMap f).length ≤ l.length := List.length_filterMap_le f l
theorem inRaw_len (c : List I5) (no : Int) : (inRaw c no).length ≤ c.length := by
  have := filterMap_len (fun q : I5 × Nat => if inC c no q.2 q.1 = true then some q.1.1 else none) (c.zipIdx 0)
  simpa [inRaw] using this
theorem v20 (c : List I5) (no : Int) (hl : c.length ≤ 100000) : (F20 (c, no)).val = some (inH c no, ()) := by
  show (B20 (c, no)).toDT.val = _
  have hl' : fit c := by omega
  have hw := while_for (G := fun x => (L_20_0G x).toDT) c (fun i s => (c, no, s, c, (c.length : Int), (i : Int))) (fun i a s => .on (if inC c no i a = true then s ++ [a.1] else s)) (fun i s => s.length ≤ i)
    (fun i s a ha hp => by
      have hi := lt_of_get ha
      refine ⟨?_, fun s' h => ?_⟩
      · have hd : c.getD i d4 = a := by simp [List.getD_eq_getElem?_getD, ha]
        simp only [L_20_0G, bv_ite, bv_guard, bv_ret, bv_bnd, Option.bind_some, Int.toNat_natCast, hd, wsucc hi hl', v121 c a.1 hl', mapRd, inC]
        by_cases h1 : a.2.1 = 2 <;> by_cases h2 : a.2.2.1 = no <;> by_cases h3 : lastW c a.1 = (i : Int) <;> simp [h1, h2, h3, hi] <;> omega
      · injection h with h; subst h; grind [wrap1, wrapm])
    (fun s _ => by simp [L_20_0G, bv_ite, bv_ret]) (s := []) (by simp)
  rw [forI_filt (fun _ _ _ => rfl)] at hw
  simp only [B20, bv_bnd, L_20_0, bv_ite, bv_ret, v106 c hl', Option.bind_some]
  rw [show ((0 : Nat) : Int) = 0 from rfl] at hw
  by_cases h : isChain c = true
  · simp only [h, Bool.not_true, Bool.false_eq_true, if_false]
    rw [hw]
    have hr := inRaw_len c no
    have e : ([] : List Int) ++ (c.zipIdx 0).filterMap (fun q => if inC c no q.2 q.1 = true then some q.1.1 else none) = inRaw c no := by simp [inRaw]
    simp only [endI, e, Option.bind_some, bv_bnd]
    have : (F122 (inRaw c no)).val = some ((), (inRaw c no).mergeSort fun a b => decide (a ≤ b)) := by
      have hb : decide ((inRaw c no).length * 8 ≤ 140737488355328) = true := by simp; omega
      unfold F122 sortF
      rw [hb]; rfl
    rw [this]
    simp [bv_ret, inH, h]
  · simp [h, bv_ret, inH]
theorem sF20 : SpecOf F20 (fun x => x.1.length ≤ 100000) (fun x r => r = (inH x.1 x.2, ())) := ⟨fun x hx => V.of (v20 x.1 x.2 hx)⟩
theorem inH_len (c : List I5) (no : Int) : (inH c no).length ≤ c.length := by
  have := inRaw_len c no
  unfold inH; split <;> simp; omega
/-! ### things where they are -/
def keptF (h : THouse) (i : Nat) (f : TFind) : Bool := (h.2.2.1.getD i d0).1 == f.1.1 && (decide (0 ≤ slotW h.2.2.2.1 f.1.1) == decide (f.1.1 ∈ inH h.2.2.2.2.2.2.1 h.1))
def keptS (h : THouse) (s : I3) : Bool := s.2.2 == 0 || decide (0 ≤ findW h.2.1 s.2.2)
def kept (h : THouse) : Bool := decide (h.2.2.1.length = h.2.1.length) && allI (keptF h) h.2.1 0 && h.2.2.2.1.all (keptS h) && (inH h.2.2.2.2.2.2.1 h.1).all fun t => decide (0 ≤ findW h.2.1 t)
theorem v21 (l : List TFind) (t : Int) (hl : fit l) : (F21 (l, t)).val = some (findW l t, ()) := by
  show (B21 (l, t)).toDT.val = _
  simp only [B21, bv_ret, bv_bnd, v123_124 l t hl, Option.bind_some, findW]
theorem v165 (l : List Int) (t : Int) (hl : fit l) : (F165 (l, t)).val = some (decide (t ∈ l), ()) := by
  show (B165 (l, t)).toDT.val = _
  simp only [B165, bv_ret, bv_bnd, v305 l t hl, Option.bind_some]
  have := idx_nonneg (p := fun s : Int => s == t) (l := l)
  simp [this]
/-- what the checks of a house ask of its size -/
abbrev hs3 (h : THouse) : Prop := h.2.1.length ≤ 5000 ∧ h.2.2.1.length ≤ 5000 ∧ mkB h.2.2.1 ∧ h.2.2.2.1.length ≤ 5000 ∧ h.2.2.2.2.1.length ≤ 5000 ∧ h.2.2.2.2.2.1.length ≤ 5000 ∧ h.2.2.2.2.2.2.1.length ≤ 5000 ∧ h.2.2.2.2.2.2.2.1.length ≤ 5000
theorem v108 (h : THouse) (hh : hs3 h) : (F108 h).val = some (kept h, ()) := by
  show (B108 h).toDT.val = _
  obtain ⟨h1, h2, hm, h3, h4, h5, h6, h7⟩ := hh
  have hin := inH_len h.2.2.2.2.2.2.1 h.1
  have f1 : fit h.2.1 := by omega
  have f3 : fit h.2.2.2.1 := by omega
  have fi : fit (inH h.2.2.2.2.2.2.1 h.1) := by omega
  simp only [B108, bv_bnd, bv_ite, bv_ret, v20 _ _ (by omega : h.2.2.2.2.2.2.1.length ≤ 100000), Option.bind_some, L_108_0, L_108_2, L_108_4]
  by_cases he : h.2.2.1.length = h.2.1.length
  case neg => simp [he, kept]; omega
  have hw1 := while_all (G := fun x => (L_108_0G x).toDT) h.2.1 (fun i => (h, inH h.2.2.2.2.2.2.1 h.1, h.2.1, (h.2.1.length : Int), (i : Int))) (keptF h) false
    (fun i a ha => by
      have hi := lt_of_get ha
      have hd : h.2.1.getD i d1 = a := by simp [List.getD_eq_getElem?_getD, ha]
      simp only [L_108_0G, bv_ite, bv_guard, bv_ret, bv_bnd, v120 _ _ f3, v165 _ _ fi, Option.bind_some, Int.toNat_natCast, hd, wsucc hi f1, keptF]
      grind [wrap1, wrapm])
    (by simp [L_108_0G, bv_ite, bv_ret])
  have hw2 := while_all (G := fun x => (L_108_2G x).toDT) h.2.2.2.1 (fun i => (h, inH h.2.2.2.2.2.2.1 h.1, h.2.2.2.1, (h.2.2.2.1.length : Int), (i : Int))) (fun _ s => keptS h s) false
    (fun i a ha => by
      have hi := lt_of_get ha
      have hd : h.2.2.2.1.getD i d3 = a := by simp [List.getD_eq_getElem?_getD, ha]
      simp only [L_108_2G, bv_ite, bv_guard, bv_ret, bv_bnd, v21 _ _ f1, Option.bind_some, Int.toNat_natCast, hd, wsucc hi f3, keptS]
      grind [wrap1, wrapm])
    (by simp [L_108_2G, bv_ite, bv_ret])
  have hw3 := while_all (G := fun x => (L_108_4G x).toDT) (inH h.2.2.2.2.2.2.1 h.1) (fun i => (h, inH h.2.2.2.2.2.2.1 h.1, ((inH h.2.2.2.2.2.2.1 h.1).length : Int), (i : Int))) (fun _ t => decide (0 ≤ findW h.2.1 t)) false
    (fun i a ha => by
      have hi := lt_of_get ha
      have hd : (inH h.2.2.2.2.2.2.1 h.1).getD i 0 = a := by simp [List.getD_eq_getElem?_getD, ha]
      simp only [L_108_4G, bv_ite, bv_guard, bv_ret, bv_bnd, v21 _ _ f1, Option.bind_some, Int.toNat_natCast, hd, wsucc hi fi]
      grind [wrap1, wrapm])
    (by simp [L_108_4G, bv_ite, bv_ret])
  rw [allI_all] at hw2 hw3
  rw [show ((0 : Nat) : Int) = 0 from rfl] at hw1 hw2 hw3
  rw [hw1]
  unfold kept
  cases hq1 : allI (keptF h) h.2.1 0 with
  | false => simp [he, bv_ret]
  | true =>
    simp only [if_true, Option.bind_some, bv_bnd]
    rw [hw2]
    cases hq2 : h.2.2.2.1.all (fun s => keptS h s) with
    | false => simp [he, bv_ret]
    | true =>
      simp only [if_true, Option.bind_some, bv_bnd]
      rw [hw3]
      cases hq3 : (inH h.2.2.2.2.2.2.1 h.1).all (fun t => decide (0 ≤ findW h.2.1 t)) with
      | false => simp [he, bv_ret]
      | true => simp [he, bv_ret]
theorem sF108 : SpecOf F108 hs3 (fun x r => r = (kept x, ())) := ⟨fun x hx => V.of (v108 x hx)⟩
end Go.Am
