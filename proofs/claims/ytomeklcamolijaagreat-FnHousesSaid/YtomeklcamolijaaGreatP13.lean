import Derived.Test.YtomeklcamolijaaGreatP12
set_option linter.unusedVariables false
set_option linter.unusedSimpArgs false
set_option maxRecDepth 20000
set_option maxHeartbeats 400000
namespace Go.Am
open Go
/-! ### what is shown -/
def shown (h : THouse) : List Int := (h.2.1.zipIdx 0).filterMap fun q => if decide (0 ≤ slotW h.2.2.2.1 q.1.1.1) = true then some q.1.1.1 else none
theorem v19 (h : THouse) (hh : hs3 h) : (F19 h).val = some (shown h, ()) := by
  show (B19 h).toDT.val = _
  obtain ⟨h1, h2, hm, h3, h4, h5, h6, h7⟩ := hh
  have f1 : fit h.2.1 := by omega
  have f3 : fit h.2.2.2.1 := by omega
  have hw := while_for (G := fun x => (L_19_0G x).toDT) h.2.1 (fun i s => (h, s, h.2.1, (h.2.1.length : Int), (i : Int))) (fun i a s => .on (if decide (0 ≤ slotW h.2.2.2.1 a.1.1) = true then s ++ [a.1.1] else s)) (fun i s => s.length ≤ i)
    (fun i s a ha hp => by
      have hi := lt_of_get ha
      refine ⟨?_, fun s' h => ?_⟩
      · have hd : h.2.1.getD i d1 = a := by simp [List.getD_eq_getElem?_getD, ha]
        simp only [L_19_0G, bv_ite, bv_guard, bv_ret, bv_bnd, Option.bind_some, Int.toNat_natCast, hd, wsucc hi f1, v120 _ _ f3, mapRd]
        by_cases h1 : 0 ≤ slotW h.2.2.2.1 a.1.1 <;> simp [h1, hi] <;> omega
      · injection h with h; subst h; grind [wrap1, wrapm])
    (fun s _ => by simp [L_19_0G, bv_ite, bv_ret]) (s := []) (by simp)
  rw [forI_filt (c := fun _ a => decide (0 ≤ slotW h.2.2.2.1 a.1.1)) (g := fun a : TFind => a.1.1) (fun _ _ _ => rfl)] at hw
  rw [show ((0 : Nat) : Int) = 0 from rfl] at hw
  simp only [B19, bv_bnd, L_19_0]
  rw [hw]
  simp only [endI, Option.bind_some, bv_ret, shown, List.nil_append]
/-! ### free slots -/
def free (l : List I3) : Nat := l.countP fun s => s.2.2 == 0
theorem fold_count {A : Type} (p : A → Bool) : ∀ (l : List A) (n : Int), l.foldl (fun n a => if p a = true then n + 1 else n) n = n + (l.countP p : Int)
  | [], n => by simp
  | a :: l, n => by
    rw [List.foldl_cons, fold_count p l, List.countP_cons]
    split <;> simp_all <;> omega
theorem v30 (l : List I3) (hl : fit l) : (F30 l).val = some ((free l : Int), ()) := by
  show (B30 l).toDT.val = _
  have hw := while_fold (G := fun x => (L_30_0G x).toDT) l (fun i (n : Int) => (n, l, (l.length : Int), (i : Int))) (fun (n : Int) (a : I3) => if (a.2.2 == 0) = true then n + 1 else n) (fun i n => 0 ≤ n ∧ n ≤ i)
    (fun i n a ha hp => by
      have hi := lt_of_get ha
      have hd : l.getD i d3 = a := by simp [List.getD_eq_getElem?_getD, ha]
      refine ⟨?_, by grind [wrap1, wrapm]⟩
      simp only [L_30_0G, bv_ite, bv_guard, bv_ret, Int.toNat_natCast, hd, wsucc hi hl]
      rw [w64 (n := n + 1) (by omega) (by omega)]
      grind [wrap1, wrapm])
    (fun n _ => by simp [L_30_0G, bv_ite, bv_ret]) (s := 0) (by simp)
  simp only [B30, bv_bnd, L_30_0]
  rw [show ((0 : Nat) : Int) = 0 from rfl] at hw
  rw [hw, fold_count]
  simp [bv_ret, free]
/-! ### a new house -/
def newH (no : Int) (l : List I3) : THouse := (no, [], [], l, [], [], [], [], 0)
theorem v137 (l : List I3) (hl : fit l) : (F137 l).val = some (l, ()) := by
  have hb : decide (l.length * 24 ≤ 140737488355328) = true := by simp; omega
  unfold F137 cloneF
  rw [hb]; rfl
theorem newH_ok (no : Int) (l : List I3) : isHouse (newH no l) = (inR no 1 9 && areSlotsI l && decide (free l = l.length)) := by
  have hk : kept (newH no l) = decide (free l = l.length) := by
    have : inH ([] : List I5) no = [] := by simp [inH, inRaw]
    have e : kept (newH no l) = l.all fun s => s.2.2 == 0 := by
      have e2 : keptS (newH no l) = fun s => s.2.2 == 0 := by funext s; simp [keptS, findW, idx, newH]
      rw [newH] at e2
      simp [kept, newH, this, allI, e2]
    rw [e, free]
    rw [Bool.eq_iff_iff, decide_eq_true_eq, List.countP_eq_length, List.all_eq_true]
  have ht : areTrials (newH no l) = true := by simp [areTrials, newH, allI]
  have hc : isChain ([] : List I5) = true := rfl
  unfold isHouse
  rw [hk, ht]
  show (inR no 1 9 && areFinds [] && areSecrets [] && areSlotsI l && areClaims [] && isChain [] && areEntries [] && decide (free l = l.length) && true && decide (latest (newH no l) ≤ 0) && inR 0 0 100000) = _
  rw [show latest (newH no l) = -1 from rfl, show areFinds [] = true from rfl, show areSecrets [] = true from rfl, show areClaims [] = true from rfl, hc, show areEntries [] = true from rfl, show inR 0 0 100000 = true from rfl]
  simp
theorem v28 (no : Int) (l : List I3) (hl : l.length ≤ 1000) : (F28 (no, l)).val = some (if isHouse (newH no l) = true then (newH no l, true) else (newH 0 [], false), ()) := by
  show (B28 (no, l)).toDT.val = _
  have hh : hs3 (newH no l) := ⟨by simp [newH], by simp [newH], by simp [newH, mkB], by simp [newH]; omega, by simp [newH], by simp [newH], by simp [newH], by simp [newH]⟩
  have := v14 (newH no l) hh
  simp only [newH] at this
  simp only [B28, bv_bnd, bv_ite, bv_ret, v137 l (by omega), Option.bind_some, this]
  simp only [newH]
  by_cases hq : isHouse (no, [], [], l, [], [], [], [], 0) = true <;> simp [hq]
/-! ### alike -/
theorem allI_iff {A : Type} {q : Nat → A → Bool} : ∀ {l : List A} {k : Nat}, (∀ (i : Nat) (a : A), l[i]? = some a → q (k + i) a = true) → allI q l k = true
  | [], _, _ => rfl
  | a :: l, k, h => by
    simp only [allI, Bool.and_eq_true]
    exact ⟨h 0 a rfl, allI_iff fun i b hb => by rw [show k + 1 + i = k + (i + 1) by omega]; exact h (i + 1) b (by simpa using hb)⟩
theorem allI_eq {A : Type} [DecidableEq A] (d : A) (l m : List A) (he : l.length = m.length) : allI (fun i a => decide (a = m.getD i d)) l 0 = decide (l = m) := by
  rw [Bool.eq_iff_iff, decide_eq_true_eq]
  constructor
  · intro h
    apply List.ext_getElem he
    intro i h1 h2
    have := allI_get h (show l[i]? = some l[i] by simp [h1])
    simpa [List.getD_eq_getElem?_getD, h2] using this
  · rintro rfl
    exact allI_iff fun i a h => by simp [List.getD_eq_getElem?_getD, h]
theorem v18 (l m : List Int) (hl : fit l) : (F18 (l, m)).val = some (decide (l = m), ()) := by
  show (B18 (l, m)).toDT.val = _
  simp only [B18, bv_bnd, bv_ite, bv_ret, L_18_0]
  by_cases he : l.length = m.length
  case neg => rw [if_pos (by simpa using (by omega : ¬(l.length : Int) = m.length)), decide_eq_false (fun h => he (by rw [h]))]
  have hw := while_all (G := fun x => (L_18_0G x).toDT) l (fun i => (l, m, (i : Int))) (fun i a => decide (a = m.getD i 0)) false
    (fun i a ha => by
      have hi := lt_of_get ha
      have hd : l.getD i 0 = a := by simp [List.getD_eq_getElem?_getD, ha]
      simp only [L_18_0G, bv_ite, bv_guard, bv_ret, Int.toNat_natCast, hd, wsucc hi hl]
      grind [wrap1, wrapm])
    (by simp [L_18_0G, bv_ite, bv_ret])
  rw [show ((0 : Nat) : Int) = 0 from rfl] at hw
  rw [if_neg (by simpa using (by omega : (l.length : Int) = m.length)), hw, allI_eq 0 l m he]
  by_cases h : l = m
  · simp [h, bv_ret]
  · simp [h, bv_ret]
theorem v143 (l m : List TFind) (hl : fit l) : (F143 (l, m)).val = some (decide (l = m), ()) := by
  show (B143 (l, m)).toDT.val = _
  simp only [B143, bv_bnd, bv_ite, bv_ret, L_143_0]
  by_cases he : l.length = m.length
  case neg => rw [if_pos (by simpa using (by omega : ¬(l.length : Int) = m.length)), decide_eq_false (fun h => he (by rw [h]))]
  have hw := while_all (G := fun x => (L_143_0G x).toDT) l (fun i => (l, m, (l.length : Int), (i : Int))) (fun i a => decide (a = m.getD i d1)) false
    (fun i a ha => by
      have hi := lt_of_get ha
      have hd : l.getD i d1 = a := by simp [List.getD_eq_getElem?_getD, ha]
      simp only [L_143_0G, bv_ite, bv_guard, bv_ret, Int.toNat_natCast, hd, wsucc hi hl]
      grind [wrap1, wrapm])
    (by simp [L_143_0G, bv_ite, bv_ret])
  rw [show ((0 : Nat) : Int) = 0 from rfl] at hw
  rw [if_neg (by simpa using (by omega : (l.length : Int) = m.length)), hw, allI_eq d1 l m he]
  by_cases h : l = m
  · simp [h, bv_ret]
  · simp [h, bv_ret]
theorem v145 (l m : List I3) (hl : fit l) : (F145 (l, m)).val = some (decide (l = m), ()) := by
  show (B145 (l, m)).toDT.val = _
  simp only [B145, bv_bnd, bv_ite, bv_ret, L_145_0]
  by_cases he : l.length = m.length
  case neg => rw [if_pos (by simpa using (by omega : ¬(l.length : Int) = m.length)), decide_eq_false (fun h => he (by rw [h]))]
  have hw := while_all (G := fun x => (L_145_0G x).toDT) l (fun i => (l, m, (l.length : Int), (i : Int))) (fun i a => decide (a = m.getD i d3)) false
    (fun i a ha => by
      have hi := lt_of_get ha
      have hd : l.getD i d3 = a := by simp [List.getD_eq_getElem?_getD, ha]
      simp only [L_145_0G, bv_ite, bv_guard, bv_ret, Int.toNat_natCast, hd, wsucc hi hl]
      grind [wrap1, wrapm])
    (by simp [L_145_0G, bv_ite, bv_ret])
  rw [show ((0 : Nat) : Int) = 0 from rfl] at hw
  rw [if_neg (by simpa using (by omega : (l.length : Int) = m.length)), hw, allI_eq d3 l m he]
  by_cases h : l = m
  · simp [h, bv_ret]
  · simp [h, bv_ret]
theorem v146 (l m : List I5) (hl : fit l) : (F146 (l, m)).val = some (decide (l = m), ()) := by
  show (B146 (l, m)).toDT.val = _
  simp only [B146, bv_bnd, bv_ite, bv_ret, L_146_0]
  by_cases he : l.length = m.length
  case neg => rw [if_pos (by simpa using (by omega : ¬(l.length : Int) = m.length)), decide_eq_false (fun h => he (by rw [h]))]
  have hw := while_all (G := fun x => (L_146_0G x).toDT) l (fun i => (l, m, (l.length : Int), (i : Int))) (fun i a => decide (a = m.getD i d4)) false
    (fun i a ha => by
      have hi := lt_of_get ha
      have hd : l.getD i d4 = a := by simp [List.getD_eq_getElem?_getD, ha]
      simp only [L_146_0G, bv_ite, bv_guard, bv_ret, Int.toNat_natCast, hd, wsucc hi hl]
      grind [wrap1, wrapm])
    (by simp [L_146_0G, bv_ite, bv_ret])
  rw [show ((0 : Nat) : Int) = 0 from rfl] at hw
  rw [if_neg (by simpa using (by omega : (l.length : Int) = m.length)), hw, allI_eq d4 l m he]
  by_cases h : l = m
  · simp [h, bv_ret]
  · simp [h, bv_ret]
theorem v147 (l m : List I4) (hl : fit l) : (F147 (l, m)).val = some (decide (l = m), ()) := by
  show (B147 (l, m)).toDT.val = _
  simp only [B147, bv_bnd, bv_ite, bv_ret, L_147_0]
  by_cases he : l.length = m.length
  case neg => rw [if_pos (by simpa using (by omega : ¬(l.length : Int) = m.length)), decide_eq_false (fun h => he (by rw [h]))]
  have hw := while_all (G := fun x => (L_147_0G x).toDT) l (fun i => (l, m, (l.length : Int), (i : Int))) (fun i a => decide (a = m.getD i d5)) false
    (fun i a ha => by
      have hi := lt_of_get ha
      have hd : l.getD i d5 = a := by simp [List.getD_eq_getElem?_getD, ha]
      simp only [L_147_0G, bv_ite, bv_guard, bv_ret, Int.toNat_natCast, hd, wsucc hi hl]
      grind [wrap1, wrapm])
    (by simp [L_147_0G, bv_ite, bv_ret])
  rw [show ((0 : Nat) : Int) = 0 from rfl] at hw
  rw [if_neg (by simpa using (by omega : (l.length : Int) = m.length)), hw, allI_eq d5 l m he]
  by_cases h : l = m
  · simp [h, bv_ret]
  · simp [h, bv_ret]
theorem v148 (l m : List I5) (hl : fit l) : (F148 (l, m)).val = some (decide (l = m), ()) := by
  show (B148 (l, m)).toDT.val = _
  simp only [B148, bv_bnd, bv_ite, bv_ret, L_148_0]
  by_cases he : l.length = m.length
  case neg => rw [if_pos (by simpa using (by omega : ¬(l.length : Int) = m.length)), decide_eq_false (fun h => he (by rw [h]))]
  have hw := while_all (G := fun x => (L_148_0G x).toDT) l (fun i => (l, m, (l.length : Int), (i : Int))) (fun i a => decide (a = m.getD i d4)) false
    (fun i a ha => by
      have hi := lt_of_get ha
      have hd : l.getD i d4 = a := by simp [List.getD_eq_getElem?_getD, ha]
      simp only [L_148_0G, bv_ite, bv_guard, bv_ret, Int.toNat_natCast, hd, wsucc hi hl]
      grind [wrap1, wrapm])
    (by simp [L_148_0G, bv_ite, bv_ret])
  rw [show ((0 : Nat) : Int) = 0 from rfl] at hw
  rw [if_neg (by simpa using (by omega : (l.length : Int) = m.length)), hw, allI_eq d4 l m he]
  by_cases h : l = m
  · simp [h, bv_ret]
  · simp [h, bv_ret]
theorem v149 (l m : List I4) (hl : fit l) : (F149 (l, m)).val = some (decide (l = m), ()) := by
  show (B149 (l, m)).toDT.val = _
  simp only [B149, bv_bnd, bv_ite, bv_ret, L_149_0]
  by_cases he : l.length = m.length
  case neg => rw [if_pos (by simpa using (by omega : ¬(l.length : Int) = m.length)), decide_eq_false (fun h => he (by rw [h]))]
  have hw := while_all (G := fun x => (L_149_0G x).toDT) l (fun i => (l, m, (l.length : Int), (i : Int))) (fun i a => decide (a = m.getD i d5)) false
    (fun i a ha => by
      have hi := lt_of_get ha
      have hd : l.getD i d5 = a := by simp [List.getD_eq_getElem?_getD, ha]
      simp only [L_149_0G, bv_ite, bv_guard, bv_ret, Int.toNat_natCast, hd, wsucc hi hl]
      grind [wrap1, wrapm])
    (by simp [L_149_0G, bv_ite, bv_ret])
  rw [show ((0 : Nat) : Int) = 0 from rfl] at hw
  rw [if_neg (by simpa using (by omega : (l.length : Int) = m.length)), hw, allI_eq d5 l m he]
  by_cases h : l = m
  · simp [h, bv_ret]
  · simp [h, bv_ret]
theorem v290 (l m : List I2) (hl : fit l) : (F290 (l, m)).val = some (decide (l = m), ()) := by
  show (B290 (l, m)).toDT.val = _
  simp only [B290, bv_bnd, bv_ite, bv_ret, L_290_0]
  by_cases he : l.length = m.length
  case neg => rw [if_pos (by simpa using (by omega : ¬(l.length : Int) = m.length)), decide_eq_false (fun h => he (by rw [h]))]
  have hw := while_all (G := fun x => (L_290_0G x).toDT) l (fun i => (l, m, (l.length : Int), (i : Int))) (fun i a => decide (a = m.getD i d2)) false
    (fun i a ha => by
      have hi := lt_of_get ha
      have hd : l.getD i d2 = a := by simp [List.getD_eq_getElem?_getD, ha]
      simp only [L_290_0G, bv_ite, bv_guard, bv_ret, Int.toNat_natCast, hd, wsucc hi hl]
      grind [wrap1, wrapm])
    (by simp [L_290_0G, bv_ite, bv_ret])
  rw [show ((0 : Nat) : Int) = 0 from rfl] at hw
  rw [if_neg (by simpa using (by omega : (l.length : Int) = m.length)), hw, allI_eq d2 l m he]
  by_cases h : l = m
  · simp [h, bv_ret]
  · simp [h, bv_ret]
theorem v289 (a b : TSecret) (hl : fit a.2.1) : (F289 (a, b)).val = some (decide (a = b), ()) := by
  show (B289 (a, b)).toDT.val = _
  obtain ⟨a1, a2, a3⟩ := a
  obtain ⟨b1, b2, b3⟩ := b
  simp only [B289, bv_bnd, bv_ite, bv_ret, v290 a2 b2 hl, Option.bind_some]
  by_cases h1 : a1 = b1 <;> by_cases h3 : a3 = b3 <;> simp [h1, h3]
theorem v288_289 (l m : List TSecret) (hl : fit l) (hm : mkB l) : (F288_289 (l, m, ())).val = some (decide (l = m), ()) := by
  show (B288_289 (l, m, ())).toDT.val = _
  simp only [B288_289, bv_bnd, bv_ite, bv_ret, L_288_289_0]
  by_cases he : l.length = m.length
  case neg => rw [if_pos (by simpa using (by omega : ¬(l.length : Int) = m.length)), decide_eq_false (fun h => he (by rw [h]))]
  have hw := while_all (G := fun x => (L_288_289_0G x).toDT) l (fun i => (m, (), l, (l.length : Int), (i : Int))) (fun i a => decide (a = m.getD i d0)) false
    (fun i a ha => by
      have hi := lt_of_get ha
      have hd : l.getD i d0 = a := by simp [List.getD_eq_getElem?_getD, ha]
      have := hm a (List.mem_of_getElem? ha)
      simp only [L_288_289_0G, bv_ite, bv_guard, bv_ret, bv_bnd, Int.toNat_natCast, hd, wsucc hi hl, v289 a _ (by omega), Option.bind_some]
      grind [wrap1, wrapm])
    (by simp [L_288_289_0G, bv_ite, bv_ret])
  rw [show ((0 : Nat) : Int) = 0 from rfl] at hw
  rw [if_neg (by simpa using (by omega : (l.length : Int) = m.length)), hw, allI_eq d0 l m he]
  by_cases h : l = m
  · simp [h, bv_ret]
  · simp [h, bv_ret]
theorem v144 (l m : List TSecret) (hl : fit l) (hm : mkB l) : (F144 (l, m)).val = some (decide (l = m), ()) := by
  show (B144 (l, m)).toDT.val = _
  simp only [B144, bv_bnd, bv_ret, v288_289 l m hl hm, Option.bind_some]
theorem v34 (a b : THouse) (ha : hs3 a) : ∃ q : Bool, (F34 (a, b)).val = some (q, ()) ∧ (q = true ↔ a = b) := by
  show ∃ q : Bool, (B34 (a, b)).toDT.val = some (q, ()) ∧ (q = true ↔ a = b)
  obtain ⟨h1, h2, hm, h3, h4, h5, h6, h7⟩ := ha
  simp only [B34, bv_bnd, bv_ite, bv_ret, v143 a.2.1 b.2.1 (by omega), v144 a.2.2.1 b.2.2.1 (by omega) hm, v145 a.2.2.2.1 b.2.2.2.1 (by omega), v146 a.2.2.2.2.1 b.2.2.2.2.1 (by omega), v147 a.2.2.2.2.2.1 b.2.2.2.2.2.1 (by omega), v148 a.2.2.2.2.2.2.1 b.2.2.2.2.2.2.1 (by omega), v149 a.2.2.2.2.2.2.2.1 b.2.2.2.2.2.2.2.1 (by omega), Option.bind_some]
  clear hm h1 h2 h3 h4 h5 h6 h7
  obtain ⟨a1, a2, a3, a4, a5, a6, a7, a8, a9⟩ := a
  obtain ⟨b1, b2, b3, b4, b5, b6, b7, b8, b9⟩ := b
  simp only [Prod.mk.injEq]
  repeat' split
  all_goals exact ⟨_, rfl, by simp_all⟩
end Go.Am
