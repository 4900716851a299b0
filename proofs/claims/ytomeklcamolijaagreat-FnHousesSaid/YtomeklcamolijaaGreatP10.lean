import Derived.Test.YtomeklcamolijaaGreatP9
set_option linter.unusedVariables false
set_option linter.unusedSimpArgs false
set_option maxRecDepth 20000
set_option maxHeartbeats 400000
namespace Go.Am
open Go
/-! ### the last hand -/
def lastW (l : List I5) (id : Int) : Int := match l.reverse.findIdx? (fun a => a.1 == id) with | some k => (l.length : Int) - 1 - k | none => -1
theorem rev_get {A : Type} {l : List A} {k : Nat} {a : A} (h : l.reverse[k]? = some a) : k < l.length ∧ l[l.length - 1 - k]? = some a := by
  have hk : k < l.length := by have := (List.getElem?_eq_some_iff.1 h).1; simpa using this
  rw [List.getElem?_reverse hk] at h
  exact ⟨hk, h⟩
theorem v121 (l : List I5) (id : Int) (hl : fit l) : (F121 (l, id)).val = some (lastW l id, ()) := by
  show (B121 (l, id)).toDT.val = _
  have hw := while_find (G := fun x => (L_121_0G x).toDT) l.reverse (fun k => (l, id, (l.length : Int) - 1 - k)) (fun _ a => a.1 == id) (fun k _ => (l.length : Int) - 1 - k)
    (fun k a ha => by
      obtain ⟨hk, ha⟩ := rev_get ha
      have e : ((l.length : Int) - 1 - k).toNat = l.length - 1 - k := by omega
      have hd : l.getD (l.length - 1 - k) d4 = a := by simp [List.getD_eq_getElem?_getD, ha]
      simp only [L_121_0G, bv_ite, bv_guard, bv_ret, bv_bnd, Option.bind_some, e, hd]
      rw [w64 (by omega) (by omega), show (l.length : Int) - 1 - (k : Int) - 1 = (l.length : Int) - 1 - ((k + 1 : Nat) : Int) by omega]
      grind [wrap1, wrapm])
    (by simp [L_121_0G, bv_ite, bv_ret]; intro h; omega)
  simp only [B121, bv_bnd, L_121_0]
  rw [show ((0 : Nat) : Int) = 0 from rfl] at hw
  rw [w64 (by omega) (by omega), show (l.length : Int) - 1 = (l.length : Int) - 1 - 0 by omega, hw, find_zipIdx (p := fun a : I5 => a.1 == id)]
  unfold lastW
  cases h : l.reverse.findIdx? (fun s => s.1 == id) with
  | none => simp [bv_ret]
  | some k =>
    have := List.findIdx?_eq_some_iff_getElem.1 h
    obtain ⟨hk, _⟩ := this
    have hk' : k < l.length := by simpa using hk
    simp [hk', bv_ret]
theorem lastW_spec (l : List I5) (id : Int) : -1 ≤ lastW l id ∧ lastW l id < l.length ∧ (0 ≤ lastW l id → (l.getD (lastW l id).toNat d4).1 = id) ∧ ∀ k : Nat, lastW l id < k → k < l.length → (l.getD k d4).1 ≠ id := by
  unfold lastW
  cases h : l.reverse.findIdx? (fun s => s.1 == id) with
  | none =>
    rw [List.findIdx?_eq_none_iff] at h
    refine ⟨by simp, by simp only []; omega, by simp, fun k _ hk => ?_⟩
    have := h (l.getD k d4) (by rw [List.mem_reverse]; exact getD_mem l k d4 hk)
    simpa using this
  | some k =>
    obtain ⟨hk, h1, h2⟩ := List.findIdx?_eq_some_iff_getElem.1 h
    have hk' : k < l.length := by simpa using hk
    refine ⟨by simp only []; omega, by simp only []; omega, fun _ => ?_, fun j hj hj' => ?_⟩
    · have e : ((l.length : Int) - 1 - k).toNat = l.length - 1 - k := by omega
      simp only [e]
      rw [List.getElem_reverse] at h1
      simp [List.getD_eq_getElem?_getD, show l.length - 1 - k < l.length by omega]
      simpa using h1
    · have := h2 (l.length - 1 - j) (by simp only [] at hj; omega)
      rw [List.getElem_reverse] at this
      simp only [show l.length - 1 - (l.length - 1 - j) = j by omega] at this
      simp [List.getD_eq_getElem?_getD, hj']
      simpa using this
theorem sF121 : SpecOf F121 (fun x => x.1.length ≤ 100000) (fun x r => r = (lastW x.1 x.2, ())) := ⟨fun x hx => V.of (v121 x.1 x.2 (by grind [wrap1, wrapm]))⟩
/-! ### the chain -/
def sealAt (l : List I5) (i : Nat) : Int := if i = 0 then 0 else (l.getD (i - 1) d4).2.2.2.2
def chainOk1 (l : List I5) (i : Nat) (a : I5) : Bool :=
  inR a.1 1 999 && inR a.2.1 1 5 && inR a.2.2.1 0 999 && inR a.2.2.2.1 0 100000 && (i == 0 || decide ((l.getD (i - 1) d4).2.2.2.1 ≤ a.2.2.2.1)) && a.2.2.2.2 == sealOf (sealAt l i) a &&
  (if lastW (l.take i) a.1 < 0 then decide (a.2.1 ≤ 2) else (a.2.1 != 1 && decide ((l.getD (lastW (l.take i) a.1).toNat d4).2.1 ≤ 2)))
def isChain (l : List I5) : Bool := allI (chainOk1 l) l 0 && decide ((l.length : Int) ≤ 100)
theorem v106 (l : List I5) (hl : fit l) : (F106 l).val = some (isChain l, ()) := by
  show (B106 l).toDT.val = _
  have hw := while_all (G := fun x => (L_106_0G x).toDT) l (fun i => (l, sealAt l i, l, (l.length : Int), (i : Int))) (chainOk1 l) false
    (fun i a ha => by
      have hi := lt_of_get ha
      have hd : l.getD i d4 = a := by simp [List.getD_eq_getElem?_getD, ha]
      have hf : fit (l.take i) := by simp; omega
      have hs := lastW_spec (l.take i) a.1
      have hs' : sealAt l (i + 1) = a.2.2.2.2 := by simp only [sealAt, Nat.add_sub_cancel, hd]; simp
      have hlen : (l.take i).length = i := by rw [List.length_take]; omega
      rw [hlen] at hs
      simp only [L_106_0G, bv_ite, bv_guard, bv_ret, bv_bnd, v103, v250, Option.bind_some, wsucc hi hl, wpred hi hl, pred_get, chainOk1, Int.toNat_natCast, Int.toNat_zero, hd, List.drop_zero, v121 _ _ hf, hs']
      obtain ⟨hs1, hs2, hs3, hs4⟩ := hs
      clear hs3 hs4 hf hlen
      generalize sealOf (sealAt l i) a = sl
      generalize lastW (l.take i) a.1 = w at *
      generalize (l.getD w.toNat d4).2.1 = hh
      generalize (l.getD (i - 1) d4).2.2.2.1 = pa
      generalize inR a.1 1 999 = q1
      generalize inR a.2.1 1 5 = q2
      generalize inR a.2.2.1 0 999 = q3
      generalize inR a.2.2.2.1 0 100000 = q4
      cases q1 <;> cases q2 <;> cases q3 <;> cases q4 <;> simp only [Bool.not_true, Bool.not_false, Bool.false_eq_true, if_true, if_false, Bool.true_and, Bool.false_and] <;> grind [wrap1, wrapm])
    (by simp [L_106_0G, bv_ite, bv_ret])
  simp only [B106, bv_bnd, L_106_0, bv_ite, bv_ret]
  rw [show ((0 : Nat) : Int) = 0 from rfl] at hw
  rw [show sealAt l 0 = 0 from rfl] at hw
  rw [hw]
  unfold isChain
  (repeat' split) <;> (try simp only [Option.bind_some, bv_ret]) <;> grind [wrap1, wrapm]
theorem sF106 : SpecOf F106 (fun x => x.length ≤ 100000) (fun x r => r = (isChain x, ())) := ⟨fun x hx => V.of (v106 x (by grind [wrap1, wrapm]))⟩
end Go.Am
