import Derived.Test.YtomeklcamolijaaGreatAmPu
import Derived.Test.YtomeklcamolijaaGreatGF3
set_option linter.unusedVariables false
set_option linter.unusedSimpArgs false
namespace Go.Am
open Go
def inR (n lo hi : Int) : Bool := decide (lo ≤ n) && decide (n ≤ hi)
theorem v111 (x : Int × Int × Int) : (F111 x).val = some (inR x.1 x.2.1 x.2.2, ()) := by
  show (B111 x).toDT.val = _
  simp only [B111, bv_ite, bv_ret, inR, ge_iff_le]
  by_cases h : x.2.1 ≤ x.1 <;> simp [h]
def thingOk (x : I5) : Bool := inR x.1 1 999 && inR x.2.1 1 8 && inR x.2.2.1 0 7 && inR x.2.2.2.1 1 50 && inR x.2.2.2.2 0 10000000
theorem v304 (x : I5) : (F304 x).val = some (thingOk x, ()) := by
  show (B304 x).toDT.val = _
  simp only [B304, bv_ite, bv_ret, bv_bnd, v111, Option.bind_some, thingOk]
  repeat' split
  all_goals simp_all
def findOk (x : TFind) : Bool := thingOk x.1 && inR x.2.1 1 30 && inR x.2.2.1 0 100000 && inR x.2.2.2 0 999
theorem v162 (x : TFind) : (F162 x).val = some (findOk x, ()) := by
  show (B162 x).toDT.val = _
  simp only [B162, bv_ite, bv_ret, bv_bnd, v111, v304, Option.bind_some, findOk]
  repeat' split
  all_goals simp_all
/-- each as p says, each behind the one before as lt says -/
def ascI {A : Type} (p : A → Bool) (lt : A → A → Bool) (d : A) (l : List A) : Bool := allI (fun i a => p a && (i == 0 || lt (l.getD (i - 1) d) a)) l 0
theorem pred_get {A : Type} (l : List A) (i : Nat) (d : A) : l.getD ((i : Int) - 1).toNat d = l.getD (i - 1) d := by rw [show ((i : Int) - 1).toNat = i - 1 by omega]
abbrev fit {A : Type} (l : List A) : Prop := l.length ≤ 1099511627776

def areFinds (l : List TFind) : Bool := ascI findOk (fun a b => decide (a.1.1 < b.1.1)) d1 l && decide ((l.length : Int) ≤ 20)
theorem v49 (l : List TFind) (hl : fit l) : (F49 l).val = some (areFinds l, ()) := by
  show (B49 l).toDT.val = _
  have hw := while_all (G := fun x => (L_49_0G x).toDT) l (fun i => (l, (i : Int))) (fun i a => findOk a && (i == 0 || decide ((l.getD (i - 1) d1).1.1 < a.1.1))) false
    (fun i a ha => by
      have hi := lt_of_get ha
      simp only [L_49_0G, bv_ite, bv_guard, bv_ret, bv_bnd, v162, Option.bind_some, getD_nat ha, wsucc hi hl, wpred hi hl, pred_get]
      grind [wrap1, wrapm])
    (by simp [L_49_0G, bv_ite, bv_ret])
  simp only [B49, bv_bnd, L_49_0]
  rw [show ((0 : Nat) : Int) = 0 from rfl] at hw
  rw [hw]
  unfold areFinds ascI
  split <;> simp_all [bv_ret]
def markOk (a : I2) : Bool := inR a.1 1 20 && inR a.2 0 99
def areMarks (l : List I2) : Bool := ascI markOk (fun a b => decide (a.1 < b.1)) d2 l && decide ((l.length : Int) ≤ 8)
theorem v253 (l : List I2) (hl : fit l) : (F253 l).val = some (areMarks l, ()) := by
  show (B253 l).toDT.val = _
  have hw := while_all (G := fun x => (L_253_0G x).toDT) l (fun i => (l, (i : Int))) (fun i a => markOk a && (i == 0 || decide ((l.getD (i - 1) d2).1 < a.1))) false
    (fun i a ha => by
      have hi := lt_of_get ha
      simp only [L_253_0G, bv_ite, bv_guard, bv_ret, bv_bnd, v111, Option.bind_some, getD_nat ha, wsucc hi hl, wpred hi hl, pred_get, markOk]
      grind [wrap1, wrapm])
    (by simp [L_253_0G, bv_ite, bv_ret])
  simp only [B253, bv_bnd, L_253_0]
  rw [show ((0 : Nat) : Int) = 0 from rfl] at hw
  rw [hw]
  unfold areMarks ascI
  split <;> simp_all [bv_ret]
def secretOk (a : TSecret) : Bool := inR a.1 1 999 && areMarks a.2.1 && !((a.2.1.length : Int) == 0) && inR a.2.2 0 1000000
def areSecrets (l : List TSecret) : Bool := ascI secretOk (fun a b => decide (a.1 < b.1)) d0 l && decide ((l.length : Int) ≤ 20)
theorem v112 (l : List TSecret) (hl : fit l) (hm : ∀ a ∈ l, fit a.2.1) : (F112 l).val = some (areSecrets l, ()) := by
  show (B112 l).toDT.val = _
  have hw := while_all (G := fun x => (L_112_0G x).toDT) l (fun i => (l, (i : Int))) (fun i a => secretOk a && (i == 0 || decide ((l.getD (i - 1) d0).1 < a.1))) false
    (fun i a ha => by
      have hi := lt_of_get ha
      simp only [L_112_0G, bv_ite, bv_guard, bv_ret, bv_bnd, v111, v253 _ (hm a (List.mem_of_getElem? ha)), Option.bind_some, getD_nat ha, wsucc hi hl, wpred hi hl, pred_get, secretOk]
      grind [wrap1, wrapm])
    (by simp [L_112_0G, bv_ite, bv_ret])
  simp only [B112, bv_bnd, L_112_0]
  rw [show ((0 : Nat) : Int) = 0 from rfl] at hw
  rw [hw]
  unfold areSecrets ascI
  split <;> simp_all [bv_ret]
def entryOk (a : I4) : Bool := inR a.1 0 999 && inR a.2.1 0 999 && !(a.1 == a.2.1) && inR a.2.2.1 1 10000000 && inR a.2.2.2 0 100000
def areEntries (l : List I4) : Bool := ascI entryOk (fun a b => decide (a.2.2.2 ≤ b.2.2.2)) d5 l && decide ((l.length : Int) ≤ 100)
theorem v116 (l : List I4) (hl : fit l) : (F116 l).val = some (areEntries l, ()) := by
  show (B116 l).toDT.val = _
  have hw := while_all (G := fun x => (L_116_0G x).toDT) l (fun i => (l, (i : Int))) (fun i a => entryOk a && (i == 0 || decide ((l.getD (i - 1) d5).2.2.2 ≤ a.2.2.2))) false
    (fun i a ha => by
      have hi := lt_of_get ha
      simp only [L_116_0G, bv_ite, bv_guard, bv_ret, bv_bnd, v111, Option.bind_some, getD_nat ha, wsucc hi hl, wpred hi hl, pred_get, entryOk]
      grind [wrap1, wrapm])
    (by simp [L_116_0G, bv_ite, bv_ret])
  simp only [B116, bv_bnd, L_116_0]
  rw [show ((0 : Nat) : Int) = 0 from rfl] at hw
  rw [hw]
  unfold areEntries ascI
  split <;> simp_all [bv_ret]

def slotOk (a : I3) : Bool := inR a.1 1 99 && inR a.2.1 1 50 && inR a.2.2 0 999
def areSlots (l : List I3) : Bool := allI (fun i a => slotOk a && (i == 0 || decide ((l.getD (i - 1) d3).1 < a.1)) && (l.take i).all fun b => !(a.2.2 != 0 && b.2.2 == a.2.2)) l 0 && decide ((l.length : Int) ≤ 30)
theorem take_get {A : Type} {l : List A} {i k : Nat} {b : A} (h : (l.take i)[k]? = some b) : l[k]? = some b ∧ k < i ∧ k < l.length := by
  have h1 := (List.getElem?_eq_some_iff.1 h).1
  rw [List.length_take] at h1
  rw [List.getElem?_take_of_lt (by omega)] at h
  exact ⟨h, by omega, by omega⟩
theorem v113i (l : List I3) (hl : fit l) (i : Nat) (a : I3) (ha : l[i]? = some a) : (L_113_2 (l, (i : Int), (0 : Int))).val = some (if ((l.take i).all fun b => !(a.2.2 != 0 && b.2.2 == a.2.2)) = true then .inl (l, (i : Int), (i : Int)) else .inr false) := by
  have hi := lt_of_get ha
  have hlen : (l.take i).length = i := by rw [List.length_take]; omega
  have hw := while_all (G := fun x => (L_113_2G x).toDT) (l.take i) (fun k => (l, (i : Int), (k : Int))) (fun _ b => !(a.2.2 != 0 && b.2.2 == a.2.2)) false
    (fun k b hb => by
      obtain ⟨hb, h1, h2⟩ := take_get hb
      simp only [L_113_2G, bv_ite, bv_guard, bv_ret, bv_bnd, Option.bind_some, getD_nat ha, getD_nat hb, wsucc h2 hl]
      grind [wrap1, wrapm])
    (by simp [L_113_2G, bv_ite, bv_ret, hlen])
  rw [allI_all, hlen] at hw
  exact hw
theorem v113 (l : List I3) (hl : fit l) : (F113 l).val = some (areSlots l, ()) := by
  show (B113 l).toDT.val = _
  have hw := while_all (G := fun x => (L_113_0G x).toDT) l (fun i => (l, (i : Int))) (fun i a => slotOk a && (i == 0 || decide ((l.getD (i - 1) d3).1 < a.1)) && (l.take i).all fun b => !(a.2.2 != 0 && b.2.2 == a.2.2)) false
    (fun i a ha => by
      have hi := lt_of_get ha
      simp only [L_113_0G, bv_ite, bv_guard, bv_ret, bv_bnd, v111, Option.bind_some, getD_nat ha, wsucc hi hl, wpred hi hl, pred_get, v113i l hl i a ha, slotOk]
      generalize ((l.take i).all fun b => !(a.2.2 != 0 && b.2.2 == a.2.2)) = q
      cases q <;> simp only [Bool.false_eq_true, if_false, if_true, Bool.and_true, Bool.and_false, Option.bind_some, bv_ret, wsucc hi hl] <;> grind [wrap1, wrapm])
    (by simp [L_113_0G, bv_ite, bv_ret])
  simp only [B113, bv_bnd, L_113_0]
  rw [show ((0 : Nat) : Int) = 0 from rfl] at hw
  rw [hw]
  unfold areSlots
  split <;> simp_all [bv_ret]
def claimOk (a : I5) : Bool := inR a.1 1 999 && inR a.2.1 1 999 && inR a.2.2.1 1 999 && inR a.2.2.2.1 0 100000 && inR a.2.2.2.2 0 3
def claimAp (a b : I5) : Bool := !(a.2.2.2.2 == 3 && (b.2.2.2.2 == 3 && b.2.2.1 == a.2.2.1))
def areClaims (l : List I5) : Bool := allI (fun i a => claimOk a && (i == 0 || decide ((l.getD (i - 1) d4).1 < a.1)) && (l.take i).all (claimAp a)) l 0 && decide ((l.length : Int) ≤ 20)
theorem v114i (l : List I5) (hl : fit l) (i : Nat) (a : I5) (ha : l[i]? = some a) : (L_114_2 (l, (i : Int), a, (0 : Int))).val = some (if ((l.take i).all (claimAp a)) = true then .inl (l, (i : Int), a, (i : Int)) else .inr false) := by
  have hi := lt_of_get ha
  have hlen : (l.take i).length = i := by rw [List.length_take]; omega
  have hw := while_all (G := fun x => (L_114_2G x).toDT) (l.take i) (fun k => (l, (i : Int), a, (k : Int))) (fun _ b => claimAp a b) false
    (fun k b hb => by
      obtain ⟨hb, h1, h2⟩ := take_get hb
      simp only [L_114_2G, bv_ite, bv_guard, bv_ret, bv_bnd, Option.bind_some, getD_nat ha, getD_nat hb, wsucc h2 hl, claimAp]
      grind [wrap1, wrapm])
    (by simp [L_114_2G, bv_ite, bv_ret, hlen])
  rw [allI_all, hlen] at hw
  exact hw
theorem v114 (l : List I5) (hl : fit l) : (F114 l).val = some (areClaims l, ()) := by
  show (B114 l).toDT.val = _
  have hw := while_all (G := fun x => (L_114_0G x).toDT) l (fun i => (l, (i : Int))) (fun i a => claimOk a && (i == 0 || decide ((l.getD (i - 1) d4).1 < a.1)) && (l.take i).all (claimAp a)) false
    (fun i a ha => by
      have hi := lt_of_get ha
      simp only [L_114_0G, bv_ite, bv_guard, bv_ret, bv_bnd, v111, Option.bind_some, getD_nat ha, wsucc hi hl, wpred hi hl, pred_get, v114i l hl i a ha, claimOk]
      generalize ((l.take i).all (claimAp a)) = q
      cases q <;> simp only [Bool.false_eq_true, if_false, if_true, Bool.and_true, Bool.and_false, Option.bind_some, bv_ret, wsucc hi hl] <;> grind [wrap1, wrapm])
    (by simp [L_114_0G, bv_ite, bv_ret])
  simp only [B114, bv_bnd, L_114_0]
  rw [show ((0 : Nat) : Int) = 0 from rfl] at hw
  rw [hw]
  unfold areClaims
  split <;> simp_all [bv_ret]
/-! ### the hash -/
def modP (v : Int) : Int := v.emod 2147483647
theorem tmod_mod (v : Int) : (v.tmod 2147483647 + 2147483647).tmod 2147483647 = v % 2147483647 := by
  rcases Int.le_total 0 v with h | h
  · rw [Int.tmod_eq_emod_of_nonneg h, Int.tmod_eq_emod_of_nonneg (by omega)]; omega
  · obtain ⟨w, rfl⟩ : ∃ w, v = -w := ⟨-v, by omega⟩
    have hw : 0 ≤ w % 2147483647 ∧ w % 2147483647 < 2147483647 := by omega
    rw [Int.neg_tmod, Int.tmod_eq_emod_of_nonneg (a := w) (by omega), Int.tmod_eq_emod_of_nonneg (by omega)]; omega
theorem tmod_bound (v : Int) : -2147483647 < v.tmod 2147483647 ∧ v.tmod 2147483647 < 2147483647 := by
  rcases Int.le_total 0 v with h | h
  · rw [Int.tmod_eq_emod_of_nonneg h]; omega
  · obtain ⟨w, rfl⟩ : ∃ w, v = -w := ⟨-v, by omega⟩
    rw [Int.neg_tmod, Int.tmod_eq_emod_of_nonneg (by omega)]; omega
theorem v420 (v : Int) : (F420 (v, (2147483647 : Int))).val = some (modP v, ()) := by
  show (B420 (v, (2147483647 : Int))).toDT.val = _
  have hb := tmod_bound v
  simp [B420, bv_ite, bv_guard, bv_ret, bv_bnd, v111, inR, modP]
  rw [w64 (by omega) (by omega)]
  exact tmod_mod v
def hstep (h v : Int) : Int := (h * 1000003 + modP v + 13) % 2147483647
def hashL (l : List Int) : Int := l.foldl hstep 11
theorem hstep_bound (h v : Int) : 0 ≤ hstep h v ∧ hstep h v < 2147483647 := by unfold hstep; omega
theorem modP_bound (v : Int) : 0 ≤ modP v ∧ modP v < 2147483647 := ⟨Int.emod_nonneg _ (by decide), Int.emod_lt_of_pos _ (by decide)⟩
theorem v367 (l : List Int) (hl : fit l) : (F367 l).val = some (hashL l, ()) := by
  show (B367 l).toDT.val = _
  have hw := while_fold (G := fun x => (L_367_0G x).toDT) l (fun i h => (l, h, (i : Int))) hstep (fun _ h => 0 ≤ h ∧ h < 2147483647)
    (fun i h a ha hp => by
      have hi := lt_of_get ha
      have hm := modP_bound a
      refine ⟨?_, hstep_bound h a⟩
      simp only [L_367_0G, bv_ite, bv_guard, bv_ret, bv_bnd, v420, Option.bind_some, getD_nat ha, wsucc hi hl]
      rw [if_pos (by simp; omega), if_pos (by simp; omega)]
      rw [w64 (n := h * 1000003) (by omega) (by omega), w64 (n := h * 1000003 + modP a) (by omega) (by omega), w64 (by omega) (by omega), Int.tmod_eq_emod_of_nonneg (by omega)]
      rfl)
    (fun h _ => by simp [L_367_0G, bv_ite, bv_ret]) (s := 11) (by omega)
  simp only [B367, bv_bnd, L_367_0]
  rw [show ((0 : Nat) : Int) = 0 from rfl] at hw
  rw [hw]
  simp [bv_ret, hashL]
def sealOf (b : Int) (x : I5) : Int := hashL [b, x.1, x.2.1, x.2.2.1, x.2.2.2.1]
theorem v254 (x : Int × I5) : (F254 x).val = some (sealOf x.1 x.2, ()) := by
  show (B254 x).toDT.val = _
  simp only [B254, bv_bnd, v367 _ (show fit [x.1, x.2.1, x.2.2.1, x.2.2.2.1, x.2.2.2.2.1] by simp), Option.bind_some, bv_ret, sealOf]
/-- the place of the last, or -1 -/
def lastIdx {A : Type} (p : A → Bool) (l : List A) : Int := (l.zipIdx 0).foldl (fun k q => if p q.1 then (q.2 : Int) else k) (-1)
end Go.Am
