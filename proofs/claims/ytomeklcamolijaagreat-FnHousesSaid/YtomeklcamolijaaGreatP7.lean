import Derived.Test.YtomeklcamolijaaGreatP6
set_option linter.unusedVariables false
set_option linter.unusedSimpArgs false
set_option maxRecDepth 20000
set_option maxHeartbeats 400000
namespace Go.Am
open Go
theorem v103 (x : Int × Int × Int) : (F103 x).val = some (inR x.1 x.2.1 x.2.2, ()) := by
  show (B103 x).toDT.val = _
  simp only [B103, bv_ite, bv_ret, inR]
  by_cases h : x.2.1 ≤ x.1 <;> simp [h]
theorem sF103 : SpecOf F103 (fun _ => True) (fun x r => r = (inR x.1 x.2.1 x.2.2, ())) := ⟨fun x _ => V.of (v103 x)⟩
theorem v303 (x : I5) : (F303 x).val = some (thingOk x, ()) := by
  show (B303 x).toDT.val = _
  simp only [B303, bv_ite, bv_ret, bv_bnd, v103, Option.bind_some, thingOk]
  repeat' split
  all_goals simp_all
theorem v161 (x : TFind) : (F161 x).val = some (findOk x, ()) := by
  show (B161 x).toDT.val = _
  simp only [B161, bv_ite, bv_ret, bv_bnd, v103, v303, Option.bind_some, findOk]
  repeat' split
  all_goals simp_all
theorem sF161 : SpecOf F161 (fun _ => True) (fun x r => r = (findOk x, ())) := ⟨fun x _ => V.of (v161 x)⟩
theorem allI_len {A : Type} {q : Nat → A → Bool} {l : List A} {n : Nat} {b : Bool} : (if (allI q l 0 = true) then (some (b, ())) else none) = (if (allI q l 0 = true) then (some (b, ())) else none : Option (Bool × Unit)) := rfl
theorem v48 (l : List TFind) (hl : fit l) : (F48 l).val = some (areFinds l, ()) := by
  show (B48 l).toDT.val = _
  have hw := while_all (G := fun x => (L_48_0G x).toDT) l (fun i => (l, l, (l.length : Int), (i : Int))) (fun i a => findOk a && (i == 0 || decide ((l.getD (i - 1) d1).1.1 < a.1.1))) false
    (fun i a ha => by
      have hi := lt_of_get ha
      simp only [L_48_0G, bv_ite, bv_guard, bv_ret, bv_bnd, v161, Option.bind_some, getD_nat ha, wsucc hi hl, wpred hi hl, pred_get]
      grind [wrap1, wrapm])
    (by simp [L_48_0G, bv_ite, bv_ret])
  simp only [B48, bv_bnd, L_48_0, bv_ite, bv_ret]
  rw [show ((0 : Nat) : Int) = 0 from rfl] at hw
  rw [hw]
  unfold areFinds ascI
  (repeat' split) <;> (try simp only [Option.bind_some, bv_ret]) <;> grind [wrap1, wrapm]
theorem sF48 : SpecOf F48 (fun x => x.length ≤ 100000) (fun x r => r = (areFinds x, ())) := ⟨fun x hx => V.of (v48 x (by grind [wrap1, wrapm]))⟩
theorem v249 (l : List I2) (hl : fit l) : (F249 l).val = some (areMarks l, ()) := by
  show (B249 l).toDT.val = _
  have hw := while_all (G := fun x => (L_249_0G x).toDT) l (fun i => (l, l, (l.length : Int), (i : Int))) (fun i a => markOk a && (i == 0 || decide ((l.getD (i - 1) d2).1 < a.1))) false
    (fun i a ha => by
      have hi := lt_of_get ha
      simp only [L_249_0G, bv_ite, bv_guard, bv_ret, bv_bnd, v103, Option.bind_some, getD_nat ha, wsucc hi hl, wpred hi hl, pred_get, markOk]
      grind [wrap1, wrapm])
    (by simp [L_249_0G, bv_ite, bv_ret])
  simp only [B249, bv_bnd, L_249_0, bv_ite, bv_ret]
  rw [show ((0 : Nat) : Int) = 0 from rfl] at hw
  rw [hw]
  unfold areMarks ascI
  (repeat' split) <;> (try simp only [Option.bind_some, bv_ret]) <;> grind [wrap1, wrapm]
theorem sF249 : SpecOf F249 (fun x => x.length ≤ 100000) (fun x r => r = (areMarks x, ())) := ⟨fun x hx => V.of (v249 x (by grind [wrap1, wrapm]))⟩
theorem v104 (l : List TSecret) (hl : fit l) (hm : ∀ a ∈ l, fit a.2.1) : (F104 l).val = some (areSecrets l, ()) := by
  show (B104 l).toDT.val = _
  have hw := while_all (G := fun x => (L_104_0G x).toDT) l (fun i => (l, l, (l.length : Int), (i : Int))) (fun i a => secretOk a && (i == 0 || decide ((l.getD (i - 1) d0).1 < a.1))) false
    (fun i a ha => by
      have hi := lt_of_get ha
      simp only [L_104_0G, bv_ite, bv_guard, bv_ret, bv_bnd, v103, v249 _ (hm a (List.mem_of_getElem? ha)), Option.bind_some, getD_nat ha, wsucc hi hl, wpred hi hl, pred_get, secretOk]
      grind [wrap1, wrapm])
    (by simp [L_104_0G, bv_ite, bv_ret])
  simp only [B104, bv_bnd, L_104_0, bv_ite, bv_ret]
  rw [show ((0 : Nat) : Int) = 0 from rfl] at hw
  rw [hw]
  unfold areSecrets ascI
  (repeat' split) <;> (try simp only [Option.bind_some, bv_ret]) <;> grind [wrap1, wrapm]
theorem sF104 : SpecOf F104 (fun x => x.length ≤ 100000 ∧ mkB x) (fun x r => r = (areSecrets x, ())) := ⟨fun x hx => V.of (v104 x (by grind [wrap1, wrapm]) (by grind [wrap1, wrapm]))⟩
theorem v107 (l : List I4) (hl : fit l) : (F107 l).val = some (areEntries l, ()) := by
  show (B107 l).toDT.val = _
  have hw := while_all (G := fun x => (L_107_0G x).toDT) l (fun i => (l, l, (l.length : Int), (i : Int))) (fun i a => entryOk a && (i == 0 || decide ((l.getD (i - 1) d5).2.2.2 ≤ a.2.2.2))) false
    (fun i a ha => by
      have hi := lt_of_get ha
      simp only [L_107_0G, bv_ite, bv_guard, bv_ret, bv_bnd, v103, Option.bind_some, getD_nat ha, wsucc hi hl, wpred hi hl, pred_get, entryOk]
      grind [wrap1, wrapm])
    (by simp [L_107_0G, bv_ite, bv_ret])
  simp only [B107, bv_bnd, L_107_0, bv_ite, bv_ret]
  rw [show ((0 : Nat) : Int) = 0 from rfl] at hw
  rw [hw]
  unfold areEntries ascI
  (repeat' split) <;> (try simp only [Option.bind_some, bv_ret]) <;> grind [wrap1, wrapm]
theorem sF107 : SpecOf F107 (fun x => x.length ≤ 100000) (fun x r => r = (areEntries x, ())) := ⟨fun x hx => V.of (v107 x (by grind [wrap1, wrapm]))⟩
end Go.Am
