import Derived.Test.YtomeklcamolijaaGreatP11
set_option linter.unusedVariables false
set_option linter.unusedSimpArgs false
set_option maxRecDepth 20000
set_option maxHeartbeats 400000
namespace Go.Am
open Go
/-! ### trials -/
def trialOk (t : I4) : Bool := inR t.1 1 999 && inR t.2.2.1 0 100 && inR t.2.2.2 0 100 && t.2.1 == IntKind.i64.wrap (t.2.2.1 + t.2.2.2)
theorem v251 (t : I4) : (F251 t).val = some (trialOk t, ()) := by
  show (B251 t).toDT.val = _
  simp only [B251, bv_ite, bv_ret, bv_bnd, v103, Option.bind_some, trialOk]
  repeat' split
  all_goals simp_all
def marksOf (l : List TSecret) (t : Int) : List I2 := if idx (fun s : TSecret => s.1 == t) l < 0 then [] else (l.getD (idx (fun s : TSecret => s.1 == t) l).toNat d0).2.1
theorem v131 (l : List TSecret) (t : Int) (hl : fit l) : (F131 (l, t)).val = some (idx (fun s : TSecret => s.1 == t) l, ()) := by
  show (B131 (l, t)).toDT.val = _
  simp only [B131, bv_ret, bv_bnd, v278_279 l t hl, Option.bind_some]
theorem v132 (l : List I2) (hl : fit l) : (F132 l).val = some (l, ()) := by
  have hb : decide (l.length * 16 ≤ 140737488355328) = true := by simp; omega
  unfold F132 cloneF
  rw [hb]; rfl
theorem v26 (l : List TSecret) (t : Int) (hl : fit l) (hm : mkB l) : (F26 (l, t)).val = some (marksOf l t, ()) := by
  show (B26 (l, t)).toDT.val = _
  have hi := idx_lt (fun s : TSecret => s.1 == t) l
  simp only [B26, bv_ite, bv_guard, bv_ret, bv_bnd, v131 l t hl, Option.bind_some, marksOf]
  by_cases h : idx (fun s : TSecret => s.1 == t) l < 0
  · simp [h]
  · have hk : (idx (fun s : TSecret => s.1 == t) l).toNat < l.length := by omega
    have := hm _ (getD_mem l _ d0 hk)
    rw [if_neg (by simpa using h), if_pos (by simp; omega), v132 _ (by omega), if_neg h]
    rfl
theorem marksOf_len {l : List TSecret} (t : Int) (hm : mkB l) : (marksOf l t).length ≤ 1000 := by
  have hi := idx_lt (fun s : TSecret => s.1 == t) l
  unfold marksOf
  split
  · simp
  · exact hm _ (getD_mem l _ d0 (by omega))
def needFor (m : List I2) : Int := if (m.length : Int) < 3 then (m.length : Int) else 3
def trialState (m : List I2) (t : I4) : Int :=
  if !trialOk t then 2 else if !areMarks m then 2 else if t.2.2.2 > 1 then 2 else if (m.length : Int) > 0 ∧ t.2.2.1 ≥ needFor m then 1 else 0
theorem v181 (m : List I2) (t : I4) (hl : fit m) : (F181 (m, t)).val = some (trialState m t, ()) := by
  show (B181 (m, t)).toDT.val = _
  have h25 : (F25 m).val = some (needFor m, ()) := rfl
  simp only [B181, bv_ite, bv_guard, bv_ret, bv_bnd, v251, v249 m hl, h25, Option.bind_some, trialState]
  grind [wrap1, wrapm]
def wanted (s : Int) : Int := if s = 0 then 0 else if s = 2 then 2 else 1
theorem v252 (s : Int) : (F252 s).val = some (wanted s, ()) := by
  show (B252 s).toDT.val = _
  simp only [B252, bv_ite, bv_ret, wanted]
  grind [wrap1, wrapm]
def trialC (h : THouse) (i : Nat) (c : I5) : Bool :=
  decide (0 ≤ findW h.2.1 c.2.2.1) && trialOk (h.2.2.2.2.2.1.getD i d5) && (h.2.2.2.2.2.1.getD i d5).1 == c.1 && trialState (marksOf h.2.2.1 c.2.2.1) (h.2.2.2.2.2.1.getD i d5) == wanted c.2.2.2.2
def areTrials (h : THouse) : Bool := decide (h.2.2.2.2.2.1.length = h.2.2.2.2.1.length) && allI (trialC h) h.2.2.2.2.1 0
theorem v109 (h : THouse) (hh : hs3 h) : (F109 h).val = some (areTrials h, ()) := by
  show (B109 h).toDT.val = _
  obtain ⟨h1, h2, hm, h3, h4, h5, h6, h7⟩ := hh
  have f1 : fit h.2.1 := by omega
  have f2 : fit h.2.2.1 := by omega
  have f4 : fit h.2.2.2.2.1 := by omega
  simp only [B109, bv_bnd, bv_ite, bv_ret, Option.bind_some, L_109_0]
  by_cases he : h.2.2.2.2.2.1.length = h.2.2.2.2.1.length
  case neg => simp [he, areTrials]; omega
  have hw1 := while_all (G := fun x => (L_109_0G x).toDT) h.2.2.2.2.1 (fun i => (h, h.2.2.2.2.1, (h.2.2.2.2.1.length : Int), (i : Int))) (trialC h) false
    (fun i a ha => by
      have hi := lt_of_get ha
      have hd : h.2.2.2.2.1.getD i d4 = a := by simp [List.getD_eq_getElem?_getD, ha]
      have hmf : fit (marksOf h.2.2.1 a.2.2.1) := by have := marksOf_len a.2.2.1 hm; omega
      simp only [L_109_0G, bv_ite, bv_guard, bv_ret, bv_bnd, v21 _ _ f1, v251, v26 _ _ f2 hm, v252, v181 _ _ hmf, Option.bind_some, Int.toNat_natCast, hd, wsucc hi f4, trialC]
      grind [wrap1, wrapm])
    (by simp [L_109_0G, bv_ite, bv_ret])
  rw [show ((0 : Nat) : Int) = 0 from rfl] at hw1
  rw [hw1]
  unfold areTrials
  cases hq1 : allI (trialC h) h.2.2.2.2.1 0 with
  | false => simp [he, bv_ret]
  | true => simp [he, bv_ret]
/-! ### the latest hour -/
def maxB {A : Type} (f : A → Int) (m : Int) (l : List A) : Int := l.foldl (fun m a => if f a > m then f a else m) m
def latest (h : THouse) : Int := maxB (fun a : I4 => a.2.2.2) (maxB (fun a : I5 => a.2.2.2.1) (maxB (fun a : I5 => a.2.2.2.1) (maxB (fun a : TFind => a.2.2.1) (-1) h.2.1) h.2.2.2.2.1) h.2.2.2.2.2.2.1) h.2.2.2.2.2.2.2.1
theorem v110 (h : THouse) (hh : hs3 h) : (F110 h).val = some (latest h, ()) := by
  show (B110 h).toDT.val = _
  obtain ⟨h1, h2, hm, h3, h4, h5, h6, h7⟩ := hh
  have f1 : fit h.2.1 := by omega
  have f4 : fit h.2.2.2.2.1 := by omega
  have f6 : fit h.2.2.2.2.2.2.1 := by omega
  have f7 : fit h.2.2.2.2.2.2.2.1 := by omega
  have hw1 := fun s => while_fold (G := fun x => (L_110_0G x).toDT) h.2.1 (fun i m => (h, m, h.2.1, (h.2.1.length : Int), (i : Int))) (fun (m : Int) (a : TFind) => if a.2.2.1 > m then a.2.2.1 else m) (fun _ _ => True)
    (fun i m a ha hp => by
      have hi := lt_of_get ha
      have hd : h.2.1.getD i d1 = a := by simp [List.getD_eq_getElem?_getD, ha]
      refine ⟨?_, trivial⟩
      simp only [L_110_0G, bv_ite, bv_guard, bv_ret, Int.toNat_natCast, hd, wsucc hi f1]
      rw [if_pos (by simp; omega), if_pos (by simp; omega)])
    (fun m _ => by simp [L_110_0G, bv_ite, bv_ret]) (s := s) trivial
  have hw2 := fun s => while_fold (G := fun x => (L_110_2G x).toDT) h.2.2.2.2.1 (fun i m => (h, m, h.2.2.2.2.1, (h.2.2.2.2.1.length : Int), (i : Int))) (fun (m : Int) (a : I5) => if a.2.2.2.1 > m then a.2.2.2.1 else m) (fun _ _ => True)
    (fun i m a ha hp => by
      have hi := lt_of_get ha
      have hd : h.2.2.2.2.1.getD i d4 = a := by simp [List.getD_eq_getElem?_getD, ha]
      refine ⟨?_, trivial⟩
      simp only [L_110_2G, bv_ite, bv_guard, bv_ret, Int.toNat_natCast, hd, wsucc hi f4]
      rw [if_pos (by simp; omega), if_pos (by simp; omega)])
    (fun m _ => by simp [L_110_2G, bv_ite, bv_ret]) (s := s) trivial
  have hw3 := fun s => while_fold (G := fun x => (L_110_4G x).toDT) h.2.2.2.2.2.2.1 (fun i m => (h, m, h.2.2.2.2.2.2.1, (h.2.2.2.2.2.2.1.length : Int), (i : Int))) (fun (m : Int) (a : I5) => if a.2.2.2.1 > m then a.2.2.2.1 else m) (fun _ _ => True)
    (fun i m a ha hp => by
      have hi := lt_of_get ha
      have hd : h.2.2.2.2.2.2.1.getD i d4 = a := by simp [List.getD_eq_getElem?_getD, ha]
      refine ⟨?_, trivial⟩
      simp only [L_110_4G, bv_ite, bv_guard, bv_ret, Int.toNat_natCast, hd, wsucc hi f6]
      rw [if_pos (by simp; omega), if_pos (by simp; omega)])
    (fun m _ => by simp [L_110_4G, bv_ite, bv_ret]) (s := s) trivial
  have hw4 := fun s => while_fold (G := fun x => (L_110_6G x).toDT) h.2.2.2.2.2.2.2.1 (fun i m => (m, h.2.2.2.2.2.2.2.1, (h.2.2.2.2.2.2.2.1.length : Int), (i : Int))) (fun (m : Int) (a : I4) => if a.2.2.2 > m then a.2.2.2 else m) (fun _ _ => True)
    (fun i m a ha hp => by
      have hi := lt_of_get ha
      have hd : h.2.2.2.2.2.2.2.1.getD i d5 = a := by simp [List.getD_eq_getElem?_getD, ha]
      refine ⟨?_, trivial⟩
      simp only [L_110_6G, bv_ite, bv_guard, bv_ret, Int.toNat_natCast, hd, wsucc hi f7]
      rw [if_pos (by simp; omega), if_pos (by simp; omega)])
    (fun m _ => by simp [L_110_6G, bv_ite, bv_ret]) (s := s) trivial
  simp only [show ((0 : Nat) : Int) = 0 from rfl] at hw1 hw2 hw3 hw4
  simp only [B110, bv_bnd, L_110_0, L_110_2, L_110_4, L_110_6]
  rw [hw1]
  simp only [Option.bind_some, bv_bnd]
  rw [hw2]
  simp only [Option.bind_some, bv_bnd]
  rw [hw3]
  simp only [Option.bind_some, bv_bnd]
  rw [hw4]
  rfl
/-! ### a house -/
def isHouse (h : THouse) : Bool :=
  inR h.1 1 9 && areFinds h.2.1 && areSecrets h.2.2.1 && areSlotsI h.2.2.2.1 && areClaims h.2.2.2.2.1 && isChain h.2.2.2.2.2.2.1 && areEntries h.2.2.2.2.2.2.2.1 && kept h && areTrials h && decide (latest h ≤ h.2.2.2.2.2.2.2.2) && inR h.2.2.2.2.2.2.2.2 0 100000
theorem v14 (h : THouse) (hh : hs3 h) : (F14 h).val = some (isHouse h, ()) := by
  show (B14 h).toDT.val = _
  have hk := hh
  obtain ⟨h1, h2, hm, h3, h4, h5, h6, h7⟩ := hh
  simp only [B14, bv_bnd, bv_ite, bv_ret, v103, v48 _ (show fit h.2.1 by omega), v104 h.2.2.1 (show fit h.2.2.1 by omega) (fun a ha => by have := hm a ha; omega), v29 _ (show fit h.2.2.2.1 by omega), v105 _ (show fit h.2.2.2.2.1 by omega), v106 _ (show fit h.2.2.2.2.2.2.1 by omega), v107 _ (show fit h.2.2.2.2.2.2.2.1 by omega), v108 h hk, v109 h hk, v110 h hk, Option.bind_some, isHouse]
  clear hk hm
  repeat' split
  all_goals grind [wrap1, wrapm]
theorem sF14 : SpecOf F14 hs3 (fun x r => r = (isHouse x, ())) := ⟨fun x hx => V.of (v14 x hx)⟩
end Go.Am
