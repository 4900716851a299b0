import Derived.Test.YtomeklcamolijaaGreatP7
set_option linter.unusedVariables false
set_option linter.unusedSimpArgs false
set_option maxRecDepth 20000
set_option maxHeartbeats 400000
namespace Go.Am
open Go
theorem v439 (v : Int) : (F439 (v, (2147483647 : Int))).val = some (modP v, ()) := by
  show (B439 (v, (2147483647 : Int))).toDT.val = _
  have hb := tmod_bound v
  have hm := tmod_mod v
  simp only [B439, bv_ite, bv_guard, bv_ret, bv_bnd, v103, inR, modP, Option.bind_some]
  by_cases h : v.tmod 2147483647 < 0
  · simp [h]
    rw [w64 (by omega) (by omega)]
    show _ = v % 2147483647
    rw [← hm, Int.tmod_eq_emod_of_nonneg (a := v.tmod 2147483647 + 2147483647) (by omega)]
    omega
  · simp [h]
    show _ = v % 2147483647
    rw [← hm, Int.tmod_eq_emod_of_nonneg (a := v.tmod 2147483647 + 2147483647) (by omega)]
    omega
theorem v419 (h v : Int) (h0 : 0 ≤ h) (h1 : h < 2147483647) : (F419 (h, v)).val = some (hstep h v, ()) := by
  show (B419 (h, v)).toDT.val = _
  have hm := modP_bound v
  simp only [B419, bv_ite, bv_guard, bv_ret, bv_bnd, v439, Option.bind_some]
  rw [w64 (n := h * 1000003) (by omega) (by omega), w64 (n := h * 1000003 + modP v) (by omega) (by omega), w64 (by omega) (by omega), Int.tmod_eq_emod_of_nonneg (by omega)]
  rfl
theorem v366 (l : List Int) (hl : fit l) : (F366 l).val = some (hashL l, ()) := by
  show (B366 l).toDT.val = _
  have hw := while_fold (G := fun x => (L_366_0G x).toDT) l (fun i h => (h, l, (l.length : Int), (i : Int))) hstep (fun _ h => 0 ≤ h ∧ h < 2147483647)
    (fun i h a ha hp => by
      have hi := lt_of_get ha
      refine ⟨?_, hstep_bound h a⟩
      simp only [L_366_0G, bv_ite, bv_guard, bv_ret, bv_bnd, v419 _ _ hp.1 hp.2, Option.bind_some, getD_nat ha, wsucc hi hl]
      rw [if_pos (by simp; omega), if_pos (by simp; omega)])
    (fun h _ => by simp [L_366_0G, bv_ite, bv_ret]) (s := 11) (by omega)
  simp only [B366, bv_bnd, L_366_0]
  rw [show ((0 : Nat) : Int) = 0 from rfl] at hw
  rw [hw]
  simp [bv_ret, hashL]
theorem v250 (x : Int × I5) : (F250 x).val = some (sealOf x.1 x.2, ()) := by
  show (B250 x).toDT.val = _
  simp only [B250, bv_bnd, v366 _ (show fit [x.1, x.2.1, x.2.2.1, x.2.2.2.1, x.2.2.2.2.1] by simp), Option.bind_some, bv_ret, sealOf]
theorem sF250 : SpecOf F250 (fun _ => True) (fun x r => r = (sealOf x.1 x.2, ())) := ⟨fun x _ => V.of (v250 x)⟩
/-! ### places -/
theorem idx_match {A B : Type} (p : A → Bool) (l : List A) (f : B ⊕ Int → Option (Int × Unit)) (y : B) (h1 : ∀ k, f (.inr k) = some (k, ())) (h2 : f (.inl y) = some (-1, ())) :
    ((match l.findIdx? p with | some k => some (.inr (k : Int)) | none => some (.inl y)) : Option (B ⊕ Int)).bind f = some (idx p l, ()) := by
  unfold idx
  cases l.findIdx? p <;> simp [h1, h2]
theorem v269_270 (l : List I3) (t : Int) (hl : fit l) : (F269_270 (l, t)).val = some (idx (fun s => s.2.2 == t) l, t) := by
  show (B269_270 (l, t)).toDT.val = _
  have hw := while_find (G := fun x => (L_269_270_0G x).toDT) l (fun i => (l, t, (l.length : Int), (i : Int))) (fun _ a => a.2.2 == t) (fun i _ => ((i : Int), t))
    (fun i a ha => by
      have hi := lt_of_get ha
      simp only [L_269_270_0G, bv_ite, bv_guard, bv_ret, bv_bnd, F270, B270, Option.bind_some, getD_nat ha, wsucc hi hl]
      grind [wrap1, wrapm])
    (by simp [L_269_270_0G, bv_ite, bv_ret])
  simp only [B269_270, bv_bnd, L_269_270_0]
  rw [show ((0 : Nat) : Int) = 0 from rfl] at hw
  rw [hw, find_zipIdx (p := fun a : I3 => a.2.2 == t)]
  unfold idx
  cases h : l.findIdx? (fun s => s.2.2 == t) with
  | none => simp [bv_ret]
  | some k =>
    have := List.findIdx?_eq_some_iff_getElem.1 h
    obtain ⟨hk, _⟩ := this
    simp [hk, bv_ret]
theorem v123_124 (l : List TFind) (t : Int) (hl : fit l) : (F123_124 (l, t)).val = some (idx (fun s => s.1.1 == t) l, t) := by
  show (B123_124 (l, t)).toDT.val = _
  have hw := while_find (G := fun x => (L_123_124_0G x).toDT) l (fun i => (l, t, (l.length : Int), (i : Int))) (fun _ a => a.1.1 == t) (fun i _ => ((i : Int), t))
    (fun i a ha => by
      have hi := lt_of_get ha
      simp only [L_123_124_0G, bv_ite, bv_guard, bv_ret, bv_bnd, F124, B124, Option.bind_some, getD_nat ha, wsucc hi hl]
      grind [wrap1, wrapm])
    (by simp [L_123_124_0G, bv_ite, bv_ret])
  simp only [B123_124, bv_bnd, L_123_124_0]
  rw [show ((0 : Nat) : Int) = 0 from rfl] at hw
  rw [hw, find_zipIdx (p := fun a : TFind => a.1.1 == t)]
  unfold idx
  cases h : l.findIdx? (fun s => s.1.1 == t) with
  | none => simp [bv_ret]
  | some k =>
    have := List.findIdx?_eq_some_iff_getElem.1 h
    obtain ⟨hk, _⟩ := this
    simp [hk, bv_ret]
theorem v278_279 (l : List TSecret) (t : Int) (hl : fit l) : (F278_279 (l, t)).val = some (idx (fun s => s.1 == t) l, t) := by
  show (B278_279 (l, t)).toDT.val = _
  have hw := while_find (G := fun x => (L_278_279_0G x).toDT) l (fun i => (l, t, (l.length : Int), (i : Int))) (fun _ a => a.1 == t) (fun i _ => ((i : Int), t))
    (fun i a ha => by
      have hi := lt_of_get ha
      simp only [L_278_279_0G, bv_ite, bv_guard, bv_ret, bv_bnd, F279, B279, Option.bind_some, getD_nat ha, wsucc hi hl]
      grind [wrap1, wrapm])
    (by simp [L_278_279_0G, bv_ite, bv_ret])
  simp only [B278_279, bv_bnd, L_278_279_0]
  rw [show ((0 : Nat) : Int) = 0 from rfl] at hw
  rw [hw, find_zipIdx (p := fun a : TSecret => a.1 == t)]
  unfold idx
  cases h : l.findIdx? (fun s => s.1 == t) with
  | none => simp [bv_ret]
  | some k =>
    have := List.findIdx?_eq_some_iff_getElem.1 h
    obtain ⟨hk, _⟩ := this
    simp [hk, bv_ret]
theorem v276_277 (l : List I4) (t : Int) (hl : fit l) : (F276_277 (l, t)).val = some (idx (fun s => s.1 == t) l, t) := by
  show (B276_277 (l, t)).toDT.val = _
  have hw := while_find (G := fun x => (L_276_277_0G x).toDT) l (fun i => (l, t, (l.length : Int), (i : Int))) (fun _ a => a.1 == t) (fun i _ => ((i : Int), t))
    (fun i a ha => by
      have hi := lt_of_get ha
      simp only [L_276_277_0G, bv_ite, bv_guard, bv_ret, bv_bnd, F277, B277, Option.bind_some, getD_nat ha, wsucc hi hl]
      grind [wrap1, wrapm])
    (by simp [L_276_277_0G, bv_ite, bv_ret])
  simp only [B276_277, bv_bnd, L_276_277_0]
  rw [show ((0 : Nat) : Int) = 0 from rfl] at hw
  rw [hw, find_zipIdx (p := fun a : I4 => a.1 == t)]
  unfold idx
  cases h : l.findIdx? (fun s => s.1 == t) with
  | none => simp [bv_ret]
  | some k =>
    have := List.findIdx?_eq_some_iff_getElem.1 h
    obtain ⟨hk, _⟩ := this
    simp [hk, bv_ret]
theorem v305 (l : List Int) (t : Int) (hl : fit l) : (F305 (l, t)).val = some (idx (fun s => s == t) l, ()) := by
  show (B305 (l, t)).toDT.val = _
  have hw := while_idx (G := fun x => (L_305_0G x).toDT) l (fun i => (l, t, (l.length : Int), (i : Int))) (fun a => a == t)
    (fun i a ha => by
      have hi := lt_of_get ha
      simp only [L_305_0G, bv_ite, bv_guard, bv_ret, bv_bnd, Option.bind_some, getD_nat ha, wsucc hi hl]
      grind [wrap1, wrapm])
    (by simp [L_305_0G, bv_ite, bv_ret])
  simp only [B305, bv_bnd, L_305_0]
  rw [show ((0 : Nat) : Int) = 0 from rfl] at hw
  rw [hw]
  unfold idx
  cases h : l.findIdx? (fun s => s == t) <;> simp [bv_ret]
/-- the facts about the place of the first -/
theorem idx_lt {A : Type} (p : A → Bool) (l : List A) : idx p l < l.length ∧ -1 ≤ idx p l := by
  unfold idx
  cases h : l.findIdx? p with
  | none => simp; omega
  | some k =>
    obtain ⟨hk, _⟩ := List.findIdx?_eq_some_iff_getElem.1 h
    simp; omega
theorem idx_nonneg {A : Type} {p : A → Bool} {l : List A} : 0 ≤ idx p l ↔ ∃ a ∈ l, p a = true := by
  unfold idx
  cases h : l.findIdx? p with
  | none =>
    rw [List.findIdx?_eq_none_iff] at h
    simp; intro a ha; simpa using h a ha
  | some k =>
    obtain ⟨hk, h1, _⟩ := List.findIdx?_eq_some_iff_getElem.1 h
    simp; exact ⟨_, List.getElem_mem hk, h1⟩
theorem idx_at {A : Type} {p : A → Bool} {l : List A} (d : A) (h0 : 0 ≤ idx p l) : p (l.getD (idx p l).toNat d) = true := by
  unfold idx at *
  cases h : l.findIdx? p with
  | none => rw [h] at h0; simp at h0
  | some k =>
    obtain ⟨hk, h1, _⟩ := List.findIdx?_eq_some_iff_getElem.1 h
    simp [List.getD_eq_getElem?_getD, hk, h1]
end Go.Am
