import Derived.Test.YtomeklcamolijaaGreatP13
set_option linter.unusedVariables false
set_option linter.unusedSimpArgs false
set_option maxRecDepth 20000
set_option maxHeartbeats 400000
namespace Go.Am
open Go
/-! ### FnHouses: the plain law -/
theorem asc_lt {A : Type} {d : A} {key : A → Int} {l : List A} (h : ∀ (i : Nat) (a : A), l[i]? = some a → i = 0 ∨ key (l.getD (i - 1) d) < key a) : ∀ (j i : Nat), i < j → j < l.length → key (l.getD i d) < key (l.getD j d) := by
  intro j
  induction j with
  | zero => intro i hi; omega
  | succ j ih =>
    intro i hi hj
    have h1 := h (j + 1) (l.getD (j + 1) d) (by simp [List.getD_eq_getElem?_getD, hj])
    simp only [Nat.add_sub_cancel] at h1
    rcases h1 with h1 | h1
    · omega
    · by_cases e : i = j
      · subst e; exact h1
      · have := ih i (by omega) (by omega); omega
theorem finds_asc {l : List TFind} (h : areFinds l = true) : l.Pairwise fun a b => a.1.1 < b.1.1 := by
  unfold areFinds ascI at h
  simp only [Bool.and_eq_true] at h
  have := asc_lt (d := d1) (key := fun a : TFind => a.1.1) (l := l) (fun i a ha => by
    have := allI_get h.1 ha
    simp at this
    rcases this.2 with h2 | h2
    · exact .inl h2
    · exact .inr (by simpa using h2))
  rw [List.pairwise_iff_getElem]
  intro i j hi hj hij
  have := this j i hij hj
  simpa [List.getD_eq_getElem?_getD, hi, hj] using this
theorem shown_asc {h : THouse} (hf : areFinds h.2.1 = true) : (shown h).Pairwise (· < ·) := by
  have e : shown h = h.2.1.filterMap fun f => if decide (0 ≤ slotW h.2.2.2.1 f.1.1) = true then some f.1.1 else none := by
    unfold shown
    have : ∀ (l : List TFind) (k : Nat), ((l.zipIdx k).filterMap fun q => if decide (0 ≤ slotW h.2.2.2.1 q.1.1.1) = true then some q.1.1.1 else none) = l.filterMap fun f => if decide (0 ≤ slotW h.2.2.2.1 f.1.1) = true then some f.1.1 else none := by
      intro l
      induction l with
      | nil => intro k; rfl
      | cons a l ih => intro k; simp only [List.zipIdx_cons, List.filterMap_cons, ih]
    exact this _ 0
  rw [e, List.pairwise_filterMap]
  refine (finds_asc hf).imp fun {a b} hab x hx y hy => ?_
  split at hx
  · split at hy
    · simp at hx hy; omega
    · simp at hy
  · simp at hx
theorem mem_shown {h : THouse} {t : Int} : t ∈ shown h ↔ (∃ f ∈ h.2.1, f.1.1 = t) ∧ 0 ≤ slotW h.2.2.2.1 t := by
  unfold shown
  rw [List.mem_filterMap]
  constructor
  · rintro ⟨⟨f, i⟩, hm, he⟩
    rw [List.mem_zipIdx_iff_getElem?] at hm
    simp only at he hm
    split at he
    · rename_i hw
      simp at he hw
      subst he
      exact ⟨⟨f, List.mem_of_getElem? hm, rfl⟩, hw⟩
    · simp at he
  · rintro ⟨⟨f, hf, rfl⟩, hw⟩
    obtain ⟨i, hi, rfl⟩ := List.getElem_of_mem hf
    exact ⟨(h.2.1[i], i), by rw [List.mem_zipIdx_iff_getElem?]; simp [hi], by simp [hw]⟩
theorem inRaw_nodup (c : List I5) (no : Int) : (inRaw c no).Nodup := by
  unfold inRaw
  rw [List.Nodup, List.pairwise_filterMap]
  rw [List.pairwise_iff_getElem]
  intro i j hi hj hij x hx y hy
  simp at hi hj
  simp [inC] at hx hy
  obtain ⟨⟨_, hx1⟩, hx2⟩ := hx
  obtain ⟨⟨_, hy1⟩, hy2⟩ := hy
  intro e
  rw [hx2] at hx1
  rw [hy2, ← e, hx1] at hy1
  omega
theorem inH_asc (c : List I5) (no : Int) : (inH c no).Pairwise (· < ·) := by
  unfold inH
  split
  · have h1 : ((inRaw c no).mergeSort fun a b => decide (a ≤ b)).Pairwise (fun a b => decide (a ≤ b) = true) := List.pairwise_mergeSort (fun a b c => by simp; omega) (fun a b => by simp; omega) _
    have h2 : ((inRaw c no).mergeSort fun a b => decide (a ≤ b)).Nodup := (List.mergeSort_perm _ _).nodup_iff.2 (inRaw_nodup c no)
    refine (h1.and h2).imp fun {a b} h => ?_
    have := h.1
    simp at this
    have := h.2
    omega
  · exact .nil
theorem find_mem {l : List TFind} {t : Int} : 0 ≤ findW l t ↔ ∃ f ∈ l, f.1.1 = t := by
  unfold findW
  rw [idx_nonneg]
  simp
theorem slot_mem {l : List I3} {t : Int} : 0 ≤ slotW l t ↔ t ≠ 0 ∧ ∃ s ∈ l, s.2.2 = t := by
  unfold slotW
  split
  · rename_i h; simp [h]
  · rename_i h; rw [idx_nonneg]; simp [h]
theorem shown_in {h : THouse} (hh : isHouse h = true) : shown h = inH h.2.2.2.2.2.2.1 h.1 := by
  simp only [isHouse, Bool.and_eq_true] at hh
  obtain ⟨⟨⟨⟨⟨⟨⟨⟨⟨⟨_, hf⟩, _⟩, hs⟩, _⟩, _⟩, _⟩, hk⟩, _⟩, _⟩, _⟩ := hh
  simp only [kept, Bool.and_eq_true, List.all_eq_true, decide_eq_true_eq] at hk
  obtain ⟨⟨⟨_, hk1⟩, hk2⟩, hk3⟩ := hk
  have a1 := shown_asc hf
  have a2 := inH_asc h.2.2.2.2.2.2.1 h.1
  have hp : (shown h).Perm (inH h.2.2.2.2.2.2.1 h.1) := by
    rw [List.perm_ext_iff_of_nodup (a1.imp fun h => by omega) (a2.imp fun h => by omega)]
    intro t
    rw [mem_shown]
    constructor
    · rintro ⟨⟨f, hf, rfl⟩, hw⟩
      obtain ⟨i, hi, rfl⟩ := List.getElem_of_mem hf
      have := allI_get hk1 (show h.2.1[i]? = some h.2.1[i] by simp [hi])
      simp [keptF] at this
      exact this.2.1 hw
    · intro ht
      obtain ⟨f, hf, rfl⟩ := find_mem.1 (hk3 t ht)
      refine ⟨⟨f, hf, rfl⟩, ?_⟩
      obtain ⟨i, hi, rfl⟩ := List.getElem_of_mem hf
      have := allI_get hk1 (show h.2.1[i]? = some h.2.1[i] by simp [hi])
      simp [keptF] at this
      exact this.2.2 ht
  exact hp.eq_of_pairwise (le := (· < ·)) (fun a b _ _ h1 h2 => by omega) a1 a2
/-- the things that lie in slots -/
def occ (l : List I3) : List Int := l.filterMap fun s => if s.2.2 = 0 then none else some s.2.2
theorem occ_len (l : List I3) : (occ l).length + free l = l.length := by
  unfold occ free
  induction l with
  | nil => rfl
  | cons s l ih =>
    rw [List.filterMap_cons, List.countP_cons]
    by_cases h : s.2.2 = 0 <;> simp [h] <;> omega
theorem slots_ids {l : List I3} (h : areSlotsI l = true) : ∀ s ∈ l, 1 ≤ s.1 := by
  unfold areSlotsI at h
  simp only [Bool.and_eq_true] at h
  intro s hs
  obtain ⟨i, hi, rfl⟩ := List.getElem_of_mem hs
  have := allI_get h.1 (show l[i]? = some l[i] by simp [hi])
  simp [slotOk1, slotOk, inR] at this
  omega
theorem occ_nodup {l : List I3} (h : areSlotsI l = true) : (occ l).Nodup := by
  have hid := slots_ids h
  unfold areSlotsI at h
  simp only [Bool.and_eq_true] at h
  unfold occ
  rw [List.Nodup, List.pairwise_filterMap, List.pairwise_iff_getElem]
  intro i j hi hj hij x hx y hy
  have := allI_get h.1 (show l[j]? = some l[j] by simp [hj])
  simp only [slotOk1, Nat.zero_add, Bool.and_eq_true, beq_iff_eq] at this
  have h0 := this.2
  split at hx
  · simp at hx
  split at hy
  · simp at hy
  simp at hx hy
  subst hx hy
  intro e
  rename_i h1 h2
  have hw : 0 ≤ slotW (l.take j) l[j].2.2 := slot_mem.2 ⟨h2, l[i], by rw [List.mem_take_iff_getElem]; exact ⟨i, by omega, rfl⟩, e⟩
  have hlt := slotW_lt (l.take j) l[j].2.2
  unfold slotO at h0
  rw [if_neg (by omega)] at h0
  have hm : (l.take j).getD (slotW (l.take j) l[j].2.2).toNat d3 ∈ l := List.mem_of_mem_take (getD_mem _ _ _ (by omega))
  have := hid _ hm
  omega
theorem mem_occ {l : List I3} {t : Int} : t ∈ occ l ↔ 0 ≤ slotW l t := by
  rw [slot_mem]
  unfold occ
  rw [List.mem_filterMap]
  constructor
  · rintro ⟨s, hs, he⟩
    split at he
    · simp at he
    · simp at he; subst he; exact ⟨by assumption, s, hs, rfl⟩
  · rintro ⟨h0, s, hs, rfl⟩
    exact ⟨s, hs, by simp [h0]⟩
theorem shown_len {h : THouse} (hh : isHouse h = true) : (shown h).length + free h.2.2.2.1 = h.2.2.2.1.length := by
  have hp : (shown h).Perm (occ h.2.2.2.1) := by
    simp only [isHouse, Bool.and_eq_true] at hh
    obtain ⟨⟨⟨⟨⟨⟨⟨⟨⟨⟨_, hf⟩, _⟩, hs⟩, _⟩, _⟩, _⟩, hk⟩, _⟩, _⟩, _⟩ := hh
    simp only [kept, Bool.and_eq_true, List.all_eq_true, decide_eq_true_eq] at hk
    obtain ⟨⟨⟨_, hk1⟩, hk2⟩, hk3⟩ := hk
    rw [List.perm_ext_iff_of_nodup ((shown_asc hf).imp fun h => by omega) (occ_nodup hs)]
    intro t
    rw [mem_shown, mem_occ]
    constructor
    · exact fun h => h.2
    · intro hw
      refine ⟨?_, hw⟩
      obtain ⟨h0, s, hs, rfl⟩ := slot_mem.1 hw
      have := hk2 s hs
      simp [keptS, h0] at this
      exact find_mem.1 this
  rw [hp.length_eq]
  exact occ_len _
end Go.Am
