import Derived.Test.YtomeklcamolijaaGreatP14
set_option linter.unusedVariables false
set_option linter.unusedSimpArgs false
set_option maxRecDepth 20000
set_option maxHeartbeats 1000000
namespace Go.Am
open Go
theorem v12 (x : List Int) : (F12 x).val = some (decide ((x.length : Int) > 1048576), ()) := rfl
theorem law4 (x : List Int) : (F4 x).val = some (true, ()) := by
  show (B4 x).toDT.val = _
  by_cases hb : (x.length : Int) > 1048576
  · simp only [B4, bv_bnd, bv_ite, bv_ret, v12, Option.bind_some, hb, decide_true, if_true]
  have hx : x.length ≤ 1048576 := by omega
  obtain ⟨⟨⟨no, l⟩, u2⟩, e27, h27⟩ := sF27.prf x hx
  obtain ⟨⟨h8, u8⟩, e31, h31⟩ := sF31.prf x hx
  obtain ⟨⟨⟨y, cl⟩, u32⟩, e32, h32⟩ := sF32.prf x hx
  obtain ⟨⟨⟨a, b⟩, u33⟩, e33, h33⟩ := sF33.prf x hx
  simp only at h27 h31 h32 h33
  have k8 : hs3 h8 := by obtain ⟨h1, h2, hm, h3, h4, h5, h6, h7⟩ := h31; exact ⟨by omega, by omega, hm, by omega, by omega, by omega, by omega, by omega⟩
  have ka : hs3 a := by obtain ⟨h1, h2, hm, h3, h4, h5, h6, h7⟩ := h33.1; exact ⟨by omega, by omega, hm, by omega, by omega, by omega, by omega, by omega⟩
  have kb : hs3 b := by obtain ⟨h1, h2, hm, h3, h4, h5, h6, h7⟩ := h33.2; exact ⟨by omega, by omega, hm, by omega, by omega, by omega, by omega, by omega⟩
  obtain ⟨⟨⟨t, there⟩, u24⟩, e24, h24⟩ := sF24.prf (y, cl) (by simp only; omega)
  simp only at h24
  obtain ⟨q1, e1, g1⟩ := v34 a b ka
  obtain ⟨q2, e2, g2⟩ := v34 b a kb
  obtain ⟨q3, e3, g3⟩ := v34 a a ka
  have hq3 : q3 = true := g3.2 rfl
  have hq : q1 = q2 := by rw [Bool.eq_iff_iff, g1, g2]; exact eq_comm
  subst hq3 hq
  have hnew := v28 no l (by omega)
  have hn3 : hs3 (newH no l) := ⟨by simp [newH], by simp [newH], by simp [newH, mkB], by simp [newH]; omega, by simp [newH], by simp [newH], by simp [newH], by simp [newH]⟩
  have hsh : shown (newH no l) = [] := rfl
  have hsw : isHouse h8 = true → IntKind.i64.wrap ((h8.2.2.2.1.length : Int) - (free h8.2.2.2.1 : Int)) = ((shown h8).length : Int) := by
    intro hi
    have := shown_len hi
    rw [w64 (by omega) (by omega)]; omega
  have hfit : fit (shown h8) := by
    have := List.length_filterMap_le (fun q : TFind × Nat => if decide (0 ≤ slotW h8.2.2.2.1 q.1.1.1) = true then some q.1.1.1 else none) (h8.2.1.zipIdx 0)
    have h1 := k8.1
    simp only [List.length_zipIdx] at this
    unfold shown; omega
  have hst := newH_ok no l
  have hin := @shown_in h8
  have h19n := v19 (newH no l) hn3
  have h14n := v14 (newH no l) hn3
  rw [hsh] at h19n
  have hr : inR no 1 9 = (decide (1 ≤ no) && decide (no ≤ 9)) := rfl
  cases hi : isHouse (newH no l) with
  | true =>
    rw [hi] at hnew h14n
    rw [hi, hr] at hst
    simp only [if_true] at hnew
    have hst' := hst.symm
    simp only [Bool.and_eq_true, decide_eq_true_eq] at hst'
    obtain ⟨⟨⟨n1, n2⟩, ns⟩, nf⟩ := hst'
    cases hj : isHouse h8 with
    | false =>
      simp only [B4, bv_bnd, bv_ite, bv_ret, v12, Option.bind_some, hb, decide_false, Bool.false_eq_true, if_false, e27, hnew, v29 l (by omega), v30 l (by omega), h19n, h14n, e31, e32, e33, v19 _ k8, v14 _ k8, hj, e24, e1, e2, e3, ns, nf, ge_iff_le, n1, n2, decide_true, if_true]
      cases there <;> simp
      exact h24 rfl
    | true =>
      have hin' := hin hj
      have hsw' := hsw hj
      simp only [B4, bv_bnd, bv_ite, bv_ret, v12, Option.bind_some, hb, decide_false, Bool.false_eq_true, if_false, e27, hnew, v29 l (by omega), v30 l (by omega), h19n, h14n, e31, e32, e33, v19 _ k8, v14 _ k8, hj, v20 _ _ (show h8.2.2.2.2.2.2.1.length ≤ 100000 by omega), v18 _ _ hfit, v30 _ (show fit h8.2.2.2.1 by omega), e24, e1, e2, e3, ns, nf, ge_iff_le, n1, n2, decide_true, if_true, ← hin', hsw']
      cases there <;> simp
      exact h24 rfl
  | false =>
    rw [hi] at hnew
    rw [hi, hr] at hst
    simp only [Bool.false_eq_true, if_false] at hnew
    cases hj : isHouse h8 with
    | false =>
      simp only [B4, bv_bnd, bv_ite, bv_ret, v12, Option.bind_some, hb, decide_false, Bool.false_eq_true, if_false, e27, hnew, v29 l (by omega), v30 l (by omega), e31, e32, e33, v19 _ k8, v14 _ k8, hj, e24, e1, e2, e3, ge_iff_le]
      grind [wrap1, wrapm]
    | true =>
      have hin' := hin hj
      have hsw' := hsw hj
      simp only [B4, bv_bnd, bv_ite, bv_ret, v12, Option.bind_some, hb, decide_false, Bool.false_eq_true, if_false, e27, hnew, v29 l (by omega), v30 l (by omega), e31, e32, e33, v19 _ k8, v14 _ k8, hj, v20 _ _ (show h8.2.2.2.2.2.2.1.length ≤ 100000 by omega), v18 _ _ hfit, v30 _ (show fit h8.2.2.2.1 by omega), e24, e1, e2, e3, ge_iff_le, ← hin', hsw']
      grind [wrap1, wrapm]
end Go.Am
