import Derived.Test.YtomeklcamolijaaGreatAm2
import Derived.Laws.Append
/- The symbolic machine: places, parts, new memory. -/
set_option linter.unusedVariables false
set_option linter.unusedSimpArgs false
namespace Go.Am
open Go Go.RowKit

section
variable {P : Program} {C : Ctx} {w0 : World} {S A : Nat → Prop} {κ : Kap} {h hr : Heap} {w : World}

theorem offT_sound {O : Nat → Prop} {p : T} {v : Value} {n : Nat} {t : T} (hp : RepT w O κ p v) (ht : offT p n = some t) :
    ∃ b o, v = .pointer (some ⟨b, o, none⟩) ∧ RepT w O κ t (.pointer (some ⟨b, o + n, none⟩)) := by
  cases p <;> simp only [offT] at ht <;> try (cases ht; done)
  all_goals
    injection ht with ht; subst ht
    simp only [RepT] at hp
  · obtain ⟨hv, b, h1, rfl⟩ := hp
    exact ⟨b, _, rfl, by simp only [RepT]; exact ⟨hv, b, h1, rfl⟩⟩
  · obtain ⟨L, m, c, b, h1, h2, rfl⟩ := hp
    exact ⟨b, _, rfl, by simp only [RepT]; exact ⟨L, m, c, b, h1, h2, by rw [Nat.add_assoc]⟩⟩
  · obtain ⟨b, o, vs, rfl, h1⟩ := hp
    exact ⟨b, _, rfl, by simp only [RepT]; exact ⟨b, o, vs, by rw [Nat.add_assoc], h1⟩⟩

theorem fieldAddr_sound (hC : CtxOk P C) (H : HSim w0 S A κ h w) {t : Nat} {p : T} {v : Value} {f : Nat} (hp : RepT w (OO A κ h) κ p v) {base : Nat} {Q : Eff → Prop} (hq : (fieldAddrT C t p f).wp Q) :
    Res1 P w0 S A κ h w base Q fun d z w' h' κ' => RepT w' (OO A κ' h') κ' d z ∧ (Instr.fieldAt t v f).run P w = .ok z w' := by
  unfold fieldAddrT at hq
  split at hq
  · rename_i i hi
    split at hq
    · rename_i fs hk
      split at hq
      · rename_i off ft hf
        split at hq
        · rename_i j hj
          split at hq
          · exact hq.elim
          · rename_i hne
            split at hq
            · rename_i r hr'
              obtain ⟨b, o, rfl, h2⟩ := offT_sound hp hr'
              obtain ⟨gs, h3, h4⟩ := hC.struct hi hk
              subst h4
              refine Res1.same H hq ⟨h2, ?_⟩
              simp only [List.getElem?_map, Option.map_eq_some_iff] at hf
              obtain ⟨g, hg, hgf⟩ := hf
              simp only [Prod.mk.injEq] at hgf
              obtain ⟨rfl, rfl⟩ := hgf
              have hg' : gs[f]? = some g := by simpa using hg
              simp only [Instr.fieldAt, Sem.run_bind, run_underlying h3, Result.andThen_ok, hg', Instr.sureAddr, Sem.run_pure, fieldPlace, hC.size hj, if_neg hne, addr_add]
            · exact hq.elim
        · exact hq.elim
      · exact hq.elim
    · exact hq.elim
  · exact hq.elim

theorem run_part (hC : CtxOk P C) {t : Nat} {i : TI} (hi : C.ti t = some i) (hsz : (i.isAgg || i.size == 1) = true) {O : Nat → Prop} {cs : List T} {vs : List Value} {off : Nat} (hl : off + i.size ≤ vs.length)
    (hr : RepTs w O κ cs vs) : ∃ v, (part t vs.toArray off).run P w = .ok v w ∧ RepT w O κ (oneOr i.isAgg ((cs.drop off).take i.size)) v := by
  unfold part
  simp only [Sem.run_bind, hC.agg hi, Result.andThen_ok]
  by_cases ha : i.isAgg = true
  · simp only [ha, if_true, Sem.run_bind, hC.size hi, Result.andThen_ok, Sem.run_pure]
    refine ⟨_, rfl, ?_⟩
    simp only [oneOr, if_true, RepT]
    refine ⟨(vs.drop off).take i.size, ?_, (hr.drop off).take i.size⟩
    congr 1
    apply Array.ext'
    simp [Array.toList_extract, List.extract_eq_take_drop, List.drop_take]
  · have h1 : i.size = 1 := by simpa [ha] using hsz
    have hf : i.isAgg = false := by simpa using ha
    have hlt : off < vs.length := by omega
    simp only [hf, Bool.false_eq_true, if_false]
    have hg : (vs.toArray)[off]? = some vs[off] := by simp [hlt]
    rw [hg]
    refine ⟨vs[off], rfl, ?_⟩
    have hd := (hr.drop off).take i.size
    rw [h1] at hd ⊢
    rw [List.drop_eq_getElem_cons hlt] at hd
    have hlc : off < cs.length := by rw [← hr.length]; exact hlt
    rw [List.drop_eq_getElem_cons hlc] at hd ⊢
    simp only [List.take_succ_cons, List.take_zero] at hd ⊢
    simp only [oneOr, Bool.false_eq_true, if_false, List.headD_cons]
    exact (RepTs.cons_iff.1 hd).1

theorem field_sound (hC : CtxOk P C) {O : Nat → Prop} {t : Nat} {p : T} {v : Value} {f : Nat} (hp : RepT w O κ p v) {Q : T → Prop} (hq : (fieldT C t p f).wp Q) :
    ∃ r z, Q r ∧ RepT w O κ r z ∧ (Instr.field t v f).run P w = .ok z w := by
  unfold fieldT at hq
  split at hq
  · rename_i i hi
    split at hq
    · rename_i fs cs hk
      split at hq
      · rename_i off ft hf
        split at hq
        · rename_i j hj
          split at hq
          · rename_i hck
            simp only [RepT] at hp
            obtain ⟨vs, rfl, hvs⟩ := hp
            obtain ⟨gs, h3, h4⟩ := hC.struct hi hk
            subst h4
            simp only [List.getElem?_map, Option.map_eq_some_iff] at hf
            obtain ⟨g, hg, hgf⟩ := hf
            simp only [Prod.mk.injEq] at hgf
            obtain ⟨rfl, rfl⟩ := hgf
            have hg' : gs[f]? = some g := by simpa using hg
            obtain ⟨z, h5, h6⟩ := run_part hC hj hck.2 (by rw [hvs.length]; exact hck.1) hvs
            refine ⟨_, z, hq, h6, ?_⟩
            simp only [Instr.field, Sem.run_bind, run_underlying h3, Result.andThen_ok, hg', asAgg, Sem.run_pure, h5]
          · exact hq.elim
        · exact hq.elim
      · exact hq.elim
    · exact hq.elim
  · exact hq.elim

theorem index_sound (hC : CtxOk P C) {O : Nat → Prop} {t : Nat} {x ix : T} {v u : Value} (hx : RepT w O κ x v) (hi : RepT w O κ ix u) {Q : T → Prop} (hq : (indexT C t x ix).wp Q) :
    ∃ r z, Q r ∧ RepT w O κ r z ∧ (Instr.index t v u).run P w = .ok z w := by
  unfold indexT at hq
  split at hq
  · rename_i i hti
    split at hq
    · rename_i s k n hk
      simp only [RepT] at hx hi; subst hx; subst hi
      obtain ⟨hb, hq⟩ := DT.wp_guard hq
      have hb := of_decide_eq_true hb
      refine ⟨_, .int .u8 (sAt s n), hq, by simp [RepT], ?_⟩
      have hlt : n.toNat < s.size := by omega
      have hg : s[n.toNat]? = some (s[n.toNat]'hlt) := by simp [hlt]
      simp only [Instr.index, asIntOf, Sem.run_bind, Sem.run_pure, Result.andThen_ok, run_underlying (hC.str hti hk), if_pos hb.1, hg]
      congr 2
      unfold sAt
      have : (s.data.toList.getD n.toNat 0) = s[n.toNat]'hlt := by
        have hl : n.toNat < s.data.toList.length := by simpa using hlt
        rw [List.getD_eq_getElem?_getD, List.getElem?_eq_getElem hl]
        rfl
      rw [this]
    · exact hq.elim
  · exact hq.elim

theorem conv_sound (hC : CtxOk P C) {O : Nat → Prop} {s d : Nat} {x : T} {v : Value} (hx : RepT w O κ x v) {Q : T → Prop} (hq : (convT C s d x).wp Q) :
    ∃ r z, Q r ∧ RepT w O κ r z ∧ (convert s d v).run P w = .ok z w := by
  unfold convT at hq
  split at hq
  · rename_i i j hi hj
    split at hq
    · rename_i k k' n hk
      simp only [RepT] at hx; subst hx
      obtain ⟨_, ds, _, h2, _⟩ := hC.info hi
      refine ⟨_, .int k (k.wrap n), hq, by simp [RepT], ?_⟩
      simp [convert, run_underlying h2, run_underlying (hC.int hj hk), Conv.intToInt]
    · rename_i z hk hk2
      simp only [RepT] at hx; subst hx
      refine ⟨_, .string z, hq, by simp [RepT], ?_⟩
      simp [convert, run_underlying (hC.str hi hk), run_underlying (hC.str hj hk2)]
    · exact hq.elim
  · exact hq.elim

theorem elemT_sound (hC : CtxOk P C) {t : Nat} {j : TI} (hj : elemT C t = some j) : ∃ el, P.underlying t = some (.slice el) ∧ C.ti el = some j := by
  unfold elemT at hj
  split at hj
  · rename_i i hi
    split at hj
    · rename_i el hk
      exact ⟨el, hC.slice hi hk, hj⟩
    · cases hj
  · cases hj

theorem indexAddr_sound (hC : CtxOk P C) (H : HSim w0 S A κ h w) (hs : Sub hr h) {t : Nat} {x ix : T} {v u : Value} (hx : RepT w (OO A κ h) κ x v) (hi : RepT w (OO A κ h) κ ix u) {base : Nat} {Q : Eff → Prop}
    (hq : (indexAddrT C hr t x ix).wp Q) :
    Res1 P w0 S A κ h w base Q fun d z w' h' κ' => RepT w' (OO A κ' h') κ' d z ∧ (Instr.indexAt t v u).run P w = .ok z w' := by
  unfold indexAddrT at hq
  split at hq
  · rename_i k n
    simp only [RepT] at hi; subst hi
    -- the run at a slice
    have run : ∀ {j : TI} {L : Option Addr} {len cap b off : Nat}, elemT C t = some j → v = .slice L len cap → L = some ⟨b, off, none⟩ → 0 ≤ n ∧ n < (len : Int) →
        (Instr.indexAt t v (.int k n)).run P w = .ok (.pointer (some ⟨b, off + n.toNat * j.size, none⟩)) w := by
      intro j L len cap b off hj hv hL hn
      obtain ⟨el, h1, h2⟩ := elemT_sound hC hj
      subst hv; subst hL
      simp only [Instr.indexAt, asIntOf, Sem.run_bind, Sem.run_pure, Result.andThen_ok, run_underlying h1, if_pos hn, hC.size h2, addr_add, Sem.run_ite]
    have runro : ∀ {j : TI} {e : Ty} {xs : List e.X}, elemT C t = some j → j.size = e.size → RoX w (OO A κ h) (.sl e) xs [v] → 0 ≤ n ∧ n < (xs.length : Int) →
        ∃ z, RepT w (OO A κ h) κ (.pro (enc e (xs.getD n.toNat e.dflt)) 0) z ∧ (Instr.indexAt t v (.int k n)).run P w = .ok z w := by
      intro j e xs hj hsz hro hn
      obtain ⟨L, c, h1, h2, h3⟩ := hro
      injection h1 with h1
      have hne : xs ≠ [] := fun e' => by rw [e'] at hn; simp at hn; omega
      obtain ⟨b, off, hL, hb, ho, hcell⟩ := h3 hne
      have hlt : n.toNat < xs.length := by omega
      obtain ⟨us, h4, h5, h6⟩ := hcell n.toNat _ (getD_of_lt (d := e.dflt) hlt)
      refine ⟨_, ?_, run hj h1 hL hn⟩
      simp only [RepT]
      exact ⟨b, off + n.toNat * j.size, us, rfl, hb, ho, RoX.rep _ _ _ h4, fun q y hy => by rw [hsz, Nat.add_assoc]; exact h6 q y hy⟩
    cases x with
    | ro e xs =>
      simp only at hq
      split at hq
      · rename_i j hj
        split at hq
        · rename_i hsz
          obtain ⟨hb, hq⟩ := DT.wp_guard hq
          simp only [RepT] at hx
          obtain ⟨z, h1, h2⟩ := runro hj hsz hx (of_decide_eq_true hb)
          exact Res1.same H hq ⟨h1, h2⟩
        · exact hq.elim
      · exact hq.elim
    | ow id =>
      simp only at hq
      split at hq
      · rename_i j hj
        simp only [RepT] at hx
        obtain ⟨ob, hx⟩ := hx
        cases hb : hr id with
        | row e xs =>
          simp only [hb] at hq
          have hb' := hs.get hb (by simp)
          split at hq
          · rename_i hsz
            obtain ⟨hn, hq⟩ := DT.wp_guard hq
            have hn := of_decide_eq_true hn
            have hrep := H.rep id
            rw [hb'] at hrep
            rcases hrep with ⟨rfl, _⟩ | ⟨b, cap, vs, et, h1, h2, _⟩
            · simp at hn; omega
            · rw [hx] at h1
              injection h1 with h1; injection h1 with h1 h1'; subst h1'
              refine Res1.same H hq ⟨?_, run hj h1 rfl hn⟩
              simp only [RepT]
              exact ⟨some ⟨b, 0, none⟩, xs.length, cap, b, by rw [hx, h1], by omega, by rw [hsz]; simp⟩
          · exact hq.elim
        | fro e xs =>
          simp only [hb] at hq
          have hb' := hs.get hb (by simp)
          split at hq
          · rename_i hsz
            obtain ⟨hn, hq⟩ := DT.wp_guard hq
            have hrep := H.rep id
            rw [hb'] at hrep
            obtain ⟨v', ob', h1, h2⟩ := hrep
            rw [hx] at h1
            injection h1 with h1; injection h1 with h1 _; subst h1
            obtain ⟨z, h3, h4⟩ := runro hj hsz h2 (of_decide_eq_true hn)
            exact Res1.same H hq ⟨h3, h4⟩
          · exact hq.elim
        | _ => simp only [hb] at hq; exact hq.elim
      · exact hq.elim
    | ptr id off =>
      cases off with
      | succ m => exact hq.elim
      | zero =>
      simp only at hq
      split at hq
      · rename_i i hti
        split at hq
        · rename_i len el hk
          split at hq
          · rename_i j hj
            split at hq
            · rename_i hsz
              obtain ⟨hn, hq⟩ := DT.wp_guard hq
              have hn := of_decide_eq_true hn
              simp only [RepT] at hx
              obtain ⟨hv, b, h1, rfl⟩ := hx
              refine Res1.same H hq ⟨?_, ?_⟩ (v := .pointer (some ⟨b, n.toNat, none⟩))
              · simp only [RepT]; exact ⟨hv, b, h1, by omega, rfl⟩
              · simp only [Instr.indexAt, asIntOf, Sem.run_bind, Sem.run_pure, Result.andThen_ok, run_underlying (hC.array hti hk), Instr.sureAddr, if_pos hn, hC.size hj, addr_add, Sem.run_ite, hsz]
                simp
            · exact hq.elim
          · exact hq.elim
        · exact hq.elim
      · exact hq.elim
    | _ => exact hq.elim
  · exact hq.elim
end
end Go.Am

/- The symbolic machine: slices' parts, new memory. -/
set_option linter.unusedVariables false
set_option linter.unusedSimpArgs false
namespace Go.Am
open Go Go.RowKit

section
variable {P : Program} {C : Ctx} {w0 : World} {S A : Nat → Prop} {κ : Kap} {h hr : Heap} {w : World}

/-- an optional bound: its number, its run -/
theorem optInt_run {O : Nat → Prop} {t : Option T} {v : Option Value} {d n : Int} (hv : match t, v with | none, none => True | some t, some v => RepT w O κ t v | _, _ => False) (ho : optInt t d = some n) :
    (t = none ∧ v = none ∧ n = d) ∨ ∃ k, v = some (.int k n) := by
  cases t with
  | none =>
    cases v with
    | none => simp only [optInt, Option.some.injEq] at ho; exact .inl ⟨rfl, rfl, ho.symm⟩
    | some v => exact hv.elim
  | some t =>
    cases v with
    | none => exact hv.elim
    | some v =>
      cases t <;> simp only [optInt] at ho <;> try (cases ho; done)
      injection ho with ho; subst ho
      simp only [RepT] at hv
      exact .inr ⟨_, by rw [hv]⟩

/-- an option of a value stands for an option -/
def RepO (w : World) (O : Nat → Prop) (κ : Kap) : Option T → Option Value → Prop
  | none, none => True
  | some t, some v => RepT w O κ t v
  | _, _ => False

theorem sliceBound_run {k : IntKind} {n : Int} {y : Nat} {code : BoundsCode} (h : 0 ≤ n ∧ n ≤ (y : Int)) : (Instr.sliceBound (.int k n) y code).run P w = .ok n.toNat w := by
  simp [Instr.sliceBound, asIntOf, h]

theorem bounds_run {O : Nat → Prop} {isSl : Bool} {len cap : Nat} {lo hi : Option T} {vlo vhi : Option Value} {l r : Int} (hlo : RepO w O κ lo vlo) (hhi : RepO w O κ hi vhi)
    (h1 : optInt lo 0 = some l) (h2 : optInt hi len = some r) (hb : 0 ≤ l ∧ l ≤ r ∧ r ≤ (len : Int)) (hc : len ≤ cap) :
    (Instr.sliceBounds isSl len cap vlo vhi none).run P w = .ok (l.toNat, r.toNat, cap) w := by
  have e1 := optInt_run (w := w) (O := O) (κ := κ) (t := lo) (v := vlo) (by cases lo <;> cases vlo <;> exact hlo) h1
  have e2 := optInt_run (w := w) (O := O) (κ := κ) (t := hi) (v := vhi) (by cases hi <;> cases vhi <;> exact hhi) h2
  unfold Instr.sliceBounds
  rcases e1 with ⟨_, rfl, rfl⟩ | ⟨k1, rfl⟩ <;> rcases e2 with ⟨_, rfl, rfl⟩ | ⟨k2, rfl⟩
  · simp
  · simp [sliceBound_run (show 0 ≤ r ∧ r ≤ (cap : Int) by omega)]
  · simp [sliceBound_run (show 0 ≤ l ∧ l ≤ (len : Int) by omega)]
  · simp [sliceBound_run (show 0 ≤ r ∧ r ≤ (cap : Int) by omega), sliceBound_run (show 0 ≤ l ∧ l ≤ (r.toNat : Int) by omega)]

theorem litZero_run {O : Nat → Prop} {len cap : Nat} {lo hi mx : Option T} {vlo vhi vmx : Option Value} (hlo : RepO w O κ lo vlo) (hhi : RepO w O κ hi vhi) (hmx : RepO w O κ mx vmx) (hz : litZero lo hi mx = true) :
    (Instr.sliceBounds true len cap vlo vhi vmx).run P w = .ok (0, 0, 0) w := by
  unfold litZero at hz
  split at hz
  · have hz := of_decide_eq_true hz
    obtain ⟨rfl, rfl⟩ := hz
    cases vlo with
    | some _ => exact hlo.elim
    | none =>
    cases vhi with
    | none => exact hhi.elim
    | some vh =>
    cases vmx with
    | none => exact hmx.elim
    | some vm =>
    simp only [RepO, RepT] at hhi hmx; subst hhi; subst hmx
    simp [Instr.sliceBounds, sliceBound_run]
  · have hz := of_decide_eq_true hz
    obtain ⟨rfl, rfl, rfl⟩ := hz
    cases vlo with
    | none => exact hlo.elim
    | some vl =>
    cases vhi with
    | none => exact hhi.elim
    | some vh =>
    cases vmx with
    | none => exact hmx.elim
    | some vm =>
    simp only [RepO, RepT] at hlo hhi hmx; subst hlo; subst hhi; subst hmx
    simp [Instr.sliceBounds, sliceBound_run]
  · cases hz

theorem getElem?_part {α : Type} (xs : List α) (l r i : Nat) : ((xs.take r).drop l)[i]? = if l + i < r then xs[l + i]? else none := by
  rw [List.getElem?_drop, List.getElem?_take]

/-- a part of a slice that is read -/
theorem part_ro {O : Nat → Prop} {e : Ty} {xs : List e.X} {L : Option Addr} {c l r : Nat} (hr : RoX w O (.sl e) xs [.slice L xs.length c]) (hl : l ≤ r) (hrl : r ≤ xs.length) :
    RoX w O (.sl e) ((xs.take r).drop l) [.slice (if c = l then L else L.map (·.add (l * e.size))) (r - l) (c - l)] := by
  obtain ⟨L', c', h1, h2, h3⟩ := hr
  injection h1 with h1
  injection h1 with h4 h5 h6
  subst h4; subst h6
  refine ⟨_, _, by rw [List.length_drop, List.length_take, Nat.min_eq_left hrl], ?_, fun hne => ?_⟩
  · rw [List.length_drop, List.length_take, Nat.min_eq_left hrl]; omega
  · have hlt : l < r := by
      rcases Nat.lt_or_ge l r with hlt | hge
      · exact hlt
      · exfalso; apply hne; apply List.eq_nil_of_length_eq_zero; rw [List.length_drop, List.length_take, Nat.min_eq_left hrl]; omega
    have hxs : xs ≠ [] := fun e' => by rw [e'] at hrl; simp at hrl; omega
    obtain ⟨b, off, hL, hb, ho, hc⟩ := h3 hxs
    refine ⟨b, off + l * e.size, by rw [if_neg (by omega), hL]; simp [addr_add], hb, ho, fun i x hi => ?_⟩
    have hi2 := getElem?_part xs l r i
    rw [hi2] at hi
    by_cases hlr : l + i < r
    · rw [if_pos hlr] at hi
      obtain ⟨us, h7, h8, h9⟩ := hc (l + i) x hi
      refine ⟨us, h7, h8, fun j u hj => ?_⟩
      have := h9 j u hj
      rw [Nat.add_mul] at this
      rw [show off + l * e.size + (i * e.size + j) = off + (l * e.size + i * e.size + j) by omega]; exact this
    · rw [if_neg hlr] at hi; cases hi

theorem slice_sound (hC : CtxOk P C) (H : HSim w0 S A κ h w) (hs : Sub hr h) {t : Nat} {x : T} {lo hi mx : Option T} {v : Value} {vlo vhi vmx : Option Value} (hx : RepT w (OO A κ h) κ x v)
    (hlo : RepO w (OO A κ h) κ lo vlo) (hhi : RepO w (OO A κ h) κ hi vhi) (hmx : RepO w (OO A κ h) κ mx vmx) {base : Nat} {Q : Eff → Prop} (hq : (sliceT C hr t x lo hi mx).wp Q) :
    Res1 P w0 S A κ h w base Q fun d z w' h' κ' => RepT w' (OO A κ' h') κ' d z ∧ (Instr.sliceAt t v vlo vhi vmx).run P w = .ok z w' := by
  have zero : ∀ {j : TI} {L : Option Addr} {len cap : Nat}, elemT C t = some j → v = .slice L len cap → litZero lo hi mx = true →
      ∃ L', (Instr.sliceAt t v vlo vhi vmx).run P w = .ok (.slice L' 0 0) w := by
    intro j L len cap hj hv hz
    obtain ⟨el, h1, h2⟩ := elemT_sound hC hj
    subst hv
    simp only [Instr.sliceAt, Instr.slice, Sem.run_bind, run_underlying h1, Result.andThen_ok, litZero_run hlo hhi hmx hz, hC.size h2, Sem.run_pure]
    exact ⟨_, rfl⟩
  have part : ∀ {j : TI} {e : Ty} {xs : List e.X} {L : Option Addr} {cap : Nat} {l r : Int}, elemT C t = some j → j.size = e.size → v = .slice L xs.length cap → xs.length ≤ cap → mx = none →
      optInt lo 0 = some l → optInt hi xs.length = some r → 0 ≤ l ∧ l ≤ r ∧ r ≤ (xs.length : Int) →
      (Instr.sliceAt t v vlo vhi vmx).run P w = .ok (.slice (if cap = l.toNat then L else L.map (·.add (l.toNat * e.size))) (r.toNat - l.toNat) (cap - l.toNat)) w := by
    intro j e xs L cap l r hj hsz hv hcap hm h1 h2 hb
    obtain ⟨el, h3, h4⟩ := elemT_sound hC hj
    subst hv; subst hm
    cases vmx with
    | some _ => exact hmx.elim
    | none =>
    simp only [Instr.sliceAt, Instr.slice, Sem.run_bind, run_underlying h3, Result.andThen_ok, bounds_run hlo hhi h1 h2 hb hcap, hC.size h4, Sem.run_pure, hsz]
  unfold sliceT at hq
  cases x with
  | str s =>
    simp only at hq
    split at hq
    · rename_i o i hti
      split at hq
      · rename_i l r hk h1 h2
        obtain ⟨hb, hq⟩ := DT.wp_guard hq
        have hb := of_decide_eq_true hb
        simp only [RepT] at hx; subst hx
        cases vmx with
        | some _ => exact hmx.elim
        | none =>
        refine Res1.same H hq ⟨by simp only [RepT]; rfl, ?_⟩
        simp only [Instr.sliceAt, Instr.slice, Sem.run_bind, run_underlying (hC.str hti hk), Result.andThen_ok, Option.isSome_none, Bool.false_eq_true, if_false, Sem.run_pure, bounds_run hlo hhi h1 h2 hb (Nat.le_refl _)]
      · exact hq.elim
    · exact hq.elim
  | ro e xs =>
    simp only at hq
    split at hq
    · rename_i j hj
      split at hq
      · rename_i hsz
        simp only [RepT] at hx
        have hx0 := hx
        obtain ⟨L, c, h1, h2, h3⟩ := hx
        injection h1 with h1
        unfold partT at hq
        split at hq
        · split at hq
          · rename_i l r hl hr'
            obtain ⟨hb, hq⟩ := DT.wp_guard hq
            have hb := of_decide_eq_true hb
            refine Res1.same H hq ⟨?_, part hj hsz h1 h2 rfl hl hr' hb⟩
            simp only [RepT]
            rw [h1] at hx0
            exact part_ro hx0 (by omega) (by omega)
          · exact hq.elim
        · split at hq
          · rename_i hz
            obtain ⟨L', hz'⟩ := zero hj h1 hz
            exact Res1.same H hq ⟨by simp only [RepT]; exact ⟨L', rfl⟩, hz'⟩
          · exact hq.elim
      · exact hq.elim
    · exact hq.elim
  | ow id =>
    simp only at hq
    split at hq
    · rename_i j hj
      simp only [RepT] at hx
      obtain ⟨ob, hx⟩ := hx
      cases hb : hr id with
      | row e xs =>
        simp only [hb] at hq
        have hb' := hs.get hb (by simp)
        split at hq
        · rename_i hsz
          obtain ⟨H1, hx1⟩ := H.freeze hs [id]
          have hrep := H1.rep id
          rw [updAll_fz (by simp), hb] at hrep
          obtain ⟨v', ob', h1, h2⟩ := hrep
          rw [hx] at h1
          injection h1 with h1; injection h1 with h1 _; subst h1
          have h20 := h2
          obtain ⟨L, c, h3, h4, h5⟩ := h2
          injection h3 with h3
          unfold partT at hq
          split at hq
          · split at hq
            · rename_i l r hl hr'
              obtain ⟨hb2, hq⟩ := DT.wp_guard hq
              have hb2 := of_decide_eq_true hb2
              refine ⟨_, κ, w, _, hq, H1, hx1, κ.le_refl, fun _ hid => .inl hid, ?_, part hj hsz h3 h4 rfl hl hr' hb2⟩
              simp only [RepT]
              rw [h3] at h20
              exact part_ro h20 (by omega) (by omega)
            · exact hq.elim
          · split at hq
            · rename_i hz
              obtain ⟨L', hz'⟩ := zero hj h3 hz
              exact Res1.same H hq ⟨by simp only [RepT]; exact ⟨L', rfl⟩, hz'⟩
            · exact hq.elim
        · exact hq.elim
      | fro e xs =>
        simp only [hb] at hq
        have hb' := hs.get hb (by simp)
        split at hq
        · rename_i hsz
          have hrep := H.rep id
          rw [hb'] at hrep
          obtain ⟨v', ob', h1, h2⟩ := hrep
          rw [hx] at h1
          injection h1 with h1; injection h1 with h1 _; subst h1
          have h20 := h2
          obtain ⟨L, c, h3, h4, h5⟩ := h2
          injection h3 with h3
          unfold partT at hq
          split at hq
          · split at hq
            · rename_i l r hl hr'
              obtain ⟨hb2, hq⟩ := DT.wp_guard hq
              have hb2 := of_decide_eq_true hb2
              refine Res1.same H hq ⟨?_, part hj hsz h3 h4 rfl hl hr' hb2⟩
              simp only [RepT]
              rw [h3] at h20
              exact part_ro h20 (by omega) (by omega)
            · exact hq.elim
          · split at hq
            · rename_i hz
              obtain ⟨L', hz'⟩ := zero hj h3 hz
              exact Res1.same H hq ⟨by simp only [RepT]; exact ⟨L', rfl⟩, hz'⟩
            · exact hq.elim
        · exact hq.elim
      | _ => simp only [hb] at hq; exact hq.elim
    · exact hq.elim
  | z =>
    simp only at hq
    simp only [RepT] at hx
    obtain ⟨L, hx⟩ := hx
    split at hq
    · rename_i j hj
      split at hq
      · split at hq
        · cases vlo with
          | some _ => exact hlo.elim
          | none =>
          cases vhi with
          | some _ => exact hhi.elim
          | none =>
          cases vmx with
          | some _ => exact hmx.elim
          | none =>
          obtain ⟨el, h3, h4⟩ := elemT_sound hC hj
          subst hx
          refine Res1.same H hq ⟨by simp only [RepT]; exact ⟨_, rfl⟩, ?_⟩ (v := .slice L 0 0)
          simp [Instr.sliceAt, Instr.slice, run_underlying h3, Instr.sliceBounds, hC.size h4]
        · exact hq.elim
      · split at hq
        · rename_i hz
          obtain ⟨L', hz'⟩ := zero hj hx hz
          exact Res1.same H hq ⟨by simp only [RepT]; exact ⟨L', rfl⟩, hz'⟩
        · exact hq.elim
    · exact hq.elim
  | _ => exact hq.elim

theorem len_sound (H : HSim w0 S A κ h w) (hs : Sub hr h) {x : T} {v : Value} {n : Int} (hx : RepT w (OO A κ h) κ x v) (hn : lenT hr x = some n) : (∃ s, v = .string s ∧ n = s.size) ∨ ∃ L m c, v = .slice L m c ∧ n = m := by
  unfold lenT at hn
  cases x with
  | str s => simp only [Option.some.injEq] at hn; simp only [RepT] at hx; exact .inl ⟨s, hx, hn.symm⟩
  | ro e xs =>
    simp only [Option.some.injEq] at hn
    simp only [RepT] at hx
    obtain ⟨L, c, h1, _⟩ := hx
    injection h1 with h1
    exact .inr ⟨L, _, c, h1, hn.symm⟩
  | z =>
    simp only [Option.some.injEq] at hn
    simp only [RepT] at hx
    obtain ⟨L, rfl⟩ := hx
    exact .inr ⟨L, 0, 0, rfl, by simpa using hn.symm⟩
  | ow id =>
    simp only [RepT] at hx
    obtain ⟨ob, hx⟩ := hx
    simp only at hn
    have hrep := H.rep id
    cases hb : hr id with
    | row e xs =>
      simp only [hb, Option.some.injEq] at hn
      rw [hs.get hb (by simp)] at hrep
      rcases hrep with ⟨rfl, L, h1⟩ | ⟨b, cap, vs, et, h1, _⟩
      · rw [hx] at h1; injection h1 with h1; injection h1 with h1 _
        exact .inr ⟨_, _, _, h1, by simpa using hn.symm⟩
      · rw [hx] at h1; injection h1 with h1; injection h1 with h1 _
        exact .inr ⟨_, _, _, h1, hn.symm⟩
    | fro e xs =>
      simp only [hb, Option.some.injEq] at hn
      rw [hs.get hb (by simp)] at hrep
      obtain ⟨v', ob', h1, L, c, h2, _⟩ := hrep
      rw [hx] at h1; injection h1 with h1; injection h1 with h1 _; subst h1
      injection h2 with h2
      exact .inr ⟨_, _, _, h2, hn.symm⟩
    | _ => simp [hb] at hn
  | _ => cases hn
end
end Go.Am

/- The symbolic machine: what is made anew. -/
set_option linter.unusedVariables false
set_option linter.unusedSimpArgs false
namespace Go.Am
open Go Go.RowKit

theorem fold_set (off : Nat) : ∀ (l : List Value) (k : Nat) (vs : List Value), off + k + l.length ≤ vs.length →
    (l.zipIdx k).foldl (fun cs p => cs.setIfInBounds (off + p.2) p.1) vs.toArray = (vs.take (off + k) ++ l ++ vs.drop (off + k + l.length)).toArray
  | [], k, vs, h => by simp
  | c :: l, k, vs, h => by
    simp only [List.zipIdx_cons, List.foldl_cons, List.length_cons] at h ⊢
    have hs : vs.toArray.setIfInBounds (off + k) c = (vs.set (off + k) c).toArray := by simp
    rw [hs, fold_set off l (k + 1) (vs.set (off + k) c) (by simp; omega)]
    congr 1
    apply List.ext_getElem?
    intro i
    have e1 := spl_get (vs.set (off + k) c) l (off + (k + 1)) (by simp; omega) i
    have e2 := spl_get vs (c :: l) (off + k) (by simp; omega) i
    simp only [List.length_cons] at e2
    rw [show off + k + (l.length + 1) = off + k + (l.length + 1) from rfl, e2, e1]
    by_cases c1 : i < off + k
    · rw [if_pos (by omega), if_pos c1, List.getElem?_set, if_neg (by omega)]
    · by_cases c2 : i = off + k
      · subst c2
        rw [if_pos (by omega), if_neg (by omega), if_pos (by omega), List.getElem?_set, if_pos rfl, if_pos (by omega)]
        simp
      · by_cases c3 : i < off + (k + 1) + l.length
        · rw [if_neg (by omega), if_pos c3, if_neg c1, if_pos (by omega)]
          rw [show i - (off + k) = (i - (off + (k + 1))) + 1 by omega, List.getElem?_cons_succ]
        · rw [if_neg (by omega), if_neg c3, if_neg c1, if_neg (by omega), List.getElem?_set, if_neg (by omega)]

section
variable {P : Program} {C : Ctx} {w0 : World} {S A : Nat → Prop} {κ : Kap} {h hr : Heap} {w : World}

theorem fill_sound {O : Nat → Prop} {pl : Nat → Option (Nat × Nat)} {pv : Nat → Option (Nat × Nat)} (hpl : ∀ i q, pl i = some q → pv i = some q) : ∀ {ps : List (Nat × T)} {qs : List (Nat × Value)} {cs : List T} {vs : List Value} {r : List T},
    RepTs w O κ cs vs → ps.map (·.1) = qs.map (·.1) → 
    (∀ (i : Nat) (p : Nat × T) (q : Nat × Value), ps[i]? = some p → qs[i]? = some q → RepTs w O κ p.2.cells q.2.cells.toList) → fillT pl cs ps = some r →
    ∃ us, Instr.fill pv vs.toArray qs = some (List.toArray us) ∧ RepTs w O κ r us := by
  intro ps
  induction ps with
  | nil =>
    intro qs cs vs r hr hm _ hf
    cases qs with
    | nil => simp only [fillT, Option.some.injEq] at hf; subst hf; exact ⟨vs, by simp [Instr.fill], hr⟩
    | cons _ _ => simp at hm
  | cons p ps ih =>
    intro qs cs vs r hr hm hp hf
    cases qs with
    | nil => simp at hm
    | cons q qs =>
      obtain ⟨i, t⟩ := p
      obtain ⟨i', v⟩ := q
      simp only [List.map_cons, List.cons.injEq] at hm
      obtain ⟨hi, hm⟩ := hm
      subst hi
      simp only [fillT] at hf
      cases hpi : pl i with
      | none => simp [hpi] at hf
      | some oq =>
        obtain ⟨off, size⟩ := oq
        simp only [hpi] at hf
        split at hf
        · rename_i hck
          have hc := hp 0 _ _ rfl rfl
          simp only at hc
          have hvl : v.cells.size = size := by have := hc.length; simpa [hck.1] using this
          have hl := hr.length
          have hsz : v.cells.toList.length = size := by simpa using hvl
          have hset : (v.cells.zipIdx.foldl (fun cs (c, j) => cs.setIfInBounds (off + j) c) vs.toArray) = (vs.take off ++ v.cells.toList ++ vs.drop (off + size)).toArray := by
            have e := fold_set off v.cells.toList 0 vs (by omega)
            simp only [Nat.add_zero, hsz] at e
            rw [← e, ← Array.foldl_toList, Array.toList_zipIdx]
          have hr' : RepTs w O κ (splice cs off t.cells) (vs.take off ++ v.cells.toList ++ vs.drop (off + size)) := by
            rw [splice_eq, hck.1]
            exact ((hr.take off).append hc).append (hr.drop _)
          obtain ⟨us, h1, h2⟩ := ih hr' hm (fun j p q hj hj' => hp (j + 1) p q hj hj') hf
          refine ⟨us, ?_, h2⟩
          simp only [Instr.fill, hpl _ _ hpi, hvl]
          rw [if_neg (by simp; omega), hset]
          exact h1
        · cases hf

theorem zero_of (hC : CtxOk P C) {t : Nat} {i : TI} (hi : C.ti t = some i) (hz : i.zero.length = i.size) (hp : 0 < i.size) :
    ∃ j z, P.info? t = some j ∧ j.zero = some z ∧ j.size = i.size ∧ j.bytes = i.bytes ∧ z.cells.size = i.size ∧ ∀ (w : World) (O : Nat → Prop) (κ : Kap), RepTs w O κ i.zero z.cells.toList := by
  obtain ⟨j, d, h1, h2, h3, h4, h5, h6, h7⟩ := hC.info hi
  cases hj : j.zero with
  | none => rw [h7 hj] at hz; simp at hz; omega
  | some z =>
    have := h6 z hj
    refine ⟨j, z, h1, hj, h3, h4, ?_, fun w O κ => by rw [this]; exact ofLeaves_rep _⟩
    rw [this] at hz; simpa using hz

theorem parts_reps {O : Nat → Prop} {a : Act} {rs : List T} (hr : Regs w O κ rs a.tmps) {ps : Array (Nat × Operand)} (H : HSim w0 S A κ h w) (hok : ∀ p ∈ ps.toList, (opv rs p.2).cells.all T.cellOk = true) :
    ∀ (i : Nat) (p : Nat × T) (q : Nat × Value), (ps.toList.map fun p => (p.1, opv rs p.2))[i]? = some p → ((ps.map fun (i, x) => (i, a.eval x)).toList)[i]? = some q → RepTs w O κ p.2.cells q.2.cells.toList := by
  intro i p q hp hq
  simp only [List.getElem?_map, Option.map_eq_some_iff] at hp
  obtain ⟨p', hp', rfl⟩ := hp
  have hq' : q = (p'.1, a.eval p'.2) := by
    simp only [Array.toList_map, List.getElem?_map, hp', Option.map_some, Option.some.injEq] at hq
    exact hq.symm
  subst hq'
  exact cells_rep H (opv_rep hr _) (hok p' (List.mem_of_getElem? hp'))

theorem build_sound (hC : CtxOk P C) (H : HSim w0 S A κ h w) {a : Act} {rs : List T} (hr : Regs w (OO A κ h) κ rs a.tmps) {t : Nat} {ps : Array (Nat × Operand)} (hok : ∀ p ∈ ps.toList, (opv rs p.2).cells.all T.cellOk = true)
    {Q : T → Prop} (hq : (buildT C t (ps.toList.map fun p => (p.1, opv rs p.2))).wp Q) :
    ∃ r z, Q r ∧ RepT w (OO A κ h) κ r z ∧ (Instr.build t (ps.map fun (i, x) => (i, a.eval x))).run P w = .ok z w := by
  have hmap : (ps.toList.map fun p => (p.1, opv rs p.2)).map (·.1) = ((ps.map fun (i, x) => (i, a.eval x)).toList).map (·.1) := by
    simp [List.map_map, Function.comp_def]
  unfold buildT at hq
  split at hq
  · rename_i i hi
    split at hq
    · rename_i hz
      obtain ⟨j, z, h1, h2, h3, h4, h5, h6⟩ := zero_of hC hi hz.1 hz.2
      split at hq
      · rename_i fs hk
        split at hq
        · rename_i hall
          split at hq
          · rename_i cs hf
            obtain ⟨gs, h7, h8⟩ := hC.struct hi hk
            have places : ∀ (l : List Field), (l.map fun f => (f.offset, f.type)).all (fun f => (C.ti f.2).isSome) = true →
                ∃ pl, l.mapM (fun f => (P.info? f.type).map fun i => (f.offset, i.size)) = some pl ∧ ∀ (k : Nat) q, (match (l.map fun f => (f.offset, f.type))[k]? with | some f => (sizeT C f.2).map fun s => (f.1, s) | none => none) = some q → pl[k]? = some q := by
              intro l
              induction l with
              | nil => intro _; exact ⟨[], by simp, fun k q hk => by simp at hk⟩
              | cons f l ih =>
                intro ha
                simp only [List.map_cons, List.all_cons, Bool.and_eq_true] at ha
                obtain ⟨x, hx⟩ := Option.isSome_iff_exists.1 ha.1
                obtain ⟨y, _, h9, _, h10, _⟩ := hC.info hx
                obtain ⟨pl, h11, h12⟩ := ih ha.2
                refine ⟨(f.offset, y.size) :: pl, by simp [List.mapM_cons, h9, h11], fun k q hk => ?_⟩
                cases k with
                | zero =>
                  simp only [List.map_cons, List.getElem?_cons_zero, sizeT, hx, Option.map_some, Option.some.injEq] at hk
                  simp [← hk, h10]
                | succ k =>
                  simp only [List.map_cons, List.getElem?_cons_succ] at hk ⊢
                  exact h12 k q hk
            obtain ⟨pl, h9, h10⟩ := places gs.toList (by rw [← h8]; exact hall)
            obtain ⟨us, h11, h12⟩ := fill_sound (pv := fun k => pl.toArray[k]?) (fun k q hk => by rw [h8] at hk; simpa using h10 k q hk) (h6 w _ κ) hmap (parts_reps hr H hok) hf
            refine ⟨_, .agg us.toArray, hq, by simp only [RepT]; exact ⟨us, rfl, h12⟩, ?_⟩
            refine run_build w t _ _ ?_
            unfold Program.built
            simp only [h1, h7, h2, h9]
            simpa using h11
          · exact hq.elim
        · exact hq.elim
      · rename_i n el hk
        split at hq
        · rename_i s hs
          split at hq
          · rename_i cs hf
            have h7 := hC.array hi hk
            unfold sizeT at hs
            cases hel : C.ti el with
            | none => simp [hel] at hs
            | some x =>
              obtain ⟨y, _, h9, _, h10, _⟩ := hC.info hel
              simp only [hel, Option.map_some, Option.some.injEq] at hs
              obtain ⟨us, h11, h12⟩ := fill_sound (pv := fun k => some (k * y.size, y.size)) (fun k q hk => by simp only [Option.some.injEq] at hk ⊢; rw [← hk, h10, hs]) (h6 w _ κ) hmap (parts_reps hr H hok) hf
              refine ⟨_, .agg us.toArray, hq, by simp only [RepT]; exact ⟨us, rfl, h12⟩, ?_⟩
              refine run_build w t _ _ ?_
              unfold Program.built
              simp only [h1, h7, h2, h9]
              simpa using h11
          · exact hq.elim
        · exact hq.elim
      · exact hq.elim
    · exact hq.elim
  · exact hq.elim

theorem repT_rep {O : Nat → Prop} {z : List T} {vs : List Value} (hz : RepTs w O κ z vs) : ∀ n, RepTs w O κ (repT z n) ((List.range (n * vs.length)).map fun i => vs.getD (i % vs.length) undef)
  | 0 => by simp [repT, RepTs]
  | n + 1 => by
    have ih := repT_rep hz n
    simp only [repT]
    have : ((List.range ((n + 1) * vs.length)).map fun i => vs.getD (i % vs.length) undef) = vs ++ ((List.range (n * vs.length)).map fun i => vs.getD (i % vs.length) undef) := by
      rw [show (n + 1) * vs.length = vs.length + n * vs.length by rw [Nat.add_mul]; omega, List.range_add, List.map_append, List.map_map]
      congr 1
      · apply List.ext_getElem?
        intro i
        rw [List.getElem?_map]
        by_cases hi : i < vs.length
        · rw [List.getElem?_range hi]
          simp [Nat.mod_eq_of_lt hi, List.getD_eq_getElem?_getD, List.getElem?_eq_getElem hi]
        · rw [List.getElem?_eq_none (by simp; omega), List.getElem?_eq_none (by omega)]; rfl
      · apply List.map_congr_left
        intro i _
        simp [Function.comp_def, Nat.add_mod_left]
    rw [this]
    exact RepTs.append hz ih

theorem zeros_list (z : Array Value) (n : Nat) (hz : 0 < z.size) : (((Array.range (n * z.size)).map (fun i => z[i % z.size]!)).toList) = (List.range (n * z.toList.length)).map fun i => z.toList.getD (i % z.toList.length) undef := by
  simp only [Array.toList_map, Array.toList_range, Array.length_toList]
  apply List.map_congr_left
  intro i _
  have hlt : i % z.size < z.size := Nat.mod_lt _ hz
  rw [getElem!_pos z _ hlt, List.getD_eq_getElem?_getD, Array.getElem?_toList, Array.getElem?_eq_getElem hlt]
  rfl

theorem elems_sound {O : Nat → Prop} {e : Ty} : ∀ {n : Nat} {cs : List T} {vs : List Value} {xs : List e.X}, RepTs w O κ cs vs → elemsOf e n cs = some xs →
    xs.length = n ∧ vs.length = n * e.size ∧ ∀ (i : Nat) (x : e.X), xs[i]? = some x → RoX w O e x ((vs.drop (i * e.size)).take e.size)
  | 0, cs, vs, xs, hr, he => by
    cases cs with
    | nil =>
      simp only [elemsOf, Option.some.injEq] at he; subst he
      simp only [RepTs] at hr; subst hr
      exact ⟨rfl, by simp, fun i x hi => by simp at hi⟩
    | cons _ _ => simp [elemsOf] at he
  | n + 1, cs, vs, xs, hr, he => by
    simp only [elemsOf] at he
    cases hd : dec e cs with
    | none => simp [hd] at he
    | some p =>
      obtain ⟨x, r⟩ := p
      simp only [hd] at he
      cases hr' : elemsOf e n r with
      | none => simp [hr'] at he
      | some ys =>
        simp only [hr', Option.map_some, Option.some.injEq] at he
        subst he
        obtain ⟨us, ws, rfl, h1, h2, h3, _⟩ := dec_ro e cs vs x r hr hd
        obtain ⟨h4, h5, h6⟩ := elems_sound h3 hr'
        refine ⟨by simp [h4], by simp [h1, h5, Nat.add_mul]; omega, fun i y hi => ?_⟩
        cases i with
        | zero =>
          simp only [List.getElem?_cons_zero, Option.some.injEq] at hi
          subst hi
          simp only [Nat.zero_mul, List.drop_zero]
          rw [← h1, List.take_left]; exact h2
        | succ i =>
          simp only [List.getElem?_cons_succ] at hi
          have := h6 i y hi
          rw [show (i + 1) * e.size = us.length + i * e.size by rw [h1, Nat.add_mul]; omega, ← List.drop_drop, List.drop_left]
          exact this

/-- a new row -/
theorem HSim.newRow {κ : Kap} {h : Heap} {w : World} (H : HSim w0 S A κ h w) {id : Nat} (hid : κ id = none) {e : Ty} {xs : List e.X} {vs : List Value} {cap : Nat} {et : TypeId} (hcap : xs.length ≤ cap) (hl : vs.length = cap * e.size)
    (hx : ∀ (i : Nat) (x : e.X), xs[i]? = some x → RoX w (OO A κ h) e x ((vs.drop (i * e.size)).take e.size)) :
    ∃ κ' , κ' = κ.put id (.slice (some ⟨w.heap.size, 0, none⟩) xs.length cap, some w.heap.size) ∧ HSim w0 S A κ' (h.upd id (.row e xs)) (w.alloc (.cells vs.toArray et)) ∧
      Ext w (OO A κ h) (w.alloc (.cells vs.toArray et)) (OO A κ' (h.upd id (.row e xs))) ∧ κ.le κ' := by
  refine ⟨_, rfl, ?_⟩
  have := H.new hid (v := .slice (some ⟨w.heap.size, 0, none⟩) xs.length cap) (ob := some w.heap.size) (nb := .row e xs) (w' := w.alloc (.cells vs.toArray et)) (H.frame.alloc _) (ext_alloc w _ _)
    (fun k hk => heap_alloc_old _ _ _ (H.own k hk).2.1) rfl (fun b hb => by injection hb with hb; subst hb; exact ⟨Nat.le_refl _, by show _ < (w.heap.push _).size; simp⟩)
    (fun L n c b hv hb => by injection hv with hv _ _; injection hb with hb; subst hb; exact hv.symm)
    (fun hxt => .inr ⟨w.heap.size, cap, vs, et, Kap.put_self _ _ _, hcap, heap_alloc _ _, hl, fun i x hi => RoX.mono hxt _ _ _ (hx i x hi)⟩)
  exact ⟨this.1, this.2, Kap.le_put hid _⟩

theorem HSim.newBox {κ : Kap} {h : Heap} {w : World} (H : HSim w0 S A κ h w) {id : Nat} (hid : κ id = none) {cs : List T} {vs : List Value} {et : TypeId} (hx : RepTs w (OO A κ h) κ cs vs) :
    ∃ κ' , κ' = κ.put id (.pointer (some ⟨w.heap.size, 0, none⟩), some w.heap.size) ∧ HSim w0 S A κ' (h.upd id (.box cs)) (w.alloc (.cells vs.toArray et)) ∧
      Ext w (OO A κ h) (w.alloc (.cells vs.toArray et)) (OO A κ' (h.upd id (.box cs))) ∧ κ.le κ' := by
  refine ⟨_, rfl, ?_⟩
  have := H.new hid (v := .pointer (some ⟨w.heap.size, 0, none⟩)) (ob := some w.heap.size) (nb := .box cs) (w' := w.alloc (.cells vs.toArray et)) (H.frame.alloc _) (ext_alloc w _ _)
    (fun k hk => heap_alloc_old _ _ _ (H.own k hk).2.1) rfl (fun b hb => by injection hb with hb; subst hb; exact ⟨Nat.le_refl _, by show _ < (w.heap.push _).size; simp⟩)
    (fun L n c b hv hb => by cases hv)
    (fun hxt => ⟨w.heap.size, vs, et, Kap.put_self _ _ _, heap_alloc _ _, RepTs.mono hxt (Kap.le_put hid _) _ _ hx⟩)
  exact ⟨this.1, this.2, Kap.le_put hid _⟩

theorem put_new {κ : Kap} {id : Nat} {p : Value × Option Nat} {n : Nat} (hn : 0 < n) : ∀ j, (κ.put id p) j ≠ none → κ j ≠ none ∨ (id ≤ j ∧ j < id + n) := by
  intro j hj
  by_cases e : j = id
  · subst e; exact .inr ⟨Nat.le_refl _, by omega⟩
  · rw [Kap.put_other _ _ e] at hj; exact .inl hj

theorem box_sound (H : HSim w0 S A κ h w) {t : Nat} {x : T} {v : Value} (hx : RepT w (OO A κ h) κ x v) (hok : x.cells.all T.cellOk = true) {base : Nat} (hb : κ base = none) {Q : Eff → Prop}
    (hq : Q { dst := .ptr base 0, nw := [.box x.cells] }) :
    Res1 P w0 S A κ h w base Q fun d z w' h' κ' => RepT w' (OO A κ' h') κ' d z ∧ (Instr.box t v).run P w = .ok z w' := by
  obtain ⟨κ', h1, h2, h3, h4⟩ := H.newBox hb (et := t) (cells_rep H hx hok)
  refine ⟨_, κ', _, .pointer (some ⟨w.heap.size, 0, none⟩), hq, h2, h3, h4, ?_, ?_, ?_⟩
  · rw [h1]; exact put_new (by simp)
  · simp only [RepT]; exact ⟨.pointer (some ⟨w.heap.size, 0, none⟩), w.heap.size, by rw [h1]; exact Kap.put_self _ _ _, rfl⟩
  · simp only [Instr.box, newVar, Go.newRow, Sem.run_bind, run_newObj, Result.andThen_ok, Sem.run_pure]
    simp only [Array.toArray_toList]
    rfl

theorem alloc_sound (hC : CtxOk P C) (H : HSim w0 S A κ h w) {t : Nat} {i : TI} (hi : C.ti t = some i) (hz : i.zero.length = i.size) (hp : 0 < i.size) {base : Nat} (hb : κ base = none) {Q : Eff → Prop}
    (hq : Q { dst := .ptr base 0, nw := [.box i.zero] }) :
    Res1 P w0 S A κ h w base Q fun d z w' h' κ' => RepT w' (OO A κ' h') κ' d z ∧ (Instr.alloc t true (.tuple #[])).run P w = .ok z w' := by
  obtain ⟨j, z, h5, h6, h7, _, h8, h9⟩ := zero_of hC hi hz hp
  obtain ⟨κ', h1, h2, h3, h4⟩ := H.newBox hb (et := t) (h9 w (OO A κ h) κ)
  refine ⟨_, κ', _, .pointer (some ⟨w.heap.size, 0, none⟩), hq, h2, h3, h4, ?_, ?_, ?_⟩
  · rw [h1]; exact put_new (by simp)
  · simp only [RepT]; exact ⟨.pointer (some ⟨w.heap.size, 0, none⟩), w.heap.size, by rw [h1]; exact Kap.put_self _ _ _, rfl⟩
  · simp only [Instr.alloc, zeroValue, typeInfo, h5, h6, newVar, Go.newRow, Sem.run_bind, run_program, run_newObj, Result.andThen_ok, Sem.run_pure]
    simp only [Array.toArray_toList]
    rfl
end
end Go.Am
