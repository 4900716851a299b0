import Derived.Test.YtomeklcamolijaaGreatAm4
/- The symbolic machine: from its values to typed ones, and back. -/
set_option linter.unusedVariables false
set_option linter.unusedSimpArgs false
namespace Go.Am
open Go Go.RowKit

def blocks (κ : Kap) (l : List Nat) : List Nat := l.filterMap fun i => (κ i).bind (·.2)
theorem blocks_append (κ : Kap) (a b : List Nat) : blocks κ (a ++ b) = blocks κ a ++ blocks κ b := by simp [blocks]
theorem mem_blocks {κ : Kap} {l : List Nat} {b : Nat} : b ∈ blocks κ l ↔ ∃ i ∈ l, ∃ v, κ i = some (v, some b) := by
  unfold blocks
  rw [List.mem_filterMap]
  constructor
  · rintro ⟨i, hi, h⟩
    rw [Option.bind_eq_some_iff] at h
    obtain ⟨⟨v, ob⟩, h1, h2⟩ := h
    simp only at h2
    subst h2
    exact ⟨i, hi, v, h1⟩
  · rintro ⟨i, hi, v, h1⟩
    exact ⟨i, hi, by rw [h1]; rfl⟩
theorem nodup_of {l : List Nat} (h : nodupB l = true) : l.Nodup := by
  induction l with
  | nil => simp
  | cons i r ih =>
    simp only [nodupB, Bool.and_eq_true, Bool.not_eq_true'] at h
    rw [List.nodup_cons]
    exact ⟨by simpa using h.1, ih h.2⟩

section
variable {w0 : World} {S A O1 : Nat → Prop} {κ : Kap} {h hr : Heap} {w : World}

theorem blocks_nodup (H : HSim w0 S A κ h w) : ∀ {l : List Nat}, l.Nodup → (∀ i ∈ l, (h i).live = true) → (blocks κ l).Nodup
  | [], _, _ => by simp [blocks]
  | i :: r, hn, hl => by
    rw [List.nodup_cons] at hn
    have ih := blocks_nodup H hn.2 (fun j hj => hl j (List.mem_cons_of_mem _ hj))
    unfold blocks at ih ⊢
    rw [List.filterMap_cons]
    cases hk : (κ i).bind (·.2) with
    | none => exact ih
    | some b =>
      simp only
      rw [List.nodup_cons]
      refine ⟨fun hm => ?_, ih⟩
      rw [← blocks, mem_blocks] at hm
      obtain ⟨j, hj, v, h1⟩ := hm
      rw [Option.bind_eq_some_iff] at hk
      obtain ⟨⟨u, ob⟩, h2, h3⟩ := hk
      simp only at h3; subst h3
      have := H.inj i j u v b (hl i (by simp)) (hl j (List.mem_cons_of_mem _ hj)) h2 h1
      subst this
      exact hn.1 hj

/-- what may be read under O1: rows that were looked at are not to be written there -/
structure Looks (κ : Kap) (hr h : Heap) (A O1 : Nat → Prop) (seen : List Nat) : Prop where
  sub : ∀ b, O1 b → OO A κ h b
  seen : ∀ id ∈ seen, ∀ e xs v b, hr id = .row e xs → κ id = some (v, some b) → ¬ O1 b

theorem see_rep (H : HSim w0 S A κ h w) (hs : Sub hr h) : ∀ {ts : List T} {vs : List Value}, Looks κ hr h A O1 (rowsIn ts) → RepTs w (OO A κ h) κ ts vs → RepTs w O1 κ (ts.map (see hr)) vs
  | [], vs, _, hr' => by
    simp only [RepTs] at hr'
    subst hr'
    exact RepTs.nil
  | t :: r, vs, hl, hr' => by
    have hx : Ext w (OO A κ h) w O1 := Ext.less hl.sub
    simp only [RepTs] at hr'
    obtain ⟨v, us, rfl, h1, h2⟩ := hr'
    have hl2 : Looks κ hr h A O1 (rowsIn r) := ⟨hl.sub, fun id hid => hl.seen id (by rw [mem_rowsIn] at hid ⊢; exact List.mem_cons_of_mem _ hid)⟩
    refine RepTs.cons ?_ (see_rep H hs hl2 h2)
    cases t with
    | ow id =>
      simp only [RepT] at h1
      obtain ⟨ob, h1⟩ := h1
      have hrep := H.rep id
      simp only [see]
      cases hb : hr id with
      | none => simp [RepT]
      | box c => simp [RepT]
      | row e xs =>
        have hb' := hs.get hb (by simp)
        rw [hb'] at hrep
        simp only [RepT]
        rcases hrep with ⟨rfl, L, h3⟩ | ⟨b, cap, us', et, h3, h4, h5, h6, h7⟩
        · rw [h1] at h3; injection h3 with h3; injection h3 with h3 _; subst h3
          exact ⟨L, 0, rfl, Nat.le_refl _, fun hn => absurd rfl hn⟩
        · rw [h1] at h3; injection h3 with h3; injection h3 with h3 h3'; subst h3; subst h3'
          have hno : ¬ O1 b := hl.seen id (by simp [rowsIn]) _ _ _ _ hb h1
          refine ⟨some ⟨b, 0, none⟩, cap, rfl, h4, fun _ => ⟨b, 0, rfl, H.kbnd _ _ _ h1, hno, fun i x hi => ?_⟩⟩
          have hx7 := RoX.mono hx _ _ _ (h7 i x hi)
          refine ⟨_, hx7, RoX.length _ _ _ hx7, fun j u hj => ?_⟩
          have hj2 : j < e.size := by have := (List.getElem?_eq_some_iff.1 hj).1; rw [RoX.length _ _ _ hx7] at this; exact this
          rw [List.getElem?_take_of_lt hj2, List.getElem?_drop] at hj
          simp only [World.cell?, h5, Nat.zero_add]
          simpa using hj
      | fro e xs =>
        rw [hs.get hb (by simp)] at hrep
        obtain ⟨v', ob', h3, h4⟩ := hrep
        rw [h1] at h3; injection h3 with h3; injection h3 with h3 _; subst h3
        simp only [RepT]
        exact RoX.mono hx _ _ _ h4
    | _ => exact RepT.mono hx κ.le_refl _ _ h1

theorem Looks.left {a b : List Nat} (l : Looks κ hr h A O1 (a ++ b)) : Looks κ hr h A O1 a := ⟨l.sub, fun id hid => l.seen id (List.mem_append_left _ hid)⟩
theorem Looks.right {a b : List Nat} (l : Looks κ hr h A O1 (a ++ b)) : Looks κ hr h A O1 b := ⟨l.sub, fun id hid => l.seen id (List.mem_append_right _ hid)⟩

theorem takeC_sound (H : HSim w0 S A κ h w) (hs : Sub hr h) {c : CK} {ts : List T} {vs : List Value} {x : c.X} {r : List T} {own seen : List Nat} (ht : takeC hr c ts = some (x, r, own, seen))
    (hl : Looks κ hr h A O1 seen) (hv : RepTs w (OO A κ h) κ ts vs) :
    ∃ us ws, vs = us ++ ws ∧ RepTs w (OO A κ h) κ r ws ∧ CRep w O1 c x us (blocks κ own) ∧ (∀ i ∈ own, (h i).live = true) := by
  cases c with
  | val t =>
    simp only [takeC] at ht
    split at ht
    · rename_i y hd
      simp only [Option.some.injEq, Prod.mk.injEq] at ht
      obtain ⟨rfl, rfl, rfl, rfl⟩ := ht
      have h1 := see_rep (hr := hr) H hs hl (hv.take t.size)
      obtain ⟨us, ws, h2, h3, h4, h5, h6⟩ := dec_ro t _ _ _ _ h1 hd
      have hws : ws = [] := by simpa only [RepTs] using h5
      subst hws
      rw [List.append_nil] at h2
      refine ⟨vs.take t.size, vs.drop t.size, (List.take_append_drop _ _).symm, hv.drop _, ⟨?_, by simp [blocks]⟩, fun i hi => by simp at hi⟩
      rw [h2]; exact h4
    · cases ht
  | own e =>
    cases ts with
    | nil => simp [takeC] at ht
    | cons t ts =>
      simp only [RepTs] at hv
      obtain ⟨v, us, rfl, h1, h2⟩ := hv
      cases t with
      | ow id =>
        simp only [takeC] at ht
        cases hb : hr id with
        | row e' xs =>
          simp only [hb] at ht
          cases hc : castX e' e xs with
          | none => rw [hc] at ht; cases ht
          | some y =>
            rw [hc] at ht
            have ht := Option.some.inj ht
            simp only [Prod.mk.injEq] at ht
            obtain ⟨rfl, rfl, rfl, rfl⟩ := ht
            obtain ⟨he, hy⟩ := castX_some hc
            subst he
            simp only at hy; subst hy
            have hb' := hs.get hb (by simp)
            have hrep := H.rep id
            rw [hb'] at hrep
            simp only [RepT] at h1
            obtain ⟨ob, h1⟩ := h1
            refine ⟨[v], us, rfl, h2, ⟨v, rfl, ?_⟩, fun i hi => by simp at hi; subst hi; rw [hb']; rfl⟩
            have hx : Ext w (OO A κ h) w O1 := Ext.less hl.sub
            rcases hrep with ⟨rfl, L, h3⟩ | ⟨b, cap, us', et, h3, h4, h5, h6, h7⟩
            · rw [h1] at h3; injection h3 with h3; injection h3 with h3 h3'; subst h3; subst h3'
              exact .inl ⟨rfl, ⟨L, rfl⟩, by simp [blocks, h1]⟩
            · rw [h1] at h3; injection h3 with h3; injection h3 with h3 h3'; subst h3; subst h3'
              exact .inr ⟨b, by simp [blocks, h1], cap, us', et, rfl, h4, h5, h6, fun i x hi => RoX.mono hx _ _ _ (h7 i x hi)⟩
        | _ => simp only [hb] at ht; cases ht
      | z =>
        simp only [takeC, Option.some.injEq, Prod.mk.injEq] at ht
        obtain ⟨rfl, rfl, rfl, rfl⟩ := ht
        simp only [RepT] at h1
        obtain ⟨L, rfl⟩ := h1
        exact ⟨[_], us, rfl, h2, ⟨_, rfl, .inl ⟨rfl, ⟨L, rfl⟩, by simp [blocks]⟩⟩, fun i hi => by simp at hi⟩
      | _ => simp [takeC] at ht

theorem takeCs_sound (H : HSim w0 S A κ h w) (hs : Sub hr h) : ∀ {cs : List CK} {ts : List T} {vs : List Value} {x : CXs cs} {r : List T} {own seen : List Nat}, takeCs hr cs ts = some (x, r, own, seen) →
    Looks κ hr h A O1 seen → RepTs w (OO A κ h) κ ts vs →
    ∃ us ws, vs = us ++ ws ∧ RepTs w (OO A κ h) κ r ws ∧ CReps w O1 cs x us (blocks κ own) ∧ (∀ i ∈ own, (h i).live = true)
  | [], ts, vs, x, r, own, seen, ht, hl, hv => by
    simp only [takeCs, Option.some.injEq, Prod.mk.injEq] at ht
    obtain ⟨rfl, rfl, rfl, rfl⟩ := ht
    exact ⟨[], vs, rfl, hv, ⟨rfl, by simp [blocks]⟩, fun i hi => by simp at hi⟩
  | [c], ts, vs, x, r, own, seen, ht, hl, hv => takeC_sound H hs (c := c) (show takeC hr c ts = some (x, r, own, seen) from ht) hl hv
  | c :: d :: cs, ts, vs, x, r, own, seen, ht, hl, hv => by
    simp only [takeCs] at ht
    cases h1 : takeC hr c ts with
    | none => simp [h1] at ht
    | some p =>
      obtain ⟨y, r1, i1, s1⟩ := p
      simp only [h1] at ht
      cases h2 : takeCs hr (d :: cs) r1 with
      | none => simp [h2] at ht
      | some q =>
        obtain ⟨z, r2, i2, s2⟩ := q
        simp only [h2, Option.some.injEq, Prod.mk.injEq] at ht
        obtain ⟨rfl, rfl, rfl, rfl⟩ := ht
        obtain ⟨u1, w1, rfl, a1, a2, a3⟩ := takeC_sound H hs h1 hl.left hv
        obtain ⟨u2, w2, rfl, b1, b2, b3⟩ := takeCs_sound H hs h2 hl.right a1
        refine ⟨u1 ++ u2, w2, by simp, b1, ⟨u1, u2, _, _, rfl, blocks_append _ _ _, a2, b2⟩, fun i hi => ?_⟩
        rcases List.mem_append.1 hi with hi | hi
        · exact a3 i hi
        · exact b3 i hi

theorem takeBox_sound (H : HSim w0 S A κ h w) (hs : Sub hr h) {cs : List CK} {t : T} {v : Value} {x : (AK.box cs).X} {own seen : List Nat} (ht : takeA hr (.box cs) t = some (x, own, seen))
    (hl : Looks κ hr h A O1 seen) (hv : RepT w (OO A κ h) κ t v) : ARep w O1 (.box cs) x v (blocks κ own) ∧ (∀ i ∈ own, (h i).live = true) := by
  cases t with
  | ptr id off =>
    cases off with
    | succ n => simp [takeA] at ht
    | zero =>
      simp only [takeA] at ht
      cases hb : hr id with
      | box l =>
        simp only [hb] at ht
        split at ht
        · rename_i y i s h1
          simp only [Option.some.injEq, Prod.mk.injEq] at ht
          obtain ⟨rfl, rfl, rfl⟩ := ht
          have hb' := hs.get hb (by simp)
          have hrep := H.rep id
          rw [hb'] at hrep
          obtain ⟨b, vs, et, h2, h3, h4⟩ := hrep
          simp only [RepT] at hv
          obtain ⟨hv', b', h5, rfl⟩ := hv
          rw [h2] at h5; injection h5 with h5; injection h5 with _ h5; injection h5 with h5; subst h5
          obtain ⟨us, ws, h6, h7, h8, h9⟩ := takeCs_sound H hs h1 hl h4
          have hws : ws = [] := by simpa only [RepTs] using h7
          subst hws
          rw [List.append_nil] at h6
          subst h6
          refine ⟨⟨b, _, et, blocks κ i, rfl, by simp [blocks, h2], h3, h8⟩, fun j hj => ?_⟩
          simp only [List.mem_cons] at hj
          rcases hj with rfl | hj
          · rw [hb']; rfl
          · exact h9 j hj
        · cases ht
      | _ => simp only [hb] at ht; cases ht
  | _ => simp [takeA] at ht
theorem unFn_ptr {g : Nat} {t : T} {id off : Nat} (h : unFn g t = .ptr id off) : t = .fn g [.ptr id off] := by
  unfold unFn at h
  split at h
  · split at h
    · rename_i hg; rw [hg, h]
    · cases h
  · cases h
theorem takeA_fnb {g : Nat} {cs : List CK} {t : T} : takeA hr (.fnb g cs) t = takeA hr (.box cs) (unFn g t) := by
  simp only [takeA]
  cases unFn g t with
  | ptr id off => cases off <;> rfl
  | _ => rfl
theorem takeA_box_ptr {cs : List CK} {t : T} {p : CXs cs × List Nat × List Nat} (ht : takeA hr (.box cs) t = some p) : ∃ id, t = .ptr id 0 := by
  cases t with
  | ptr id off =>
    cases off with
    | zero => exact ⟨id, rfl⟩
    | succ n => simp [takeA] at ht
  | _ => simp [takeA] at ht

theorem takeA_sound (H : HSim w0 S A κ h w) (hs : Sub hr h) {a : AK} {t : T} {v : Value} {x : a.X} {own seen : List Nat} (ht : takeA hr a t = some (x, own, seen))
    (hl : Looks κ hr h A O1 seen) (hv : RepT w (OO A κ h) κ t v) : ARep w O1 a x v (blocks κ own) ∧ (∀ i ∈ own, (h i).live = true) := by
  cases a with
  | one c =>
    simp only [takeA] at ht
    split at ht
    · rename_i y i s h1
      simp only [Option.some.injEq, Prod.mk.injEq] at ht
      obtain ⟨rfl, rfl, rfl⟩ := ht
      obtain ⟨us, ws, h2, h3, h4, h5⟩ := takeC_sound H hs h1 hl (RepTs.cons hv RepTs.nil)
      have hws : ws = [] := by simpa only [RepTs] using h3
      subst hws
      rw [List.append_nil] at h2
      subst h2
      exact ⟨h4, h5⟩
    · cases ht
  | agg cs =>
    cases t <;> simp only [takeA] at ht <;> try (cases ht; done)
    split at ht
    · rename_i y i s h1
      simp only [Option.some.injEq, Prod.mk.injEq] at ht
      obtain ⟨rfl, rfl, rfl⟩ := ht
      simp only [RepT] at hv
      obtain ⟨vs, rfl, hv⟩ := hv
      obtain ⟨us, ws, h2, h3, h4, h5⟩ := takeCs_sound H hs h1 hl hv
      have hws : ws = [] := by simpa only [RepTs] using h3
      subst hws
      rw [List.append_nil] at h2
      subst h2
      exact ⟨⟨_, rfl, h4⟩, h5⟩
    · cases ht
  | fn g cs =>
    cases t <;> simp only [takeA] at ht <;> try (cases ht; done)
    split at ht
    · rename_i hg
      subst hg
      split at ht
      · rename_i y i s h1
        simp only [Option.some.injEq, Prod.mk.injEq] at ht
        obtain ⟨rfl, rfl, rfl⟩ := ht
        simp only [RepT] at hv
        obtain ⟨vs, rfl, hv⟩ := hv
        obtain ⟨us, ws, h2, h3, h4, h5⟩ := takeCs_sound H hs h1 hl hv
        have hws : ws = [] := by simpa only [RepTs] using h3
        subst hws
        rw [List.append_nil] at h2
        subst h2
        exact ⟨⟨_, rfl, h4⟩, h5⟩
      · cases ht
    · cases ht
  | box cs => exact takeBox_sound H hs ht hl hv
  | fnb g cs =>
    rw [takeA_fnb] at ht
    obtain ⟨id, hid⟩ := takeA_box_ptr ht
    have ht2 := unFn_ptr hid
    subst ht2
    rw [hid] at ht
    simp only [RepT] at hv
    obtain ⟨vs, rfl, hv⟩ := hv
    simp only [RepTs] at hv
    obtain ⟨v, us, rfl, h1, rfl⟩ := hv
    obtain ⟨h2, h3⟩ := takeBox_sound H hs ht hl (v := v) (by simpa only [RepT] using h1)
    exact ⟨ARep.fnb.2 ⟨v, rfl, h2⟩, h3⟩

theorem takeAs_nil1 {a : AK} {as : List AK} : takeAs hr (a :: as) [] = none := by cases as <;> rfl
theorem takeAs_nil2 {t : T} {ts : List T} : takeAs hr [] (t :: ts) = none := rfl
theorem takeAs_nil : takeAs hr [] [] = some ((), [], []) := rfl
theorem takeAs_11 {a : AK} {t : T} : takeAs hr [a] [t] = takeA hr a t := rfl
theorem takeAs_12 {a : AK} {t u : T} {ts : List T} : takeAs hr [a] (t :: u :: ts) = none := rfl
theorem takeAs_21 {a b : AK} {as : List AK} {t : T} : takeAs hr (a :: b :: as) [t] = none := rfl
theorem takeAs_22 {a b : AK} {as : List AK} {t u : T} {ts : List T} : takeAs hr (a :: b :: as) (t :: u :: ts) = match takeA hr a t with
    | some (x, i, s) => match takeAs hr (b :: as) (u :: ts) with
      | some (y, i', s') => some ((x, y), i ++ i', s ++ s')
      | none => none
    | none => none := rfl
theorem takeAs_one {a : AK} {ts : List T} {p : AXs [a] × List Nat × List Nat} (ht : takeAs hr [a] ts = some p) : ∃ t, ts = [t] ∧ takeA hr a t = some p := by
  cases ts with
  | nil => rw [takeAs_nil1] at ht; cases ht
  | cons t ts =>
    cases ts with
    | nil => rw [takeAs_11] at ht; exact ⟨t, rfl, ht⟩
    | cons u ts => rw [takeAs_12] at ht; cases ht
theorem takeAs_more {a b : AK} {as : List AK} {ts : List T} {x : AXs (a :: b :: as)} {own seen : List Nat} (ht : takeAs hr (a :: b :: as) ts = some (x, own, seen)) :
    ∃ t r i1 s1 i2 s2, ts = t :: r ∧ own = i1 ++ i2 ∧ seen = s1 ++ s2 ∧ takeA hr a t = some (x.1, i1, s1) ∧ takeAs hr (b :: as) r = some (x.2, i2, s2) := by
  cases ts with
  | nil => rw [takeAs_nil1] at ht; cases ht
  | cons t ts =>
    cases ts with
    | nil => rw [takeAs_21] at ht; cases ht
    | cons u ts =>
      rw [takeAs_22] at ht
      cases h1 : takeA hr a t with
      | none => rw [h1] at ht; cases ht
      | some p =>
        obtain ⟨y, i1, s1⟩ := p
        rw [h1] at ht
        dsimp only at ht
        cases h2 : takeAs hr (b :: as) (u :: ts) with
        | none => rw [h2] at ht; cases ht
        | some q =>
          obtain ⟨z, i2, s2⟩ := q
          rw [h2] at ht
          have ht := Option.some.inj ht
          have e1 := congrArg Prod.fst ht
          have e2 := congrArg (fun p => p.2.1) ht
          have e3 := congrArg (fun p => p.2.2) ht
          dsimp only at e1 e2 e3
          subst e1; subst e2; subst e3
          exact ⟨t, u :: ts, i1, s1, i2, s2, rfl, rfl, rfl, h1, h2⟩

/-- the block of the machine's that stands for a parameter that is handed back -/
def uId0 : AK → T → Option Nat
  | .one (.own _), .ow id => some id
  | .box [.val _], .ptr id 0 => some id
  | _, _ => none
def uId : AK → T → Option Nat
  | .fnb g cs, t => uId0 (.box cs) (unFn g t)
  | a, t => uId0 a t
/-- the value that stands for it -/
def uV : AK → Value → Value
  | .fnb _ _, .func _ _ caps => caps.getD 0 undef
  | _, v => v
theorem takeA_uid0 {a : AK} {t : T} {x : a.X} {own seen : List Nat} {id : Nat} (ht : takeA hr a t = some (x, own, seen)) (hu : uId0 a t = some id) : own = [id] := by
  unfold uId0 at hu
  split at hu
  · rename_i e j
    injection hu with hu; subst hu
    simp only [takeA, takeC] at ht
    cases hb : hr j with
    | row e' xs =>
      simp only [hb] at ht
      cases hc : castX e' e xs with
      | none => rw [hc] at ht; cases ht
      | some y =>
        rw [hc] at ht
        have ht := Option.some.inj ht
        exact (congrArg (fun p => p.2.1) ht).symm
    | _ => simp only [hb] at ht; cases ht
  · rename_i ty j
    injection hu with hu; subst hu
    simp only [takeA] at ht
    cases hb : hr j with
    | box l =>
      simp only [hb] at ht
      have e : takeCs hr [.val ty] l = takeC hr (.val ty) l := rfl
      rw [e] at ht
      have hc : ∀ p, takeC hr (.val ty) l = some p → p.2.2.1 = [] := by
        intro p hp
        simp only [takeC] at hp
        split at hp
        · rw [← Option.some.inj hp]
        · cases hp
      cases h1 : takeC hr (.val ty) l with
      | none => rw [h1] at ht; cases ht
      | some p =>
        have h2 := hc p h1
        obtain ⟨y, r, i, s⟩ := p
        dsimp only at h2
        subst h2
        rw [h1] at ht
        cases r with
        | cons _ _ => cases ht
        | nil =>
          have ht := Option.some.inj ht
          exact (congrArg (fun p => p.2.1) ht).symm
    | _ => simp only [hb] at ht; cases ht
  · cases hu

theorem takeA_uidrep0 (H : HSim w0 S A κ h w) (hs : Sub hr h) {O : Nat → Prop} {a : AK} {t : T} {v : Value} {x : a.X} {own seen : List Nat} {id : Nat} (ht : takeA hr a t = some (x, own, seen)) (hu : uId0 a t = some id) (hv : RepT w O κ t v) :
    ∃ ob, κ id = some (v, ob) := by
  unfold uId0 at hu
  split at hu
  · injection hu with hu; subst hu
    simpa only [RepT] using hv
  · rename_i ty j
    injection hu with hu; subst hu
    simp only [takeA] at ht
    cases hb : hr j with
    | box l =>
      have hb' := hs.get hb (by simp)
      have hrep := H.rep j
      rw [hb'] at hrep
      obtain ⟨b, vs, et, h2, h3, h4⟩ := hrep
      simp only [RepT] at hv
      obtain ⟨hv', b', h5, rfl⟩ := hv
      rw [h2] at h5; injection h5 with h5; injection h5 with _ h5; injection h5 with h5; subst h5
      exact ⟨some b, h2⟩
    | _ => simp only [hb] at ht; cases ht
  · cases hu

theorem takeA_uid {a : AK} {t : T} {x : a.X} {own seen : List Nat} {id : Nat} (ht : takeA hr a t = some (x, own, seen)) (hu : uId a t = some id) : own = [id] := by
  cases a with
  | fnb g cs => rw [takeA_fnb] at ht; exact takeA_uid0 (a := .box cs) ht hu
  | _ => exact takeA_uid0 ht hu
theorem takeA_uidrep (H : HSim w0 S A κ h w) (hs : Sub hr h) {O : Nat → Prop} {a : AK} {t : T} {v : Value} {x : a.X} {own seen : List Nat} {id : Nat} (ht : takeA hr a t = some (x, own, seen)) (hu : uId a t = some id) (hv : RepT w O κ t v) :
    ∃ ob, κ id = some (uV a v, ob) := by
  cases a with
  | fnb g cs =>
    rw [takeA_fnb] at ht
    obtain ⟨j, hj⟩ := takeA_box_ptr ht
    have ht2 := unFn_ptr hj
    subst ht2
    simp only [RepT] at hv
    obtain ⟨vs, rfl, hv⟩ := hv
    simp only [RepTs] at hv
    obtain ⟨v, us, rfl, h1, rfl⟩ := hv
    exact takeA_uidrep0 (v := v) (O := O) H hs (a := .box cs) ht hu (by rw [hj]; simpa only [RepT] using h1)
  | _ => exact takeA_uidrep0 H hs ht hu hv

theorem takeAs_sound (H : HSim w0 S A κ h w) (hs : Sub hr h) : ∀ (as : List AK) {ts : List T} {vs : List Value} {x : AXs as} {own seen : List Nat}, takeAs hr as ts = some (x, own, seen) →
    Looks κ hr h A O1 seen → RepTs w (OO A κ h) κ ts vs → ∃ owns : List (List Nat), owns.flatten = own ∧ AReps w O1 as x vs (owns.map (blocks κ)) ∧ (∀ i ∈ own, (h i).live = true) ∧
      (∀ (i : Nat) (a : AK) (t : T) (id : Nat), as[i]? = some a → ts[i]? = some t → uId a t = some id → owns[i]? = some [id] ∧ ∃ ob, κ id = some (uV a (vs.getD i undef), ob)) ∧
      ∀ (i : Nat) (a : AK) (t : T), as[i]? = some a → ts[i]? = some t → ∃ y o s, takeA hr a t = some (y, o, s) ∧ owns[i]? = some o
  | [], ts, vs, x, own, seen, ht, hl, hv => by
    cases ts with
    | cons t ts => rw [takeAs_nil2] at ht; cases ht
    | nil =>
      rw [takeAs_nil] at ht
      have ht := Option.some.inj ht
      have e2 := congrArg (fun p => p.2.1) ht
      dsimp only at e2
      subst e2
      simp only [RepTs] at hv
      exact ⟨[], rfl, ⟨hv, rfl⟩, fun i hi => by simp at hi, fun i a t id h1 => (by simp at h1), fun i a t h1 => by simp at h1⟩
  | [a], ts, vs, x, own, seen, ht, hl, hv => by
    obtain ⟨t, rfl, h1⟩ := takeAs_one ht
    simp only [RepTs] at hv
    obtain ⟨v, us, rfl, h3, rfl⟩ := hv
    obtain ⟨h4, h5⟩ := takeA_sound H hs h1 hl h3
    refine ⟨[own], by simp, ⟨v, _, rfl, rfl, h4⟩, h5, fun i a' t' id g1 g2 g3 => ?_, fun i a' t' g1 g2 => ?_⟩
    · cases i with
      | zero =>
        simp only [List.getElem?_cons_zero, Option.some.injEq] at g1 g2
        subst g1; subst g2
        rw [takeA_uid h1 g3]
        exact ⟨rfl, takeA_uidrep H hs h1 g3 h3⟩
      | succ i => simp at g1
    · cases i with
      | zero =>
        simp only [List.getElem?_cons_zero, Option.some.injEq] at g1 g2
        subst g1; subst g2
        exact ⟨_, _, _, h1, rfl⟩
      | succ i => simp at g1
  | a :: b :: as, ts, vs, x, own, seen, ht, hl, hv => by
    obtain ⟨t, r, i1, s1, i2, s2, rfl, rfl, rfl, h1, h2⟩ := takeAs_more ht
    have hv2 : ∃ v us, vs = v :: us ∧ RepT w (OO A κ h) κ t v ∧ RepTs w (OO A κ h) κ r us := by simpa only [RepTs] using hv
    obtain ⟨v, us, rfl, h3, h4⟩ := hv2
    obtain ⟨a1, a2⟩ := takeA_sound H hs h1 hl.left h3
    obtain ⟨owns, b1, b2, b3, b4, b5⟩ := takeAs_sound H hs (b :: as) h2 hl.right h4
    refine ⟨i1 :: owns, by simp [b1], ⟨v, us, _, _, rfl, rfl, a1, b2⟩, fun i hi => ?_, fun i a' t' id g1 g2 g3 => ?_, fun i a' t' g1 g2 => ?_⟩
    · rcases List.mem_append.1 hi with hi | hi
      · exact a2 i hi
      · exact b3 i hi
    · cases i with
      | zero =>
        simp only [List.getElem?_cons_zero, Option.some.injEq] at g1 g2
        subst g1; subst g2
        rw [takeA_uid h1 g3]
        exact ⟨rfl, takeA_uidrep H hs h1 g3 h3⟩
      | succ i =>
        simp only [List.getElem?_cons_succ] at g1 g2 ⊢
        exact b4 i a' t' id g1 g2 g3
    · cases i with
      | zero =>
        simp only [List.getElem?_cons_zero, Option.some.injEq] at g1 g2
        subst g1; subst g2
        exact ⟨_, _, _, h1, rfl⟩
      | succ i =>
        simp only [List.getElem?_cons_succ] at g1 g2 ⊢
        exact b5 i a' t' g1 g2
end
end Go.Am

/- The symbolic machine: typed values put into its memory. -/
set_option linter.unusedVariables false
set_option linter.unusedSimpArgs false
namespace Go.Am
open Go Go.RowKit

theorem news_low : ∀ (bs : List B) (h : Heap) (n j : Nat), j < n → (h.news n bs) j = h j
  | [], h, n, j, hj => rfl
  | b :: r, h, n, j, hj => by
    show ((h.upd n b).news (n + 1) r) j = h j
    rw [news_low r _ _ _ (by omega)]
    simp [Heap.upd, show j ≠ n by omega]
theorem news_append : ∀ (a b : List B) (h : Heap) (n : Nat), h.news n (a ++ b) = (h.news n a).news (n + a.length) b
  | [], b, h, n => by simp [Heap.news]
  | x :: a, b, h, n => by
    show (h.upd n x).news (n + 1) (a ++ b) = ((h.upd n x).news (n + 1) a).news (n + (a.length + 1)) b
    rw [news_append a b]
    congr 1; omega
theorem upd_comm {h : Heap} {i j : Nat} (a b : B) (hij : i ≠ j) : (h.upd i a).upd j b = (h.upd j b).upd i a := by
  funext k
  simp only [Heap.upd]
  by_cases e : k = i
  · subst e; simp [hij]
  · simp [e]
theorem news_upd : ∀ (bs : List B) (h : Heap) (n i : Nat) (b : B), i < n → (h.upd i b).news n bs = (h.news n bs).upd i b
  | [], _, _, _, _, _ => rfl
  | x :: bs, h, n, i, b, hi => by
    show ((h.upd i b).upd n x).news (n + 1) bs = ((h.upd n x).news (n + 1) bs).upd i b
    rw [upd_comm b x (by omega), news_upd bs _ _ _ _ (by omega)]

section
variable {w0 : World} {S A : Nat → Prop} {κ : Kap} {h : Heap} {w : World}

/-- blocks that others held (L) are taken on under the numbers from n on -/
structure Put (w0 : World) (S A : Nat → Prop) (κ : Kap) (h : Heap) (w : World) (n : Nat) (L : List Nat) (bs : List B) (κ' : Kap) : Prop where
  hsim : HSim w0 S (fun b => A b ∧ b ∉ L) κ' (h.news n bs) w
  oo : OO (fun b => A b ∧ b ∉ L) κ' (h.news n bs) = OO A κ h
  le : κ.le κ'
  low : ∀ i, i < n → κ' i = κ i
  high : ∀ i, n + bs.length ≤ i → κ' i = κ i

theorem Put.none (H : HSim w0 S A κ h w) {n : Nat} : Put w0 S A κ h w n [] [] κ := by
  have e : (fun b => A b ∧ b ∉ ([] : List Nat)) = A := by funext b; simp
  exact ⟨by rw [e]; exact H, by rw [e]; rfl, κ.le_refl, fun _ _ => rfl, fun _ _ => rfl⟩

theorem Put.append {n : Nat} {L1 L2 : List Nat} {a b : List B} {κ1 κ2 : Kap} (h1 : Put w0 S A κ h w n L1 a κ1) (h2 : Put w0 S (fun b => A b ∧ b ∉ L1) κ1 (h.news n a) w (n + a.length) L2 b κ2) :
    Put w0 S A κ h w n (L1 ++ L2) (a ++ b) κ2 := by
  have e : (fun b => A b ∧ b ∉ L1 ++ L2) = fun b => (A b ∧ b ∉ L1) ∧ b ∉ L2 := by
    funext b; simp [and_assoc]
  refine ⟨?_, ?_, Kap.le_trans h1.le h2.le, fun i hi => (h2.low i (by omega)).trans (h1.low i hi), fun i hi => (h2.high i (by simp at hi; omega)).trans (h1.high i (by simp at hi; omega))⟩
  · rw [e, news_append]; exact h2.hsim
  · rw [e, news_append, h2.oo, h1.oo]

theorem A1 {L : List Nat} {b : Nat} : (fun k => A k ∧ k ≠ b) = fun k => A k ∧ k ∉ [b] := by funext k; simp

/-- a register that holds a parameter: what stands for it -/
def uIdT : T → Option Nat
  | .ow id => some id
  | .ptr id 0 => some id
  | .fn _ [.ptr id 0] => some id
  | _ => none
def Good (κ : Kap) (t : T) (L : List Nat) : Prop := (uIdT t = none ∧ t ≠ .z) ∨ ∃ id, uIdT t = some id ∧ blocks κ [id] = L ∧ κ id ≠ none
theorem blocks_le {κ κ' : Kap} (h : κ.le κ') {id : Nat} (hn : κ id ≠ none) : blocks κ' [id] = blocks κ [id] ∧ κ' id ≠ none := by
  cases hk : κ id with
  | none => exact absurd hk hn
  | some p =>
    have := h id p hk
    refine ⟨?_, by simp [this]⟩
    unfold blocks
    simp only [List.filterMap_cons, List.filterMap_nil, hk, this]
theorem Good.mono {κ κ' : Kap} {t : T} {L : List Nat} (h : κ.le κ') (g : Good κ t L) : Good κ' t L := by
  rcases g with g | ⟨id, h1, h2, h3⟩
  · exact .inl g
  · obtain ⟨h4, h5⟩ := blocks_le h h3
    exact .inr ⟨id, h1, h4.trans h2, h5⟩
theorem enc_dead : ∀ (t : Ty) (x : t.X), ∀ u ∈ enc t x, uIdT u = none ∧ u ≠ .z
  | .int k, n, u, hu => by simp [enc] at hu; subst hu; exact ⟨rfl, by simp⟩
  | .bool, n, u, hu => by simp [enc] at hu; subst hu; exact ⟨rfl, by simp⟩
  | .str, n, u, hu => by simp [enc] at hu; subst hu; exact ⟨rfl, by simp⟩
  | .sl e, xs, u, hu => by simp [enc] at hu; subst hu; exact ⟨rfl, by simp⟩
  | .pair a b, x, u, hu => by
    simp only [enc, List.mem_append] at hu
    rcases hu with hu | hu
    · exact enc_dead a _ u hu
    · exact enc_dead b _ u hu
  | .unit, _, u, hu => by simp [enc] at hu

theorem putC_noptr (n : Nat) (c : CK) (x : c.X) : ∀ t ∈ (putC n c x).1, ∀ id off, t ≠ .ptr id off := by
  cases c with
  | val ty =>
    intro t ht id off he
    subst he
    have : ∀ (ty : Ty) (x : ty.X), T.ptr id off ∉ enc ty x := by
      intro ty
      induction ty with
      | pair a b iha ihb =>
        intro x hm
        simp only [enc, List.mem_append] at hm
        exact hm.elim (iha _) (ihb _)
      | _ => intro x hm; simp [enc] at hm
    exact this ty x ht
  | own e =>
    intro t ht id off he
    have : t = .ow n := by simpa [putC] using ht
    rw [this] at he; cases he
theorem putCs_noptr : ∀ (cs : List CK) (n : Nat) (x : CXs cs), ∀ t ∈ (putCs n cs x).1, ∀ id off, t ≠ .ptr id off
  | [], _, _, t, ht, _, _ => by simp [putCs] at ht
  | [c], n, x, t, ht, id, off => putC_noptr n c x t ht id off
  | c :: d :: cs, n, x, t, ht, id, off => by
    have ht' : t ∈ (putC n c x.1).1 ++ (putCs (n + (putC n c x.1).2.length) (d :: cs) x.2).1 := ht
    rcases List.mem_append.1 ht' with h | h
    · exact putC_noptr n c _ t h id off
    · exact putCs_noptr (d :: cs) _ _ t h id off
theorem uIdT_fn {g : Nat} {cs : List CK} {n : Nat} {x : CXs cs} : uIdT (.fn g (putCs n cs x).1) = none := by
  have := putCs_noptr cs n x
  unfold uIdT
  split <;> rename_i h <;> first | rfl | (cases h; done) | skip
  rename_i id
  injection h with _ h
  exact absurd rfl (this (.ptr id 0) (by rw [h]; simp) id 0)
theorem putC_sound (H : HSim w0 S A κ h w) {n : Nat} (c : CK) {x : c.X} (hn : ∀ i, n ≤ i → i < n + (putC n c x).2.length → κ i = none) {vs : List Value} {L : List Nat} (hx : CRep w (OO A κ h) c x vs L)
    (hA : ∀ b ∈ L, A b ∧ (S b ∨ w0.heap.size ≤ b)) (hnd : L.Nodup) :
    ∃ κ', Put w0 S A κ h w n L (putC n c x).2 κ' ∧ RepTs w (OO A κ h) κ' (putC n c x).1 vs ∧ ∀ t ∈ (putC n c x).1, Good κ' t (L.take 1) := by
  cases c with
  | val t =>
    obtain ⟨h1, rfl⟩ := hx
    exact ⟨κ, Put.none H, RoX.rep _ _ _ h1, fun u hu => .inl (enc_dead t x u hu)⟩
  | own e =>
    obtain ⟨v, rfl, ⟨hxs, ⟨L', hv⟩, rfl⟩ | ⟨b, rfl, cap, us, et, hv, h2, h3, h4, h5⟩⟩ := hx
    · have hk0 := hn n (Nat.le_refl _) (by show n < n + 1; omega)
      have hxs' : (x : List e.X) = [] := hxs
      obtain ⟨h1, h2⟩ := H.new (id := n) hk0 (v := v) (ob := none) (nb := .row e x) (w' := w) H.frame (Ext.refl _ _) (fun _ _ => rfl) (by rw [hv]; rfl)
        (fun b hb => by cases hb) (fun _ _ _ b _ hb => by cases hb)
        (fun hxt => .inl ⟨hxs', L', by rw [← hv]; exact Kap.put_self _ _ _⟩)
      have hoo : OO A (κ.put n (v, none)) (h.upd n (.row e x)) = OO A κ h := by
        funext k
        apply propext
        constructor
        · rintro (ha | ⟨j, u, g1, g2⟩)
          · exact .inl ha
          · by_cases ej : j = n
            · subst ej; rw [Kap.put_self] at g2; injection g2 with g2; injection g2 with _ g2; cases g2
            · rw [Kap.put_other _ _ ej] at g2
              simp only [Heap.upd, if_neg ej] at g1
              exact .inr ⟨j, u, g1, g2⟩
        · rintro (ha | ⟨j, u, g1, g2⟩)
          · exact .inl ha
          · have ej : j ≠ n := by rintro rfl; rw [hk0] at g2; cases g2
            exact .inr ⟨j, u, by simp only [Heap.upd, if_neg ej]; exact g1, by rw [Kap.put_other _ _ ej]; exact g2⟩
      have e0 : (fun b => A b ∧ b ∉ ([] : List Nat)) = A := by funext b; simp
      refine ⟨κ.put n (v, none), ⟨?_, ?_, Kap.le_put hk0 _, fun i hi => Kap.put_other _ _ (by omega), fun i hi => ?_⟩, ?_, fun u hu => ?_⟩
      · rw [e0]; exact h1
      · rw [e0]; exact hoo
      · have hi' : n + 1 ≤ i := hi
        exact Kap.put_other _ _ (by omega)
      · exact RepTs.cons (by simp only [RepT]; exact ⟨none, Kap.put_self _ _ _⟩) RepTs.nil
      · have hu' : u = .ow n := by simpa [putC] using hu
        subst hu'
        exact .inr ⟨n, rfl, by simp [blocks, Kap.put_self], by simp [Kap.put_self]⟩
    · have hk0 := hn n (Nat.le_refl _) (by show n < n + 1; omega)
      have hnone := (H.rep n).kap hk0
      obtain ⟨hAb, hS⟩ := hA b (by simp)
      obtain ⟨h6, h7, h8⟩ := H.adopt (id := n) (b := b) (v := v) (nb := .row e x) hAb hS hnone (.inl hk0) rfl (by rw [hv]; rfl)
        (fun L n c hv' => by rw [hv] at hv'; injection hv' with hv' _ _; exact hv'.symm)
        (.inr ⟨b, cap, us, et, by rw [Kap.put_self, hv], h2, h3, h4, h5⟩)
      refine ⟨κ.put n (v, some b), ⟨?_, ?_, h8, fun i hi => Kap.put_other _ _ (by omega), fun i hi => ?_⟩, ?_, fun u hu => ?_⟩
      · rw [← A1 (L := [])]; exact h6
      · rw [← A1 (L := [])]; exact h7
      · have hi' : n + 1 ≤ i := hi
        exact Kap.put_other _ _ (by omega)
      · exact RepTs.cons (by simp only [RepT]; exact ⟨some b, Kap.put_self _ _ _⟩) RepTs.nil
      · have hu' : u = .ow n := by simpa [putC] using hu
        subst hu'
        exact .inr ⟨n, rfl, by simp [blocks, Kap.put_self], by simp [Kap.put_self]⟩

theorem putCs_sound : ∀ (cs : List CK) {A : Nat → Prop} {κ : Kap} {h : Heap} (H : HSim w0 S A κ h w) {n : Nat} {x : CXs cs} (hn : ∀ i, n ≤ i → i < n + (putCs n cs x).2.length → κ i = none) {vs : List Value} {L : List Nat} (hx : CReps w (OO A κ h) cs x vs L)
    (hA : ∀ b ∈ L, A b ∧ (S b ∨ w0.heap.size ≤ b)) (hnd : L.Nodup),
    ∃ κ', Put w0 S A κ h w n L (putCs n cs x).2 κ' ∧ RepTs w (OO A κ h) κ' (putCs n cs x).1 vs
  | [], A, κ, h, H, n, x, hn, vs, L, hx, hA, hnd => by
    obtain ⟨rfl, rfl⟩ := hx
    exact ⟨κ, Put.none H, RepTs.nil⟩
  | [c], A, κ, h, H, n, x, hn, vs, L, hx, hA, hnd => by
    obtain ⟨κ', h1, h2, _⟩ := putC_sound H c hn hx hA hnd
    exact ⟨κ', h1, h2⟩
  | c :: d :: cs, A, κ, h, H, n, x, hn, vs, L, hx, hA, hnd => by
    obtain ⟨v1, v2, L1, L2, rfl, rfl, h1, h2⟩ := hx
    rw [List.nodup_append] at hnd
    have hlen : (putCs n (c :: d :: cs) x).2.length = (putC n c x.1).2.length + (putCs (n + (putC n c x.1).2.length) (d :: cs) x.2).2.length := List.length_append
    rw [hlen] at hn
    obtain ⟨κ1, p1, r1, _⟩ := putC_sound H c (fun i h1 h2 => hn i h1 (by omega)) h1 (fun b hb => hA b (List.mem_append_left _ hb)) hnd.1
    obtain ⟨κ2, p2, r2⟩ := putCs_sound (d :: cs) p1.hsim (n := n + (putC n c x.1).2.length) (x := x.2) (fun i h1 h2 => (p1.high i h1).trans (hn i (by omega) (by omega))) (by rw [p1.oo]; exact h2)
      (fun b hb => ⟨⟨(hA b (List.mem_append_right _ hb)).1, fun hb1 => hnd.2.2 _ hb1 _ hb rfl⟩, (hA b (List.mem_append_right _ hb)).2⟩) hnd.2.1
    rw [p1.oo] at r2
    exact ⟨κ2, p1.append p2, (RepTs.mono (Ext.refl _ _) p2.le _ _ r1).append r2⟩

theorem putBox_sound {A : Nat → Prop} {κ : Kap} {h : Heap} (H : HSim w0 S A κ h w) {n : Nat} (cs : List CK) {x : CXs cs} (hn : ∀ i, n ≤ i → i < n + (putA n (.box cs) x).2.length → κ i = none) {v : Value} {L : List Nat} (hx : ARep w (OO A κ h) (.box cs) x v L)
    (hA : ∀ b ∈ L, A b ∧ (S b ∨ w0.heap.size ≤ b)) (hnd : L.Nodup) :
    ∃ κ', Put w0 S A κ h w n L (putA n (.box cs) x).2 κ' ∧ RepT w (OO A κ h) κ' (putA n (.box cs) x).1 v ∧ Good κ' (putA n (.box cs) x).1 (L.take 1) := by
  obtain ⟨b, vs, et, L', rfl, rfl, h1, h2⟩ := hx
  rw [List.nodup_cons] at hnd
  have hlen : (putA n (.box cs) x).2.length = (putCs (n + 1) cs x).2.length + 1 := rfl
  obtain ⟨κ1, p1, r1⟩ := putCs_sound cs H (n := n + 1) (x := x) (fun i h1 h2 => hn i (by omega) (by rw [hlen]; omega)) h2 (fun b hb => hA b (List.mem_cons_of_mem _ hb)) hnd.2
  have hk0 : κ1 n = none := (p1.low n (by omega)).trans (hn n (Nat.le_refl _) (by omega))
  have hnone := (p1.hsim.rep n).kap hk0
  obtain ⟨hAb, hS⟩ := hA b (by simp)
  have hle := Kap.le_put hk0 (.pointer (some ⟨b, 0, none⟩), some b)
  have r1' : RepTs w (OO A κ h) κ1 (putCs (n + 1) cs x).1 vs := r1
  obtain ⟨h6, h7, h8⟩ := p1.hsim.adopt (id := n) (b := b) (v := .pointer (some ⟨b, 0, none⟩)) (nb := .box (putCs (n + 1) cs x).1) ⟨hAb, hnd.1⟩ hS hnone (.inl hk0) rfl rfl
    (fun L n c hv' => by cases hv')
    ⟨b, vs, et, Kap.put_self _ _ _, h1, by rw [p1.oo]; exact RepTs.mono (Ext.refl _ _) hle _ _ r1'⟩
  have eA : (fun k => A k ∧ k ∉ b :: L') = fun k => (A k ∧ k ∉ L') ∧ k ≠ b := by
    funext k
    apply propext
    simp only [List.mem_cons, not_or]
    exact ⟨fun ⟨h1, h2, h3⟩ => ⟨⟨h1, h3⟩, h2⟩, fun ⟨⟨h1, h3⟩, h2⟩ => ⟨h1, h2, h3⟩⟩
  have eh : h.news n (putA n (.box cs) x).2 = (h.news (n + 1) (putCs (n + 1) cs x).2).upd n (.box (putCs (n + 1) cs x).1) := by
    show (h.upd n _).news (n + 1) _ = _
    rw [news_upd _ _ _ _ _ (by omega)]
  refine ⟨κ1.put n (.pointer (some ⟨b, 0, none⟩), some b), ⟨?_, ?_, Kap.le_trans p1.le hle, fun i hi => ?_, fun i hi => ?_⟩, ?_, .inr ⟨n, rfl, by simp [blocks, Kap.put_self], by simp [Kap.put_self]⟩⟩
  · rw [eA, eh]; exact h6
  · rw [eA, eh, h7, p1.oo]
  · rw [Kap.put_other _ _ (by omega)]; exact p1.low i (by omega)
  · have hi' : n + ((putCs (n + 1) cs x).2.length + 1) ≤ i := hi
    rw [Kap.put_other _ _ (by omega)]
    exact p1.high i (by omega)
  · show RepT _ _ _ (.ptr n 0) _
    simp only [RepT]
    exact ⟨_, b, Kap.put_self _ _ _, rfl⟩

theorem putA_sound {A : Nat → Prop} {κ : Kap} {h : Heap} (H : HSim w0 S A κ h w) {n : Nat} (a : AK) {x : a.X} (hn : ∀ i, n ≤ i → i < n + (putA n a x).2.length → κ i = none) {v : Value} {L : List Nat} (hx : ARep w (OO A κ h) a x v L)
    (hA : ∀ b ∈ L, A b ∧ (S b ∨ w0.heap.size ≤ b)) (hnd : L.Nodup) :
    ∃ κ', Put w0 S A κ h w n L (putA n a x).2 κ' ∧ RepT w (OO A κ h) κ' (putA n a x).1 v ∧ Good κ' (putA n a x).1 (L.take 1) := by
  cases a with
  | one c =>
    obtain ⟨κ1, p1, r1, g1⟩ := putC_sound H c (x := x) hn hx hA hnd
    refine ⟨κ1, p1, ?_⟩
    show RepT _ _ _ ((putC n c x).1.headD .undef) v ∧ Good κ1 ((putC n c x).1.headD .undef) (L.take 1)
    cases hp : (putC n c x).1 with
    | nil => exact ⟨by simp [RepT], .inl ⟨rfl, by simp⟩⟩
    | cons t r =>
      rw [hp] at r1 g1
      refine ⟨?_, g1 t (by simp)⟩
      exact (RepTs.cons_iff.1 (by
        have := r1.length
        cases r with
        | nil => exact r1
        | cons _ _ => simp at this)).1
  | agg cs =>
    obtain ⟨vs, rfl, h1⟩ := hx
    obtain ⟨κ1, p1, r1⟩ := putCs_sound cs H (x := x) hn h1 hA hnd
    exact ⟨κ1, p1, by show RepT _ _ _ (.agg (putCs n cs x).1) _; simp only [RepT]; exact ⟨vs, rfl, r1⟩, .inl ⟨rfl, by simp [putA]⟩⟩
  | fn g cs =>
    obtain ⟨vs, rfl, h1⟩ := hx
    obtain ⟨κ1, p1, r1⟩ := putCs_sound cs H (x := x) hn h1 hA hnd
    exact ⟨κ1, p1, by show RepT _ _ _ (.fn g (putCs n cs x).1) _; simp only [RepT]; exact ⟨vs, rfl, r1⟩, .inl ⟨uIdT_fn, by simp [putA]⟩⟩
  | box cs => exact putBox_sound H cs hn hx hA hnd
  | fnb g cs =>
    obtain ⟨u, rfl, hx2⟩ := ARep.fnb.1 hx
    obtain ⟨κ1, p1, r1, g1⟩ := putBox_sound H cs (n := n) (x := x) hn hx2 hA hnd
    refine ⟨κ1, p1, ?_, ?_⟩
    · show RepT _ _ _ (.fn g [.ptr n 0]) _
      simp only [RepT]
      exact ⟨[u], rfl, RepTs.cons r1 RepTs.nil⟩
    · rcases g1 with g1 | ⟨id, g1, g2, g3⟩
      · have e : uIdT (putA n (.box cs) x).1 = some n := rfl
        rw [e] at g1; cases g1.1
      · exact .inr ⟨id, g1, g2, g3⟩

theorem putAs_sound : ∀ (as : List AK) {A : Nat → Prop} {κ : Kap} {h : Heap} (H : HSim w0 S A κ h w) {n : Nat} {x : AXs as} (hn : ∀ i, n ≤ i → i < n + (putAs n as x).2.length → κ i = none) {vs : List Value} {Ls : List (List Nat)} (hx : AReps w (OO A κ h) as x vs Ls)
    (hA : ∀ b ∈ Ls.flatten, A b ∧ (S b ∨ w0.heap.size ≤ b)) (hnd : Ls.flatten.Nodup),
    ∃ κ', Put w0 S A κ h w n Ls.flatten (putAs n as x).2 κ' ∧ RepTs w (OO A κ h) κ' (putAs n as x).1 vs ∧ ∀ k t, (putAs n as x).1[k]? = some t → Good κ' t ((Ls.getD k []).take 1)
  | [], A, κ, h, H, n, x, hn, vs, Ls, hx, hA, hnd => by
    obtain ⟨rfl, rfl⟩ := hx
    exact ⟨κ, Put.none H, RepTs.nil, fun k t hk => by simp [putAs] at hk⟩
  | [a], A, κ, h, H, n, x, hn, vs, Ls, hx, hA, hnd => by
    obtain ⟨v, L, rfl, rfl, h1⟩ := hx
    simp only [List.flatten_cons, List.flatten_nil, List.append_nil] at hA hnd ⊢
    obtain ⟨κ1, p1, r1, g1⟩ := putA_sound H a (x := x) hn h1 hA hnd
    refine ⟨κ1, p1, RepTs.cons r1 RepTs.nil, fun k t hk => ?_⟩
    have hk' : [(putA n a x).1][k]? = some t := hk
    cases k with
    | zero =>
      simp only [List.getElem?_cons_zero, Option.some.injEq] at hk'
      subst hk'; exact g1
    | succ k => simp at hk'
  | a :: b :: as, A, κ, h, H, n, x, hn, vs, Ls, hx, hA, hnd => by
    obtain ⟨v, vs', L, Ls', rfl, rfl, h1, h2⟩ := hx
    simp only [List.flatten_cons] at hA hnd ⊢
    rw [List.nodup_append] at hnd
    have hlen : (putAs n (a :: b :: as) x).2.length = (putA n a x.1).2.length + (putAs (n + (putA n a x.1).2.length) (b :: as) x.2).2.length := List.length_append
    rw [hlen] at hn
    obtain ⟨κ1, p1, r1, g1⟩ := putA_sound H a (fun i h1 h2 => hn i h1 (by omega)) h1 (fun b hb => hA b (List.mem_append_left _ hb)) hnd.1
    obtain ⟨κ2, p2, r2, g2⟩ := putAs_sound (b :: as) p1.hsim (n := n + (putA n a x.1).2.length) (x := x.2) (fun i h1 h2 => (p1.high i h1).trans (hn i (by omega) (by omega))) (by rw [p1.oo]; exact h2)
      (fun b hb => ⟨⟨(hA b (List.mem_append_right _ hb)).1, fun hb1 => hnd.2.2 _ hb1 _ hb rfl⟩, (hA b (List.mem_append_right _ hb)).2⟩) hnd.2.1
    rw [p1.oo] at r2
    refine ⟨κ2, p1.append p2, RepTs.cons (RepT.mono (Ext.refl _ _) p2.le _ _ r1) r2, fun k t hk => ?_⟩
    have hk' : ((putA n a x.1).1 :: (putAs (n + (putA n a x.1).2.length) (b :: as) x.2).1)[k]? = some t := hk
    cases k with
    | zero =>
      simp only [List.getElem?_cons_zero, Option.some.injEq] at hk'
      subst hk'; exact g1.mono p2.le
    | succ k =>
      simp only [List.getElem?_cons_succ] at hk'
      exact g2 k t hk'
end
end Go.Am

/- The symbolic machine: contracts, calls. -/
set_option linter.unusedVariables false
set_option linter.unusedSimpArgs false
namespace Go.Am
open Go Go.RowKit

/-! ### 1. What a contract says -/
def tupV : List Value → Value
  | [v] => v
  | vs => .tuple vs.toArray
def CallsFn (P : Program) (g : Nat) (args : Array Value) (w : World) (R : Ending → World → Prop) : Prop :=
  ((callFunc g args).run P w = .ok (.enter g args) w ∧ Calls P g args w R) ∨ ∃ v w', (callFunc g args).run P w = .ok (.value v) w' ∧ R (.returned v) w'
theorem CallsFn.mono {P : Program} {g : Nat} {args : Array Value} {w : World} {R R' : Ending → World → Prop} (h : CallsFn P g args w R) (hr : ∀ e w', R e w' → R' e w') : CallsFn P g args w R' := by
  rcases h with ⟨h1, h2⟩ | ⟨v, w', h1, h2⟩
  · exact .inl ⟨h1, h2.mono hr⟩
  · exact .inr ⟨v, w', h1, hr _ _ h2⟩

def Ret (w : World) (A : Nat → Prop) (ps : List AK) (us : List Nat) {rs : List AK} (vs : List Value) (Ls : List (List Nat)) (Q : Res ps us rs → Prop) : Ending → World → Prop
  | .returned v, w' => ∃ (r : Res ps us rs) (rvs : List Value) (A' : Nat → Prop) (Lr : List (List Nat)), Q r ∧ v = tupV rvs ∧ Fr w (· ∈ Ls.flatten) w' ∧ (∀ b, A b → A' b) ∧
      (∀ b, A' b → (A b ∨ b ∈ Ls.flatten ∨ w.heap.size ≤ b) ∧ b < w'.heap.size) ∧ AReps w' A' rs r.1 rvs Lr ∧
      AReps w' A' (us.map fun i => ps.getD i (.one (.val .unit))) r.2 (us.map fun i => vs.getD i undef) (us.map fun i => Ls.getD i []) ∧
      (Lr.flatten ++ (us.map fun i => Ls.getD i []).flatten).Nodup ∧ (∀ b ∈ Lr.flatten ++ (us.map fun i => Ls.getD i []).flatten, A' b ∧ (b ∈ Ls.flatten ∨ w.heap.size ≤ b))
  | _, _ => False
def Con.Sound (P : Program) (g : Nat) (c : Con) : Prop :=
  ∀ (w : World) (A : Nat → Prop) (x : AXs c.ps) (vs : List Value) (Ls : List (List Nat)), AReps w (fun b => A b ∨ b ∈ Ls.flatten) c.ps x vs Ls → Ls.flatten.Nodup →
    (∀ b ∈ Ls.flatten, ¬ A b ∧ b < w.heap.size) → (∀ b, A b → b < w.heap.size) → ∀ Q : Res c.ps c.us c.rs → Prop, (c.F x).wp Q → CallsFn P g vs.toArray w (Ret w A c.ps c.us vs Ls Q)
def Cons (P : Program) (C : Ctx) : Prop := ∀ g fs c, C.con g fs = some c → c.Sound P g

/-! ### 2. Kinds without slices -/
theorem RoX.flat {w w' : World} {O O' : Nat → Prop} : ∀ (t : Ty) (x : t.X) (vs : List Value), t.flat = true → RoX w O t x vs → RoX w' O' t x vs
  | .int _, _, _, _, h => h
  | .bool, _, _, _, h => h
  | .str, _, _, _, h => h
  | .unit, _, _, _, h => h
  | .pair a b, x, vs, hf, h => by
    simp only [Ty.flat, Bool.and_eq_true] at hf
    obtain ⟨v1, v2, h1, h2, h3⟩ := h
    exact ⟨v1, v2, h1, RoX.flat a _ _ hf.1 h2, RoX.flat b _ _ hf.2 h3⟩
theorem CRep.plain {w : World} {O O' : Nat → Prop} (c : CK) {x : c.X} {vs : List Value} {L : List Nat} (hp : c.plain = true) (h : CRep w O c x vs L) : CRep w O' c x vs L := by
  cases c with
  | val t => exact ⟨RoX.flat t _ _ hp h.1, h.2⟩
  | own e =>
    obtain ⟨v, h1, h2 | ⟨b, h2, cap, us, et, h3, h4, h5, h6, h7⟩⟩ := h
    · exact ⟨v, h1, .inl h2⟩
    · exact ⟨v, h1, .inr ⟨b, h2, cap, us, et, h3, h4, h5, h6, fun i x hi => RoX.flat e _ _ hp (h7 i x hi)⟩⟩
theorem CReps.plain {w : World} {O O' : Nat → Prop} : ∀ (cs : List CK) {x : CXs cs} {vs : List Value} {L : List Nat}, cs.all CK.plain = true → CReps w O cs x vs L → CReps w O' cs x vs L
  | [], _, _, _, _, h => h
  | [c], x, vs, L, hp, h => CRep.plain c (by simpa using hp) h
  | c :: d :: cs, x, vs, L, hp, h => by
    simp only [List.all_cons, Bool.and_eq_true] at hp
    obtain ⟨v1, v2, L1, L2, h1, h2, h3, h4⟩ := h
    exact ⟨v1, v2, L1, L2, h1, h2, CRep.plain c hp.1 h3, CReps.plain (d :: cs) (by simpa using hp.2) h4⟩
theorem ARep.plain {w : World} {O O' : Nat → Prop} (a : AK) {x : a.X} {v : Value} {L : List Nat} (hp : a.plain = true) (h : ARep w O a x v L) : ARep w O' a x v L := by
  cases a with
  | one c => exact CRep.plain c hp h
  | agg cs => obtain ⟨vs, h1, h2⟩ := h; exact ⟨vs, h1, CReps.plain cs hp h2⟩
  | box cs => obtain ⟨b, vs, et, L', h1, h2, h3, h4⟩ := h; exact ⟨b, vs, et, L', h1, h2, h3, CReps.plain cs hp h4⟩
  | fn g cs => obtain ⟨vs, h1, h2⟩ := h; exact ⟨vs, h1, CReps.plain cs hp h2⟩
  | fnb g cs => obtain ⟨b, vs, et, L', h1, h2, h3, h4⟩ := h; exact ⟨b, vs, et, L', h1, h2, h3, CReps.plain cs hp h4⟩
theorem AReps.plain {w : World} {O O' : Nat → Prop} : ∀ (as : List AK) {x : AXs as} {vs : List Value} {Ls : List (List Nat)}, as.all AK.plain = true → AReps w O as x vs Ls → AReps w O' as x vs Ls
  | [], _, _, _, _, h => h
  | [a], x, vs, Ls, hp, h => by
    obtain ⟨v, L, h1, h2, h3⟩ := h
    exact ⟨v, L, h1, h2, ARep.plain a (by simpa using hp) h3⟩
  | a :: b :: as, x, vs, Ls, hp, h => by
    simp only [List.all_cons, Bool.and_eq_true] at hp
    obtain ⟨v, vs', L, Ls', h1, h2, h3, h4⟩ := h
    exact ⟨v, vs', L, Ls', h1, h2, ARep.plain a hp.1 h3, AReps.plain (b :: as) (by simpa using hp.2) h4⟩

/-! ### 3. Parameters that are handed back -/
section
variable {P : Program} {C : Ctx} {w0 : World} {S A : Nat → Prop} {κ : Kap} {h hr : Heap} {w : World}

theorem backA_some {t : T} {a : AK} {x : a.X} {wr : List (Nat × B)} (hb : backA t a x = some wr) : ∃ id nb, uId a t = some id ∧ wr = [(id, nb)] ∧ nb.live = true ∧
    ∀ (w : World) (O : Nat → Prop) (κ : Kap) (v : Value) (ob : Option Nat), ARep w O a x v ob.toList → κ id = some (uV a v, ob) → RepB w O κ id nb := by
  unfold backA at hb
  split at hb
  · rename_i e xs
    split at hb
    · rename_i id
      injection hb with hb
      refine ⟨id, _, rfl, hb.symm, rfl, fun w O κ v ob hr hk => ?_⟩
      obtain ⟨v', h1, ⟨h2, ⟨A', h3⟩, h4⟩ | ⟨b, h2, cap, us, et, h3, h4, h5, h6, h7⟩⟩ := hr
      · injection h1 with h1 _; subst h1
        have : ob = none := by cases ob <;> simp at h4 ⊢
        subst this
        exact .inl ⟨h2, A', by rw [hk]; simp only [uV]; rw [h3]⟩
      · injection h1 with h1 _; subst h1
        have : ob = some b := by cases ob <;> simp at h2 ⊢; exact h2
        subst this
        exact .inr ⟨b, cap, us, et, by rw [hk]; simp only [uV]; rw [h3], h4, h5, h6, h7⟩
    · cases hb
  · rename_i ty x
    split at hb
    · rename_i id
      injection hb with hb
      refine ⟨id, _, rfl, hb.symm, rfl, fun w O κ v ob hr hk => ?_⟩
      obtain ⟨b, vs, et, L', h1, h2, h3, h4, h5⟩ := hr
      have : ob = some b := by cases ob <;> simp at h2 ⊢; exact h2.1
      subst this
      exact ⟨b, vs, et, by rw [hk, h1]; rfl, h3, RoX.rep _ _ _ h4⟩
    · cases hb
  · rename_i g ty x
    split at hb
    · rename_i id hid
      injection hb with hb
      refine ⟨id, _, by show uId0 _ (unFn g t) = _; rw [hid]; rfl, hb.symm, rfl, fun w O κ v ob hr hk => ?_⟩
      obtain ⟨b, vs, et, L', h1, h2, h3, h4, h5⟩ := hr
      have : ob = some b := by cases ob <;> simp at h2 ⊢; exact h2.1
      subst this
      exact ⟨b, vs, et, by rw [hk, h1]; rfl, h3, RoX.rep _ _ _ h4⟩
    · cases hb
  · cases hb

/-- a block of the machine's that stands for none of the model's -/
theorem HSim.revive (H : HSim w0 S A κ h w) {id : Nat} {v : Value} {nb : B} (hn : h id = .none) (hk : κ id = some (v, none)) (hnb : RepB w (OO A κ h) κ id nb) :
    HSim w0 S A κ (h.upd id nb) w ∧ OO A κ (h.upd id nb) = OO A κ h := by
  have hup : ∀ j, (h.upd id nb) j = if j = id then nb else h j := fun j => rfl
  have hne : ∀ {j u b}, κ j = some (u, some b) → j ≠ id := by rintro j u b h1 rfl; rw [hk] at h1; cases h1
  have hown : ∀ k, Own κ (h.upd id nb) k ↔ Own κ h k := by
    intro k
    constructor
    · rintro ⟨j, u, h1, h2⟩
      rw [hup, if_neg (hne h2)] at h1
      exact ⟨j, u, h1, h2⟩
    · rintro ⟨j, u, h1, h2⟩
      exact ⟨j, u, by rw [hup, if_neg (hne h2)]; exact h1, h2⟩
  have hO : OO A κ (h.upd id nb) = OO A κ h := by
    funext k
    exact propext ⟨fun x => x.imp _root_.id (hown k).1, fun x => x.imp _root_.id (hown k).2⟩
  refine ⟨⟨fun j => ?_, fun i j u1 u2 k h1 h2 h3 h4 => ?_, H.kwf, fun b hb => H.own b ((hown b).1 hb), H.abnd, H.kbnd, H.kone, H.frame⟩, hO⟩
  · rw [hO, hup]
    by_cases e : j = id
    · subst e; rw [if_pos rfl]; exact hnb
    · rw [if_neg e]; exact H.rep j
  · rw [hup, if_neg (hne h3)] at h1
    rw [hup, if_neg (hne h4)] at h2
    exact H.inj i j u1 u2 k h1 h2 h3 h4

theorem put_id {id : Nat} {p : Value × Option Nat} (hk : κ id = some p) : κ.put id p = κ := by
  funext j
  by_cases e : j = id
  · subst e; rw [Kap.put_self, hk]
  · exact Kap.put_other _ _ e

theorem back1 (H : HSim w0 S A κ h w) {id : Nat} {v : Value} {ob : Option Nat} {nb : B} (hn : h id = .none) (hk : κ id = some (v, ob)) (hl : nb.live = true) (hA : ∀ b ∈ ob.toList, A b ∧ (S b ∨ w0.heap.size ≤ b))
    (hnb : RepB w (OO A κ h) κ id nb) : HSim w0 S (fun b => A b ∧ b ∉ ob.toList) κ (h.upd id nb) w ∧ OO (fun b => A b ∧ b ∉ ob.toList) κ (h.upd id nb) = OO A κ h := by
  cases ob with
  | none =>
    have e : (fun b => A b ∧ b ∉ (none : Option Nat).toList) = A := by funext b; simp
    rw [e]
    exact H.revive hn hk hnb
  | some b =>
    obtain ⟨h1, h2⟩ := hA b (by simp)
    have := H.adopt (id := id) (b := b) (v := v) (nb := nb) h1 h2 hn (.inr hk) hl (H.kone _ _ _ hk) (fun L n c hv => H.kwf id L n c b (by rw [hk, hv])) (by rw [put_id hk]; exact hnb)
    rw [put_id hk] at this
    have e : (fun k => A k ∧ k ∉ (some b).toList) = fun k => A k ∧ k ≠ b := by funext k; simp
    rw [e]
    exact ⟨this.1, this.2.1⟩

theorem backAs_nil {ps : List AK} {ts : List T} {x : AXs (([] : List Nat).map fun i => ps.getD i (.one (.val .unit)))} : backAs ps ts [] x = some [] := rfl
theorem backAs_one {ps : List AK} {ts : List T} {i : Nat} {x : AXs ([i].map fun i => ps.getD i (.one (.val .unit)))} : backAs ps ts [i] x = backA (ts.getD i .undef) (ps.getD i (.one (.val .unit))) x := rfl
theorem backAs_more {ps : List AK} {ts : List T} {i j : Nat} {us : List Nat} {x : AXs ((i :: j :: us).map fun i => ps.getD i (.one (.val .unit)))} :
    backAs ps ts (i :: j :: us) x = match backA (ts.getD i .undef) (ps.getD i (.one (.val .unit))) x.1 with
    | some l => (backAs ps ts (j :: us) x.2).map fun r => l ++ r
    | none => none := rfl

theorem backAs_sound {ps : List AK} {ts : List T} {vs : List Value} {Ls : List (List Nat)} (hd : ∀ i j id, uId (ps.getD i (.one (.val .unit))) (ts.getD i .undef) = some id → uId (ps.getD j (.one (.val .unit))) (ts.getD j .undef) = some id → i = j)
    (hT : ∀ i id, uId (ps.getD i (.one (.val .unit))) (ts.getD i .undef) = some id → ∃ ob, κ id = some (uV (ps.getD i (.one (.val .unit))) (vs.getD i undef), ob) ∧ Ls.getD i [] = ob.toList) :
    ∀ (us : List Nat) {A : Nat → Prop} {h : Heap} (H : HSim w0 S A κ h w) {x : AXs (us.map fun i => ps.getD i (.one (.val .unit)))} {wr : List (Nat × B)}, us.Nodup → backAs ps ts us x = some wr →
      (∀ i id, i ∈ us → uId (ps.getD i (.one (.val .unit))) (ts.getD i .undef) = some id → h id = .none) →
      AReps w (OO A κ h) (us.map fun i => ps.getD i (.one (.val .unit))) x (us.map fun i => vs.getD i undef) (us.map fun i => Ls.getD i []) → (us.map fun i => Ls.getD i []).flatten.Nodup →
      (∀ b ∈ (us.map fun i => Ls.getD i []).flatten, A b ∧ (S b ∨ w0.heap.size ≤ b)) →
      HSim w0 S (fun b => A b ∧ b ∉ (us.map fun i => Ls.getD i []).flatten) κ (h.updAll wr) w ∧ OO (fun b => A b ∧ b ∉ (us.map fun i => Ls.getD i []).flatten) κ (h.updAll wr) = OO A κ h
  | [], A, h, H, x, wr, hu, hb, hn, hr, hnd, hA => by
    rw [backAs_nil] at hb
    injection hb with hb; subst hb
    have e : (fun b => A b ∧ b ∉ (([] : List Nat).map fun i => Ls.getD i []).flatten) = A := by funext b; simp
    rw [e]
    exact ⟨H, rfl⟩
  | [i], A, h, H, x, wr, hu, hb, hn, hr, hnd, hA => by
    rw [backAs_one] at hb
    obtain ⟨id, nb, h1, rfl, h3, h4⟩ := backA_some hb
    obtain ⟨ob, h5, h6⟩ := hT i id h1
    obtain ⟨v, L, g1, g2, g3⟩ := hr
    simp only [List.map_cons, List.map_nil, List.cons.injEq, and_true] at g1 g2
    subst g1; subst g2
    rw [h6] at g3
    have := back1 H (hn i id (by simp) h1) h5 h3 (fun b hb => hA b (by simp only [List.map_cons, List.map_nil, List.flatten_cons, List.flatten_nil, List.append_nil]; rw [h6]; exact hb)) (h4 _ _ _ _ _ g3 h5)
    have e : (([i] : List Nat).map fun i => Ls.getD i []).flatten = ob.toList := by
      simp only [List.map_cons, List.map_nil, List.flatten_cons, List.flatten_nil, List.append_nil]; exact h6
    rw [e]
    exact this
  | i :: j :: us, A, h, H, x, wr, hu, hb, hn, hr, hnd, hA => by
    rw [backAs_more] at hb
    cases hb1 : backA (ts.getD i .undef) (ps.getD i (.one (.val .unit))) x.1 with
    | none => rw [hb1] at hb; cases hb
    | some l =>
      rw [hb1] at hb
      dsimp only at hb
      cases hb2 : backAs ps ts (j :: us) x.2 with
      | none => rw [hb2] at hb; cases hb
      | some r =>
        rw [hb2] at hb
        injection hb with hb; subst hb
        obtain ⟨id, nb, h1, rfl, h3, h4⟩ := backA_some hb1
        obtain ⟨ob, h5, h6⟩ := hT i id h1
        obtain ⟨v, vs', L, Ls', g1, g2, g3, g4⟩ := hr
        have g1' : vs.getD i undef :: ((j :: us).map fun i => vs.getD i undef) = v :: vs' := g1
        have g2' : Ls.getD i [] :: ((j :: us).map fun i => Ls.getD i []) = L :: Ls' := g2
        injection g1' with e1 e2
        injection g2' with e3 e4
        subst e1; subst e2; subst e3; subst e4
        have e0 : ((i :: j :: us).map fun i => Ls.getD i []).flatten = ob.toList ++ ((j :: us).map fun i => Ls.getD i []).flatten := by
          rw [← h6]; rfl
        rw [e0] at hnd hA
        rw [List.nodup_append] at hnd
        rw [h6] at g3
        obtain ⟨H1, o1⟩ := back1 H (hn i id (by simp) h1) h5 h3 (fun b hb => hA b (List.mem_append_left _ hb)) (h4 _ _ _ _ _ g3 h5)
        rw [List.nodup_cons] at hu
        obtain ⟨H2, o2⟩ := backAs_sound hd hT (j :: us) H1 hu.2 hb2 (fun i' id' hi' hu' => by
            have hne : id' ≠ id := by
              rintro rfl
              have := hd i i' id' h1 hu'
              subst this
              exact hu.1 hi'
            simp only [Heap.upd, if_neg hne]
            exact hn i' id' (List.mem_cons_of_mem _ hi') hu') (by rw [o1]; exact g4) hnd.2.1
          (fun b hb => ⟨⟨(hA b (List.mem_append_right _ hb)).1, fun hb1 => hnd.2.2 _ hb1 _ hb rfl⟩, (hA b (List.mem_append_right _ hb)).2⟩)
        have eA : (fun b => A b ∧ b ∉ ((i :: j :: us).map fun i => Ls.getD i []).flatten) = fun b => (A b ∧ b ∉ ob.toList) ∧ b ∉ ((j :: us).map fun i => Ls.getD i []).flatten := by
          rw [e0]
          funext b; simp only [List.mem_append, not_or, and_assoc]
        rw [eA]
        exact ⟨H2, o2.trans o1⟩
end
end Go.Am
