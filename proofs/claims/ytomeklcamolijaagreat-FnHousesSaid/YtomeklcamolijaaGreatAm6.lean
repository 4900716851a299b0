import Derived.Test.YtomeklcamolijaaGreatAm5
/- The symbolic machine: calls. -/
set_option linter.unusedVariables false
set_option linter.unusedSimpArgs false
namespace Go.Am
open Go Go.RowKit

section
variable {P : Program} {C : Ctx} {w0 : World} {S A : Nat → Prop} {κ : Kap} {h hr : Heap} {w : World}

theorem rep_tup {O : Nat → Prop} {ts : List T} {vs : List Value} (hr : RepTs w O κ ts vs) : RepT w O κ (tupT ts) (tupV vs) := by
  match ts, hr with
  | [], hr =>
    simp only [RepTs] at hr; subst hr
    simp only [tupT, tupV, RepT]
    exact ⟨[], rfl, RepTs.nil⟩
  | [t], hr =>
    simp only [RepTs] at hr
    obtain ⟨v, us, rfl, h1, rfl⟩ := hr
    exact h1
  | t :: u :: ts, hr =>
    have hr' := hr
    simp only [RepTs] at hr
    obtain ⟨v, us, rfl, h1, v2, us2, rfl, h2, h3⟩ := hr
    simp only [tupT, tupV, RepT]
    exact ⟨_, rfl, hr'⟩

theorem flatten_nth {α : Type} : ∀ {l : List (List α)} {i j : Nat} {a : α}, l.flatten.Nodup → l[i]? = some [a] → l[j]? = some [a] → i = j
  | [], i, j, a, _, h1, _ => by simp at h1
  | x :: l, i, j, a, hn, h1, h2 => by
    simp only [List.flatten_cons, List.nodup_append] at hn
    cases i with
    | zero =>
      cases j with
      | zero => rfl
      | succ j =>
        simp only [List.getElem?_cons_zero, Option.some.injEq] at h1
        simp only [List.getElem?_cons_succ] at h2
        subst h1
        exact absurd rfl (hn.2.2 a (by simp) a (List.mem_flatten.2 ⟨[a], List.mem_of_getElem? h2, by simp⟩))
    | succ i =>
      simp only [List.getElem?_cons_succ] at h1
      cases j with
      | zero =>
        simp only [List.getElem?_cons_zero, Option.some.injEq] at h2
        subst h2
        exact absurd rfl (hn.2.2 a (by simp) a (List.mem_flatten.2 ⟨[a], List.mem_of_getElem? h1, by simp⟩))
      | succ j =>
        simp only [List.getElem?_cons_succ] at h2
        rw [flatten_nth hn.2.1 h1 h2]

theorem flatten_blocks (κ : Kap) : ∀ (l : List (List Nat)), (l.map (blocks κ)).flatten = blocks κ l.flatten
  | [] => by simp [blocks]
  | x :: l => by simp [flatten_blocks κ l, blocks_append]

/-- what a call comes to -/
def Ends (w0 : World) (S A : Nat → Prop) (κ : Kap) (h : Heap) (w : World) (base : Nat) (Q : Eff → Prop) : Ending → World → Prop
  | .returned v, w' => ∃ e κ', Q e ∧ HSim w0 S A κ' ((h.updAll e.wr).news base e.nw) w' ∧ Ext w (OO A κ h) w' (OO A κ' ((h.updAll e.wr).news base e.nw)) ∧ κ.le κ' ∧
      (∀ id, κ' id ≠ none → κ id ≠ none ∨ (base ≤ id ∧ id < base + e.nw.length)) ∧ RepT w' (OO A κ' ((h.updAll e.wr).news base e.nw)) κ' e.dst v
  | _, _ => False

theorem Ret.imp {A : Nat → Prop} {ps : List AK} {us : List Nat} {rs : List AK} {vs : List Value} {Ls : List (List Nat)} {Q : Res ps us rs → Prop} {R : Ending → World → Prop}
    (hh : ∀ (r : Res ps us rs) (rvs : List Value) (A' : Nat → Prop) (Lr : List (List Nat)) (w' : World), Q r → Fr w (· ∈ Ls.flatten) w' → (∀ b, A b → A' b) →
      (∀ b, A' b → (A b ∨ b ∈ Ls.flatten ∨ w.heap.size ≤ b) ∧ b < w'.heap.size) → AReps w' A' rs r.1 rvs Lr →
      AReps w' A' (us.map fun i => ps.getD i (.one (.val .unit))) r.2 (us.map fun i => vs.getD i undef) (us.map fun i => Ls.getD i []) →
      (Lr.flatten ++ (us.map fun i => Ls.getD i []).flatten).Nodup → (∀ b ∈ Lr.flatten ++ (us.map fun i => Ls.getD i []).flatten, A' b ∧ (b ∈ Ls.flatten ∨ w.heap.size ≤ b)) → R (.returned (tupV rvs)) w') :
    ∀ e w', Ret w A ps us vs Ls Q e w' → R e w' := by
  intro e w' hr
  cases e with
  | returned v =>
    obtain ⟨r, rvs, A', Lr, h1, rfl, h3, h4, h5, h6, h7, h8, h9⟩ := hr
    exact hh r rvs A' Lr w' h1 h3 h4 h5 h6 h7 h8 h9
  | panicked c => exact hr.elim
  | outgrown => exact hr.elim

/-- the frame goes on over a call that writes at blocks of one's own -/
theorem Fr.go {w' : World} {L : List Nat} (hf : Fr w0 S w) (hc : Fr w (· ∈ L) w') (hL : ∀ b ∈ L, S b ∨ w0.heap.size ≤ b) : Fr w0 S w' :=
  ⟨hc.os.trans hf.os, hc.tape.trans hf.tape, hc.output.trans hf.output, Nat.le_trans hf.size hc.size, fun k hk hs => by
    rw [hc.block k (Nat.lt_of_lt_of_le hk hf.size) (fun hm => by rcases hL k hm with h1 | h1; exact hs h1; omega)]
    exact hf.block k hk hs⟩

theorem uId_undef (a : AK) : uId a .undef = none := by
  have h0 : ∀ a, uId0 a .undef = none := by
    intro a; unfold uId0; split <;> first | rfl | (rename_i h; cases h)
  unfold uId
  split
  · exact h0 _
  · exact h0 _
theorem uId_get {ps : List AK} {ts : List T} {i id : Nat} (hu : uId (ps.getD i (.one (.val .unit))) (ts.getD i .undef) = some id) : ∃ a t, ps[i]? = some a ∧ ts[i]? = some t ∧ uId a t = some id := by
  rw [List.getD_eq_getElem?_getD, List.getD_eq_getElem?_getD] at hu
  cases h1 : ps[i]? with
  | none => rw [h1] at hu; simp [uId, uId0] at hu
  | some a =>
    cases h2 : ts[i]? with
    | none =>
      rw [h2] at hu
      simp only [Option.getD_none] at hu
      rw [uId_undef] at hu; cases hu
    | some t => rw [h1, h2] at hu; exact ⟨a, t, rfl, rfl, hu⟩


namespace DT
def val {α : Type} : DT α → Option α
  | ret a => some a
  | fail => none
  | ite b t e => match b with | true => t.val | false => e.val
theorem wp_val {α : Type} {m : DT α} {Q : α → Prop} : m.wp Q ↔ ∃ a, m.val = some a ∧ Q a := by
  induction m with
  | ret a => exact ⟨fun h => ⟨a, rfl, h⟩, fun ⟨b, h1, h2⟩ => (Option.some.inj h1) ▸ h2⟩
  | fail => exact ⟨fun h => h.elim, fun ⟨b, h1, _⟩ => by cases h1⟩
  | ite b t e iht ihe =>
    cases b
    · exact ⟨fun h => ihe.1 (h.2 rfl), fun h => ⟨fun hb => absurd hb (by simp), fun _ => ihe.2 h⟩⟩
    · exact ⟨fun h => iht.1 (h.1 rfl), fun h => ⟨fun _ => iht.2 h, fun hb => absurd hb (by simp)⟩⟩
end DT

/-- behind the call -/
theorem call_back {ps : List AK} {us : List Nat} {rs : List AK} {ts : List T} {vs : List Value} {owns : List (List Nat)} {own : List Nat} {h1 : Heap} (H1 : HSim w0 S A κ h1 w) (hx1 : Ext w (OO A κ h) w (OO A κ h1)) (he : owns.flatten = own) (hown : own.Nodup) (hus : us.Nodup)
    (hlive : ∀ i ∈ own, (h1 i).live = true) (hU : ∀ i a t id, ps[i]? = some a → ts[i]? = some t → uId a t = some id → owns[i]? = some [id] ∧ ∃ ob, κ id = some (uV a (vs.getD i undef), ob))
    {Ac : Nat → Prop} (hAc : ∀ b, Ac b → A b ∨ Own κ (h1.updAll (kill own)) b) {r : Res ps us rs} (hmode : (∀ b, A b ∨ Own κ (h1.updAll (kill own)) b → Ac b) ∨ (rs.all AK.plain && us.all (fun i => (ps.getD i (.one (.val .unit))).plain)) = true)
    {back : List (Nat × B)} (hback : backAs ps ts us r.2 = some back) {base : Nat} (hb : ∀ i, base ≤ i → i < base + (putAs base rs r.1).2.length → κ i = none)
    {rvs : List Value} {A' : Nat → Prop} {Lr : List (List Nat)} {w' : World} (hF : Fr w (· ∈ (owns.map (blocks κ)).flatten) w') (hA1 : ∀ b, Ac b → A' b)
    (hA2 : ∀ b, A' b → (Ac b ∨ b ∈ (owns.map (blocks κ)).flatten ∨ w.heap.size ≤ b) ∧ b < w'.heap.size) (hR : AReps w' A' rs r.1 rvs Lr)
    (hUs : AReps w' A' (us.map fun i => ps.getD i (.one (.val .unit))) r.2 (us.map fun i => vs.getD i undef) (us.map fun i => (owns.map (blocks κ)).getD i []))
    (hnd : (Lr.flatten ++ (us.map fun i => (owns.map (blocks κ)).getD i []).flatten).Nodup)
    (hin : ∀ b ∈ Lr.flatten ++ (us.map fun i => (owns.map (blocks κ)).getD i []).flatten, A' b ∧ (b ∈ (owns.map (blocks κ)).flatten ∨ w.heap.size ≤ b)) :
    ∃ κ', HSim w0 S A κ' (((h1.updAll (kill own)).updAll back).news base (putAs base rs r.1).2) w' ∧ Ext w (OO A κ h) w' (OO A κ' (((h1.updAll (kill own)).updAll back).news base (putAs base rs r.1).2)) ∧ κ.le κ' ∧
      (∀ id, κ' id ≠ none → κ id ≠ none ∨ (base ≤ id ∧ id < base + (putAs base rs r.1).2.length)) ∧ RepTs w' (OO A κ' (((h1.updAll (kill own)).updAll back).news base (putAs base rs r.1).2)) κ' (putAs base rs r.1).1 rvs := by
  rw [flatten_blocks, he] at hF hA2 hin
  have hLown : ∀ b ∈ blocks κ own, Own κ h1 b := fun b hb => by
    obtain ⟨i, hi, v, h2⟩ := mem_blocks.1 hb
    exact ⟨i, v, hlive i hi, h2⟩
  obtain ⟨H2, o2⟩ := H1.demote own
  generalize hAd : (fun b => A b ∨ ∃ id ∈ own, (h1 id).live = true ∧ ∃ v, κ id = some (v, some b)) = Ad at H2 o2
  have hAd' : ∀ b, b ∈ blocks κ own → Ad b := fun b hb => by
    rw [← hAd]
    obtain ⟨i, hi, v, h2⟩ := mem_blocks.1 hb
    exact .inr ⟨i, hi, hlive i hi, v, h2⟩
  have hkill : ∀ i ∈ own, (h1.updAll (kill own)) i = .none := fun i hi => updAll_kill hi
  generalize hh2 : h1.updAll (kill own) = h2 at *
  have hOwnL : ∀ b, b ∈ blocks κ own → ¬ Own κ h2 b := fun b hb ho => (H2.own b ho).1 (hAd' b hb)
  have hOwnNew : ∀ b, w.heap.size ≤ b → ¬ Own κ h2 b := fun b hb ho => by have := (H2.own b ho).2.1; omega
  have hS : ∀ b, (b ∈ blocks κ own ∨ w.heap.size ≤ b) → S b ∨ w0.heap.size ≤ b := fun b hb => by
    rcases hb with hb | hb
    · exact (H1.own b (hLown b hb)).2.2
    · exact .inr (Nat.le_trans H1.frame.size hb)
  obtain ⟨H3, x3⟩ := H2.go (w' := w') (A' := fun b => A b ∨ (A' b ∧ ¬ Own κ h2 b)) hF.size (fun b hb hn => hF.block b hb (fun hm => hn (hAd' b hm))) (fun b hb => by
      rcases hb with ha | ⟨ha, hno⟩
      · rw [← hAd]; exact .inl (.inl ha)
      · obtain ⟨h3 | h3 | h3, h4⟩ := hA2 b ha
        · rcases hAc b h3 with h5 | h5
          · rw [← hAd]; exact .inl (.inl h5)
          · exact absurd h5 hno
        · exact .inl (hAd' b h3)
        · exact .inr ⟨h3, h4⟩) (H1.frame.go hF (fun b hb => hS b (.inl hb)))
  generalize hA2d : (fun b => A b ∨ (A' b ∧ ¬ Own κ h2 b)) = A2 at H3 x3
  have hA2' : ∀ b, A' b → (b ∈ blocks κ own ∨ w.heap.size ≤ b) → A2 b := fun b h3 h4 => by
    rw [← hA2d]
    refine .inr ⟨h3, ?_⟩
    rcases h4 with h4 | h4
    · exact hOwnL b h4
    · exact hOwnNew b h4
  have conv : AReps w' (OO A2 κ h2) rs r.1 rvs Lr ∧ AReps w' (OO A2 κ h2) (us.map fun i => ps.getD i (.one (.val .unit))) r.2 (us.map fun i => vs.getD i undef) (us.map fun i => (owns.map (blocks κ)).getD i []) := by
    rcases hmode with hm | hm
    · have e : OO A2 κ h2 = A' := by
        funext b
        apply propext
        rw [← hA2d]
        constructor
        · rintro ((ha | ha) | ho)
          · exact hA1 b (hm b (.inl ha))
          · exact ha.1
          · exact hA1 b (hm b (.inr ho))
        · intro ha
          by_cases ho : Own κ h2 b
          · exact .inr ho
          · exact .inl (.inr ⟨ha, ho⟩)
      rw [e]
      exact ⟨hR, hUs⟩
    · rw [Bool.and_eq_true] at hm
      exact ⟨AReps.plain _ hm.1 hR, AReps.plain _ (by rw [List.all_map]; exact hm.2) hUs⟩
  have hnd' := hnd
  rw [List.nodup_append] at hnd'
  obtain ⟨H4, o4⟩ := backAs_sound (ps := ps) (ts := ts) (vs := vs) (Ls := owns.map (blocks κ)) (fun i j id h3 h4 => by
      obtain ⟨a, t, g1, g2, g3⟩ := uId_get h3
      obtain ⟨a', t', g4, g5, g6⟩ := uId_get h4
      exact flatten_nth (by rw [he]; exact hown) (hU i a t id g1 g2 g3).1 (hU j a' t' id g4 g5 g6).1) (fun i id h3 => by
      obtain ⟨a, t, g1, g2, g3⟩ := uId_get h3
      obtain ⟨g4, ob, g5⟩ := hU i a t id g1 g2 g3
      refine ⟨ob, by have e : ps.getD i (.one (.val .unit)) = a := (by rw [List.getD_eq_getElem?_getD, g1]; rfl); rw [e]; exact g5, ?_⟩
      rw [List.getD_eq_getElem?_getD, List.getElem?_map, g4]
      cases ob <;> simp [blocks, g5]) us H3 (x := r.2) hus hback (fun i id hi h3 => by
      obtain ⟨a, t, g1, g2, g3⟩ := uId_get h3
      obtain ⟨g4, _⟩ := hU i a t id g1 g2 g3
      exact hkill id (by rw [← he]; exact List.mem_flatten.2 ⟨[id], List.mem_of_getElem? g4, by simp⟩)) conv.2 hnd'.2.1
    (fun b hb => by
      obtain ⟨g1, g2⟩ := hin b (List.mem_append_right _ hb)
      exact ⟨hA2' b g1 g2, hS b g2⟩)
  obtain ⟨κ', hp, hrep, _⟩ := putAs_sound rs H4 (n := base) (x := r.1) hb (by rw [o4]; exact conv.1) (fun b hb => by
      obtain ⟨g1, g2⟩ := hin b (List.mem_append_left _ hb)
      exact ⟨⟨hA2' b g1 g2, fun hm => hnd'.2.2 b hb b hm rfl⟩, hS b g2⟩) hnd'.1
  obtain ⟨H5, x5⟩ := hp.hsim.weakA (A' := A) (fun b hb => by
    have hA2b : A2 b := by rw [← hA2d]; exact .inl hb
    have hno : b ∉ blocks κ own ∧ ¬ w.heap.size ≤ b := ⟨fun hm => (H1.own b (hLown b hm)).1 hb, fun hm => by have := H1.abnd b hb; omega⟩
    refine ⟨⟨hA2b, fun hm => ?_⟩, fun hm => ?_⟩
    · rcases (hin b (List.mem_append_right _ hm)).2 with h3 | h3
      · exact hno.1 h3
      · exact hno.2 h3
    · rcases (hin b (List.mem_append_left _ hm)).2 with h3 | h3
      · exact hno.1 h3
      · exact hno.2 h3)
  rw [hp.oo, o4] at x5
  rw [o2] at x3
  rw [o4] at hrep
  refine ⟨κ', H5, (hx1.trans x3).trans x5, hp.le, fun id hid => ?_, RepTs.mono x5 κ'.le_refl _ _ hrep⟩
  by_cases c1 : id < base
  · rw [hp.low id c1] at hid; exact .inl hid
  · by_cases c2 : id < base + (putAs base rs r.1).2.length
    · exact .inr ⟨by omega, c2⟩
    · rw [hp.high id (by omega)] at hid; exact .inl hid

theorem call_sound (hcon : Cons P C) (H : HSim w0 S A κ h w) (hs : Sub hr h) {f : T} {fv : Value} (hf : RepT w (OO A κ h) κ f fv) {args : List T} {avs : List Value} (ha : RepTs w (OO A κ h) κ args avs)
    {base : Nat} (hb : ∀ i, base ≤ i → i < base + stride → κ i = none) {Q : Eff → Prop} (hQ : ∀ e, Q e → e.nw.length ≤ stride) (hq : (callT C hr f args base).wp Q) :
    ∃ g caps, fv = .func (.func g) #[] caps ∧ CallsFn P g (avs.toArray ++ caps) w (Ends w0 S A κ h w base Q) := by
  cases f with
  | fn g caps =>
    simp only [callT] at hq
    simp only [RepT] at hf
    obtain ⟨cvs, rfl, hcv⟩ := hf
    refine ⟨g, _, rfl, ?_⟩
    have hreps := ha.append hcv
    rw [show avs.toArray ++ cvs.toArray = (avs ++ cvs).toArray by simp]
    cases hc : C.con g (fnsIn (args ++ caps)) with
    | none => rw [hc] at hq; exact hq.elim
    | some c =>
      rw [hc] at hq
      dsimp only at hq
      generalize args ++ caps = ts at *
      generalize avs ++ cvs = vs at *
      cases ht : takeAs hr c.ps ts with
      | none => rw [ht] at hq; exact hq.elim
      | some p =>
        obtain ⟨x, own, seen⟩ := p
        rw [ht] at hq
        dsimp only at hq
        split at hq
        · rename_i hck
          simp only [Bool.and_eq_true] at hck
          obtain ⟨⟨hk1, hk2⟩, hk3⟩ := hck
          have hown := nodup_of hk1
          have hus := nodup_of hk3
          have hdis : ∀ i ∈ seen, i ∉ own := by
            intro i hi
            have := List.all_eq_true.1 hk2 i hi
            simpa using this
          obtain ⟨_, _, _, q3, _, _⟩ := takeAs_sound H hs (O1 := fun _ => False) c.ps ht ⟨fun _ hf => hf.elim, fun _ _ _ _ _ _ _ _ hf => hf⟩ hreps
          have hLown : ∀ b ∈ blocks κ own, Own κ h b := fun b hb => by
            obtain ⟨i, hi, v, h1⟩ := mem_blocks.1 hb
            exact ⟨i, v, q3 i hi, h1⟩
          have hLnd : (blocks κ own).Nodup := blocks_nodup H hown q3
          have hLseen : ∀ id ∈ seen, ∀ e xs v b, hr id = .row e xs → κ id = some (v, some b) → b ∉ blocks κ own := fun id hid e xs v b h1 h2 hm => by
            obtain ⟨j, hj, u, h3⟩ := mem_blocks.1 hm
            have := H.inj id j v u b (by rw [hs.get h1 (by simp)]; rfl) (q3 j hj) h2 h3
            subst this
            exact hdis id hid hj
          obtain ⟨r0, hv0, hq0⟩ := DT.wp_val.1 ((DT.wp_bind _ _ _).1 hq)
          cases hback : backAs c.ps ts c.us r0.2 with
          | none => rw [hback] at hq0; exact hq0.elim
          | some back =>
            rw [hback] at hq0
            dsimp only at hq0
            have hq0' := hq0
            have hlen := hQ _ hq0
            dsimp only at hlen
            -- in both ways
            have core : ∀ (pre : List (Nat × B)) (Ac : Nat → Prop), HSim w0 S A κ (h.updAll pre) w → Ext w (OO A κ h) w (OO A κ (h.updAll pre)) → (∀ i ∈ own, ((h.updAll pre) i).live = true) →
                (∀ b, Ac b → A b ∨ Own κ ((h.updAll pre).updAll (kill own)) b) → ((∀ b, A b ∨ Own κ ((h.updAll pre).updAll (kill own)) b → Ac b) ∨ (c.rs.all AK.plain && c.us.all (fun i => (c.ps.getD i (.one (.val .unit))).plain)) = true) →
                (∀ b, Ac b → OO A κ h b) → (∀ id ∈ seen, ∀ e xs v b, hr id = .row e xs → κ id = some (v, some b) → ¬ Ac b) → (∀ b ∈ blocks κ own, ¬ Ac b) → (∀ b, Ac b → b < w.heap.size) →
                Q { dst := tupT (putAs base c.rs r0.1).1, wr := pre ++ kill own ++ back, nw := (putAs base c.rs r0.1).2 } → CallsFn P g vs.toArray w (Ends w0 S A κ h w base Q) := by
              intro pre Ac H1 hx1 hlive1 hAc hmode hAsub hAseen hAL hAb hq1
              obtain ⟨owns, q1, q2, _, q4, _⟩ := takeAs_sound H hs (O1 := fun b => Ac b ∨ b ∈ blocks κ own) c.ps ht ⟨fun b hb => hb.elim (hAsub b) (fun hm => .inr (hLown b hm)),
                fun id hid e xs v b h1 h2 hb => hb.elim (hAseen id hid e xs v b h1 h2) (hLseen id hid e xs v b h1 h2)⟩ hreps
              have hfl : (owns.map (blocks κ)).flatten = blocks κ own := by rw [flatten_blocks, q1]
              refine CallsFn.mono (hcon _ _ _ hc w Ac x vs (owns.map (blocks κ)) (by rw [hfl]; exact q2) (by rw [hfl]; exact hLnd) (fun b hb => by
                rw [hfl] at hb; exact ⟨hAL b hb, (H.own b (hLown b hb)).2.1⟩) hAb (fun r => r = r0) (DT.wp_val.2 ⟨r0, hv0, rfl⟩)) (Ret.imp fun r rvs A' Lr w' hr hF hA1 hA2 hR hUs hnd hin => ?_)
              subst hr
              obtain ⟨κ', g1, g2, g3, g4, g5⟩ := call_back H1 hx1 q1 hown hus hlive1 q4 hAc hmode hback (fun i h1 h2 => hb i h1 (by omega)) hF hA1 hA2 hR hUs hnd hin
              refine ⟨_, κ', hq1, ?_, ?_, g3, g4, ?_⟩
              · rw [updAll_append, updAll_append]; exact g1
              · rw [updAll_append, updAll_append]; exact g2
              · rw [updAll_append, updAll_append]; exact rep_tup g5
            by_cases hplain : (c.rs.all AK.plain && c.us.all (fun i => (c.ps.getD i (.one (.val .unit))).plain)) = true
            · rw [if_pos hplain] at hq0
              exact core [] (fun _ => False) H (Ext.refl _ _) q3 (fun b hb => hb.elim) (.inr hplain) (fun b hb => hb.elim) (fun _ _ _ _ _ _ _ _ hb => hb) (fun _ _ hb => hb) (fun b hb => hb.elim) hq0
            · rw [if_neg hplain] at hq0
              obtain ⟨H1, hx1⟩ := H.freeze hs seen
              have hkeep : ∀ i, i ∉ seen → (h.updAll (fz hr seen)) i = h i := fun i hi => updAll_ne (fun b hb => hi (mem_fz hb).2)
              have hlv : ∀ j, (((h.updAll (fz hr seen)).updAll (kill own)) j).live = true → (h j).live = true ∧ j ∉ own ∧ ∀ e xs, hr j = .row e xs → j ∉ seen := by
                intro j hj
                by_cases c1 : j ∈ own
                · rw [updAll_kill c1] at hj; cases hj
                · rw [updAll_ne (fun b hb => c1 (mem_kill hb).2)] at hj
                  by_cases c2 : j ∈ seen
                  · rw [updAll_fz c2] at hj
                    refine ⟨?_, c1, fun e xs he hm => ?_⟩
                    · rcases hs j with e | e
                      · rw [e] at hj; cases hh : h j <;> rw [hh] at hj <;> first | rfl | cases hj
                      · rw [e] at hj; cases hj
                    · rw [he] at hj; cases hj
                  · rw [hkeep j c2] at hj
                    exact ⟨hj, c1, fun _ _ _ => c2⟩
              have hO2 : ∀ b, Own κ ((h.updAll (fz hr seen)).updAll (kill own)) b → Own κ h b := fun b ⟨j, v, h1, h2⟩ => ⟨j, v, (hlv j h1).1, h2⟩
              refine core (fz hr seen) (fun b => A b ∨ Own κ ((h.updAll (fz hr seen)).updAll (kill own)) b) H1 hx1 (fun i hi => by rw [hkeep i (fun hm => hdis i hm hi)]; exact q3 i hi) (fun b hb => hb) (.inl fun b hb => hb)
                (fun b hb => hb.imp _root_.id (hO2 b)) (fun id hid e xs v b h1 h2 hb => ?_) (fun b hm hb => ?_) (fun b hb => hb.elim (H.abnd b) (fun ho => (H.own b (hO2 b ho)).2.1)) hq0
              · have hl : (h id).live = true := by rw [hs.get h1 (by simp)]; rfl
                rcases hb with hb | ⟨j, u, h3, h4⟩
                · exact (H.own b ⟨id, v, hl, h2⟩).1 hb
                · obtain ⟨h5, h6, h7⟩ := hlv j h3
                  have := H.inj id j v u b hl h5 h2 h4
                  subst this
                  exact h7 e xs h1 hid
              · rcases hb with hb | ⟨j, u, h3, h4⟩
                · exact (H.own b (hLown b hm)).1 hb
                · obtain ⟨h5, h6, h7⟩ := hlv j h3
                  obtain ⟨i, hi, v, h8⟩ := mem_blocks.1 hm
                  have := H.inj i j v u b (q3 i hi) h5 h8 h4
                  subst this
                  exact h6 hi
        · exact hq.elim
  | _ => exact hq.elim
end
end Go.Am

/- The symbolic machine: one operation. -/
set_option linter.unusedVariables false
set_option linter.unusedSimpArgs false
namespace Go.Am
open Go Go.RowKit

section
variable {P : Program} {C : Ctx} {w0 : World} {S A : Nat → Prop} {κ : Kap} {h hr : Heap} {w : World}

theorem len_run (hC : CtxOk P C) (H : HSim w0 S A κ h w) (hs : Sub hr h) {t : Nat} {i : TI} (hi : C.ti t = some i) {x : T} {v : Value} (hx : RepT w (OO A κ h) κ x v) (hk : lenK i.kind x = true) {n : Int} (hn : lenT hr x = some n) (ty : TypeId) :
    (Builtin.len_ #[t] ty #[v]).run P w = .ok (.int .i64 n) w := by
  rcases len_sound H hs hx hn with ⟨s, rfl, rfl⟩ | ⟨L, m, c, rfl, rfl⟩
  · have hx' : ∃ s', x = .str s' := by
      cases x with
      | str s' => exact ⟨_, rfl⟩
      | ro e xs =>
        simp only [RepT] at hx
        obtain ⟨A', c, he, _⟩ := hx; simp at he
      | z =>
        simp only [RepT] at hx
        obtain ⟨A', he⟩ := hx; cases he
      | ow j =>
        simp only [RepT] at hx
        obtain ⟨ob, hx⟩ := hx
        have hr' := H.rep j
        simp only [lenT] at hn
        cases hb : hr j with
        | row e xs =>
          rw [hs.get hb (by simp)] at hr'
          rcases hr' with ⟨_, A', h1⟩ | ⟨b, cap, us, et, h1, _⟩ <;> (rw [hx] at h1; simp at h1)
        | fro e xs =>
          rw [hs.get hb (by simp)] at hr'
          obtain ⟨v', ob', h1, A', c, h2, _⟩ := hr'
          rw [hx] at h1; simp at h1 h2; rw [← h1.1] at h2; cases h2
        | _ => rw [hb] at hn; cases hn
      | _ => simp [lenT] at hn
    obtain ⟨s', rfl⟩ := hx'
    have hd : P.underlying t = some .string := by
      cases hki : i.kind <;> rw [hki] at hk <;> simp [lenK] at hk
      exact hC.str hi hki
    simp [Builtin.len_, run_underlying hd, goInt]
  · have hns : ∀ s', x ≠ .str s' := by
      rintro s' rfl; simp [RepT] at hx
    have hd : ∃ e, P.underlying t = some (.slice e) := by
      cases hki : i.kind <;> rw [hki] at hk <;> cases x <;> simp [lenK] at hk
      all_goals first | exact ⟨_, hC.slice hi hki⟩ | exact absurd rfl (hns _)
    obtain ⟨e, hd⟩ := hd
    simp [Builtin.len_, run_underlying hd, goInt]

theorem Oper.wp_value {o : Oper} {a : Act} {next : Act → World → Prop} {K : Exit → Act → World → Prop} {v : Value} {w' : World} (hr : (execOp a.eval o).run P w = .ok (.value v) w') (hn : next (a.put o.dst v) w') : o.wp P a w next K := by
  unfold Go.Oper.wp
  rw [hr]
  exact hn
theorem Oper.wp_skip {o : Oper} {a : Act} {next : Act → World → Prop} {K : Exit → Act → World → Prop} {w' : World} (hr : (execOp a.eval o).run P w = .ok .skip w') (hn : next (a.put o.dst undef) w') : o.wp P a w next K := by
  unfold Go.Oper.wp
  rw [hr]
  exact hn

/-- what comes behind an operation -/
def After (w0 : World) (S A : Nat → Prop) (κ : Kap) (h : Heap) (w : World) (base : Nat) (Q : Eff → Prop) (o : Oper) (a : Act) (next : Act → World → Prop) : Prop :=
  ∀ e κ' w' v, Q e → HSim w0 S A κ' ((h.updAll e.wr).news base e.nw) w' → Ext w (OO A κ h) w' (OO A κ' ((h.updAll e.wr).news base e.nw)) → κ.le κ' →
    (∀ id, κ' id ≠ none → κ id ≠ none ∨ (base ≤ id ∧ id < base + e.nw.length)) → RepT w' (OO A κ' ((h.updAll e.wr).news base e.nw)) κ' e.dst v → next (a.put o.dst v) w'

theorem After.one (H : HSim w0 S A κ h w) {base : Nat} {Q : Eff → Prop} {o : Oper} {a : Act} {next : Act → World → Prop} {K : Exit → Act → World → Prop} (hn : After w0 S A κ h w base Q o a next) {t : T} {v : Value} (hQ : Q { dst := t })
    (ht : RepT w (OO A κ h) κ t v) (hr : (execOp a.eval o).run P w = .ok (.value v) w) : o.wp P a w next K :=
  Oper.wp_value hr (hn { dst := t } κ w v hQ H (Ext.refl _ _) κ.le_refl (fun _ h => .inl h) ht)
theorem After.res {base : Nat} {Q : Eff → Prop} {o : Oper} {a : Act} {next : Act → World → Prop} {K : Exit → Act → World → Prop} {s : Sem Value} (hn : After w0 S A κ h w base Q o a next)
    (hr : Res1 P w0 S A κ h w base Q fun d z w' h' κ' => RepT w' (OO A κ' h') κ' d z ∧ s.run P w = .ok z w') (he : execOp a.eval o = do pure (.value (← s))) : o.wp P a w next K := by
  obtain ⟨e, κ', w', v, h1, h2, h3, h4, h5, h6, h7⟩ := hr
  exact Oper.wp_value (by rw [he]; simp [h7]) (hn e κ' w' v h1 h2 h3 h4 h5 h6)

theorem repO_map {O : Nat → Prop} {rs : List T} {a : Act} (hrg : Regs w O κ rs a.tmps) (x : Option Operand) : RepO w O κ (x.map (opv rs)) (x.map a.eval) := by
  cases x with
  | none => trivial
  | some x => exact opv_rep hrg x
theorem reps_map {O : Nat → Prop} {rs : List T} {a : Act} (hrg : Regs w O κ rs a.tmps) : ∀ (l : List Operand), RepTs w O κ (l.map (opv rs)) (l.map a.eval)
  | [] => RepTs.nil
  | x :: l => RepTs.cons (opv_rep hrg x) (reps_map hrg l)

theorem op_sound (hC : CtxOk P C) (hcon : Cons P C) (H : HSim w0 S A κ h w) (hs : Sub hr h) {a : Act} {rs : List T} (hrg : Regs w (OO A κ h) κ rs a.tmps) {base : Nat} (hb : ∀ i, base ≤ i → i < base + stride → κ i = none)
    {o : Oper} {Q : Eff → Prop} (hQ : ∀ e, Q e → e.nw.length ≤ stride) (hq : (opT C rs hr base o).wp Q) {next : Act → World → Prop} {K : Exit → Act → World → Prop} (hn : After w0 S A κ h w base Q o a next) : o.wp P a w next K := by
  have hb0 : κ base = none := hb base (Nat.le_refl _) (by show base < base + 32; omega)
  obtain ⟨dst, op, type, pos, after, guard⟩ := o
  cases op with
  | move x => exact hn.one H hq (opv_rep hrg x) rfl
  | assign x => exact hn.one H hq (opv_rep hrg x) rfl
  | pick c x y =>
    have hq' : (onBool (opv rs c) fun q => .ret { dst := if q then opv rs x else opv rs y }).wp Q := hq
    obtain ⟨b, hv, hk⟩ := onBool_wp (opv_rep hrg c) hq'
    refine hn.one H (v := if b then a.eval x else a.eval y) hk ?_ ?_
    · cases b
      · exact opv_rep hrg y
      · exact opv_rep hrg x
    · simp only [execOp, hv, asBool, Sem.run_bind, Sem.run_pure, Result.andThen_ok]
  | alloc t =>
    simp only [opT] at hq
    cases hi : C.ti t with
    | none => rw [hi] at hq; exact hq.elim
    | some i =>
      rw [hi] at hq
      dsimp only at hq
      split at hq
      · rename_i hck
        exact hn.res (alloc_sound hC H hi hck.1 hck.2 hb0 hq) rfl
      · exact hq.elim
  | box t x =>
    simp only [opT] at hq
    cases hi : C.ti t with
    | none => rw [hi] at hq; exact hq.elim
    | some i =>
      rw [hi] at hq
      dsimp only at hq
      split at hq
      · rename_i hck
        exact hn.res (box_sound H (opv_rep hrg x) hck hb0 hq) rfl
      · exact hq.elim
  | build t ps =>
    simp only [opT] at hq
    split at hq
    · rename_i hck
      obtain ⟨r, z, h1, h2, h3⟩ := build_sound hC H hrg (fun p hp => List.all_eq_true.1 hck p hp) ((DT.wp_bind _ _ _).1 hq)
      exact hn.one H h1 h2 (by simp [execOp, h3])
    · exact hq.elim
  | buildSlice t n ps =>
    simp only [opT] at hq
    split at hq
    · rename_i hck
      exact hn.res (buildSlice_sound hC H hs hrg (fun p hp => List.all_eq_true.1 hck p hp) hb0 hq) rfl
    · exact hq.elim
  | load t x =>
    simp only [opT] at hq
    cases hi : C.ti t with
    | none => rw [hi] at hq; exact hq.elim
    | some i =>
      rw [hi] at hq
      dsimp only at hq
      split at hq
      · rename_i hck
        obtain ⟨r, z, h1, h2, h3⟩ := load_sound hC H hs hi hck (opv_rep hrg x) ((DT.wp_bind _ _ _).1 hq)
        exact hn.one H h1 h2 (by simp [execOp, h3])
      · exact hq.elim
  | store t x y =>
    simp only [opT] at hq
    cases hi : C.ti t with
    | none => rw [hi] at hq; exact hq.elim
    | some i =>
      rw [hi] at hq
      dsimp only at hq
      obtain ⟨e, κ', w', v, h1, h2, h3, h4, h5, h6, h7, h8⟩ := store_sound hC H hs hi (opv_rep hrg x) (opv_rep hrg y) (base := base) hq
      exact Oper.wp_skip (by simp [execOp, h8]) (hn e κ' w' undef h1 h2 h3 h4 h5 (by rw [h6]; simp [RepT]))
  | nilCheck x =>
    simp only [opT] at hq
    have hx := opv_rep hrg x
    cases hv : opv rs x <;> rw [hv] at hq hx <;> dsimp only at hq <;> try exact hq.elim
    · have hx' := hx
      simp only [RepT] at hx'
      obtain ⟨hv', b, h1, h2⟩ := hx'
      exact hn.one H hq hx (by simp [execOp, h2])
    · have hx' := hx
      simp only [RepT] at hx'
      obtain ⟨vs, h1, h2⟩ := hx'
      exact hn.one H hq hx (by simp [execOp, h1])
  | binOp b t x y _ =>
    simp only [opT] at hq
    cases hi : C.ti t with
    | none => rw [hi] at hq; exact hq.elim
    | some i =>
      rw [hi] at hq
      dsimp only at hq
      obtain ⟨j, d, _, hd, _, _, hkd, _⟩ := hC.info hi
      obtain ⟨r, z, h1, h2, h3, h4⟩ := bin_sound (xo := x) (yo := y) hd hkd (z := i.zero) (fun h => by
        simp only [Bool.and_eq_true] at h
        exact ⟨hC.eqs t i hi h.1.1, h.1.2, h.2⟩) (opv_rep hrg x) (opv_rep hrg y) ((DT.wp_bind _ _ _).1 hq)
      exact hn.one H h1 h2 (by simp [execOp, h3, h4])
  | unOp b t x =>
    simp only [opT] at hq
    obtain ⟨r, z, h1, h2, h3⟩ := un_sound (P := P) (opv_rep hrg x) ((DT.wp_bind _ _ _).1 hq)
    exact hn.one H h1 h2 (by simp [execOp, h3])
  | convert s d x =>
    simp only [opT] at hq
    obtain ⟨r, z, h1, h2, h3⟩ := conv_sound hC (opv_rep hrg x) ((DT.wp_bind _ _ _).1 hq)
    exact hn.one H h1 h2 (by simp [execOp, h3])
  | makeFunc f first cs =>
    cases f with
    | func g =>
      simp only [opT] at hq
      split at hq
      · rename_i h0
        have hf : first = #[] := Array.eq_empty_of_size_eq_zero h0
        subst hf
        refine hn.one H (v := .func (.func g) #[] (cs.map a.eval)) hq ?_ (by simp [execOp, Instr.makeFunc])
        simp only [RepT]
        exact ⟨cs.toList.map a.eval, by rw [← Array.toList_map, Array.toArray_toList], reps_map hrg _⟩
      · exact hq.elim
    | _ => exact hq.elim
  | makeSlice t l c =>
    exact hn.res (makeSlice_sound hC H (opv_rep hrg l) (opv_rep hrg c) hb0 hq) rfl
  | slice t x lo hi mx =>
    exact hn.res (slice_sound hC H hs (opv_rep hrg x) (repO_map hrg lo) (repO_map hrg hi) (repO_map hrg mx) hq) rfl
  | fieldAddr t x f => exact hn.res (fieldAddr_sound hC H (opv_rep hrg x) hq) rfl
  | field t x f =>
    simp only [opT] at hq
    obtain ⟨r, z, h1, h2, h3⟩ := field_sound hC (opv_rep hrg x) ((DT.wp_bind _ _ _).1 hq)
    exact hn.one H h1 h2 (by simp [execOp, h3])
  | indexAddr t x i => exact hn.res (indexAddr_sound hC H hs (opv_rep hrg x) (opv_rep hrg i) hq) rfl
  | index t x i =>
    simp only [opT] at hq
    obtain ⟨r, z, h1, h2, h3⟩ := index_sound hC (opv_rep hrg x) (opv_rep hrg i) ((DT.wp_bind _ _ _).1 hq)
    exact hn.one H h1 h2 (by simp [execOp, h3])
  | extract t i =>
    simp only [opT] at hq
    have hx := opv_rep hrg t
    cases hv : opv rs t <;> rw [hv] at hq hx <;> dsimp only at hq <;> try exact hq.elim
    rename_i ts
    simp only [RepT] at hx
    obtain ⟨vs, h1, h2⟩ := hx
    cases ht : ts[i]? with
    | none => rw [ht] at hq; exact hq.elim
    | some t' =>
      rw [ht] at hq
      obtain ⟨v, h3, h4⟩ := h2.get i t' ht
      exact hn.one H hq h4 (by simp [execOp, h1, Instr.extract, h3])
  | call c =>
    simp only [opT] at hq
    cases hc : c.callee with
    | builtin b =>
      rw [hc] at hq
      dsimp only at hq
      have hreps := reps_map hrg c.args.toList
      have hex : execOp a.eval ⟨dst, .call c, type, pos, after, guard⟩ = builtin b c.argTypes type (c.args.map fun | .const _ => true | _ => false) (c.args.map a.eval) := by
        simp [execOp, resolve, hc, invoke]
        rfl
      have hargs : c.args.map a.eval = (c.args.toList.map a.eval).toArray := by rw [← Array.toList_map, Array.toArray_toList]
      rw [hargs] at hex
      generalize c.args.toList.map (opv rs) = ts at hq hreps
      generalize c.args.toList.map a.eval = vs at hreps hex
      generalize (c.args.map fun | .const _ => true | _ => false) = cs at hex
      have htys : c.argTypes = c.argTypes.toList.toArray := by simp
      rw [htys] at hex
      generalize c.argTypes.toList = tys at hq hex
      unfold builtinT at hq
      split at hq
      · rename_i x
        simp only [RepTs] at hreps
        obtain ⟨v, us, rfl, hx, rfl⟩ := hreps
        split at hq
        · rename_i t
          cases hi : C.ti t with
          | none => rw [hi] at hq; exact hq.elim
          | some i =>
            rw [hi] at hq
            dsimp only at hq
            split at hq
            · rename_i hck
              cases hl : lenT hr x with
              | none => rw [hl] at hq; exact hq.elim
              | some n =>
                rw [hl] at hq
                exact hn.one H (v := .int .i64 n) hq (by simp [RepT]) (by rw [hex]; simp [builtin, len_run hC H hs hi hx hck hl])
            · exact hq.elim
        · exact hq.elim
      · rename_i s x
        simp only [RepTs] at hreps
        obtain ⟨v, us, rfl, hx, v2, us2, rfl, hx2, rfl⟩ := hreps
        exact hn.res (append_sound hC H hs hx hx2 hb0 hq (ty := type)) (by rw [hex]; rfl)
      · rename_i x y
        simp only [RepTs] at hreps
        obtain ⟨v, us, rfl, hx, v2, us2, rfl, hx2, rfl⟩ := hreps
        cases x <;> cases y <;> simp only [minT] at hq <;> try exact hq.elim
        rename_i k n k' m
        by_cases hk : k = k'
        · subst hk
          rw [if_pos rfl] at hq
          simp only [RepT] at hx hx2
          subst hx; subst hx2
          exact hn.one H (v := .int k (if m < n then m else n)) hq (by simp [RepT]) (by rw [hex]; simp [builtin, Builtin.min_, Builtin.min2])
        · rw [if_neg hk] at hq; exact hq.elim
      · rename_i x y
        simp only [RepTs] at hreps
        obtain ⟨v, us, rfl, hx, v2, us2, rfl, hx2, rfl⟩ := hreps
        cases x <;> cases y <;> simp only [maxT] at hq <;> try exact hq.elim
        rename_i k n k' m
        by_cases hk : k = k'
        · subst hk
          rw [if_pos rfl] at hq
          simp only [RepT] at hx hx2
          subst hx; subst hx2
          exact hn.one H (v := .int k (if m > n then m else n)) hq (by simp [RepT]) (by rw [hex]; simp [builtin, Builtin.max_, Builtin.max2])
        · rw [if_neg hk] at hq; exact hq.elim
      · exact hq.elim
    | value f =>
      rw [hc] at hq
      dsimp only at hq
      obtain ⟨g, caps, h1, h2⟩ := call_sound hcon H hs (opv_rep hrg f) (reps_map hrg c.args.toList) hb hQ hq
      have hex : execOp a.eval ⟨dst, .call c, type, pos, after, guard⟩ = callFunc g ((c.args.toList.map a.eval).toArray ++ caps) := by
        have hargs : c.args.map a.eval = (c.args.toList.map a.eval).toArray := by rw [← Array.toList_map, Array.toArray_toList]
        simp only [execOp, resolve, hc, h1, Deferred.ofValue, pure_bind, invoke, hargs, Array.empty_append]
      have fin : ∀ v w', Ends w0 S A κ h w base Q (.returned v) w' → next (a.put dst v) w' := by
        intro v w' he
        obtain ⟨e, κ', g1, g2, g3, g4, g5, g6⟩ := he
        exact hn e κ' w' v g1 g2 g3 g4 g5 g6
      rcases h2 with ⟨h2, h3⟩ | ⟨v, w', h2, h3⟩
      · unfold Go.Oper.wp
        rw [hex, h2]
        refine Calls.mono h3 (fun e w' he => ?_)
        cases e with
        | returned v => exact fin v w' he
        | panicked _ => exact he.elim
        | outgrown => exact he.elim
      · exact Oper.wp_value (by rw [hex]; exact h2) (fin v w' h3)
    | invoke _ _ => rw [hc] at hq; exact hq.elim
  | _ => exact hq.elim
end
end Go.Am

/- The symbolic machine: operations that come in no fixed order. -/
set_option linter.unusedVariables false
set_option linter.unusedSimpArgs false
namespace Go.Am
open Go Go.RowKit

/-! ### 1. What an operation depends on -/
theorem opT_congr (C : Ctx) {r r' : List T} (h : Heap) (b : Nat) (o : Oper) (hh : ∀ x ∈ o.op.operands, opv r x = opv r' x) : opT C r h b o = opT C r' h b o := by
  obtain ⟨dst, op, type, pos, after, guard⟩ := o
  have pairs : ∀ ps : Array (Nat × Operand), (∀ x ∈ ps.toList.map (·.2), opv r x = opv r' x) →
      (ps.toList.map fun p => (p.1, opv r p.2)) = (ps.toList.map fun p => (p.1, opv r' p.2)) ∧ (ps.toList.all fun p => (opv r p.2).cells.all T.cellOk) = (ps.toList.all fun p => (opv r' p.2).cells.all T.cellOk) := fun ps hp => by
    have hp' : ∀ p ∈ ps.toList, opv r p.2 = opv r' p.2 := fun p hm => hp _ (List.mem_map.2 ⟨p, hm, rfl⟩)
    refine ⟨List.map_congr_left fun p hm => by rw [hp' p hm], ?_⟩
    rw [Bool.eq_iff_iff, List.all_eq_true, List.all_eq_true]
    exact ⟨fun hx p hm => by rw [← hp' p hm]; exact hx p hm, fun hx p hm => by rw [hp' p hm]; exact hx p hm⟩
  cases op <;> simp only [Op.operands] at hh
  case build t ps =>
    obtain ⟨h1, h2⟩ := pairs ps fun x hx => hh x (by simpa using hx)
    simp only [opT, h1, h2]
  case buildSlice t n ps =>
    obtain ⟨h1, h2⟩ := pairs ps fun x hx => hh x (by simpa using hx)
    simp only [opT, h1, h2]
  case makeFunc f first cs =>
    have : cs.toList.map (opv r) = cs.toList.map (opv r') := List.map_congr_left fun x hx => hh x (by simp [Array.mem_toList_iff.1 hx])
    cases f <;> simp only [opT, this]
  case slice t x lo hi mx => cases lo <;> cases hi <;> cases mx <;> simp_all [opT]
  case call c =>
    have hargs : c.args.toList.map (opv r) = c.args.toList.map (opv r') := List.map_congr_left fun x hx => hh x (by simp [Call.operands, Array.mem_toList_iff.1 hx])
    cases hc : c.callee with
    | value f =>
      have hf : opv r f = opv r' f := hh f (by simp [Call.operands, hc])
      simp only [opT, hc, hargs, hf]
    | builtin b => simp only [opT, hc, hargs]
    | invoke _ _ => simp only [opT, hc]
  all_goals (first | rfl | (simp_all [opT]; done))

namespace DT
variable {α β : Type}
theorem val_bind (m : DT α) (f : α → DT β) : (m.bind f).val = m.val.bind fun a => (f a).val := by
  induction m with
  | ret a => rfl
  | fail => rfl
  | ite b t e iht ihe => cases b <;> simp only [bind, val, iht, ihe]
end DT

theorem updAll_eq {j : Nat} : ∀ (l : List (Nat × B)) {h h' : Heap}, h j = h' j → (h.updAll l) j = (h'.updAll l) j
  | [], _, _, e => e
  | (i, b) :: r, h, h', e => updAll_eq r (by simp only [Heap.upd]; split <;> first | rfl | exact e)
theorem news_eq {j : Nat} : ∀ (l : List B) (n : Nat) {h h' : Heap}, h j = h' j → (h.news n l) j = (h'.news n l) j
  | [], _, _, _, e => e
  | b :: r, n, h, h', e => news_eq r (n + 1) (by simp only [Heap.upd]; split <;> first | rfl | exact e)
def newIds (n : Nat) (nw : List B) : List Nat := (List.range nw.length).map (n + ·)
theorem news_ne : ∀ (l : List B) (n : Nat) {h : Heap} {j : Nat}, (¬ (n ≤ j ∧ j < n + l.length)) → (h.news n l) j = h j
  | [], _, _, _, _ => rfl
  | b :: r, n, h, j, hj => by
    show ((h.upd n b).news (n + 1) r) j = h j
    simp only [List.length_cons] at hj
    rw [news_ne r (n + 1) (by omega)]
    simp only [Heap.upd]
    rw [if_neg (by omega)]
theorem news_in : ∀ (l : List B) (n : Nat) {h h' : Heap} {j : Nat}, n ≤ j → j < n + l.length → (h.news n l) j = (h'.news n l) j
  | [], n, _, _, j, h1, h2 => by simp at h2; omega
  | b :: r, n, h, h', j, h1, h2 => by
    show ((h.upd n b).news (n + 1) r) j = ((h'.upd n b).news (n + 1) r) j
    simp only [List.length_cons] at h2
    by_cases e : j = n
    · subst e
      rw [news_ne r (j + 1) (by omega), news_ne r (j + 1) (by omega)]
      simp [Heap.upd]
    · exact news_in r (n + 1) (by omega) (by omega)
theorem mem_newIds {n j : Nat} {nw : List B} : j ∈ newIds n nw ↔ n ≤ j ∧ j < n + nw.length := by
  unfold newIds
  rw [List.mem_map]
  constructor
  · rintro ⟨a, h1, rfl⟩
    rw [List.mem_range] at h1
    omega
  · rintro ⟨h1, h2⟩
    exact ⟨j - n, by rw [List.mem_range]; omega, by omega⟩

/-- what an operation writes -/
def wrote (h : Heap) (wr : List (Nat × B)) (n : Nat) (nw : List B) : Heap := (h.updAll wr).news n nw
theorem wrote_ne {h : Heap} {wr : List (Nat × B)} {n : Nat} {nw : List B} {j : Nat} (hj : j ∉ wr.map (·.1) ++ newIds n nw) : (wrote h wr n nw) j = h j := by
  simp only [List.mem_append, not_or] at hj
  unfold wrote
  rw [news_ne nw n (fun hm => hj.2 (mem_newIds.2 hm)), updAll_ne (fun b hb => hj.1 (List.mem_map.2 ⟨(j, b), hb, rfl⟩))]
theorem updAll_in : ∀ (l : List (Nat × B)) {h h' : Heap} {j : Nat}, j ∈ l.map (·.1) → (h.updAll l) j = (h'.updAll l) j
  | [], _, _, _, hj => by simp at hj
  | (i, b) :: r, h, h', j, hj => by
    show ((h.upd i b).updAll r) j = ((h'.upd i b).updAll r) j
    by_cases c : j ∈ r.map (·.1)
    · exact updAll_in r c
    · have e : j = i := by simpa [c] using hj
      subst e
      exact updAll_eq r (by simp [Heap.upd])
theorem wrote_in {h h' : Heap} {wr : List (Nat × B)} {n : Nat} {nw : List B} {j : Nat} (hj : j ∈ wr.map (·.1) ++ newIds n nw) : (wrote h wr n nw) j = (wrote h' wr n nw) j := by
  unfold wrote
  by_cases c : n ≤ j ∧ j < n + nw.length
  · exact news_in nw n c.1 c.2
  · rw [news_ne nw n c, news_ne nw n c]
    refine updAll_in wr ?_
    rcases List.mem_append.1 hj with h1 | h1
    · exact h1
    · exact absurd (mem_newIds.1 h1) c
theorem wrote_comm {h : Heap} {w1 w2 : List (Nat × B)} {n1 n2 : Nat} {b1 b2 : List B} (hd : ∀ j ∈ w1.map (·.1) ++ newIds n1 b1, j ∉ w2.map (·.1) ++ newIds n2 b2) :
    wrote (wrote h w1 n1 b1) w2 n2 b2 = wrote (wrote h w2 n2 b2) w1 n1 b1 := by
  funext j
  by_cases c1 : j ∈ w1.map (·.1) ++ newIds n1 b1
  · rw [wrote_ne (hd j c1)]
    exact wrote_in c1
  · by_cases c2 : j ∈ w2.map (·.1) ++ newIds n2 b2
    · rw [wrote_ne (h := wrote h w2 n2 b2) c1]
      exact wrote_in c2
    · rw [wrote_ne c2, wrote_ne c1, wrote_ne c1, wrote_ne c2]

/-! ### 2. One step: what it is, what it depends on -/
structure Step (C : Ctx) (ops : List Oper) (base i : Nat) (o : Oper) (st st' : St) (fp : FP) (t : T) (wr : List (Nat × B)) (nw : List B) : Prop where
  op : ops[i]? = some o
  ste : st' = ⟨setDst st.regs o.dst t, wrote st.heap wr (base + stride * i) nw, st.next⟩
  fpw : fp.wrote = wr.map (·.1) ++ newIds (base + stride * i) nw
  local_ : ∀ st0 : St, (∀ x ∈ o.op.operands, opv st0.regs x = opv st.regs x) → (∀ j want d, o.guard = some (j, want) → (ops[j]?).bind (·.dst) = some d → st0.regs.getD d .undef = st.regs.getD d .undef) →
    (∀ k ∈ fp.seen, st0.heap k = st.heap k) → (stepT C ops base i st0).val = some (⟨setDst st0.regs o.dst t, wrote st0.heap wr (base + stride * i) nw, st0.next⟩, fp)

theorem settle_val {α : Type} {g : Bool} {t : T} {k : T → DT α} {a : α} (h : (settle g t k).val = some a) : ∃ t', (k t').val = some a ∧ ∀ (β : Type) (k' : T → DT β), (settle g t k').val = (k' t').val := by
  unfold settle at h ⊢
  cases g
  · exact ⟨t, h, fun _ _ => rfl⟩
  · simp only [if_true] at h ⊢
    cases t <;> simp only [onBool] at h ⊢ <;> try (cases h; done)
    · rename_i b
      cases b
      · exact ⟨.kb false, h, fun _ _ => rfl⟩
      · exact ⟨.kb true, h, fun _ _ => rfl⟩
    · rename_i b
      cases b
      · exact ⟨.kb false, h, fun _ _ => rfl⟩
      · exact ⟨.kb true, h, fun _ _ => rfl⟩

theorem sees_congr {h h0 : Heap} {r r0 : List T} {o : Oper} (hr : ∀ x ∈ o.op.operands, opv r0 x = opv r x) (hh : ∀ k ∈ sees h r o, h0 k = h k) : sees h0 r0 o = sees h r o := by
  unfold sees at hh ⊢
  split
  · rfl
  · rename_i hs
    rw [if_neg hs] at hh
    have e : o.op.operands.toList.map (opv r0) = o.op.operands.toList.map (opv r) := List.map_congr_left fun x hx => hr x (Array.mem_toList_iff.1 hx)
    rw [e]
    unfold looks at hh ⊢
    dsimp only at hh ⊢
    congr 1
    have : ∀ (l : List Nat), (∀ i ∈ l, h0 i = h i) → (l.flatMap fun i => (h0 i).ids) = l.flatMap fun i => (h i).ids := by
      intro l hl
      induction l with
      | nil => rfl
      | cons a l ih => simp only [List.flatMap_cons]; rw [hl a (by simp), ih fun i hi => hl i (List.mem_cons_of_mem _ hi)]
    exact this _ fun i hi => hh i (List.mem_append_left _ hi)
theorem restrict_congr {h h0 : Heap} {l : List Nat} (hh : ∀ k ∈ l, h0 k = h k) : restrict h0 l = restrict h l := by
  funext k
  unfold restrict
  split
  · rename_i hk
    exact hh k (by simpa using hk)
  · rfl

theorem step_val {C : Ctx} {ops : List Oper} {base i : Nat} {st st' : St} {fp : FP} (h : (stepT C ops base i st).val = some (st', fp)) : ∃ o t wr nw, Step C ops base i o st st' fp t wr nw := by
  have h0 := h
  unfold stepT at h
  cases ho : ops[i]? with
  | none => rw [ho] at h; cases h
  | some o =>
    rw [ho] at h
    dsimp only at h
    -- the operation is done
    have go : ∀ {p : St × FP}, (((opT C st.regs (restrict st.heap (sees st.heap st.regs o)) (base + stride * i) o).bind fun e =>
        if (e.wr.map (·.1)).all (sees st.heap st.regs o).contains && decide (e.nw.length ≤ stride) then
          settle (guards ops i) e.dst fun t => .ret ({ st with regs := setDst st.regs o.dst t, heap := (st.heap.updAll e.wr).news (base + stride * i) e.nw }, (⟨sees st.heap st.regs o, e.wr.map (·.1) ++ (List.range e.nw.length).map (base + stride * i + ·)⟩ : FP))
        else .fail).val = some p) → ∃ e t, (opT C st.regs (restrict st.heap (sees st.heap st.regs o)) (base + stride * i) o).val = some e ∧ ((e.wr.map (·.1)).all (sees st.heap st.regs o).contains && decide (e.nw.length ≤ stride)) = true ∧
          p = (⟨setDst st.regs o.dst t, wrote st.heap e.wr (base + stride * i) e.nw, st.next⟩, ⟨sees st.heap st.regs o, e.wr.map (·.1) ++ newIds (base + stride * i) e.nw⟩) ∧ ∀ (β : Type) (k' : T → DT β), (settle (guards ops i) e.dst k').val = (k' t).val := by
      intro p hp
      rw [DT.val_bind] at hp
      cases he : (opT C st.regs (restrict st.heap (sees st.heap st.regs o)) (base + stride * i) o).val with
      | none => rw [he] at hp; cases hp
      | some e =>
        rw [he] at hp
        simp only [Option.bind_some] at hp
        split at hp
        · rename_i hck
          obtain ⟨t, h1, h2⟩ := settle_val hp
          exact ⟨e, t, rfl, hck, (Option.some.inj h1).symm, h2⟩
        · cases hp
    -- and again elsewhere
    have again : ∀ {e : Eff} {t : T}, (opT C st.regs (restrict st.heap (sees st.heap st.regs o)) (base + stride * i) o).val = some e → ((e.wr.map (·.1)).all (sees st.heap st.regs o).contains && decide (e.nw.length ≤ stride)) = true →
        (∀ (β : Type) (k' : T → DT β), (settle (guards ops i) e.dst k').val = (k' t).val) → ∀ st0 : St, (∀ x ∈ o.op.operands, opv st0.regs x = opv st.regs x) → (∀ k ∈ sees st.heap st.regs o, st0.heap k = st.heap k) →
        ((opT C st0.regs (restrict st0.heap (sees st0.heap st0.regs o)) (base + stride * i) o).bind fun e =>
          if (e.wr.map (·.1)).all (sees st0.heap st0.regs o).contains && decide (e.nw.length ≤ stride) then
            settle (guards ops i) e.dst fun t => .ret ({ st0 with regs := setDst st0.regs o.dst t, heap := (st0.heap.updAll e.wr).news (base + stride * i) e.nw }, (⟨sees st0.heap st0.regs o, e.wr.map (·.1) ++ (List.range e.nw.length).map (base + stride * i + ·)⟩ : FP))
          else .fail).val = some (⟨setDst st0.regs o.dst t, wrote st0.heap e.wr (base + stride * i) e.nw, st0.next⟩, ⟨sees st.heap st.regs o, e.wr.map (·.1) ++ newIds (base + stride * i) e.nw⟩) := by
      intro e t he hck hset st0 hr hh
      rw [sees_congr hr hh, restrict_congr hh, opT_congr C _ _ o hr, DT.val_bind, he]
      simp only [Option.bind_some]
      rw [if_pos hck, hset]
      rfl
    have skip : ∀ st0 : St, (⟨setDst st0.regs o.dst .nov, wrote st0.heap [] (base + stride * i) [], st0.next⟩ : St) = { st0 with regs := setDst st0.regs o.dst .nov } := fun _ => rfl
    cases hg : o.guard with
    | none =>
      rw [hg] at h
      dsimp only at h
      obtain ⟨e, t, h1, h2, h3, h4⟩ := go h
      injection h3 with h3 h5
      refine ⟨o, t, e.wr, e.nw, ho, h3, by rw [h5], fun st0 hr _ hh => ?_⟩
      subst h5
      have := again h1 h2 h4 st0 hr hh
      unfold stepT
      rw [ho]
      dsimp only
      rw [hg]
      exact this
    | some gw =>
      obtain ⟨j, want⟩ := gw
      rw [hg] at h
      dsimp only at h
      cases hd : (ops[j]?).bind (·.dst) with
      | none => rw [hd] at h; cases h
      | some d =>
        rw [hd] at h
        dsimp only at h
        have nov : ∀ {x : T}, st.regs.getD d .undef = x → (x = .nov ∨ ∃ b, x = .kb b ∧ b ≠ want) → (DT.ret (({ st with regs := setDst st.regs o.dst .nov } : St), (⟨[], []⟩ : FP))).val = some (st', fp) → ∃ o t wr nw, Step C ops base i o st st' fp t wr nw := by
          intro x hx hx2 hv
          injection hv with hv
          injection hv with h3 h5
          refine ⟨o, .nov, [], [], ho, by rw [← h3]; rfl, by rw [← h5]; rfl, fun st0 hr hgd hh => ?_⟩
          have hgd' := hgd j want d hg hd
          unfold stepT
          rw [ho]
          dsimp only
          rw [hg]
          dsimp only
          rw [hd]
          dsimp only
          rw [hgd', hx]
          rcases hx2 with rfl | ⟨b, rfl, hb⟩
          · subst h5; rfl
          · dsimp only
            rw [if_neg hb]
            subst h5; rfl
        cases hx : st.regs.getD d .undef with
        | nov => rw [hx] at h; exact nov hx (.inl rfl) h
        | kb b =>
          rw [hx] at h
          dsimp only at h
          by_cases hb : b = want
          · rw [if_pos hb] at h
            obtain ⟨e, t, h1, h2, h3, h4⟩ := go h
            injection h3 with h3 h5
            refine ⟨o, t, e.wr, e.nw, ho, h3, by rw [h5], fun st0 hr hgd hh => ?_⟩
            subst h5
            have hgd' := hgd j want d hg hd
            have := again h1 h2 h4 st0 hr hh
            unfold stepT
            rw [ho]
            dsimp only
            rw [hg]
            dsimp only
            rw [hd]
            dsimp only
            rw [hgd', hx]
            dsimp only
            rw [if_pos hb]
            exact this
          · rw [if_neg hb] at h
            exact nov hx (.inr ⟨b, rfl, hb⟩) h
        | _ => rw [hx] at h; cases h
end Go.Am
