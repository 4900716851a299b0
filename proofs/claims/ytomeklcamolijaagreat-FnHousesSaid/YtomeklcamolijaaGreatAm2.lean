import Derived.Test.YtomeklcamolijaaGreatAm1
/- The symbolic machine: its memory and the model's. -/
set_option linter.unusedVariables false
set_option linter.unusedSimpArgs false
namespace Go.Am
open Go Go.RowKit

def B.live : B → Bool
  | .box _ | .row _ _ => true
  | _ => false
def RepB (w : World) (O : Nat → Prop) (κ : Kap) (id : Nat) : B → Prop
  | .none => True
  | .box cs => ∃ b vs et, κ id = some (.pointer (some ⟨b, 0, none⟩), some b) ∧ w.heap[b]? = some (.cells (List.toArray vs) et (0, 0)) ∧ RepTs w O κ cs vs
  | .row e xs => (xs = [] ∧ ∃ A, κ id = some (.slice A 0 0, none)) ∨
      ∃ b cap vs et, κ id = some (.slice (some ⟨b, 0, none⟩) xs.length cap, some b) ∧ xs.length ≤ cap ∧ w.heap[b]? = some (.cells (List.toArray vs) et (0, 0)) ∧
        vs.length = cap * e.size ∧ ∀ (i : Nat) (x : e.X), xs[i]? = some x → RoX w O e x ((vs.drop (i * e.size)).take e.size)
  | .fro e xs => ∃ v ob, κ id = some (v, ob) ∧ RoX w O (.sl e) xs [v]

def Own (κ : Kap) (h : Heap) (b : Nat) : Prop := ∃ id v, (h id).live = true ∧ κ id = some (v, some b)
def OO (A : Nat → Prop) (κ : Kap) (h : Heap) (b : Nat) : Prop := A b ∨ Own κ h b

/-- what was there when the call began stands as it stood, but for the blocks S -/
structure Fr (w0 : World) (S : Nat → Prop) (w : World) : Prop where
  os : w.os = w0.os
  tape : w.tape = w0.tape
  output : w.output = w0.output
  size : w0.heap.size ≤ w.heap.size
  block : ∀ k, k < w0.heap.size → ¬ S k → w.heap[k]? = w0.heap[k]?
theorem Fr.refl (w : World) (S : Nat → Prop) : Fr w S w := ⟨rfl, rfl, rfl, Nat.le_refl _, fun _ _ _ => rfl⟩

structure HSim (w0 : World) (S A : Nat → Prop) (κ : Kap) (h : Heap) (w : World) : Prop where
  rep : ∀ id, RepB w (OO A κ h) κ id (h id)
  inj : ∀ i j v u b, (h i).live = true → (h j).live = true → κ i = some (v, some b) → κ j = some (u, some b) → i = j
  kwf : ∀ id L n c b, κ id = some (.slice L n c, some b) → L = some ⟨b, 0, none⟩
  own : ∀ b, Own κ h b → ¬ A b ∧ b < w.heap.size ∧ (S b ∨ w0.heap.size ≤ b)
  abnd : ∀ b, A b → b < w.heap.size
  kbnd : ∀ id v b, κ id = some (v, some b) → b < w.heap.size
  kone : ∀ id v ob, κ id = some (v, ob) → v.oneCell' = true
  frame : Fr w0 S w

theorem RepB.kap {w : World} {O : Nat → Prop} {κ : Kap} {id : Nat} {b : B} (h : RepB w O κ id b) (hn : κ id = none) : b = .none := by
  cases b with
  | none => rfl
  | box cs => obtain ⟨b, vs, et, h1, _⟩ := h; rw [hn] at h1; cases h1
  | row e xs =>
    rcases h with ⟨_, A, h1⟩ | ⟨b, cap, vs, et, h1, _⟩ <;> (rw [hn] at h1; cases h1)
  | fro e xs => obtain ⟨v, ob, h1, _⟩ := h; rw [hn] at h1; cases h1

/-- what lives may cease to live, or be written no more -/
theorem HSim.less {w0 : World} {S A : Nat → Prop} {κ : Kap} {h h' : Heap} {w : World} (H : HSim w0 S A κ h w) (hh : ∀ j, h' j = h j ∨ h' j = frz (h j) ∨ h' j = .none) :
    HSim w0 S A κ h' w ∧ Ext w (OO A κ h) w (OO A κ h') := by
  have hlive : ∀ j, (h' j).live = true → (h j).live = true ∧ h' j = h j := by
    intro j hj
    rcases hh j with e | e | e
    · rw [e] at hj; exact ⟨hj, e⟩
    · rw [e] at hj
      cases hb : h j <;> rw [hb] at hj e <;> simp [frz, B.live] at hj e ⊢
      exact e
    · rw [e] at hj; cases hj
  have hown : ∀ b, Own κ h' b → Own κ h b := by
    rintro b ⟨id, v, h1, h2⟩
    exact ⟨id, v, (hlive id h1).1, h2⟩
  have hO : ∀ b, OO A κ h' b → OO A κ h b := fun b hb => hb.imp id (hown b)
  have hx : Ext w (OO A κ h) w (OO A κ h') := Ext.less hO
  refine ⟨⟨fun id => ?_, fun i j v u b h1 h2 h3 h4 => H.inj i j v u b (hlive i h1).1 (hlive j h2).1 h3 h4, H.kwf, fun b hb => H.own b (hown b hb), H.abnd, H.kbnd, H.kone, H.frame⟩, hx⟩
  have hr := H.rep id
  have mono : RepB w (OO A κ h') κ id (h id) := by
    cases hb : h id with
    | none => trivial
    | box cs =>
      rw [hb] at hr
      obtain ⟨b, vs, et, h1, h2, h3⟩ := hr
      exact ⟨b, vs, et, h1, h2, RepTs.mono hx κ.le_refl _ _ h3⟩
    | row e xs =>
      rw [hb] at hr
      rcases hr with ⟨h1, h2⟩ | ⟨b, cap, vs, et, h1, h2, h3, h4, h5⟩
      · exact .inl ⟨h1, h2⟩
      · exact .inr ⟨b, cap, vs, et, h1, h2, h3, h4, fun i x hi => RoX.mono hx _ _ _ (h5 i x hi)⟩
    | fro e xs =>
      rw [hb] at hr
      obtain ⟨v, ob, h1, h2⟩ := hr
      exact ⟨v, ob, h1, RoX.mono hx _ _ _ h2⟩
  rcases hh id with e | e | e
  · rw [e]; exact mono
  · cases hb : h id with
    | row e' xs =>
      rw [hb] at e mono
      rw [e]
      simp only [frz]
      by_cases hsame : h' id = h id
      · rw [hsame, hb] at e; cases e
      rcases mono with ⟨rfl, L, h2⟩ | ⟨b, cap, vs, et, h1, h2, h3, h4, h5⟩
      · exact ⟨_, none, h2, L, 0, rfl, Nat.le_refl _, fun hn => absurd rfl hn⟩
      · refine ⟨_, some b, h1, some ⟨b, 0, none⟩, cap, rfl, h2, fun hne => ⟨b, 0, rfl, H.kbnd _ _ _ h1, ?_, fun i x hi => ?_⟩⟩
        · rintro (ha | ⟨j, u, hj1, hj2⟩)
          · exact (H.own b ⟨id, _, by rw [hb]; rfl, h1⟩).1 ha
          · have := H.inj j id u _ b (hlive j hj1).1 (by rw [hb]; rfl) hj2 h1
            subst this
            exact hsame (hlive j hj1).2
        · refine ⟨_, h5 i x hi, ?_, fun j u hj => ?_⟩
          · exact RoX.length _ _ _ (h5 i x hi)
          · have hj2 : j < e'.size := by
              have := (List.getElem?_eq_some_iff.1 hj).1
              simp only [List.length_take] at this
              omega
            rw [List.getElem?_take_of_lt hj2, List.getElem?_drop] at hj
            simp only [World.cell?, h3, Nat.zero_add]
            simpa using hj
    | _ => rw [hb] at e mono; rw [e]; simpa [frz] using mono
  · rw [e]; trivial

theorem own_live {κ : Kap} {h : Heap} {id b : Nat} {v : Value} (hl : (h id).live = true) (hk : κ id = some (v, some b)) : Own κ h b := ⟨id, v, hl, hk⟩

/-- a block that lives is written -/
theorem HSim.store {w0 : World} {S A : Nat → Prop} {κ : Kap} {h : Heap} {w : World} (H : HSim w0 S A κ h w) {id b : Nat} {v : Value} {vs vs' : List Value} {et : TypeId} {nb : B}
    (hl : (h id).live = true) (hk : κ id = some (v, some b)) (hb : w.heap[b]? = some (.cells (List.toArray vs) et (0, 0))) (hnl : nb.live = true)
    (hnb : RepB (w.setRow b (List.toArray vs')) (OO A κ h) κ id nb) :
    HSim w0 S A κ (h.upd id nb) (w.setRow b (List.toArray vs')) ∧ Ext w (OO A κ h) (w.setRow b (List.toArray vs')) (OO A κ (h.upd id nb)) := by
  have hlv : ∀ j, ((h.upd id nb) j).live = (h j).live := by
    intro j
    unfold Heap.upd
    by_cases e : j = id
    · subst e; simp [hnl, hl]
    · simp [e]
  have hown : ∀ k, Own κ (h.upd id nb) k ↔ Own κ h k := by
    intro k
    constructor <;> (rintro ⟨j, u, h1, h2⟩; refine ⟨j, u, ?_, h2⟩)
    · rw [← hlv j]; exact h1
    · rw [hlv j]; exact h1
  have hO : OO A κ (h.upd id nb) = OO A κ h := by
    funext k
    exact propext ⟨fun x => x.imp _root_.id (hown k).1, fun x => x.imp _root_.id (hown k).2⟩
  have hob : OO A κ h b := .inr ⟨id, v, hl, hk⟩
  have hx : Ext w (OO A κ h) (w.setRow b (List.toArray vs')) (OO A κ h) :=
    ⟨by simp, fun k _ hk2 => ⟨hk2, setRow_other _ _ _ _ (fun e => hk2 (e ▸ hob))⟩⟩
  rw [hO]
  refine ⟨⟨fun j => ?_, fun i j v u k h1 h2 h3 h4 => H.inj i j v u k (by rw [← hlv i]; exact h1) (by rw [← hlv j]; exact h2) h3 h4, H.kwf,
    fun k hk2 => by have := H.own k ((hown k).1 hk2); simpa using this, fun k hk2 => by simpa using H.abnd k hk2, fun i v k hk2 => by simpa using H.kbnd i v k hk2, H.kone, ?_⟩, hx⟩
  · rw [hO]
    unfold Heap.upd
    by_cases e : j = id
    · subst e; rw [if_pos rfl]; exact hnb
    · rw [if_neg e]
      have hr := H.rep j
      cases hj : h j with
      | none => trivial
      | box cs =>
        rw [hj] at hr
        obtain ⟨k, us, et', h1, h2, h3⟩ := hr
        have hne : k ≠ b := fun e' => e (H.inj j id _ _ b (by rw [hj]; rfl) hl (e' ▸ h1) hk)
        exact ⟨k, us, et', h1, by rw [setRow_other _ _ _ _ hne]; exact h2, RepTs.mono hx κ.le_refl _ _ h3⟩
      | row e' xs =>
        rw [hj] at hr
        rcases hr with ⟨h1, h2⟩ | ⟨k, cap, us, et', h1, h2, h3, h4, h5⟩
        · exact .inl ⟨h1, h2⟩
        · have hne : k ≠ b := fun e' => e (H.inj j id _ _ b (by rw [hj]; rfl) hl (e' ▸ h1) hk)
          exact .inr ⟨k, cap, us, et', h1, h2, by rw [setRow_other _ _ _ _ hne]; exact h3, h4, fun i x hi => RoX.mono hx _ _ _ (h5 i x hi)⟩
      | fro e' xs =>
        rw [hj] at hr
        obtain ⟨u, ob, h1, h2⟩ := hr
        exact ⟨u, ob, h1, RoX.mono hx _ _ _ h2⟩
  · have hS := (H.own b ⟨id, v, hl, hk⟩).2.2
    exact ⟨H.frame.os, H.frame.tape, H.frame.output, by simpa using H.frame.size, fun k hk1 hk2 => by
      have hne : k ≠ b := by
        rintro rfl
        rcases hS with h1 | h1
        · exact hk2 h1
        · omega
      rw [setRow_other _ _ _ _ hne]; exact H.frame.block k hk1 hk2⟩

def Kap.put (κ : Kap) (id : Nat) (p : Value × Option Nat) : Kap := fun j => if j = id then some p else κ j
theorem Kap.le_put {κ : Kap} {id : Nat} (h : κ id = none) (p : Value × Option Nat) : κ.le (κ.put id p) := by
  intro j q hq
  unfold Kap.put
  by_cases e : j = id
  · subst e; rw [h] at hq; cases hq
  · rw [if_neg e]; exact hq
theorem Kap.put_self (κ : Kap) (id : Nat) (p : Value × Option Nat) : (κ.put id p) id = some p := by simp [Kap.put]
theorem Kap.put_other (κ : Kap) {id j : Nat} (p : Value × Option Nat) (h : j ≠ id) : (κ.put id p) j = κ j := by simp [Kap.put, h]

theorem RepB.mono {w w' : World} {O O' : Nat → Prop} {κ κ' : Kap} {id : Nat} {b : B} (hx : Ext w O w' O') (hk : κ.le κ') (hb : ∀ v k, κ id = some (v, some k) → b.live = true → w'.heap[k]? = w.heap[k]?)
    (h : RepB w O κ id b) : RepB w' O' κ' id b := by
  cases b with
  | none => trivial
  | box cs =>
    obtain ⟨b, vs, et, h1, h2, h3⟩ := h
    exact ⟨b, vs, et, hk _ _ h1, (hb _ _ h1 rfl).trans h2, RepTs.mono hx hk _ _ h3⟩
  | row e xs =>
    rcases h with ⟨h1, A, h2⟩ | ⟨b, cap, vs, et, h1, h2, h3, h4, h5⟩
    · exact .inl ⟨h1, A, hk _ _ h2⟩
    · exact .inr ⟨b, cap, vs, et, hk _ _ h1, h2, (hb _ _ h1 rfl).trans h3, h4, fun i x hi => RoX.mono hx _ _ _ (h5 i x hi)⟩
  | fro e xs =>
    obtain ⟨v, ob, h1, h2⟩ := h
    exact ⟨v, ob, hk _ _ h1, RoX.mono hx _ _ _ h2⟩

/-- a new block of the machine's, at a block that nothing lives at -/
theorem HSim.new {w0 : World} {S A : Nat → Prop} {κ : Kap} {h : Heap} {w w' : World} (H : HSim w0 S A κ h w) {id : Nat} (hid : κ id = none) {v : Value} {ob : Option Nat} {nb : B}
    (hF : Fr w0 S w') (hx0 : Ext w (OO A κ h) w' (OO A κ h)) (hkeep : ∀ k, Own κ h k → w'.heap[k]? = w.heap[k]?)
    (hone : v.oneCell' = true) (hob : ∀ b, ob = some b → w.heap.size ≤ b ∧ b < w'.heap.size) (hkw : ∀ L n c b, v = .slice L n c → ob = some b → L = some ⟨b, 0, none⟩)
    (hnb : Ext w (OO A κ h) w' (OO A (κ.put id (v, ob)) (h.upd id nb)) → RepB w' (OO A (κ.put id (v, ob)) (h.upd id nb)) (κ.put id (v, ob)) id nb) :
    HSim w0 S A (κ.put id (v, ob)) (h.upd id nb) w' ∧ Ext w (OO A κ h) w' (OO A (κ.put id (v, ob)) (h.upd id nb)) := by
  have hnone : h id = .none := (H.rep id).kap hid
  have hle := Kap.le_put hid (v, ob)
  have hown : ∀ k, Own (κ.put id (v, ob)) (h.upd id nb) k → Own κ h k ∨ (ob = some k) := by
    rintro k ⟨j, u, h1, h2⟩
    by_cases e : j = id
    · subst e
      rw [Kap.put_self] at h2
      injection h2 with h2
      injection h2 with _ h2
      exact .inr h2
    · rw [Kap.put_other _ _ e] at h2
      simp only [Heap.upd, if_neg e] at h1
      exact .inl ⟨j, u, h1, h2⟩
  have hx : Ext w (OO A κ h) w' (OO A (κ.put id (v, ob)) (h.upd id nb)) :=
    ⟨hx0.size, fun k hk1 hk2 => ⟨by
      rintro (ha | ho)
      · exact hk2 (.inl ha)
      · rcases hown k ho with ho | ho
        · exact hk2 (.inr ho)
        · have := (hob k ho).1; omega, (hx0.keep k hk1 hk2).2⟩⟩
  have hkb : ∀ i v k, κ i = some (v, some k) → k < w.heap.size := H.kbnd
  refine ⟨⟨fun j => ?_, fun i j u1 u2 k h1 h2 h3 h4 => ?_, fun j L n c b hj => ?_, fun k hk => ?_, fun k hk => Nat.lt_of_lt_of_le (H.abnd k hk) hx0.size, fun j u k hj => ?_, fun j u ob' hj => ?_, hF⟩, hx⟩
  · by_cases e : j = id
    · subst e
      simp only [Heap.upd, if_true]
      exact hnb hx
    · simp only [Heap.upd, if_neg e]
      exact RepB.mono hx hle (fun u k h1 h2 => hkeep k ⟨j, u, h2, h1⟩) (H.rep j)
  · by_cases e1 : i = id <;> by_cases e2 : j = id
    · exact e1.trans e2.symm
    · subst e1
      rw [Kap.put_self] at h3; rw [Kap.put_other _ _ e2] at h4
      injection h3 with h3; injection h3 with _ h3
      have := (hob k h3).1; have := hkb _ _ _ h4; omega
    · subst e2
      rw [Kap.put_self] at h4; rw [Kap.put_other _ _ e1] at h3
      injection h4 with h4; injection h4 with _ h4
      have := (hob k h4).1; have := hkb _ _ _ h3; omega
    · rw [Kap.put_other _ _ e1] at h3; rw [Kap.put_other _ _ e2] at h4
      simp only [Heap.upd, if_neg e1] at h1
      simp only [Heap.upd, if_neg e2] at h2
      exact H.inj i j u1 u2 k h1 h2 h3 h4
  · by_cases e : j = id
    · subst e
      rw [Kap.put_self] at hj
      injection hj with hj; injection hj with hj1 hj2
      exact hkw L n c b hj1 hj2
    · rw [Kap.put_other _ _ e] at hj; exact H.kwf j L n c b hj
  · rcases hown k hk with ho | ho
    · obtain ⟨h1, h2, h3⟩ := H.own k ho
      exact ⟨h1, Nat.lt_of_lt_of_le h2 hx0.size, h3⟩
    · have hb := hob k ho
      refine ⟨fun ha => ?_, hb.2, .inr ?_⟩
      · have := H.abnd k ha; omega
      · have := H.frame.size; omega
  · by_cases e : j = id
    · subst e
      rw [Kap.put_self] at hj
      injection hj with hj; injection hj with hj1 hj2
      exact (hob k hj2).2
    · rw [Kap.put_other _ _ e] at hj; exact Nat.lt_of_lt_of_le (hkb _ _ _ hj) hx0.size
  · by_cases e : j = id
    · subst e
      rw [Kap.put_self] at hj
      injection hj with hj; injection hj with hj1 hj2
      rw [← hj1]; exact hone
    · rw [Kap.put_other _ _ e] at hj; exact H.kone _ _ _ hj

theorem ext_alloc (w : World) (O : Nat → Prop) (o : Obj) : Ext w O (w.alloc o) O :=
  ⟨by show _ ≤ (w.heap.push o).size; rw [Array.size_push]; omega, fun k hk ho => ⟨ho, by show (w.heap.push o)[k]? = _; rw [Array.getElem?_push, if_neg (by omega)]⟩⟩
theorem heap_alloc (w : World) (o : Obj) : (w.alloc o).heap[w.heap.size]? = some o := by show (w.heap.push o)[w.heap.size]? = _; rw [Array.getElem?_push, if_pos rfl]
theorem heap_alloc_old (w : World) (o : Obj) (k : Nat) (h : k < w.heap.size) : (w.alloc o).heap[k]? = w.heap[k]? := by
  show (w.heap.push o)[k]? = _; rw [Array.getElem?_push, if_neg (by omega)]
theorem Fr.alloc {w0 : World} {S : Nat → Prop} {w : World} (h : Fr w0 S w) (o : Obj) : Fr w0 S (w.alloc o) :=
  ⟨h.os, h.tape, h.output, by have := h.size; show _ ≤ (w.heap.push o).size; rw [Array.size_push]; omega, fun k hk hs => by rw [heap_alloc_old _ _ _ (Nat.lt_of_lt_of_le hk h.size)]; exact h.block k hk hs⟩
theorem Fr.drew {w0 : World} {S : Nat → Prop} {w : World} (h : Fr w0 S w) : Fr w0 S w.drew := ⟨h.os, h.tape, h.output, h.size, h.block⟩
theorem ext_drew (w : World) (O : Nat → Prop) : Ext w O w.drew O := ⟨Nat.le_refl _, fun _ _ h => ⟨h, rfl⟩⟩

/-- a draw turns nothing -/
theorem HSim.drew {w0 : World} {S A : Nat → Prop} {κ : Kap} {h : Heap} {w : World} (H : HSim w0 S A κ h w) : HSim w0 S A κ h w.drew :=
  ⟨fun id => RepB.mono (ext_drew w _) κ.le_refl (fun _ _ _ _ => rfl) (H.rep id), H.inj, H.kwf, H.own, H.abnd, H.kbnd, H.kone, H.frame.drew⟩

end Go.Am

/- The symbolic machine: plain operations. -/
set_option linter.unusedVariables false
set_option linter.unusedSimpArgs false
namespace Go.Am
open Go Go.RowKit

/-! ### 1. What the context says is so -/
def kindOf (d : TypeDesc) : TK :=
  match d with
  | .int k => .int k | .bool => .bool | .string => .str | .slice e => .slice e
  | .struct fs => .struct (fs.toList.map fun f => (f.offset, f.type))
  | .array n e => .array n e
  | _ => .other
def tysOf (f : Nat → Ty) : List Nat → Ty
  | [] => .unit
  | [t] => f t
  | t :: u :: r => .pair (f t) (tysOf f (u :: r))
def tyOf (P : Program) : Nat → Nat → Ty
  | 0, _ => .unit
  | n + 1, t => match P.underlying t with
    | some (.int k) => .int k
    | some .bool => .bool
    | some .string => .str
    | some (.slice e) => .sl (tyOf P n e)
    | some (.struct fs) => tysOf (tyOf P n) (fs.toList.map (·.type))
    | _ => .unit
def mkTI (P : Program) (t : Nat) : Option TI :=
  match P.info? t, P.underlying t with
  | some i, some d => some ⟨i.size, i.bytes, kindOf d, match i.zero with | some z => z.cells.toList.map ofLeaf | none => [], tyOf P 12 t⟩
  | _, _ => none

/-- '==' of structs of a type -/
def EqSpec (P : Program) (t : Nat) (z : List T) : Prop :=
  ∀ (w : World) (O : Nat → Prop) (κ : Kap) (xs ys : List T) (us vs : List Value) (r : Bool), sameK z xs = true → sameK z ys = true → RepTs w O κ xs us → RepTs w O κ ys vs → leavesEq xs ys = some r →
    (∀ op x y, (eqGuard op t x y (.agg us.toArray) (.agg vs.toArray)).run P w = .ok () w) ∧ (Op.equal t (.agg us.toArray) (.agg vs.toArray)).run P w = .ok r w

structure CtxOk (P : Program) (C : Ctx) : Prop where
  ti : ∀ t i, C.ti t = some i → mkTI P t = some i
  eqs : ∀ t i, C.ti t = some i → C.eqs t = true → EqSpec P t i.zero

section
variable {P : Program} {C : Ctx} {t : Nat} {i : TI}
theorem CtxOk.info (hC : CtxOk P C) (h : C.ti t = some i) : ∃ j d, P.info? t = some j ∧ P.underlying t = some d ∧ j.size = i.size ∧ j.bytes = i.bytes ∧ kindOf d = i.kind ∧
    (∀ z, j.zero = some z → i.zero = z.cells.toList.map ofLeaf) ∧ (j.zero = none → i.zero = []) := by
  have := hC.ti t i h
  unfold mkTI at this
  cases hj : P.info? t with
  | none => simp [hj] at this
  | some j =>
    cases hd : P.underlying t with
    | none => simp [hj, hd] at this
    | some d =>
      simp only [hj, hd, Option.some.injEq] at this
      subst this
      refine ⟨j, d, rfl, rfl, rfl, rfl, rfl, fun z hz => ?_, fun hz => ?_⟩ <;> simp [hz]
theorem CtxOk.size (hC : CtxOk P C) (h : C.ti t = some i) (w : World) : (sizeOf t).run P w = .ok i.size w := by
  obtain ⟨j, d, h1, _, h3, _⟩ := hC.info h
  simp [sizeOf, typeInfo, h1, h3]
theorem run_isAgg {d : TypeDesc} (h : P.underlying t = some d) (w : World) : (isAgg t).run P w = .ok (aggK (kindOf d)) w := by
  unfold Go.isAgg
  simp only [Sem.run_bind, run_underlying h, Result.andThen_ok]
  cases d <;> rfl
theorem CtxOk.agg (hC : CtxOk P C) (h : C.ti t = some i) (w : World) : (isAgg t).run P w = .ok i.isAgg w := by
  obtain ⟨j, d, _, h2, _, _, h4, _⟩ := hC.info h
  rw [run_isAgg h2, h4]; rfl
theorem CtxOk.slice (hC : CtxOk P C) (h : C.ti t = some i) {e : Nat} (hk : i.kind = .slice e) : P.underlying t = some (.slice e) := by
  obtain ⟨j, d, _, h2, _, _, h4, _⟩ := hC.info h
  rw [hk] at h4
  cases d <;> simp [kindOf] at h4
  subst h4; exact h2
theorem CtxOk.int (hC : CtxOk P C) (h : C.ti t = some i) {k : IntKind} (hk : i.kind = .int k) : P.underlying t = some (.int k) := by
  obtain ⟨j, d, _, h2, _, _, h4, _⟩ := hC.info h
  rw [hk] at h4
  cases d <;> simp [kindOf] at h4
  subst h4; exact h2
theorem CtxOk.str (hC : CtxOk P C) (h : C.ti t = some i) (hk : i.kind = .str) : P.underlying t = some .string := by
  obtain ⟨j, d, _, h2, _, _, h4, _⟩ := hC.info h
  rw [hk] at h4
  cases d <;> simp [kindOf] at h4
  exact h2
theorem CtxOk.bool (hC : CtxOk P C) (h : C.ti t = some i) (hk : i.kind = .bool) : P.underlying t = some .bool := by
  obtain ⟨j, d, _, h2, _, _, h4, _⟩ := hC.info h
  rw [hk] at h4
  cases d <;> simp [kindOf] at h4
  exact h2
theorem CtxOk.array (hC : CtxOk P C) (h : C.ti t = some i) {n e : Nat} (hk : i.kind = .array n e) : P.underlying t = some (.array n e) := by
  obtain ⟨j, d, _, h2, _, _, h4, _⟩ := hC.info h
  rw [hk] at h4
  cases d <;> simp [kindOf] at h4
  obtain ⟨rfl, rfl⟩ := h4; exact h2
theorem CtxOk.struct (hC : CtxOk P C) (h : C.ti t = some i) {fs : List (Nat × Nat)} (hk : i.kind = .struct fs) : ∃ gs, P.underlying t = some (.struct gs) ∧ fs = gs.toList.map fun f => (f.offset, f.type) := by
  obtain ⟨j, d, _, h2, _, _, h4, _⟩ := hC.info h
  rw [hk] at h4
  cases d <;> simp [kindOf] at h4
  exact ⟨_, h2, h4.symm⟩
end

/-! ### 2. Operands -/
structure Regs (w : World) (O : Nat → Prop) (κ : Kap) (rs : List T) (tm : Array Value) : Prop where
  size : tm.size = rs.length
  rep : ∀ i, RepT w O κ (rs.getD i .undef) (tm.getD i undef)
theorem Regs.mono {w w' : World} {O O' : Nat → Prop} {κ κ' : Kap} {rs : List T} {tm : Array Value} (h : Regs w O κ rs tm) (hx : Ext w O w' O') (hk : κ.le κ') : Regs w' O' κ' rs tm :=
  ⟨h.size, fun i => RepT.mono hx hk _ _ (h.rep i)⟩
theorem Regs.put {w : World} {O : Nat → Prop} {κ : Kap} {rs : List T} {a : Act} (h : Regs w O κ rs a.tmps) (d : Option Nat) {t : T} {v : Value} (ht : RepT w O κ t v) :
    Regs w O κ (setDst rs d t) (a.put d v).tmps := by
  cases d with
  | none => exact h
  | some d =>
    refine ⟨by simp [setDst, Act.put, h.size], fun i => ?_⟩
    simp only [setDst, Act.put]
    have hs := h.size
    by_cases e : i = d
    · subst e
      by_cases hi : i < rs.length
      · simp only [List.getD_eq_getElem?_getD, List.getElem?_set, Array.getD_eq_getD_getElem?, Array.getElem?_setIfInBounds]
        simpa [hi, show i < a.tmps.size by omega] using ht
      · have hr := h.rep i
        simp only [List.getD_eq_getElem?_getD, List.getElem?_set, Array.getD_eq_getD_getElem?, Array.getElem?_setIfInBounds]
        simp [hi, show ¬ i < a.tmps.size by omega, RepT]
    · have hr := h.rep i
      simp only [List.getD_eq_getElem?_getD, List.getElem?_set, Array.getD_eq_getD_getElem?, Array.getElem?_setIfInBounds] at hr ⊢
      rw [if_neg (fun h => e h.symm), if_neg (fun h => e h.symm)]
      exact hr

section
variable {w : World} {O : Nat → Prop} {κ : Kap}
theorem ofLeaf_rep (v : Value) : RepT w O κ (ofLeaf v) v := by
  unfold ofLeaf
  split <;> simp [RepT]
theorem ofLeaves_rep : ∀ (l : List Value), RepTs w O κ (l.map ofLeaf) l
  | [] => RepTs.nil
  | v :: l => RepTs.cons (ofLeaf_rep v) (ofLeaves_rep l)
theorem ofVal_rep (v : Value) : RepT w O κ (ofVal v) v := by
  cases v with
  | agg cs => simp only [ofVal, RepT]; exact ⟨cs.toList, by simp, ofLeaves_rep _⟩
  | _ => simp only [ofVal]; exact ofLeaf_rep _
theorem opv_rep {rs : List T} {a : Act} (h : Regs w O κ rs a.tmps) (x : Operand) : RepT w O κ (opv rs x) (a.eval x) := by
  cases x with
  | tmp t => exact h.rep t
  | const v => exact ofVal_rep v
  | global g => simp [opv, RepT]
  | func f => simp only [opv, RepT, Act.eval]; exact ⟨[], by simp, RepTs.nil⟩
end

/-! ### 3. Binary operations -/
theorem fail_wp {α : Type} {Q : α → Prop} (h : (DT.fail : DT α).wp Q) : False := h

section
variable {P : Program} {w : World} {O : Nat → Prop} {κ : Kap}
theorem boolEq_sound {t : Nat} (hd : P.underlying t = some .bool) {x y : T} {u v : Value} (hx : RepT w O κ x u) (hy : RepT w O κ y v) {r : Bool} (h : boolEq x y = some r) :
    (Op.equal t u v).run P w = .ok r w ∧ (∃ b, u = .bool b) ∧ (∃ b, v = .bool b) := by
  have key : ∀ a b : Bool, (Op.equal t (.bool a) (.bool b)).run P w = .ok (a == b) w := by
    intro a b
    show (Op.equalIn (9999 + 1) t (.bool a) (.bool b)).run P w = _
    rw [Op.equalIn]
    simp [run_underlying hd]
  unfold boolEq at h
  split at h
  all_goals first
    | (simp only [Option.some.injEq] at h; subst h
       simp only [RepT] at hx hy; subst hx; subst hy
       exact ⟨key _ _, ⟨_, rfl⟩, ⟨_, rfl⟩⟩)
    | cases h

theorem bin_sound {t : Nat} {kd : TK} {d : TypeDesc} (hd : P.underlying t = some d) (hkd : kindOf d = kd) {seq : Bool} {z : List T} {x y : T} (hseq : seq = true → EqSpec P t z ∧ fitsK z x = true ∧ fitsK z y = true) {lit : Bool} {op : BinOp} {u v : Value} {xo yo : Operand}
    (hx : RepT w O κ x u) (hy : RepT w O κ y v) {Q : T → Prop} (h : (binT kd seq lit op x y).wp Q) :
    ∃ r z, Q r ∧ RepT w O κ r z ∧ (eqGuard op t xo yo u v).run P w = .ok () w ∧ (binOp op t u v).run P w = .ok z w := by
  unfold binT at h
  split at h
  · -- shl
    rename_i k a k' b
    simp only [RepT] at hx hy; subst hx; subst hy
    obtain ⟨hb, h⟩ := wp_test h
    have hb := of_decide_eq_true hb
    refine ⟨_, .int _ _, h, by simp only [RepT]; rfl, by simp [eqGuard_at_int], ?_⟩
    have hn : ¬ b < 0 := by omega
    simp only [binOp, Op.shift, if_neg hn]
    rfl
  · rename_i k a k' b
    simp only [RepT] at hx hy; subst hx; subst hy
    obtain ⟨hb, h⟩ := wp_test h
    have hb := of_decide_eq_true hb
    refine ⟨_, .int _ _, h, by simp only [RepT]; rfl, by simp [eqGuard_at_int], ?_⟩
    have hn : ¬ b < 0 := by omega
    simp only [binOp, Op.shift, if_neg hn]
    rfl
  · -- whole numbers
    simp only [RepT] at hx hy; subst hx; subst hy
    split at h
    · rename_i hk; subst hk
      split at h
      case h_16 => exact (fail_wp h).elim
      case h_4 =>
        obtain ⟨hb, h⟩ := wp_test h
        have hb := of_decide_eq_true hb
        refine ⟨_, .int _ _, h, by simp only [RepT]; rfl, by simp [eqGuard_at_int], ?_⟩
        simp [binOp_quo, Op.intDiv, hb]
      case h_5 =>
        obtain ⟨hb, h⟩ := wp_test h
        have hb := of_decide_eq_true hb
        refine ⟨_, .int _ _, h, by simp only [RepT]; rfl, by simp [eqGuard_at_int], ?_⟩
        simp [binOp_rem, Op.intDiv, hb]
      all_goals
        refine ⟨_, _, h, by simp only [RepT]; rfl, by simp [eqGuard_at_int], ?_⟩
        simp [binOp, Op.intArith, Op.intBits, Op.intCmp, bitsOf]
    · exact (fail_wp h).elim
  · -- strings
    simp only [RepT] at hx hy; subst hx; subst hy
    split at h
    case h_8 => exact (fail_wp h).elim
    case h_1 =>
      obtain ⟨hb, h⟩ := DT.wp_guard h
      have hb := of_decide_eq_true hb
      refine ⟨_, .string _, h, by simp only [RepT]; rfl, by simp [eqGuard_at_string], ?_⟩
      have hn : ∀ a b : ByteArray, a.size + b.size ≤ 140737488355328 → ¬ (((a.size + b.size : Nat) : Int) > IntKind.i64.max) := by intro a b hab; simp; omega
      simp only [binOp, Op.stringOp]
      rw [if_neg (hn _ _ hb)]
      rfl
    all_goals
      refine ⟨_, _, h, by simp only [RepT]; rfl, by simp [eqGuard_at_string], ?_⟩
      simp [binOp, Op.stringOp, seqb, slt]
  · -- structs
    simp only [RepT] at hx hy
    obtain ⟨us, rfl, hus⟩ := hx
    obtain ⟨vs, rfl, hvs⟩ := hy
    split at h
    · rename_i r hr
      obtain ⟨hE, hf1, hf2⟩ := hseq rfl
      obtain ⟨h1, h2⟩ := hE w O κ _ _ _ _ _ hf1 hf2 hus hvs hr
      refine ⟨_, .bool r, h, by simp [RepT], h1 _ _ _, ?_⟩
      simp [binOp, h2]
    · exact (fail_wp h).elim
  · simp only [RepT] at hx hy
    obtain ⟨us, rfl, hus⟩ := hx
    obtain ⟨vs, rfl, hvs⟩ := hy
    split at h
    · rename_i r hr
      obtain ⟨hE, hf1, hf2⟩ := hseq rfl
      obtain ⟨h1, h2⟩ := hE w O κ _ _ _ _ _ hf1 hf2 hus hvs hr
      refine ⟨_, .bool (!r), h, by simp [RepT], h1 _ _ _, ?_⟩
      simp [binOp, h2]
    · exact (fail_wp h).elim
  · split at h
    · rename_i o r hr
      have hd' : P.underlying t = some .bool := by cases d <;> simp_all [kindOf]
      obtain ⟨h1, ⟨p, rfl⟩, ⟨q, rfl⟩⟩ := boolEq_sound hd' hx hy hr
      refine ⟨_, .bool r, h, by simp [RepT], by simp [eqGuard_at_bool], ?_⟩
      simp [binOp, h1]
    · exact (fail_wp h).elim
  · split at h
    · rename_i o r hr
      have hd' : P.underlying t = some .bool := by cases d <;> simp_all [kindOf]
      obtain ⟨h1, ⟨p, rfl⟩, ⟨q, rfl⟩⟩ := boolEq_sound hd' hx hy hr
      refine ⟨_, .bool (!r), h, by simp [RepT], by simp [eqGuard_at_bool], ?_⟩
      simp [binOp, h1]
    · exact (fail_wp h).elim
  · exact (fail_wp h).elim

theorem un_sound {op : UnOp} {x : T} {u : Value} (hx : RepT w O κ x u) {Q : T → Prop} (h : (unT op x).wp Q) : ∃ r z, Q r ∧ RepT w O κ r z ∧ (Op.unary op u).run P w = .ok z w := by
  unfold unT at h
  split at h
  · simp only [RepT] at hx; subst hx; exact ⟨_, _, h, by simp only [RepT]; rfl, by simp [Op.unary]⟩
  · simp only [RepT] at hx; subst hx; exact ⟨_, _, h, by simp only [RepT]; rfl, by simp [Op.unary]⟩
  · simp only [RepT] at hx; subst hx; exact ⟨_, _, h, by simp only [RepT]; rfl, by simp [Op.unary, Op.intArith]⟩
  · exact (fail_wp h).elim
end

/-- a test of a truth value -/
theorem onBool_wp {α : Type} {t : T} {k : Bool → DT α} {Q : α → Prop} {w : World} {O : Nat → Prop} {κ : Kap} {v : Value} (ht : RepT w O κ t v) (h : (onBool t k).wp Q) : ∃ b, v = .bool b ∧ (k b).wp Q := by
  unfold onBool at h
  cases t with
  | kb b =>
    simp only [RepT] at ht
    cases b
    · exact ⟨false, ht, h⟩
    · exact ⟨true, ht, h⟩
  | bool b =>
    simp only [RepT] at ht
    rcases DT.wp_ite h with ⟨hb, h'⟩ | ⟨hb, h'⟩
    · subst hb; exact ⟨true, ht, h'⟩
    · subst hb; exact ⟨false, ht, h'⟩
  | _ => exact h.elim
end Go.Am

/- The symbolic machine: memory. -/
set_option linter.unusedVariables false
set_option linter.unusedSimpArgs false
namespace Go.Am
open Go Go.RowKit

/-! ### 1. Updates -/
theorem updAll_cases : ∀ (l : List (Nat × B)) (h : Heap) (j : Nat), (h.updAll l) j = h j ∨ ∃ b, (j, b) ∈ l ∧ (h.updAll l) j = b
  | [], h, j => .inl rfl
  | (i, b) :: r, h, j => by
    rcases updAll_cases r (h.upd i b) j with e | ⟨c, hc, e⟩
    · simp only [Heap.updAll, e, Heap.upd]
      by_cases hj : j = i
      · subst hj; exact .inr ⟨b, by simp, by simp⟩
      · rw [if_neg hj]; exact .inl rfl
    · exact .inr ⟨c, List.mem_cons_of_mem _ hc, e⟩
theorem updAll_append : ∀ (l r : List (Nat × B)) (h : Heap), h.updAll (l ++ r) = (h.updAll l).updAll r
  | [], r, h => rfl
  | (i, b) :: l, r, h => updAll_append l r (h.upd i b)
theorem mem_fz {hr : Heap} : ∀ {l : List Nat} {j : Nat} {b : B}, (j, b) ∈ fz hr l → b = frz (hr j) ∧ j ∈ l
  | i :: r, j, b, h => by
    simp only [fz, List.mem_cons, Prod.mk.injEq] at h
    rcases h with ⟨rfl, rfl⟩ | h
    · exact ⟨rfl, by simp⟩
    · exact ⟨(mem_fz h).1, List.mem_cons_of_mem _ (mem_fz h).2⟩
theorem fz_mem {hr : Heap} : ∀ {l : List Nat} {j : Nat}, j ∈ l → (j, frz (hr j)) ∈ fz hr l
  | i :: r, j, h => by
    simp only [fz, List.mem_cons] at h ⊢
    rcases h with rfl | h
    · exact .inl rfl
    · exact .inr (fz_mem h)
theorem updAll_ne : ∀ {l : List (Nat × B)} {h : Heap} {j : Nat}, (∀ b, (j, b) ∉ l) → (h.updAll l) j = h j := by
  intro l h j hn
  rcases updAll_cases l h j with e | ⟨b, hb, _⟩
  · exact e
  · exact absurd hb (hn b)
theorem updAll_mem : ∀ {l : List (Nat × B)} {h : Heap} {j : Nat} {b : B}, (j, b) ∈ l → ∃ c, (j, c) ∈ l ∧ (h.updAll l) j = c
  | (i, b') :: r, h, j, b, hm => by
    by_cases hr : ∃ c, (j, c) ∈ r
    · obtain ⟨c, hc⟩ := hr
      obtain ⟨d, hd, e⟩ := updAll_mem (h := h.upd i b') hc
      exact ⟨d, List.mem_cons_of_mem _ hd, e⟩
    · have hn : ∀ c, (j, c) ∉ r := fun c hc => hr ⟨c, hc⟩
      simp only [List.mem_cons, Prod.mk.injEq] at hm
      rcases hm with ⟨rfl, rfl⟩ | hm
      · exact ⟨b, by simp, by simp [Heap.updAll, updAll_ne hn, Heap.upd]⟩
      · exact absurd hm (hn b)
theorem updAll_fz {hr h : Heap} {l : List Nat} {j : Nat} (hj : j ∈ l) : (h.updAll (fz hr l)) j = frz (hr j) := by
  obtain ⟨c, hc, e⟩ := updAll_mem (h := h) (fz_mem (hr := hr) hj)
  rw [e, (mem_fz hc).1]

/-- a heap of which a part is hidden -/
def Sub (hr h : Heap) : Prop := ∀ j, hr j = h j ∨ hr j = .none
theorem Sub.refl (h : Heap) : Sub h h := fun _ => .inl rfl
theorem Sub.get {hr h : Heap} (s : Sub hr h) {j : Nat} {b : B} (h1 : hr j = b) (h2 : b ≠ .none) : h j = b := by
  rcases s j with e | e
  · rw [← e]; exact h1
  · exact absurd (h1.symm.trans e) h2
theorem sub_restrict (h : Heap) (l : List Nat) : Sub (restrict h l) h := by
  intro j
  unfold restrict
  by_cases e : l.contains j = true
  · rw [if_pos e]; exact .inl rfl
  · rw [if_neg e]; exact .inr rfl

section
variable {w0 : World} {S A : Nat → Prop} {κ : Kap} {h hr : Heap} {w : World}
theorem HSim.freeze (H : HSim w0 S A κ h w) (hs : Sub hr h) (l : List Nat) :
    HSim w0 S A κ (h.updAll (fz hr l)) w ∧ Ext w (OO A κ h) w (OO A κ (h.updAll (fz hr l))) := by
  refine H.less fun j => ?_
  rcases updAll_cases (fz hr l) h j with e | ⟨b, hb, e⟩
  · exact .inl e
  · rw [e, (mem_fz hb).1]
    rcases hs j with e' | e'
    · rw [e']; exact .inr (.inl rfl)
    · rw [e']; exact .inr (.inr rfl)
theorem mem_kill : ∀ {l : List Nat} {j : Nat} {b : B}, (j, b) ∈ kill l → b = .none ∧ j ∈ l
  | i :: r, j, b, h => by
    simp only [kill, List.mem_cons, Prod.mk.injEq] at h
    rcases h with ⟨rfl, rfl⟩ | h
    · exact ⟨rfl, by simp⟩
    · exact ⟨(mem_kill h).1, List.mem_cons_of_mem _ (mem_kill h).2⟩
theorem kill_mem : ∀ {l : List Nat} {j : Nat}, j ∈ l → (j, B.none) ∈ kill l
  | i :: r, j, h => by
    simp only [kill, List.mem_cons] at h ⊢
    rcases h with rfl | h
    · exact .inl rfl
    · exact .inr (kill_mem h)
theorem updAll_kill {l : List Nat} {j : Nat} (hj : j ∈ l) : (h.updAll (kill l)) j = .none := by
  obtain ⟨c, hc, e⟩ := updAll_mem (h := h) (kill_mem hj)
  rw [e, (mem_kill hc).1]

theorem mem_rowsIn : ∀ {cs : List T} {i : Nat}, i ∈ rowsIn cs ↔ T.ow i ∈ cs
  | [], i => by simp [rowsIn]
  | t :: r, i => by
    cases t <;> simp [rowsIn, mem_rowsIn (cs := r)]

/-- what was frozen reads as a slice -/
theorem see_frozen {h' : Heap} (H' : HSim w0 S A κ h' w) : ∀ {cs : List T} {vs : List Value}, (∀ i, T.ow i ∈ cs → frz (hr i) = h' i) → RepTs w (OO A κ h') κ cs vs →
    RepTs w (OO A κ h') κ (cs.map (see hr)) vs
  | [], vs, _, h => h
  | t :: r, vs, hf, h => by
    simp only [RepTs] at h
    obtain ⟨v, us, rfl, h1, h2⟩ := h
    refine RepTs.cons ?_ (see_frozen H' (fun i hi => hf i (List.mem_cons_of_mem _ hi)) h2)
    cases t with
    | ow i =>
      have hi := hf i (by simp)
      have hrep := H'.rep i
      simp only [RepT] at h1
      obtain ⟨ob, h1⟩ := h1
      simp only [see]
      cases hb : hr i with
      | none => simp [RepT]
      | box c => simp [RepT]
      | row e xs =>
        rw [hb] at hi; simp only [frz] at hi
        rw [← hi] at hrep
        obtain ⟨v', ob', h3, h4⟩ := hrep
        rw [h1] at h3
        injection h3 with h3; injection h3 with h3 _; subst h3
        simp only [RepT]; exact h4
      | fro e xs =>
        rw [hb] at hi; simp only [frz] at hi
        rw [← hi] at hrep
        obtain ⟨v', ob', h3, h4⟩ := hrep
        rw [h1] at h3
        injection h3 with h3; injection h3 with h3 _; subst h3
        simp only [RepT]; exact h4
    | _ => exact h1
end

/-! ### 2. Cells -/
theorem cellOk_one {w : World} {O : Nat → Prop} {κ : Kap} {t : T} {v : Value} (h : RepT w O κ t v) (ht : t.cellOk = true) (how : ∀ id ob, κ id = some (v, ob) → v.oneCell' = true) : v.oneCell' = true := by
  cases t <;> simp only [T.cellOk] at ht <;> simp only [RepT] at h
  case int => subst h; rfl
  case bool => subst h; rfl
  case kb => subst h; rfl
  case str => subst h; rfl
  case ro => obtain ⟨A, c, h, _⟩ := h; injection h with h; subst h; rfl
  case z => obtain ⟨A, rfl⟩ := h; rfl
  case ow => obtain ⟨ob, h⟩ := h; exact how _ _ h
  case ptr => obtain ⟨_, _, _, rfl⟩ := h; rfl
  case eptr => obtain ⟨_, _, _, _, _, _, rfl⟩ := h; rfl
  case aptr => obtain ⟨_, _, _, _, rfl⟩ := h; rfl
  case pro => obtain ⟨_, _, _, rfl, _⟩ := h; rfl
  case fn => obtain ⟨_, rfl, _⟩ := h; rfl
  all_goals cases ht

theorem addr_add (b o n : Nat) : (⟨b, o, none⟩ : Addr).add n = ⟨b, o + n, none⟩ := by
  unfold Addr.add
  split
  · rename_i h; subst h; rfl
  · rfl

section
variable {P : Program} {C : Ctx} {w : World} {O : Nat → Prop} {κ : Kap}
theorem run_loadVar_at (hC : CtxOk P C) {t : Nat} {i : TI} (hi : C.ti t = some i) (hsz : (i.isAgg || i.size == 1) = true) {b o : Nat} {cs : List T} {vs : List Value} (hl : vs.length = i.size)
    (hr : RepTs w O κ cs vs) (hc : ∀ (j : Nat) (u : Value), vs[j]? = some u → w.cell? ⟨b, o + j, none⟩ = some u) :
    ∃ v, (loadVar t ⟨b, o, none⟩).run P w = .ok v w ∧ RepT w O κ (oneOr i.isAgg cs) v := by
  unfold loadVar
  simp only [Sem.run_bind, hC.agg hi, Result.andThen_ok]
  by_cases ha : i.isAgg = true
  · have := run_loadCells_list (P := P) w ⟨b, o, none⟩ vs (fun j v hj => by rw [addr_add]; exact hc j v hj)
    simp only [ha, if_true, Sem.run_bind, hC.size hi, Result.andThen_ok, ← hl, this, Sem.run_pure]
    exact ⟨_, rfl, by simp only [oneOr, if_true, RepT]; exact ⟨vs, rfl, hr⟩⟩
  · have h1 : i.size = 1 := by simpa [ha] using hsz
    rw [h1] at hl
    obtain ⟨v, rfl⟩ : ∃ v, vs = [v] := by
      cases vs with
      | nil => simp at hl
      | cons v r => cases r with
        | nil => exact ⟨v, rfl⟩
        | cons _ _ => simp at hl
    cases cs with
    | nil => simp only [RepTs] at hr; cases hr
    | cons c r =>
      rw [RepTs.cons_iff] at hr
      have hcell := hc 0 v rfl
      simp only [Nat.add_zero] at hcell
      have hf : i.isAgg = false := by simpa using ha
      simp only [hf, Bool.false_eq_true, if_false, run_load, hcell]
      exact ⟨v, rfl, by simpa [oneOr] using hr.1⟩
end

theorem getD_of_lt {α : Type} {xs : List α} {n : Nat} {d : α} (h : n < xs.length) : xs[n]? = some (xs.getD n d) := by
  simp [List.getD_eq_getElem?_getD, List.getElem?_eq_getElem h]

theorem strsOf_get : ∀ {cs : List T} {ss : List ByteArray}, strsOf cs = some ss → ∀ n, n < cs.length → cs[n]? = some (.str (ss.getD n ByteArray.empty))
  | [], ss, h, n, hn => by simp at hn
  | t :: r, ss, h, n, hn => by
    cases t <;> simp only [strsOf] at h <;> try (cases h; done)
    cases hr : strsOf r with
    | none => rw [hr] at h; cases h
    | some l =>
      rw [hr] at h
      simp only [Option.map_some, Option.some.injEq] at h
      subst h
      cases n with
      | zero => rfl
      | succ n => simpa using strsOf_get hr n (by simpa using hn)

section
variable {P : Program} {C : Ctx} {w0 : World} {S A : Nat → Prop} {κ : Kap} {h hr : Heap} {w : World}

/-- the cells of a row of one's own -/
theorem row_cells {e : Ty} {xs : List e.X} {id b n c : Nat} {L : Option Addr} (H : HSim w0 S A κ h w) (hb : h id = .row e xs) (hk : κ id = some (.slice L n c, some b)) {i : Nat} (hi : i < n) :
    n = xs.length ∧ ∃ us, RoX w (OO A κ h) e (xs.getD i e.dflt) us ∧ us.length = e.size ∧ ∀ (j : Nat) (u : Value), us[j]? = some u → w.cell? ⟨b, i * e.size + j, none⟩ = some u := by
  have hrep := H.rep id
  rw [hb] at hrep
  rcases hrep with ⟨rfl, L', h2⟩ | ⟨b', cap, vs, et, h1, h2, h3, h4, h5⟩
  · rw [hk] at h2; injection h2 with h2; injection h2 with _ h2; cases h2
  · rw [hk] at h1
    injection h1 with h1; injection h1 with h1 h1'; injection h1 with h6 h7 h8; injection h1' with h1'
    subst h1'; subst h7
    have hx := h5 i _ (getD_of_lt (d := e.dflt) hi)
    refine ⟨rfl, _, hx, RoX.length _ _ _ hx, fun j u hj => ?_⟩
    have hj2 : j < e.size := by
      have := (List.getElem?_eq_some_iff.1 hj).1
      rw [RoX.length _ _ _ hx] at this; exact this
    rw [List.getElem?_take_of_lt hj2, List.getElem?_drop] at hj
    simp only [World.cell?, h3]
    simpa using hj
theorem fro_cells {e : Ty} {xs : List e.X} {id b n c : Nat} {L : Option Addr} (H : HSim w0 S A κ h w) (hb : h id = .fro e xs) (hk : κ id = some (.slice L n c, some b)) {i : Nat} (hi : i < n) :
    n = xs.length ∧ ∃ us, RoX w (OO A κ h) e (xs.getD i e.dflt) us ∧ us.length = e.size ∧ ∀ (j : Nat) (u : Value), us[j]? = some u → w.cell? ⟨b, i * e.size + j, none⟩ = some u := by
  have hrep := H.rep id
  rw [hb] at hrep
  obtain ⟨v, ob, h1, h2⟩ := hrep
  rw [hk] at h1
  injection h1 with h1; injection h1 with h1 h1'
  subst h1
  obtain ⟨L', c', h3, h4, h5⟩ := h2
  injection h3 with h3
  injection h3 with h3 h6 h7
  subst h3; subst h6
  have hL := H.kwf _ _ _ _ _ hk
  have hne : xs ≠ [] := fun e' => by rw [e'] at hi; simp at hi
  obtain ⟨b', off, h8, h9, h10, h11⟩ := h5 hne
  rw [hL] at h8
  injection h8 with h8; injection h8 with h8 h12
  subst h8; subst h12
  obtain ⟨us, h13, h14, h15⟩ := h11 i _ (getD_of_lt (d := e.dflt) hi)
  exact ⟨rfl, us, h13, h14, fun j u hj => by simpa using h15 j u hj⟩

theorem RepTs.length' {O : Nat → Prop} {ts : List T} {vs : List Value} (h : RepTs w O κ ts vs) : ts.length = vs.length := h.length.symm

theorem load_sound (hC : CtxOk P C) (H : HSim w0 S A κ h w) (hs : Sub hr h) {t : Nat} {i : TI} (hi : C.ti t = some i) (hsz : (i.isAgg || i.size == 1) = true) {p : T} {v : Value}
    (hp : RepT w (OO A κ h) κ p v) {Q : T → Prop} (hq : (loadT i hr p).wp Q) :
    ∃ r z, Q r ∧ RepT w (OO A κ h) κ r z ∧ (Instr.loadAt t v).run P w = .ok z w := by
  have fin : ∀ {b o : Nat} {cs : List T} {vs : List Value}, v = .pointer (some ⟨b, o, none⟩) → vs.length = i.size → RepTs w (OO A κ h) κ cs vs →
      (∀ (j : Nat) (u : Value), vs[j]? = some u → w.cell? ⟨b, o + j, none⟩ = some u) → Q (oneOr i.isAgg cs) → ∃ r z, Q r ∧ RepT w (OO A κ h) κ r z ∧ (Instr.loadAt t v).run P w = .ok z w := by
    intro b o cs vs hv hl hrp hc hQ
    obtain ⟨z, h1, h2⟩ := run_loadVar_at hC hi hsz hl hrp hc
    refine ⟨_, z, hQ, h2, ?_⟩
    subst hv
    simp [Instr.loadAt, Instr.sureAddr, h1]
  unfold loadT at hq
  cases p with
  | ptr id off =>
    simp only at hq
    cases hb : hr id with
    | box cs =>
      simp only [hb] at hq
      have hb' := hs.get hb (by simp)
      have hrep := H.rep id
      rw [hb'] at hrep
      obtain ⟨b, vs, et, h1, h2, h3⟩ := hrep
      simp only [RepT] at hp
      obtain ⟨hv, b', h4, rfl⟩ := hp
      rw [h1] at h4
      injection h4 with h4; injection h4 with _ h4; injection h4 with h4; subst h4
      split at hq
      · rename_i hle
        refine fin rfl (vs := (vs.drop off).take i.size) ?_ ((h3.drop off).take i.size) (fun j u hj => ?_) hq
        · have := h3.length; simp; omega
        · have hj2 : j < i.size := by have := (List.getElem?_eq_some_iff.1 hj).1; simp at this; omega
          rw [List.getElem?_take_of_lt hj2, List.getElem?_drop] at hj
          simp only [World.cell?, h2]
          simpa using hj
      · exact hq.elim
    | _ => simp only [hb] at hq; exact hq.elim
  | eptr id sz n off =>
    simp only [RepT] at hp
    obtain ⟨L, len, c, b, h4, h5, rfl⟩ := hp
    simp only at hq
    cases hb : hr id with
    | row e xs =>
      simp only [hb] at hq
      have hb' := hs.get hb (by simp)
      split at hq
      · rename_i hle
        obtain ⟨rfl, hle⟩ := hle
        obtain ⟨rfl, us, h6, h7, h8⟩ := row_cells H hb' h4 h5
        refine fin rfl (vs := (us.drop off).take i.size) ?_ (((RoX.rep _ _ _ h6).drop off).take i.size) (fun j u hj => ?_) hq
        · simp; omega
        · have hj2 : j < i.size := by have := (List.getElem?_eq_some_iff.1 hj).1; simp at this; omega
          rw [List.getElem?_take_of_lt hj2, List.getElem?_drop] at hj
          have := h8 _ _ hj
          rw [show n * e.size + off + j = n * e.size + (off + j) by omega]; exact this
      · exact hq.elim
    | fro e xs =>
      simp only [hb] at hq
      have hb' := hs.get hb (by simp)
      split at hq
      · rename_i hle
        obtain ⟨rfl, hle⟩ := hle
        obtain ⟨rfl, us, h6, h7, h8⟩ := fro_cells H hb' h4 h5
        refine fin rfl (vs := (us.drop off).take i.size) ?_ (((RoX.rep _ _ _ h6).drop off).take i.size) (fun j u hj => ?_) hq
        · simp; omega
        · have hj2 : j < i.size := by have := (List.getElem?_eq_some_iff.1 hj).1; simp at this; omega
          rw [List.getElem?_take_of_lt hj2, List.getElem?_drop] at hj
          have := h8 _ _ hj
          rw [show n * e.size + off + j = n * e.size + (off + j) by omega]; exact this
      · exact hq.elim
    | _ => simp only [hb] at hq; exact hq.elim
  | pro cs off =>
    simp only [RepT] at hp
    obtain ⟨b, o, vs, rfl, h1, h2, h3, h4⟩ := hp
    simp only at hq
    split at hq
    · rename_i hle
      refine fin rfl (vs := (vs.drop off).take i.size) ?_ ((h3.drop off).take i.size) (fun j u hj => ?_) hq
      · have := h3.length; simp; omega
      · have hj2 : j < i.size := by have := (List.getElem?_eq_some_iff.1 hj).1; simp at this; omega
        rw [List.getElem?_take_of_lt hj2, List.getElem?_drop] at hj
        have := h4 _ _ hj
        rw [show o + off + j = o + (off + j) by omega]; exact this
    · exact hq.elim
  | aptr id n len =>
    simp only at hq
    cases hb : hr id with
    | box cs =>
      simp only [hb] at hq
      have hb' := hs.get hb (by simp)
      have hrep := H.rep id
      rw [hb'] at hrep
      obtain ⟨b, vs, et, h1, h2, h3⟩ := hrep
      simp only [RepT] at hp
      obtain ⟨hv, b', h4, hn, rfl⟩ := hp
      rw [h1] at h4
      injection h4 with h4; injection h4 with _ h4; injection h4 with h4; subst h4
      split at hq
      · rename_i ss hd ha h1' hss
        have hd := of_decide_eq_true hd
        obtain ⟨u, hu, hru⟩ := h3.get n _ (strsOf_get hss n (by omega))
        refine fin rfl (cs := [.str (ss.getD n ByteArray.empty)]) (vs := [u]) (by simp [h1']) (RepTs.cons hru RepTs.nil) (fun j x hj => ?_) (by rw [ha]; exact hq)
        cases j with
        | zero =>
          simp at hj; subst hj
          simp only [World.cell?, h2]
          simpa using hu
        | succ j => simp at hj
      · exact hq.elim
    | _ => simp only [hb] at hq; exact hq.elim
  | _ => simp only at hq; exact hq.elim
end
end Go.Am

/- The symbolic machine: stores, places, slices. -/
set_option linter.unusedVariables false
set_option linter.unusedSimpArgs false
namespace Go.Am
open Go Go.RowKit

section
variable {P : Program} {C : Ctx} {w0 : World} {S A : Nat → Prop} {κ : Kap} {h hr : Heap} {w : World}

/-- what an operation that only computes or writes comes to -/
def Res1 (P : Program) (w0 : World) (S A : Nat → Prop) (κ : Kap) (h : Heap) (w : World) (base : Nat) (Q : Eff → Prop) (R : T → Value → World → Heap → Kap → Prop) : Prop :=
  ∃ e κ' w' v, Q e ∧ HSim w0 S A κ' ((h.updAll e.wr).news base e.nw) w' ∧ Ext w (OO A κ h) w' (OO A κ' ((h.updAll e.wr).news base e.nw)) ∧ κ.le κ' ∧
    (∀ id, κ' id ≠ none → κ id ≠ none ∨ (base ≤ id ∧ id < base + e.nw.length)) ∧ R e.dst v w' ((h.updAll e.wr).news base e.nw) κ'

theorem Res1.same (H : HSim w0 S A κ h w) {base : Nat} {Q : Eff → Prop} {R : T → Value → World → Heap → Kap → Prop} {t : T} {v : Value} (hQ : Q { dst := t }) (hR : R t v w h κ) : Res1 P w0 S A κ h w base Q R :=
  ⟨{ dst := t }, κ, w, v, hQ, H, Ext.refl _ _, κ.le_refl, fun id hid => .inl hid, hR⟩


theorem one_of (H : HSim w0 S A κ h w) {O : Nat → Prop} {t : T} {v : Value} (hv : RepT w O κ t v) (ht : t.cellOk = true) : v.oneCell' = true := cellOk_one hv ht fun id ob hk => H.kone id v ob hk
theorem ones_of (H : HSim w0 S A κ h w) {O : Nat → Prop} : ∀ {ts : List T} {vs : List Value}, RepTs w O κ ts vs → ts.all T.cellOk = true → ∀ v ∈ vs, v.oneCell' = true
  | [], vs, hr, _, v, hv => by simp only [RepTs] at hr; subst hr; simp at hv
  | t :: ts, vs, hr, ha, v, hv => by
    simp only [RepTs] at hr
    obtain ⟨u, us, rfl, h1, h2⟩ := hr
    simp only [List.all_cons, Bool.and_eq_true] at ha
    simp only [List.mem_cons] at hv
    rcases hv with rfl | hv
    · exact one_of H h1 ha.1
    · exact ones_of H h2 ha.2 v hv

/-- a value's cells -/
theorem cells_rep (H : HSim w0 S A κ h w) {O : Nat → Prop} {t : T} {v : Value} (hv : RepT w O κ t v) (ha : t.cells.all T.cellOk = true) : RepTs w O κ t.cells v.cells.toList := by
  cases t with
  | agg cs => simp only [RepT] at hv; obtain ⟨vs, rfl, h2⟩ := hv; simpa [T.cells, Value.cells] using h2
  | _ =>
    simp only [T.cells, List.all_cons, List.all_nil, Bool.and_true] at ha
    have h1 := one_of H hv ha
    have hc : v.cells = #[v] := by cases v <;> first | rfl | (simp [Value.oneCell'] at h1)
    rw [hc]
    simp only [T.cells]
    exact RepTs.cons hv RepTs.nil

theorem spl_get {α : Type} (vs mid : List α) (a : Nat) (hl : a + mid.length ≤ vs.length) (k : Nat) :
    (vs.take a ++ mid ++ vs.drop (a + mid.length))[k]? = if k < a then vs[k]? else if k < a + mid.length then mid[k - a]? else vs[k]? := by
  simp only [List.getElem?_append, List.length_append, List.length_take, Nat.min_eq_left (show a ≤ vs.length by omega)]
  by_cases c1 : k < a
  · rw [if_pos (by omega), if_pos c1, if_pos c1, List.getElem?_take_of_lt c1]
  · by_cases c2 : k < a + mid.length
    · rw [if_pos c2, if_neg c1, if_neg c1, if_pos c2]
    · rw [if_neg c2, if_neg c1, if_neg c2, List.getElem?_drop]
      congr 1; omega
theorem splice_eq (l v : List T) (off : Nat) : splice l off v = l.take off ++ v ++ l.drop (off + v.length) := rfl

theorem store_sound (hC : CtxOk P C) (H : HSim w0 S A κ h w) (hs : Sub hr h) {t : Nat} {i : TI} (hi : C.ti t = some i) {p x : T} {v u : Value}
    (hp : RepT w (OO A κ h) κ p v) (hx : RepT w (OO A κ h) κ x u) {base : Nat} {Q : Eff → Prop} (hq : (storeT i hr p x).wp Q) :
    Res1 P w0 S A κ h w base Q fun d z w' h' κ' => d = .nov ∧ z = undef ∧ (Instr.storeAt t v u).run P w = .ok () w' := by
  unfold storeT at hq
  split at hq
  · rename_i hck
    obtain ⟨hlen, hok⟩ := hck
    have hcr := cells_rep H hx hok
    have hul : u.cells.size = i.size := by have := hcr.length; simpa [hlen] using this
    have run : ∀ {b o : Nat} {cur : List Value} {et : TypeId}, v = .pointer (some ⟨b, o, none⟩) → w.heap[b]? = some (.cells cur.toArray et (0, 0)) → o + i.size ≤ cur.length →
        (Instr.storeAt t v u).run P w = .ok () (w.setRow b (cur.take o ++ u.cells.toList ++ cur.drop (o + i.size)).toArray) := by
      intro b o cur et hv hb hle
      have h1 := run_storeCells_at (P := P) b o et u.cells.toList 0 cur.toArray w hb (by simp [hul]; omega) (ones_of H hcr hok)
      subst hv
      simp only [Instr.storeAt, Instr.sureAddr, storeVar, Sem.run_bind, Sem.run_pure, Result.andThen_ok, hC.size hi, hul, ne_eq, not_true_eq_false, if_false]
      rw [h1]
      simp [hul]
    cases p with
    | ptr id off =>
      simp only at hq
      cases hb : hr id with
      | box cs =>
        simp only [hb] at hq
        have hb' := hs.get hb (by simp)
        have hrep := H.rep id
        rw [hb'] at hrep
        obtain ⟨b, vs, et, h1, h2, h3⟩ := hrep
        simp only [RepT] at hp
        obtain ⟨hv, b', h4, h5⟩ := hp
        rw [h1] at h4
        injection h4 with h4; injection h4 with _ h4; injection h4 with h4; subst h4
        split at hq
        · rename_i hle
          have hl := h3.length
          have hst := H.store (id := id) (vs' := vs.take off ++ u.cells.toList ++ vs.drop (off + i.size)) (nb := .box (splice cs off x.cells)) (by rw [hb']; rfl) h1 h2 rfl
            ⟨b, _, et, h1, setRow_heap _ _ _ _ _ _ h2, by
              rw [splice_eq, hlen]
              have hx2 : Ext w (OO A κ h) (w.setRow b (vs.take off ++ u.cells.toList ++ vs.drop (off + i.size)).toArray) (OO A κ h) :=
                ⟨by simp, fun k _ hk2 => ⟨hk2, setRow_other _ _ _ _ (fun e => hk2 (e ▸ .inr ⟨id, _, by rw [hb']; rfl, h1⟩))⟩⟩
              exact RepTs.mono hx2 κ.le_refl _ _ (((h3.take off).append hcr).append (h3.drop _))⟩
          refine ⟨_, κ, _, undef, hq, hst.1, hst.2, κ.le_refl, fun _ hid => .inl hid, rfl, rfl, ?_⟩
          exact run h5 h2 (by omega)
        · exact hq.elim
      | _ => simp only [hb] at hq; exact hq.elim
    | eptr id sz n off =>
      simp only at hq
      cases hb : hr id with
      | row e xs =>
        simp only [hb] at hq
        have hb' := hs.get hb (by simp)
        simp only [RepT] at hp
        obtain ⟨L, len, c, b, h4, h5, h6⟩ := hp
        split at hq
        · rename_i hle
          obtain ⟨rfl, hle, hnot⟩ := hle
          have hrep := H.rep id
          rw [hb'] at hrep
          rcases hrep with ⟨_, L', h7⟩ | ⟨b', cap, vs, et, h7, h8, h9, h10, h11⟩
          · rw [h4] at h7; injection h7 with h7; injection h7 with _ h7; cases h7
          rw [h4] at h7
          injection h7 with h7; injection h7 with h7 h7'; injection h7 with hL hn hc; injection h7' with h7'
          subst h7'; subst hn
          split at hq
          · rename_i x' hdec
            -- what is put in is written no more
            obtain ⟨H1, hx1⟩ := H.freeze hs (rowsIn x.cells)
            have hnm : id ∉ rowsIn x.cells := by simpa using hnot
            have hsame : (h.updAll (fz hr (rowsIn x.cells))) id = .row e xs := by
              rw [updAll_ne (fun c hc => hnm (mem_fz hc).2)]; exact hb'
            have hxe := h11 n _ (getD_of_lt (d := e.dflt) h5)
            have hle2 : (n + 1) * e.size ≤ vs.length := by
              rw [h10]; exact Nat.mul_le_mul_right _ (by omega)
            rw [Nat.add_mul, Nat.one_mul] at hle2
            have hxl : ((vs.drop (n * e.size)).take e.size).length = e.size := by simp; omega
            -- the cells after
            have hul' : u.cells.toList.length = i.size := by simpa using hul
            have hget := spl_get vs u.cells.toList (n * e.size + off) (by omega)
            rw [hul'] at hget
            generalize hnw : vs.take (n * e.size + off) ++ u.cells.toList ++ vs.drop (n * e.size + off + i.size) = new at hget
            have hnl : new.length = vs.length := by
              rw [← hnw]; simp only [List.length_append, List.length_take, List.length_drop, hul']; omega
            have hnew : ((new.drop (n * e.size)).take e.size) = ((vs.drop (n * e.size)).take e.size).take off ++ u.cells.toList ++ ((vs.drop (n * e.size)).take e.size).drop (off + i.size) := by
              apply List.ext_getElem?
              intro k
              have h2 := spl_get ((vs.drop (n * e.size)).take e.size) u.cells.toList off (by omega) k
              rw [hul'] at h2
              rw [h2]
              by_cases c3 : k < e.size
              · rw [List.getElem?_take_of_lt c3, List.getElem?_drop, hget, List.getElem?_take_of_lt c3, List.getElem?_drop]
                by_cases c1 : k < off
                · rw [if_pos c1, if_pos (by omega)]
                · rw [if_neg c1, if_neg (by omega)]
                  by_cases c2 : k < off + i.size
                  · rw [if_pos c2, if_pos (by omega)]; congr 1; omega
                  · rw [if_neg c2, if_neg (by omega)]
              · rw [List.getElem?_take, if_neg c3, if_neg (by omega), if_neg (by omega), List.getElem?_take, if_neg c3]
            have hold : ∀ j, j ≠ n → (new.drop (j * e.size)).take e.size = (vs.drop (j * e.size)).take e.size := by
              intro j hj
              apply List.ext_getElem?
              intro k
              by_cases c3 : k < e.size
              · rw [List.getElem?_take_of_lt c3, List.getElem?_drop, hget, List.getElem?_take_of_lt c3, List.getElem?_drop]
                rcases Nat.lt_or_gt_of_ne hj with hlt | hgt
                · have : (j + 1) * e.size ≤ n * e.size := Nat.mul_le_mul_right _ hlt
                  rw [Nat.add_mul, Nat.one_mul] at this
                  rw [if_pos (by omega)]
                · have : (n + 1) * e.size ≤ j * e.size := Nat.mul_le_mul_right _ hgt
                  rw [Nat.add_mul, Nat.one_mul] at this
                  rw [if_neg (by omega), if_neg (by omega)]
              · rw [List.getElem?_take, if_neg c3, List.getElem?_take, if_neg c3]
            -- the element after
            have hsee : RepTs w (OO A κ (h.updAll (fz hr (rowsIn x.cells)))) κ (x.cells.map (see hr)) u.cells.toList :=
              see_frozen H1 (fun i hi => (updAll_fz (mem_rowsIn.2 hi)).symm) (RepTs.mono hx1 κ.le_refl _ _ hcr)
            have hspl : RepTs w (OO A κ (h.updAll (fz hr (rowsIn x.cells)))) κ (splice (enc e (xs.getD n e.dflt)) off (x.cells.map (see hr)))
                (((vs.drop (n * e.size)).take e.size).take off ++ u.cells.toList ++ ((vs.drop (n * e.size)).take e.size).drop (off + i.size)) := by
              have hm := RepTs.mono hx1 κ.le_refl _ _ (RoX.rep (κ := κ) _ _ _ hxe)
              rw [splice_eq, List.length_map, hlen]
              exact ((hm.take off).append hsee).append (hm.drop _)
            obtain ⟨us', ws, he, _, hro, hrs, _⟩ := dec_ro e _ _ _ _ hspl hdec
            have hws : ws = [] := by simpa only [RepTs] using hrs
            subst hws
            rw [List.append_nil] at he
            subst he
            have hst := H1.store (id := id) (vs' := new) (nb := .row e (xs.set n x')) (by rw [hsame]; rfl) h4 h9 rfl (by
              have hx2 : Ext w (OO A κ (h.updAll (fz hr (rowsIn x.cells)))) (w.setRow b new.toArray) (OO A κ (h.updAll (fz hr (rowsIn x.cells)))) :=
                ⟨by simp, fun k _ hk2 => ⟨hk2, setRow_other _ _ _ _ (fun e' => hk2 (e' ▸ .inr ⟨id, _, by rw [hsame]; rfl, h4⟩))⟩⟩
              have hL2 := H.kwf _ _ _ _ _ h4
              refine .inr ⟨b, cap, new, et, by rw [List.length_set, h4, hL2, hc], by rw [List.length_set]; exact h8, setRow_heap _ _ _ _ _ _ h9, by omega, fun j y hj => ?_⟩
              rw [List.getElem?_set] at hj
              by_cases c : n = j
              · subst c
                rw [if_pos rfl, if_pos h5] at hj
                injection hj with hj; subst hj
                rw [hnew]; exact RoX.mono hx2 _ _ _ hro
              · rw [if_neg c] at hj
                rw [hold j (fun e' => c e'.symm)]
                exact RoX.mono (hx1.trans hx2) _ _ _ (h11 j y hj))
            refine ⟨_, κ, w.setRow b new.toArray, undef, hq, ?_, ?_, κ.le_refl, fun _ hid => .inl hid, rfl, rfl, ?_⟩
            · rw [updAll_append]; exact hst.1
            · rw [updAll_append]; exact hx1.trans hst.2
            · rw [← hnw]; exact run h6 h9 (by omega)
          · exact hq.elim
        · exact hq.elim
      | _ => simp only [hb] at hq; exact hq.elim
    | _ => simp only at hq; exact hq.elim
  · exact hq.elim
end
end Go.Am
