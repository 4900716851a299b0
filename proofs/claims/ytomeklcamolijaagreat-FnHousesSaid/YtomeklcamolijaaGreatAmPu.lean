import Derived.Test.YtomeklcamolijaaGreatAm9
/- Trees worked out: what a function's tree comes to. -/
set_option linter.unusedVariables false
set_option linter.unusedSimpArgs false
namespace Go.Am
open Go

section
variable {α β : Type}
theorem bv_ret (a : α) : (DTB.ret a).toDT.val = some a := rfl
theorem bv_fail : (DTB.fail : DTB α).toDT.val = none := rfl
theorem bv_ite (b : Bool) (t e : DTB α) : (DTB.ite b t e).toDT.val = if b = true then t.toDT.val else e.toDT.val := by cases b <;> rfl
theorem bv_guard (b : Bool) (k : DTB α) : (DTB.guard b k).toDT.val = if b = true then k.toDT.val else none := by cases b <;> rfl
theorem bv_bnd (m : DT β) (k : β → DTB α) : (DTB.bnd m k).toDT.val = m.val.bind fun b => (k b).toDT.val := DT.val_bind _ _
end

theorem w64 {n : Int} (h1 : -9223372036854775808 ≤ n) (h2 : n < 9223372036854775808) : IntKind.i64.wrap n = n := by
  rw [IntKind.wrap_i64]; omega

/-! ### loops -/
section
variable {X Y S A : Type}
def mapRd {X S Y : Type} (f g : S → X) : Rd S Y → Rd X Y
  | .on s => .on (f s) | .out s => .out (g s) | .ret y => .ret y
/-- rounds over a list: where it ended, or what it gave back -/
def forI (body : Nat → A → S → Rd S Y) : List A → Nat → S → (Nat × S) ⊕ Y
  | [], i, s => .inl (i, s)
  | a :: r, i, s => match body i a s with
    | .on s' => forI body r (i + 1) s'
    | .out s' => .inl (i, s')
    | .ret y => .inr y
def endI (st : Nat → S → X) : (Nat × S) ⊕ Y → X ⊕ Y
  | .inl p => .inl (st p.1 p.2)
  | .inr y => .inr y

theorem whileT_on {G : X → DT (Rd X Y)} {x y : X} {r : X ⊕ Y} (h : (G x).val = some (.on y)) (k : (whileT G y).val = some r) : (whileT G x).val = some r := by
  obtain ⟨n, hn⟩ := whileT_val.1 k
  exact whileT_val.2 ⟨n + 1, by simp only [iter, DT.val_bind, h, Option.bind_some]; exact hn⟩
theorem whileT_out {G : X → DT (Rd X Y)} {x y : X} (h : (G x).val = some (.out y)) : (whileT G x).val = some (.inl y) :=
  whileT_val.2 ⟨1, by simp only [iter, DT.val_bind, h, Option.bind_some]; rfl⟩
theorem whileT_ret {G : X → DT (Rd X Y)} {x : X} {y : Y} (h : (G x).val = some (.ret y)) : (whileT G x).val = some (.inr y) :=
  whileT_val.2 ⟨1, by simp only [iter, DT.val_bind, h, Option.bind_some]; rfl⟩

theorem while_for {G : X → DT (Rd X Y)} (xs : List A) (st : Nat → S → X) (body : Nat → A → S → Rd S Y) (P : Nat → S → Prop)
    (hG : ∀ i s a, xs[i]? = some a → P i s → (G (st i s)).val = some (mapRd (st (i + 1)) (st i) (body i a s)) ∧ ∀ s', body i a s = .on s' → P (i + 1) s')
    (hE : ∀ s, P xs.length s → (G (st xs.length s)).val = some (.out (st xs.length s))) {s : S} (hs : P 0 s) :
    (whileT G (st 0 s)).val = some (endI st (forI body xs 0 s)) := by
  have key : ∀ (r : List A) (i : Nat) (s : S), xs.drop i = r → i ≤ xs.length → P i s → (whileT G (st i s)).val = some (endI st (forI body r i s)) := by
    intro r
    induction r with
    | nil =>
      intro i s hr hi hp
      have : i = xs.length := by have := congrArg List.length hr; simp at this; omega
      subst this
      exact whileT_out (hE s hp)
    | cons a r ih =>
      intro i s hr hi hp
      have ha : xs[i]? = some a := by
        have := congrArg (·[0]?) hr
        simpa using this
      have hr' : xs.drop (i + 1) = r := by
        have := congrArg (List.drop 1) hr
        simpa using this
      have hi' : i + 1 ≤ xs.length := (List.getElem?_eq_some_iff.1 ha).1
      obtain ⟨h1, h2⟩ := hG i s a ha hp
      simp only [forI]
      cases hb : body i a s with
      | on s' =>
        rw [hb] at h1
        exact whileT_on h1 (ih (i + 1) s' hr' hi' (h2 s' hb))
      | out s' => rw [hb] at h1; exact whileT_out h1
      | ret y => rw [hb] at h1; exact whileT_ret h1
  exact key xs 0 s rfl (Nat.zero_le _) hs
/-- the same with nothing to keep -/
theorem while_for' {G : X → DT (Rd X Y)} (xs : List A) (st : Nat → S → X) (body : Nat → A → S → Rd S Y)
    (hG : ∀ i s a, xs[i]? = some a → (G (st i s)).val = some (mapRd (st (i + 1)) (st i) (body i a s)))
    (hE : ∀ s, (G (st xs.length s)).val = some (.out (st xs.length s))) (s : S) :
    (whileT G (st 0 s)).val = some (endI st (forI body xs 0 s)) :=
  while_for xs st body (fun _ _ => True) (fun i s a h _ => ⟨hG i s a h, fun _ _ => trivial⟩) (fun s _ => hE s) trivial

/-! ### common rounds -/
theorem forI_find {p : Nat → A → Bool} {r : Nat → A → Y} {body : Nat → A → S → Rd S Y} (hb : ∀ i a s, body i a s = if p i a = true then .ret (r i a) else .on s) : ∀ (xs : List A) (i : Nat) (s : S),
    forI body xs i s = match (xs.zipIdx i).find? (fun q => p q.2 q.1) with | some q => .inr (r q.2 q.1) | none => .inl (i + xs.length, s)
  | [], i, s => rfl
  | a :: xs, i, s => by
    simp only [forI, hb, List.zipIdx_cons, List.find?_cons]
    cases h : p i a with
    | true => simp
    | false => simp only [Bool.false_eq_true, if_false]; rw [forI_find hb xs (i + 1) s]; simp only [List.length_cons]; rw [show i + 1 + xs.length = i + (xs.length + 1) by omega]
theorem forI_fold {f : S → A → S} {body : Nat → A → S → Rd S Y} (hb : ∀ i a s, body i a s = .on (f s a)) : ∀ (xs : List A) (i : Nat) (s : S), forI body xs i s = .inl (i + xs.length, xs.foldl f s)
  | [], i, s => rfl
  | a :: xs, i, s => by
    simp only [forI, hb, List.foldl_cons, List.length_cons]
    rw [forI_fold hb xs (i + 1)]; rw [show i + 1 + xs.length = i + (xs.length + 1) by omega]
theorem getD_nat {xs : List A} {i : Nat} {a d : A} (h : xs[i]? = some a) : xs.getD (i : Int).toNat d = a := by
  simp [List.getD_eq_getElem?_getD, h]
theorem lt_of_get {xs : List A} {i : Nat} {a : A} (h : xs[i]? = some a) : i < xs.length := (List.getElem?_eq_some_iff.1 h).1
end
end Go.Am
namespace Go.Am
open Go
section
variable {X Y S A : Type}
def allI (q : Nat → A → Bool) : List A → Nat → Bool
  | [], _ => true
  | a :: r, i => q i a && allI q r (i + 1)
theorem forI_all {q : Nat → A → Bool} {y : Y} {body : Nat → A → S → Rd S Y} (hb : ∀ i a s, body i a s = if q i a = true then .on s else .ret y) : ∀ (xs : List A) (i : Nat) (s : S),
    forI body xs i s = if allI q xs i = true then .inl (i + xs.length, s) else .inr y
  | [], i, s => rfl
  | a :: xs, i, s => by
    have e : allI q (a :: xs) i = (q i a && allI q xs (i + 1)) := rfl
    by_cases h : q i a = true
    · simp only [forI, hb, if_pos h]
      rw [forI_all hb xs (i + 1) s]
      by_cases h2 : allI q xs (i + 1) = true
      · rw [if_pos h2, if_pos (by rw [e, h, h2]; rfl), List.length_cons, show i + 1 + xs.length = i + (xs.length + 1) by omega]
      · rw [if_neg h2, if_neg (by rw [e, h]; simpa using h2)]
    · simp only [forI, hb, if_neg h]
      rw [if_neg (by rw [e]; simp [h])]
/-- a loop that looks at each element in turn -/
theorem while_all {G : X → DT (Rd X Y)} (xs : List A) (st : Nat → X) (q : Nat → A → Bool) (y : Y)
    (hG : ∀ i a, xs[i]? = some a → (G (st i)).val = some (if q i a = true then .on (st (i + 1)) else .ret y))
    (hE : (G (st xs.length)).val = some (.out (st xs.length))) :
    (whileT G (st 0)).val = some (if allI q xs 0 = true then .inl (st xs.length) else .inr y) := by
  have := while_for' (S := Unit) (G := G) xs (fun i _ => st i) (fun i a _ => if q i a = true then .on () else .ret y) (fun i s a h => by
    rw [hG i a h]
    by_cases hq : q i a = true <;> simp [hq, mapRd]) (fun _ => hE) ()
  rw [this, forI_all (fun _ _ _ => rfl)]
  by_cases hq : allI q xs 0 = true <;> simp [hq, endI]
/-- a loop that looks for the first element -/
theorem while_find {G : X → DT (Rd X Y)} (xs : List A) (st : Nat → X) (p : Nat → A → Bool) (r : Nat → A → Y)
    (hG : ∀ i a, xs[i]? = some a → (G (st i)).val = some (if p i a = true then .ret (r i a) else .on (st (i + 1))))
    (hE : (G (st xs.length)).val = some (.out (st xs.length))) :
    (whileT G (st 0)).val = some (match (xs.zipIdx 0).find? (fun q => p q.2 q.1) with | some q => .inr (r q.2 q.1) | none => .inl (st xs.length)) := by
  have := while_for' (S := Unit) (G := G) xs (fun i _ => st i) (fun i a _ => if p i a = true then .ret (r i a) else .on ()) (fun i s a h => by
    rw [hG i a h]
    by_cases hq : p i a = true <;> simp [hq, mapRd]) (fun _ => hE) ()
  rw [this, forI_find (fun _ _ _ => rfl)]
  cases List.find? (fun q => p q.2 q.1) (xs.zipIdx 0)
  · simp [endI]
  · rfl
/-- a loop that gathers -/
theorem while_fold {G : X → DT (Rd X Y)} (xs : List A) (st : Nat → S → X) (f : S → A → S) (P : Nat → S → Prop)
    (hG : ∀ i s a, xs[i]? = some a → P i s → (G (st i s)).val = some (.on (st (i + 1) (f s a))) ∧ P (i + 1) (f s a))
    (hE : ∀ s, P xs.length s → (G (st xs.length s)).val = some (.out (st xs.length s))) {s : S} (hs : P 0 s) :
    (whileT G (st 0 s)).val = some (.inl (st xs.length (xs.foldl f s))) := by
  have := while_for (G := G) xs st (fun i a s => .on (f s a)) P (fun i s a h hp => by
    obtain ⟨h1, h2⟩ := hG i s a h hp
    exact ⟨h1, fun s' hs' => by injection hs' with hs'; rw [← hs']; exact h2⟩) hE hs
  rw [this, forI_fold (fun _ _ _ => rfl)]
  simp [endI]
end
theorem wsucc {i n : Nat} (h : i < n) (hn : n ≤ 1099511627776) : IntKind.i64.wrap ((i : Int) + 1) = ((i + 1 : Nat) : Int) := by
  rw [w64 (by omega) (by omega)]; rfl
theorem wpred {i n : Nat} (h : i < n) (hn : n ≤ 1099511627776) : IntKind.i64.wrap ((i : Int) - 1) = (i : Int) - 1 := w64 (by omega) (by omega)
end Go.Am
namespace Go.Am
open Go
theorem allI_all {A : Type} {p : A → Bool} : ∀ (l : List A) (i : Nat), allI (fun _ a => p a) l i = l.all p
  | [], _ => rfl
  | a :: l, i => by simp only [allI, List.all_cons, allI_all l (i + 1)]
theorem find_zipIdx {A : Type} {p : A → Bool} : ∀ (l : List A) (i : Nat), (l.zipIdx i).find? (fun q => p q.1) = (l.findIdx? p).bind fun k => (l[k]?).map fun a => (a, k + i)
  | [], i => rfl
  | a :: l, i => by
    rw [List.zipIdx_cons, List.find?_cons, List.findIdx?_cons]
    cases h : p a with
    | true => simp
    | false =>
      simp only [Bool.false_eq_true, if_false]
      rw [find_zipIdx l (i + 1)]
      cases l.findIdx? p with
      | none => rfl
      | some k => simp [Nat.add_assoc, Nat.add_comm 1 i]
/-- the index of the first, or -1 -/
def idx {A : Type} (p : A → Bool) (l : List A) : Int := match l.findIdx? p with | some k => (k : Int) | none => -1
section
variable {X Y A : Type}
theorem while_idx {G : X → DT (Rd X Int)} (xs : List A) (st : Nat → X) (p : A → Bool)
    (hG : ∀ i a, xs[i]? = some a → (G (st i)).val = some (if p a = true then .ret (i : Int) else .on (st (i + 1))))
    (hE : (G (st xs.length)).val = some (.out (st xs.length))) :
    (whileT G (st 0)).val = some (match xs.findIdx? p with | some k => .inr (k : Int) | none => .inl (st xs.length)) := by
  rw [while_find xs st (fun _ a => p a) (fun i _ => (i : Int)) hG hE, find_zipIdx]
  cases h : xs.findIdx? p with
  | none => rfl
  | some k =>
    have := List.findIdx?_eq_some_iff_getElem.1 h
    obtain ⟨hk, _⟩ := this
    simp [hk]
theorem while_first {G : X → DT (Rd X Y)} (xs : List A) (st : Nat → X) (p : A → Bool) (r : A → Y)
    (hG : ∀ i a, xs[i]? = some a → (G (st i)).val = some (if p a = true then .ret (r a) else .on (st (i + 1))))
    (hE : (G (st xs.length)).val = some (.out (st xs.length))) :
    (whileT G (st 0)).val = some (match xs.find? p with | some a => .inr (r a) | none => .inl (st xs.length)) := by
  rw [while_find xs st (fun _ a => p a) (fun _ a => r a) hG hE]
  have : ∀ (l : List A) (i : Nat), ((l.zipIdx i).find? (fun q => p q.1)).map (·.1) = l.find? p := by
    intro l
    induction l with
    | nil => intro i; rfl
    | cons a l ih =>
      intro i
      rw [List.zipIdx_cons, List.find?_cons, List.find?_cons]
      cases p a with
      | true => rfl
      | false => exact ih (i + 1)
  rw [← this xs 0]
  cases (xs.zipIdx 0).find? (fun q => p q.1) <;> rfl
end
end Go.Am

set_option linter.unusedVariables false
namespace Go.Am
open Go
/-- a tree comes to something, of which Q holds -/
def V {α : Type} (m : DT α) (Q : α → Prop) : Prop := ∃ a, m.val = some a ∧ Q a
structure WP {α : Type} (t : DTB α) (Q : α → Prop) : Prop where
  v : V t.toDT Q
structure SpecOf {X α : Type} (F : X → DT α) (P : X → Prop) (R : X → α → Prop) : Prop where
  prf : ∀ x, P x → V (F x) (R x)
section
variable {α β X Y : Type} {Q : α → Prop}
theorem wret {a : α} (h : Q a) : WP (.ret a) Q := ⟨⟨a, rfl, h⟩⟩
theorem wite {b : Bool} {t e : DTB α} (h1 : b = true → WP t Q) (h2 : b = false → WP e Q) : WP (.ite b t e) Q := by
  refine ⟨?_⟩
  unfold V
  rw [bv_ite]
  cases b
  · exact (h2 rfl).v
  · exact (h1 rfl).v
theorem wguard {b : Bool} {k : DTB α} (h1 : b = true) (h2 : b = true → WP k Q) : WP (.guard b k) Q := by
  refine ⟨?_⟩
  unfold V
  rw [bv_guard, if_pos h1]; exact (h2 h1).v
theorem wbnd {m : DT β} {k : β → DTB α} (R : β → Prop) (h1 : V m R) (h2 : ∀ b, R b → WP (k b) Q) : WP (.bnd m k) Q := by
  obtain ⟨b, hb, hr⟩ := h1
  refine ⟨?_⟩
  unfold V
  rw [bv_bnd, hb]; exact (h2 b hr).v
theorem wbndS {F : X → DT β} {P : X → Prop} {R : X → β → Prop} (s : SpecOf F P R) {x : X} {k : β → DTB α} (h1 : P x) (h2 : ∀ b, R x b → WP (k b) Q) : WP (.bnd (F x) k) Q :=
  wbnd (R x) (s.prf x h1) h2
/-- a loop with an invariant and a measure -/
theorem vwhile {G : X → DTB (Rd X Y)} {I : X → Prop} {μ : X → Nat} {R : X ⊕ Y → Prop}
    (h : ∀ x, I x → WP (G x) fun r => match r with | .on y => I y ∧ μ y < μ x | .out y => R (.inl y) | .ret y => R (.inr y))
    (x : X) (hx : I x) : V (whileT (fun x => (G x).toDT) x) R := by
  generalize hn : μ x = n
  induction n using Nat.strongRecOn generalizing x with
  | _ n ih =>
    obtain ⟨a, ha, hq⟩ := (h x hx).v
    cases a with
    | on y =>
      obtain ⟨r, hr, hR⟩ := ih (μ y) (hn ▸ hq.2) y hq.1 rfl
      exact ⟨r, whileT_on ha hr, hR⟩
    | out y => exact ⟨_, whileT_out ha, hq⟩
    | ret y => exact ⟨_, whileT_ret ha, hq⟩
theorem V.val {m : DT α} {a : α} (h : V m (fun r => r = a)) : m.val = some a := by
  obtain ⟨b, hb, rfl⟩ := h; exact hb
theorem V.of {m : DT α} {a : α} (h : m.val = some a) : V m (fun r => r = a) := ⟨a, h, rfl⟩
theorem V.imp {m : DT α} {Q R : α → Prop} (h : V m Q) (k : ∀ a, Q a → R a) : V m R := by
  obtain ⟨b, hb, hq⟩ := h; exact ⟨b, hb, k b hq⟩
theorem vfn {t : DTB α} (h : WP t Q) : V t.toDT Q := h.v
/-- a loop: invariant (about the start x and the state), measure -/
theorem vloop {G : X → DTB (Rd X Y)} {P : X → Prop} (I : X → X → Prop) (μ : X → Nat) {R : X → X ⊕ Y → Prop}
    (h0 : ∀ x, P x → I x x)
    (h : ∀ x, P x → ∀ y, I x y → WP (G y) fun r => match r with | .on z => I x z ∧ μ z < μ y | .out z => R x (.inl z) | .ret z => R x (.inr z)) :
    ∀ x, P x → V (whileT (fun x => (G x).toDT) x) (R x) := fun x hx => vwhile (I := I x) (μ := μ) (h x hx) x (h0 x hx)
end
theorem wrapS (n : Int) : IntKind.i64.wrap n = (n + 9223372036854775808) % 18446744073709551616 - 9223372036854775808 := by rw [IntKind.wrap_i64]
theorem and255 (n : Int) : 0 ≤ bitsOf .and .i64 n 255 ∧ bitsOf .and .i64 n 255 ≤ 255 := by
  have h : ((BitVec.ofInt 64 n) &&& (BitVec.ofInt 64 255)).toNat ≤ 255 := by
    rw [BitVec.toNat_and]
    exact Nat.le_trans Nat.and_le_right (by decide)
  show 0 ≤ IntKind.i64.wrap (((BitVec.ofInt 64 n) &&& (BitVec.ofInt 64 255)).toNat : Int) ∧ IntKind.i64.wrap (((BitVec.ofInt 64 n) &&& (BitVec.ofInt 64 255)).toNat : Int) ≤ 255
  rw [w64 (by omega) (by omega)]; omega
theorem tmodB {a n : Int} (h : 0 ≤ a) (hn : 0 < n) : 0 ≤ a.tmod n ∧ a.tmod n < n := ⟨Int.tmod_nonneg _ h, Int.tmod_lt_of_pos _ hn⟩
theorem wrapI (n : Int) : IntKind.i64.wrap n = n ∨ n < -9223372036854775808 ∨ 9223372036854775808 ≤ n := by
  by_cases h : -9223372036854775808 ≤ n ∧ n < 9223372036854775808
  · exact .inl (w64 h.1 h.2)
  · omega
theorem wrap1 (n : Int) : IntKind.i64.wrap (n + 1) = n + 1 ∨ n < -9223372036854775809 ∨ 9223372036854775807 ≤ n := by
  rcases wrapI (n + 1) with h | h | h <;> omega
theorem wrapm (n : Int) : IntKind.i64.wrap (n + -1) = n + -1 ∨ n < -9223372036854775807 ∨ 9223372036854775809 ≤ n := by
  rcases wrapI (n + -1) with h | h | h <;> omega
end Go.Am
