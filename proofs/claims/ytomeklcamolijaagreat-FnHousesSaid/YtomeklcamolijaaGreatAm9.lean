import Derived.Test.YtomeklcamolijaaGreatAm8
import Derived.KernelRfl
import Derived.Lib.SlicesCompact
import Derived.Shelf.SlLaysE0
import Derived.Shelf.RegionOpenPlain
import Derived.WalkKit
import Derived.Deep.LoopGhost
import Derived.Lib.Walk
import Derived.Lib.SliceRun
import Derived.Shelf.Sort.Plain
import Derived.Shelf.Slices.CompactI
import Derived.Shelf.Slices.In.SortNone
import Derived.Below
import Derived.Carry
import Derived.Laws.StructEq
/- The symbolic machine: loops without a bound, loops of a code, tables. -/
set_option linter.unusedVariables false
set_option linter.unusedSimpArgs false
namespace Go.Am
open Go Go.RowKit

section
variable {X Y : Type}
open Classical in
/-- rounds until one ends -/
noncomputable def whileT (G : X → DT (Rd X Y)) (x : X) : DT (X ⊕ Y) :=
  if h : ∃ n r, (iter G n x).val = some r then .ret (Classical.choose (Classical.choose_spec h)) else .fail

theorem iter_succ {G : X → DT (Rd X Y)} {n : Nat} {x : X} {r : X ⊕ Y} (h : (iter G n x).val = some r) : (iter G (n + 1) x).val = some r := by
  induction n generalizing x with
  | zero => cases h
  | succ n ih =>
    simp only [iter, DT.val_bind] at h ⊢
    cases hg : (G x).val with
    | none => rw [hg] at h; cases h
    | some y =>
      rw [hg] at h
      simp only [Option.bind_some] at h ⊢
      cases y with
      | on y => exact ih h
      | out y => exact h
      | ret y => exact h
theorem iter_le {G : X → DT (Rd X Y)} {n m : Nat} {x : X} {r : X ⊕ Y} (hl : n ≤ m) (h : (iter G n x).val = some r) : (iter G m x).val = some r := by
  induction hl with
  | refl => exact h
  | step _ ih => exact iter_succ ih
theorem iter_one {G : X → DT (Rd X Y)} {n m : Nat} {x : X} {r s : X ⊕ Y} (h : (iter G n x).val = some r) (k : (iter G m x).val = some s) : r = s := by
  rcases Nat.le_total n m with hl | hl
  · have := iter_le hl h; rw [k] at this; exact (Option.some.inj this).symm
  · have := iter_le hl k; rw [h] at this; exact Option.some.inj this
theorem whileT_val {G : X → DT (Rd X Y)} {x : X} {r : X ⊕ Y} : (whileT G x).val = some r ↔ ∃ n, (iter G n x).val = some r := by
  unfold whileT
  constructor
  · intro h
    split at h
    · rename_i hh
      have := Classical.choose_spec (Classical.choose_spec hh)
      injection h with h
      rw [h] at this
      exact ⟨_, this⟩
    · cases h
  · rintro ⟨n, h⟩
    have hh : ∃ n r, (iter G n x).val = some r := ⟨n, r, h⟩
    rw [dif_pos hh]
    have := Classical.choose_spec (Classical.choose_spec hh)
    exact congrArg some (iter_one this h)
theorem whileT_iter {G : X → DT (Rd X Y)} {x : X} {Q : X ⊕ Y → Prop} : (whileT G x).wp Q ↔ ∃ n, (iter G n x).wp Q := by
  constructor
  · intro h
    obtain ⟨r, h1, h2⟩ := DT.wp_val.1 h
    obtain ⟨n, h3⟩ := whileT_val.1 h1
    exact ⟨n, DT.wp_val.2 ⟨r, h3, h2⟩⟩
  · rintro ⟨n, h⟩
    obtain ⟨r, h1, h2⟩ := DT.wp_val.1 h
    exact DT.wp_val.2 ⟨r, whileT_val.2 ⟨n, h1⟩, h2⟩
/-- a loop, one round of it -/
theorem whileT_wp {G : X → DT (Rd X Y)} {x : X} {Q : X ⊕ Y → Prop} : (whileT G x).wp Q ↔ (G x).wp fun
    | .on y => (whileT G y).wp Q
    | .out y => Q (.inl y)
    | .ret y => Q (.inr y) := by
  constructor
  · intro h
    obtain ⟨n, h⟩ := whileT_iter.1 h
    cases n with
    | zero => exact h.elim
    | succ n =>
      simp only [iter] at h
      rw [DT.wp_bind] at h
      refine DT.wp_mono (fun y hy => ?_) h
      cases y with
      | on y => exact whileT_iter.2 ⟨n, hy⟩
      | out y => exact hy
      | ret y => exact hy
  · intro h
    obtain ⟨y, h1, h2⟩ := DT.wp_val.1 h
    cases y with
    | on y =>
      obtain ⟨n, h3⟩ := whileT_iter.1 h2
      refine whileT_iter.2 ⟨n + 1, ?_⟩
      simp only [iter]
      rw [DT.wp_bind]
      exact DT.wp_val.2 ⟨_, h1, h3⟩
    | out y =>
      refine whileT_iter.2 ⟨1, ?_⟩
      simp only [iter]
      rw [DT.wp_bind]
      exact DT.wp_val.2 ⟨_, h1, h2⟩
    | ret y =>
      refine whileT_iter.2 ⟨1, ?_⟩
      simp only [iter]
      rw [DT.wp_bind]
      exact DT.wp_val.2 ⟨_, h1, h2⟩
end

section
variable {P : Program} {C : Ctx}
theorem loop_while (hC : CtxOk P C) (hcon : Cons P C) (hm : P.follows .mixedOrders = true) {fx : List Nat} {n id : Nat} {body : Code} {l : LC} (hl : C.loop id = some l) (hloops : Loops P C fx n body) (hnw : noWrite fx body = true)
    (GB : AXs (l.keep.map (·.2)) → DTB (Rd (AXs (l.keep.map (·.2))) (AXs (l.ret.map (·.2))))) (hGB : ∀ x, roundK C n id body l.keep l.ret x = GB x) (hF : ∀ x, l.F x = whileT (fun x => (GB x).toDT) x) : LoopOk P C fx n id body := by
  generalize hGG : (fun x => (GB x).toDT) = G at hF
  have hG : ∀ x, (roundK C n id body l.keep l.ret x).toDT = G x := fun x => by rw [hGB, ← hGG]
  intro l' hl' w0 S A F κ x a w hfx hs hf Q K hq hK1 hK2
  rw [hl] at hl'; injection hl' with hl'; subst hl'
  rw [hF] at hq
  obtain ⟨k, hq⟩ := whileT_iter.1 hq
  refine wp_block (wp_loop_ghost (fun k a w => ∃ κ x, Sim w0 S A F κ (stOf n l.keep x) a w ∧ fresh κ (stOf n l.keep x) ∧ (iter G k x).wp Q) k ⟨κ, x, hs, hf, hq⟩ ?_)
  rintro k a w ⟨κ, x, hs, hf, hq⟩
  cases k with
  | zero => exact hq.elim
  | succ k =>
    simp only [iter] at hq
    rw [DT.wp_bind, ← hG x, roundK_eq] at hq
    unfold roundT at hq
    rw [DT.wp_bind] at hq
    refine run_sound hC hcon hm hfx body hloops hnw κ _ a w stOf_len hs hf _ _ hq fun o st' κ' a' w' hQ hn' hs' hf' => ?_
    cases o with
    | normal =>
      dsimp only at hQ
      rw [DT.wp_bind] at hQ
      obtain ⟨y, hy, hQ⟩ := DT.wp_val.1 hQ
      obtain ⟨κ1, hs1, hf1⟩ := restart hs' hy
      rw [hn'] at hs1 hf1
      exact ⟨k, Nat.lt_succ_self k, κ1, y, hs1, hf1, hQ⟩
    | exit j =>
      dsimp only at hQ
      show Exit.inBlock id K (.exit j) a' w'
      unfold Exit.inBlock
      dsimp only
      by_cases e : j = id
      · rw [if_pos e] at hQ ⊢
        rw [DT.wp_bind] at hQ
        obtain ⟨y, hy, hQ⟩ := DT.wp_val.1 hQ
        obtain ⟨κ1, hs1, hf1⟩ := restart hs' hy
        rw [hn'] at hs1 hf1
        exact hK1 y κ1 a' w' hQ hs1 hf1
      · rw [if_neg e] at hQ
        exact hQ.elim
    | ret =>
      dsimp only at hQ
      rw [DT.wp_bind] at hQ
      obtain ⟨y, hy, hQ⟩ := DT.wp_val.1 hQ
      obtain ⟨κ1, hs1, hf1⟩ := restart hs' hy
      rw [hn'] at hs1 hf1
      exact hK2 y κ1 a' w' hQ hs1 hf1
end

/-- the loops of a code, not those inside them -/
def loopsOf : Code → List (Nat × Code)
  | .block id (.loop body) => [(id, body)]
  | .block _ c => loopsOf c
  | .seq a b => loopsOf a ++ loopsOf b
  | .cond _ a b => loopsOf a ++ loopsOf b
  | _ => []
theorem loops_of {P : Program} {C : Ctx} {fx : List Nat} {n : Nat} : ∀ (c : Code), (∀ p ∈ loopsOf c, LoopOk P C fx n p.1 p.2) → Loops P C fx n c := by
  intro c
  induction c with
  | block id c ih =>
    intro h
    cases c with
    | loop body => exact h (id, body) (by simp [loopsOf])
    | _ => exact ih h
  | seq a b iha ihb =>
    intro h
    exact ⟨iha fun p hp => h p (List.mem_append_left _ hp), ihb fun p hp => h p (List.mem_append_right _ hp)⟩
  | cond c a b iha ihb =>
    intro h
    exact ⟨iha fun p hp => h p (List.mem_append_left _ hp), ihb fun p hp => h p (List.mem_append_right _ hp)⟩
  | _ => intro _; trivial
/-- the i-th of them -/
def nthLoop (c : Code) (i : Nat) : Nat × Code := (loopsOf c).getD i (0, .skip)
theorem loops_nth {P : Program} {C : Ctx} {fx : List Nat} {n : Nat} (c : Code) (m : Nat) (hm : (loopsOf c).length = m) (h : ∀ i, i < m → LoopOk P C fx n (nthLoop c i).1 (nthLoop c i).2) : Loops P C fx n c := by
  refine loops_of c fun p hp => ?_
  obtain ⟨i, hi, he⟩ := List.mem_iff_getElem.1 hp
  have := h i (by omega)
  unfold nthLoop at this
  rw [List.getD_eq_getElem?_getD, List.getElem?_eq_getElem hi] at this
  rw [← he]
  exact this

def AllL (f : Nat → Prop) : Nat → Prop
  | 0 => True
  | n + 1 => AllL f n ∧ f n
theorem allL {f : Nat → Prop} : ∀ {m : Nat}, AllL f m → ∀ i, i < m → f i
  | 0, _, i, h => by omega
  | m + 1, h, i, hi => by
    by_cases e : i = m
    · subst e; exact h.2
    · exact allL h.1 i (by omega)
theorem loops_all {P : Program} {C : Ctx} {fx : List Nat} {n : Nat} {c : Code} (m : Nat) (hm : (loopsOf c).length = m) (h : AllL (fun i => LoopOk P C fx n (nthLoop c i).1 (nthLoop c i).2) m) : Loops P C fx n c := loops_nth c m hm (allL h)
def AllC (P : Program) : List (Nat × Con) → Prop
  | [] => True
  | p :: l => p.2.Sound P p.1 ∧ AllC P l
theorem allC {P : Program} : ∀ {l : List (Nat × Con)}, AllC P l → ∀ p ∈ l, p.2.Sound P p.1
  | [], _, p, h => by cases h
  | q :: l, hq, p, hp => by
    rcases List.mem_cons.1 hp with rfl | hp
    · exact hq.1
    · exact allC hq.2 p hp

theorem fn_con {P : Program} {C : Ctx} (hC : CtxOk P C) (hcon : Cons P C) (hm : P.follows .mixedOrders = true) {g : Nat} {fn : Func} {code : Code} (hf : P.funcs[g]? = some fn) (hb : fn.body = some code) (hname : (fn.name == "runtime.NumGoroutine") = false)
    (c : Con) {rg : List ResultVar} (hres : fn.results = rg.toArray) {n : Nat} (hn : c.ps.length + (fn.ntmps - c.ps.length) = n) (hloops : Loops P C c.us n code) (hnw : noWrite c.us code = true)
    (B : AXs c.ps → DTB (Res c.ps c.us c.rs)) (hB : ∀ x, fnK C code fn.ntmps c.ps c.us c.rs rg x = B x) (hF : ∀ x, c.F x = (B x).toDT) : c.Sound P g :=
  fn_ok hC hcon hm hf hb hname hres hn hloops hnw c.F fun x => by rw [hB, hF]

/-- a table of types -/
def tiOf (l : List (Nat × TI)) (t : Nat) : Option TI := l.lookup t
theorem tiOf_ok {P : Program} : ∀ (l : List (Nat × TI)), (l.map fun p => mkTI P p.1) = (l.map fun p => some p.2) → ∀ t i, tiOf l t = some i → mkTI P t = some i
  | [], _, t, i, h => by cases h
  | (u, j) :: l, he, t, i, h => by
    simp only [List.map_cons, List.cons.injEq] at he
    unfold tiOf at h
    rw [List.lookup_cons] at h
    split at h
    · rename_i ht
      have : t = u := by simpa using ht
      subst this
      injection h with h
      subst h
      exact he.1
    · exact tiOf_ok l he.2 t i h
def bodyOf (f : Func) : Code := f.body.getD .skip
theorem cons_nil {P : Program} {ti : Nat → Option TI} {eqs : Nat → Bool} {loop : Nat → Option LC} : Cons P ⟨ti, eqs, fun _ _ => none, loop⟩ := fun _ _ _ h => by cases h
/-- a table of contracts -/
def conOf (l : List (Nat × Con)) (g : Nat) : Option Con := l.lookup g
theorem cons_of {P : Program} {ti : Nat → Option TI} {eqs : Nat → Bool} {loop : Nat → Option LC} : ∀ (l : List (Nat × Con)), (∀ p ∈ l, p.2.Sound P p.1) → Cons P ⟨ti, eqs, fun g _ => conOf l g, loop⟩
  | [], _, _, _, _, h => by cases h
  | (u, j) :: l, hp, g, fs, c, h => by
    have h' : List.lookup g ((u, j) :: l) = some c := h
    rw [List.lookup_cons] at h'
    split at h'
    · rename_i ht
      have : g = u := by simpa using ht
      subst this
      injection h' with h'
      subst h'
      exact hp (g, j) (by simp)
    · exact cons_of (ti := ti) (eqs := eqs) (loop := loop) l (fun p hm => hp p (List.mem_cons_of_mem _ hm)) g fs c h'
end Go.Am

/- The symbolic machine: what some functions of the library come to. -/
set_option linter.unusedVariables false
set_option linter.unusedSimpArgs false
namespace Go.Am
open Go Go.RowKit

/-- slices.Clone -/
def cloneF {α : Type} (bytes : Nat) (xs : List α) : DT (List α × Unit) :=
  .guard (decide (xs.length * bytes ≤ 140737488355328)) (.ret (xs, ()))
/-- slices.Insert -/
def insertF {α : Type} (bytes : Nat) (x : List α × Int × List α) : DT (List α × Unit) :=
  .guard (decide (0 ≤ x.2.1 ∧ x.2.1 ≤ (x.1.length : Int) ∧ (x.1.length + x.2.2.length) * bytes ≤ 140737488355328)) (.ret (x.1.take x.2.1.toNat ++ x.2.2 ++ x.1.drop x.2.1.toNat, ()))
/-- slices.Sort at whole numbers -/
def sortF (bytes : Nat) (xs : List Int) : DT (Unit × List Int) :=
  .guard (decide (xs.length * bytes ≤ 140737488355328)) (.ret ((), xs.mergeSort fun a b => decide (a ≤ b)))
/-- slices.Compact at whole numbers -/
def compactF (bytes : Nat) (xs : List Int) : DT (List Int × Unit) :=
  .guard (decide (xs.length * bytes ≤ 140737488355328)) (.ret (Lib.compact xs, ()))
/-- slices.Grow of nil -/
def growF {α : Type} (bytes : Nat) (x : List α × Int) : DT (List α × Unit) :=
  .guard (decide (x.1.length = 0 ∧ 0 ≤ x.2 ∧ x.2 * (bytes : Int) ≤ 140737488355328)) (.ret ([], ()))
end Go.Am

/- The symbolic machine: slices.Clone. -/
set_option linter.unusedVariables false
set_option linter.unusedSimpArgs false
namespace Go.Proofs
open Go.Shelf Go.RowKit Go.Lib
variable {P : Program} {ρ : Ren}

set_option maxHeartbeats 2000000 in
set_option maxRecDepth 100000 in
/-- of a slice that is not nil, wherever it begins -/
theorem clone_some (L : SlLaysE0.n41 P ρ) {i0 : TypeInfo} {z : Value} {size bytes : Nat} (hi : P.info? (ρ.t 23) = some i0) (hz0 : i0.zero = some z) (hz1 : i0.size = size) (hz2 : i0.bytes = bytes) (hzs : z.cells.size = size) (hsz : 0 < size)
    (z23 : ∀ w, (Go.sizeOf (ρ.t 23)).run P w = .ok size w)
    (a : Addr) (n c : Nat) (news : List Value) (w : World) (hl : news.length = n * size) (hn : n ≤ maxLen) (hbig : n * bytes ≤ 140737488355328)
    (hc : ∀ j u, news[j]? = some u → w.cell? (a.add j) = some u) (h1 : ∀ u ∈ news, u.oneCell' = true) :
    Calls P (ρ.f 41) #[.slice (some a) n c] w fun e w' => ∃ v', e = .returned v' ∧ w'.ownsRow w.heap.size (ρ.t 23) size v' n news ∧ Below w.heap.size w w' := by
  have mixed := L.mixed; have t4 := L.t4; have a4 := L.a4; have z4 := L.z4; have v4 := L.v4; have t22 := L.t22; have a22 := L.a22; have z22 := L.z22; have v22 := L.v22
  have q22 : ∀ (w : World) (a : Option Addr) (n c n' c' : Nat), (binOp .eql (ρ.t 22) (.slice a n c) (.slice none n' c')).run P w = .ok (.bool a.isNone) w := fun w a n c n' c' => Lib.run_eql_slice_nil w _ _ a n c n' c' L.t22
  have u22 : ∀ w, Sem.run P (underlying (ρ.t 22)) w = .ok (TypeDesc.slice (ρ.t 23)) w := run_underlying t22
  have A : Aside (∀ j u, news[j]? = some u → w.cell? (a.add j) = some u) := hc
  clear hc
  obtain ⟨_, _, FG⟩ := L.f41
  go_enter FG, SlBodyN.n41_ntmps ρ
  go_wp2_with (at_builtin; refine wpList_append_own _ rfl _ _ (ρ.t 22) rfl w.heap.size (ρ.t 23) i0 z size bytes t22 hi hz0 hz1 hz2 hzs hsz _ _ _ rfl (World.ownsRow_made w #[] 0 (Nat.le_refl _) (Nat.zero_le _) (by simp)) a n c news rfl ?qc1 ?qc2 ?qc3 ?qc4 ?qc5 ?qc6 ?_)
  case qc1 => exact hl
  case qc2 =>
    intro j u hj
    exact Lib.cell?_alloc_some _ (A.out j u hj)
  case qc3 => exact h1
  case qc4 => rw [Nat.zero_add]; exact hn
  case qc5 => rw [Nat.zero_add]; exact hbig
  case qc6 => simp
  intro v' w1 hown hgrow hnil
  go_wp2
  go_ret
  exact ⟨v', rfl, by simpa using hown, ((Below.refl _ w).alloc (Nat.le_refl _) _).grown hgrow (by simp) (by intro k hk; simp [Value.ownBlock] at hk; omega)⟩

set_option maxHeartbeats 1000000 in
theorem clone_none (L : SlLaysE0.n41 P ρ) (n c : Nat) (w : World) : Calls P (ρ.f 41) #[.slice none n c] w fun e w' => e = .returned (.slice none 0 0) ∧ w' = w := by
  have mixed := L.mixed; have t4 := L.t4; have a4 := L.a4; have z4 := L.z4; have v4 := L.v4; have t22 := L.t22; have a22 := L.a22; have z22 := L.z22; have v22 := L.v22
  have q22 : ∀ (w : World) (a : Option Addr) (n c n' c' : Nat), (binOp .eql (ρ.t 22) (.slice a n c) (.slice none n' c')).run P w = .ok (.bool a.isNone) w := fun w a n c n' c' => Lib.run_eql_slice_nil w _ _ a n c n' c' L.t22
  obtain ⟨_, _, FG⟩ := L.f41
  go_enter FG, SlBodyN.n41_ntmps ρ
  go_wp2
  go_ret
  exact ⟨rfl, rfl⟩
end Go.Proofs

/- The symbolic machine: slices.Clone's contract. -/
set_option linter.unusedVariables false
set_option linter.unusedSimpArgs false
namespace Go.Am
open Go Go.RowKit

theorem clone_sound {P : Program} {ρ : Go.Shelf.Ren} (L : Go.Proofs.SlLaysE0.n41 P ρ) {i0 : TypeInfo} {z : Value} {size bytes : Nat} (hi : P.info? (ρ.t 23) = some i0) (hz0 : i0.zero = some z) (hz1 : i0.size = size) (hz2 : i0.bytes = bytes) (hzs : z.cells.size = size) (hsz : 0 < size)
    (z23 : ∀ w, (Go.sizeOf (ρ.t 23)).run P w = .ok size w) (hby : 0 < bytes) (e : Ty) (he : e.size = size) : Con.Sound P (ρ.f 41) ⟨[.one (.val (.sl e))], [], [.one (.own e)], cloneF bytes⟩ := by
  intro w A x vs Ls hx hnd hL hA Q hq
  change List e.X at x
  obtain ⟨v, L0, rfl, rfl, hro, rfl⟩ := hx
  have hq' : x.length * bytes ≤ 140737488355328 ∧ Q (x, ()) := by
    obtain ⟨h1, h2⟩ := DT.wp_guard hq
    exact ⟨of_decide_eq_true h1, h2⟩
  obtain ⟨hbig, hQ⟩ := hq'
  obtain ⟨A0, c, h1, hc, h3⟩ := hro
  injection h1 with h1 _; subst h1
  have hent := L.f41.enters rfl
  refine .inl ⟨hent _ w, ?_⟩
  cases A0 with
  | none =>
    have hx0 : x = [] := by
      by_cases hne : x = []
      · exact hne
      · obtain ⟨b, off, h, _⟩ := h3 hne; cases h
    refine (Go.Proofs.clone_none L x.length c w).mono fun e' w' ⟨h4, h5⟩ => ?_
    subst h4; subst h5
    refine ⟨(x, ()), [.slice none 0 0], A, [[]], hQ, rfl, Fr.refl _ _, fun b h => h, fun b h => ⟨.inl h, hA b h⟩, ⟨_, _, rfl, rfl, _, rfl, .inl ⟨hx0, ⟨none, rfl⟩, rfl⟩⟩, ⟨rfl, rfl⟩, by simp, by simp⟩
  | some a =>
    obtain ⟨cl, k1, k2, k3⟩ : ∃ cl : List Value, cl.length = x.length * e.size ∧ (∀ (j : Nat) (u : Value), cl[j]? = some u → w.cell? (a.add j) = some u) ∧ ∀ (i : Nat) (y : e.X), (x : List e.X)[i]? = some y → RoX w (fun b => A b ∨ b ∈ ([[]] : List (List Nat)).flatten) e y ((cl.drop (i * e.size)).take e.size) := by
      by_cases hne : x = []
      · exact ⟨[], by rw [hne]; simp, fun j u hj => by simp at hj, fun i y hy => by rw [hne] at hy; simp at hy⟩
      · obtain ⟨b, off, hA0, hb, ho, hcells⟩ := h3 hne
        injection hA0 with hA0; subst hA0
        obtain ⟨cl, h4, h5, h6⟩ := collect (w := w) x off hcells
        exact ⟨cl, h4, fun j u hj => by rw [addr_add]; exact h5 j u hj, h6⟩
    have hones := cells_ones (by rw [he]; exact hsz) k1 k3
    have hlen : x.length ≤ maxLen := by
      have : x.length * 1 ≤ x.length * bytes := Nat.mul_le_mul_left _ hby
      unfold maxLen; omega
    refine (Go.Proofs.clone_some L hi hz0 hz1 hz2 hzs hsz z23 a x.length c cl w (by rw [k1, he]) hlen hbig k2 hones).mono fun e' w' ⟨v', h4, h5, h6⟩ => ?_
    subst h4
    have hF : Fr w (· ∈ ([[]] : List (List Nat)).flatten) w' := ⟨h6.os, h6.tape, h6.output, h6.size, fun k hk _ => h6.block k hk⟩
    obtain ⟨h7, ⟨rfl, h8⟩ | ⟨g, cap, cur, rfl, h9, h10, h11, h12, h13, h14⟩⟩ := h5
    · have hx0 : x = [] := List.eq_nil_of_length_eq_zero h8
      refine ⟨(x, ()), [.slice none 0 0], A, [[]], hQ, rfl, hF, fun b h => h, fun b h => ⟨.inl h, Nat.lt_of_lt_of_le (hA b h) h6.size⟩, ⟨_, _, rfl, rfl, _, rfl, .inl ⟨hx0, ⟨none, rfl⟩, rfl⟩⟩, ⟨rfl, rfl⟩, by simp, by simp⟩
    · have hg : g < w'.heap.size := (Array.getElem?_eq_some_iff.1 h10).1
      refine ⟨(x, ()), [.slice (some ⟨g, 0, none⟩) x.length cap], fun b => A b ∨ b = g, [[g]], hQ, rfl, hF, fun b h => .inl h, fun b h => ?_, ⟨_, _, rfl, rfl, _, rfl, .inr ⟨g, rfl, cap, cur.toList, _, rfl, h11, by rw [h10], by rw [Array.length_toList, h13, he], fun i y hy => ?_⟩⟩, ⟨rfl, rfl⟩, by simp, fun b hb => ?_⟩
      · rcases h with h | rfl
        · exact ⟨.inl h, Nat.lt_of_lt_of_le (hA b h) h6.size⟩
        · exact ⟨.inr (.inr h9), hg⟩
      · have hr := k3 i y hy
        have hil : i < x.length := (List.getElem?_eq_some_iff.1 hy).1
        have hm : (i + 1) * e.size ≤ x.length * e.size := Nat.mul_le_mul_right _ hil
        rw [Nat.add_mul, Nat.one_mul] at hm
        have e1 : (cur.toList.drop (i * e.size)).take e.size = (cl.drop (i * e.size)).take e.size := by
          rw [← h14, List.drop_take, List.take_take, he]
          rw [he] at hm
          congr 1; omega
        rw [e1]
        refine RoX.mono ⟨h6.size, fun b hb ho => ⟨fun h => ?_, h6.block b hb⟩⟩ _ _ _ hr
        rcases h with h | rfl
        · exact ho (.inl h)
        · omega
      · have hb' : b = g := by simpa using hb
        subst hb'
        exact ⟨.inr rfl, .inr h9⟩
end Go.Am

/- The symbolic machine: slices.Clone's contract out of a type's table. -/
set_option linter.unusedVariables false
set_option linter.unusedSimpArgs false
namespace Go.Am
open Go Go.RowKit

theorem mkTI_info {P : Program} {t : Nat} {i : TI} (h : mkTI P t = some i) (hz : i.zero.length = i.size) (hp : 0 < i.size) : ∃ j z, P.info? t = some j ∧ j.zero = some z ∧ j.size = i.size ∧ j.bytes = i.bytes ∧ z.cells.size = i.size ∧ i.zero = z.cells.toList.map ofLeaf := by
  unfold mkTI at h
  cases hj : P.info? t with
  | none => simp [hj] at h
  | some j =>
    cases hd : P.underlying t with
    | none => simp [hj, hd] at h
    | some d =>
      simp only [hj, hd, Option.some.injEq] at h
      subst h
      cases hz0 : j.zero with
      | none => simp only [hz0] at hz; simp at hz; dsimp only at hp; omega
      | some z =>
        simp only [hz0] at hz
        exact ⟨j, z, rfl, hz0, rfl, rfl, by simpa using hz, by simp⟩
/-- renamings out of lists -/
def renOf (fs ts : List (Nat × Nat)) : Go.Shelf.Ren := ⟨fun x => (fs.lookup x).getD 0, fun x => (ts.lookup x).getD 0, fun _ => 0⟩

theorem clone_ok {P : Program} {ρ : Go.Shelf.Ren} (L : Go.Proofs.SlLaysE0.n41 P ρ) {i : TI} (hti : mkTI P (ρ.t 23) = some i) (hz : i.zero.length = i.size) (hp : 0 < i.size) (hby : 0 < i.bytes) (e : Ty) (he : e.size = i.size) {g b : Nat} (hg : ρ.f 41 = g) (hb : i.bytes = b) :
    Con.Sound P g ⟨[.one (.val (.sl e))], [], [.one (.own e)], fun x => cloneF b x⟩ := by
  obtain ⟨j, z, h1, h2, h3, h4, h5, _⟩ := mkTI_info hti hz hp
  have := clone_sound L h1 h2 h3 h4 h5 hp (fun w => by simp [sizeOf, typeInfo, h1, h3]) hby e he
  rw [hg, hb] at this
  exact this
end Go.Am

/- The symbolic machine: slices.Sort and slices.Compact at whole numbers. -/
set_option linter.unusedVariables false
set_option linter.unusedSimpArgs false
namespace Go.Am
open Go Go.RowKit Go.Sort

theorem enters_fn {P : Program} {g : Nat} {fn : Func} {code : Code} (hf : P.funcs[g]? = some fn) (hb : fn.body = some code) (hname : (fn.name == "runtime.NumGoroutine") = false) (args : Array Value) (w : World) : (callFunc g args).run P w = .ok (.enter g args) w := by
  have hne : fn.name ≠ "runtime.NumGoroutine" := by simpa using hname
  simp [callFunc, hf, hne, hb]

section
variable {w : World} {b : Nat} {us : List Value} {et : TypeId}
theorem put_block (hb : w.heap[b]? = some (.cells (List.toArray us) et (0, 0))) (d : Array Int) (n : Nat) (os : Array Obj) :
    (grow (putRow (Value.int .i64) (Go.Sort.ahead w n) b 0 d) os).heap[b]? = some (.cells (List.toArray (putCells (Value.int .i64) 0 d (List.toArray us)).toList) et (0, 0)) ∧
    (∀ k, k < w.heap.size → k ≠ b → (grow (putRow (Value.int .i64) (Go.Sort.ahead w n) b 0 d) os).heap[k]? = w.heap[k]?) ∧ w.heap.size ≤ (grow (putRow (Value.int .i64) (Go.Sort.ahead w n) b 0 d) os).heap.size := by
  have hlt : b < w.heap.size := (Array.getElem?_eq_some_iff.1 hb).1
  have hm : ∀ k, k < w.heap.size → (grow (putRow (Value.int .i64) (Go.Sort.ahead w n) b 0 d) os).heap[k]? = if b = k then (w.heap[k]?).map (onCells (putCells (Value.int .i64) 0 d)) else w.heap[k]? := by
    intro k hk
    show ((w.heap.modify b (onCells (putCells (Value.int .i64) 0 d))) ++ os)[k]? = _
    rw [Array.getElem?_append_left (by simpa using hk), Array.getElem?_modify]
  refine ⟨?_, fun k hk hne => ?_, ?_⟩
  · rw [hm b hlt, if_pos rfl, hb]
    simp [onCells]
  · rw [hm k hk, if_neg (fun h => hne h.symm)]
  · show w.heap.size ≤ ((w.heap.modify b _) ++ os).size
    simp
theorem put_cells (d : Array Int) (i : Nat) (hi : i < d.size) (hl : d.size ≤ us.length) :
    (((putCells (Value.int .i64) 0 d (List.toArray us)).toList.drop (i * 1)).take 1) = [.int .i64 d[i]] := by
  have hs : (putCells (Value.int .i64) 0 d (List.toArray us)).toList.length = us.length := by simp [putCells]
  have hg : (putCells (Value.int .i64) 0 d (List.toArray us)).toList[i]? = some (.int .i64 d[i]) := by
    have : i < us.length := by omega
    simp [putCells, this, hi]
  rw [Nat.mul_one, List.drop_eq_getElem_cons (by rw [hs]; omega), List.take_succ_cons, List.take_zero]
  congr 1
  have := List.getElem?_eq_some_iff.1 hg
  exact this.2
end

theorem row_holds {w : World} {O : Nat → Prop} {b cap : Nat} {us : List Value} {et : TypeId} {x : List Int} (h1 : x.length ≤ cap) (h2 : w.heap[b]? = some (.cells (List.toArray us) et (0, 0))) (h3 : us.length = cap * Ty.size (.int .i64))
    (h4 : ∀ (i : Nat) (y : Int), x[i]? = some y → RoX w O (.int .i64) y ((us.drop (i * Ty.size (.int .i64))).take (Ty.size (.int .i64)))) : Holds (Value.int .i64) w b 0 x.toArray := by
  intro j hj
  have hj' : j < x.length := by simpa using hj
  have h3' : us.length = cap := by rw [h3]; show cap * 1 = cap; omega
  have hx : x[j]? = some x[j] := List.getElem?_eq_getElem hj'
  have h5 : ((us.drop (j * 1)).take 1) = [Value.int .i64 x[j]] := h4 j _ hx
  have hju : j < us.length := by omega
  rw [Nat.mul_one, List.drop_eq_getElem_cons hju, List.take_succ_cons, List.take_zero] at h5
  injection h5 with h5 _
  refine ⟨?_, ?_⟩
  · simp only [World.cell?, h2, Nat.zero_add]
    simp [hju, h5, hj']
  · simp [World.frozen?, h2]

theorem sort_ok {P : Program} {ρ : Go.Shelf.Ren} (L : Go.Proofs.Lays.n189 P ρ) {g : Nat} (hg : ρ.f 189 = g) : Con.Sound P g ⟨[.one (.own (.int .i64))], [0], [], fun x => sortF 8 x⟩ := by
  intro w A x vs Ls hx hnd hL hA Q hq
  change List Int at x
  obtain ⟨v, L0, rfl, rfl, v', hv', hown⟩ := hx
  injection hv' with hv' _; subst hv'
  have hq' : x.length * 8 ≤ 140737488355328 ∧ Q ((), x.mergeSort fun a b => decide (a ≤ b)) := by
    obtain ⟨h1, h2⟩ := DT.wp_guard hq
    exact ⟨of_decide_eq_true h1, h2⟩
  obtain ⟨hbig, hQ⟩ := hq'
  subst hg
  refine .inl ⟨enters_fn L.f189 rfl rfl _ _, ?_⟩
  rcases hown with ⟨hx0, ⟨A0, rfl⟩, rfl⟩ | ⟨b, rfl, cap, us, et, rfl, h1, h2, h3, h4⟩
  · have hx0' : x = [] := hx0
    subst hx0'
    refine (Go.Proofs.Any.slices_Sort_int_none L A0 0 w).mono fun e' w' ⟨h4, h5⟩ => ?_
    subst h4; subst h5
    exact ⟨_, [], A, [], hQ, rfl, Fr.refl _ _, fun b h => h, fun b h => ⟨.inl h, hA b h⟩, ⟨rfl, rfl⟩, ⟨_, _, rfl, rfl, _, rfl, .inl ⟨List.eq_nil_of_length_eq_zero (List.length_mergeSort _), ⟨A0, rfl⟩, rfl⟩⟩, by simp, by simp⟩
  · have hH := row_holds h1 h2 h3 h4
    have hblt : b < w.heap.size := (Array.getElem?_eq_some_iff.1 h2).1
    refine (Go.Proofs.Any.slices_Sort_int L b 0 cap x w hH hblt (by omega)).mono fun e' w' ⟨h5, n, os, h6⟩ => ?_
    subst h5; subst h6
    obtain ⟨k1, k2, k3⟩ := put_block h2 (x.mergeSort fun a b => decide (a ≤ b)).toArray n os
    have hlen : (x.mergeSort fun a b => decide (a ≤ b)).length = x.length := List.length_mergeSort _
    have hus : us.length = cap := by rw [h3]; show cap * 1 = cap; omega
    refine ⟨_, [], fun k => A k ∨ k = b, [], hQ, rfl, ⟨rfl, rfl, rfl, k3, fun k hk hn => k2 k hk (by simpa using hn)⟩, fun k h => .inl h, fun k h => ?_, ⟨rfl, rfl⟩,
      ⟨_, _, rfl, rfl, _, rfl, .inr ⟨b, rfl, cap, _, et, by show Value.slice (some ⟨b, 0, none⟩) x.length cap = .slice (some ⟨b, 0, none⟩) (x.mergeSort fun a b => decide (a ≤ b)).length cap; rw [hlen], by show (x.mergeSort fun a b => decide (a ≤ b)).length ≤ cap; rw [hlen]; exact h1, k1, by simp only [putCells, Array.length_toList, Array.size_mapIdx, List.size_toArray, hus]; exact (Nat.mul_one cap).symm, fun i y hy => ?_⟩⟩, by simp, fun k hk => ?_⟩
    · rcases h with h | rfl
      · exact ⟨.inl h, Nat.lt_of_lt_of_le (hA k h) k3⟩
      · exact ⟨.inr (.inl (by simp)), Nat.lt_of_lt_of_le hblt k3⟩
    · have hy' : (x.mergeSort fun a b => decide (a ≤ b))[i]? = some (show Int from y) := hy
      have hi := (List.getElem?_eq_some_iff.1 hy').1
      have := put_cells (us := us) (x.mergeSort fun a b => decide (a ≤ b)).toArray i (by simpa using hi) (by rw [List.size_toArray, hlen, hus]; exact h1)
      show (((putCells (Value.int .i64) 0 _ (List.toArray us)).toList.drop (i * 1)).take 1) = [.int .i64 y]
      rw [this]
      have h7 := (List.getElem?_eq_some_iff.1 hy').2
      simp [h7]
    · have : k = b := by simpa using hk
      subst this
      exact ⟨.inr rfl, .inl (by simp)⟩

theorem compact_len_le (zs : List Int) : (Lib.compact zs).length ≤ zs.length := by
  unfold Lib.compact Lib.compactUpTo
  simp only [List.length_map]
  refine Nat.le_trans (List.length_filter_le _ _) ?_
  simp

theorem compact_ok {P : Program} {ρ : Go.Shelf.Ren} (L : Go.Proofs.Lays2.n20 P ρ) {g : Nat} (hg : ρ.f 20 = g) : Con.Sound P g ⟨[.one (.own (.int .i64))], [], [.one (.own (.int .i64))], fun x => compactF 8 x⟩ := by
  intro w A x vs Ls hx hnd hL hA Q hq
  change List Int at x
  obtain ⟨v, L0, rfl, rfl, v', hv', hown⟩ := hx
  injection hv' with hv' _; subst hv'
  have hq' : x.length * 8 ≤ 140737488355328 ∧ Q (show List Int from Lib.compact (show List Int from x), ()) := by
    obtain ⟨h1, h2⟩ := DT.wp_guard hq
    exact ⟨of_decide_eq_true h1, h2⟩
  obtain ⟨hbig, hQ⟩ := hq'
  subst hg
  refine .inl ⟨enters_fn L.f20 rfl rfl _ _, ?_⟩
  rcases hown with ⟨hx0, ⟨A0, rfl⟩, rfl⟩ | ⟨b, rfl, cap, us, et, rfl, h1, h2, h3, h4⟩
  · have hx0' : x = [] := hx0
    subst hx0'
    refine (Go.Proofs.Any.slices_Compact_int_empty L A0 0 w).mono fun e' w' ⟨h4, h5⟩ => ?_
    subst h4; subst h5
    exact ⟨_, [_], A, [[]], hQ, rfl, Fr.refl _ _, fun b h => h, fun b h => ⟨.inl h, hA b h⟩, ⟨_, _, rfl, rfl, _, rfl, .inl ⟨List.eq_nil_of_length_eq_zero (Nat.le_zero.1 (compact_len_le [])), ⟨A0, rfl⟩, rfl⟩⟩, ⟨rfl, rfl⟩, by simp, by simp⟩
  · have hH := row_holds h1 h2 h3 h4
    have hblt : b < w.heap.size := (Array.getElem?_eq_some_iff.1 h2).1
    have hle := compact_len_le x
    refine (Go.Proofs.Any.slices_Compact_int L b 0 cap x w hH (by omega) h1).mono fun e' w' ⟨h5, n, h6⟩ => ?_
    subst h5; subst h6
    obtain ⟨k1, k2, k3⟩ := put_block h2 (Lib.compact x ++ List.replicate (x.length - (Lib.compact x).length) 0).toArray n #[]
    rw [grow_empty] at k1 k2 k3
    have hus : us.length = cap := by rw [h3]; show cap * 1 = cap; omega
    refine ⟨_, [_], fun k => A k ∨ k = b, [[b]], hQ, rfl, ⟨rfl, rfl, rfl, k3, fun k hk hn => k2 k hk (by simpa using hn)⟩, fun k h => .inl h, fun k h => ?_,
      ⟨_, _, rfl, rfl, _, rfl, .inr ⟨b, rfl, cap, _, et, rfl, Nat.le_trans hle h1, k1, by simp only [putCells, Array.length_toList, Array.size_mapIdx, List.size_toArray, hus]; exact (Nat.mul_one cap).symm, fun i y hy => ?_⟩⟩, ⟨rfl, rfl⟩, by simp, fun k hk => ?_⟩
    · rcases h with h | rfl
      · exact ⟨.inl h, Nat.lt_of_lt_of_le (hA k h) k3⟩
      · exact ⟨.inr (.inl (by simp)), Nat.lt_of_lt_of_le hblt k3⟩
    · have hy' : (Lib.compact x)[i]? = some (show Int from y) := hy
      have hi := (List.getElem?_eq_some_iff.1 hy').1
      have h8 : x.length ≤ us.length := by rw [hus]; exact h1
      have := put_cells (us := us) (Lib.compact x ++ List.replicate (x.length - (Lib.compact x).length) 0).toArray i (by simp only [List.size_toArray, List.length_append]; omega) (by simp only [List.size_toArray, List.length_append, List.length_replicate]; clear hH h4 k1 k2 k3 hy hL; omega)
      show (((putCells (Value.int .i64) 0 _ (List.toArray us)).toList.drop (i * 1)).take 1) = [.int .i64 y]
      rw [this]
      have h7 := (List.getElem?_eq_some_iff.1 hy').2
      simp [hi, h7]
    · have : k = b := by simpa using hk
      subst this
      exact ⟨.inr rfl, .inl (by simp)⟩
end Go.Am

/- The symbolic machine: a law over one slice of bytes, out of its contract. -/
set_option linter.unusedVariables false
set_option linter.unusedSimpArgs false
namespace Go.Am
open Go Go.RowKit

def IsRow (k : IntKind) (w : World) (a : Option Addr) (len cap : Nat) (zs : List Int) : Prop :=
  (a = none ∧ len = 0 ∧ cap = 0 ∧ zs = []) ∨
  ∃ x, a = some x ∧ len ≤ cap ∧ cap ≤ maxLen ∧ zs.length = cap ∧ (∀ i, i < zs.length → w.cell? (x.add i) = some (.int k (zs.getD i 0))) ∧ ∀ n ∈ zs, (Lit.int k n).wf = true

theorem row_ro {k : IntKind} {w : World} {a : Option Addr} {len cap : Nat} {zs : List Int} (h : IsRow k w a len cap zs) : RoX w (fun _ => False) (.sl (.int k)) (zs.take len) [.slice a len cap] := by
  rcases h with ⟨rfl, rfl, rfl, rfl⟩ | ⟨x, rfl, h1, h2, h3, h4, _⟩
  · exact ⟨none, 0, rfl, Nat.le_refl _, fun h => absurd rfl h⟩
  · have hl : (zs.take len).length = len := by rw [List.length_take]; omega
    refine ⟨some x, cap, ?_, ?_, fun hne => ?_⟩
    · show [Value.slice (some x) len cap] = [.slice (some x) (zs.take len).length cap]
      rw [hl]
    · show (zs.take len).length ≤ cap
      omega
    · have hpos : 0 < zs.length := by
        have : (zs.take len).length ≠ 0 := fun h0 => hne (List.eq_nil_of_length_eq_zero h0)
        rw [List.length_take] at this; omega
      have h0 := h4 0 hpos
      have hs : x.spot = none := by
        simp only [Addr.add, if_true] at h0
        unfold World.cell? at h0
        cases hb : w.heap[x.block]? with
        | none => rw [hb] at h0; cases h0
        | some b =>
          rw [hb] at h0
          cases b <;> simp at h0
          exact h0.1
      have hlt : x.block < w.heap.size := by
        simp only [Addr.add, if_true] at h0
        unfold World.cell? at h0
        cases hb : w.heap[x.block]? with
        | none => rw [hb] at h0; cases h0
        | some b => exact (Array.getElem?_eq_some_iff.1 hb).1
      obtain ⟨xb, xo, xs⟩ := x
      dsimp only at hs hlt
      subst hs
      refine ⟨xb, xo, rfl, hlt, fun h => h, fun i y hy => ?_⟩
      have hy2 : (zs.take len)[i]? = some (show Int from y) := hy
      have hi : i < len := by
        have := (List.getElem?_eq_some_iff.1 hy2).1
        rw [hl] at this; exact this
      have hiz : i < zs.length := by omega
      have hc := h4 i hiz
      have hy' : zs.getD i 0 = y := by
        rw [List.getElem?_take_of_lt hi] at hy2
        rw [List.getD_eq_getElem?_getD, hy2]; rfl
      refine ⟨[.int k y], rfl, rfl, fun j u hj => ?_⟩
      cases j with
      | succ j => simp at hj
      | zero =>
        simp only [List.getElem?_cons_zero, Option.some.injEq] at hj
        subst hj
        have e : (⟨xb, xo + (i * 1 + 0), none⟩ : Addr) = Addr.add ⟨xb, xo, none⟩ i := by
          unfold Addr.add
          split
          · rename_i h; subst h; simp
          · simp
        show w.cell? ⟨xb, xo + (i * Ty.size (.int k) + 0), none⟩ = _
        rw [show Ty.size (.int k) = 1 from rfl, e, hc, hy']

theorem law_walk {P : Program} {g : Nat} {fn : Func} {code : Code} (hf : P.funcs[g]? = some fn) (hb : fn.body = some code) (hname : (fn.name == "runtime.NumGoroutine") = false) {F : List Int → DT (Bool × Unit)}
    (hc : Con.Sound P g ⟨[.one (.val (.sl (.int .u8)))], [], [.one (.val .bool)], F⟩) {W : World} {a : Option Addr} {len cap : Nat} {zs : List Int} (hr : IsRow .u8 W a len cap zs) (hp : (F (zs.take len)).wp fun r => r.1 = true) :
    Calls P g #[.slice a len cap] W fun e W' => e = .returned (.bool true) ∧ Below W.heap.size W W' := by
  have hne : fn.name ≠ "runtime.NumGoroutine" := by simpa using hname
  have hcall : (callFunc g #[.slice a len cap]).run P W = .ok (.enter g #[.slice a len cap]) W := by
    simp [callFunc, hf, hne, hb]
  have := hc W (fun _ => False) (zs.take len) [.slice a len cap] [[]] ⟨_, _, rfl, rfl, RoX.mono (Ext.less fun b h => h.elim (fun h => h) (by simp)) _ _ _ (row_ro hr), rfl⟩ (by simp) (by simp) (fun _ h => h.elim) (fun r => r.1 = true) hp
  rcases this with ⟨_, h2⟩ | ⟨v, w', h1, _⟩
  · refine h2.mono fun e W' hR => ?_
    cases e with
    | returned v =>
      obtain ⟨r, rvs, A', Lr, h1, rfl, h3, _, _, h6, _⟩ := hR
      obtain ⟨v, L, rfl, _, h7, _⟩ := h6
      have h7' : [v] = [Value.bool r.1] := h7
      injection h7' with h7' _
      subst h7'
      rw [h1]
      refine ⟨rfl, h3.os, h3.tape, h3.output, h3.size, fun k hk => h3.block k hk (by simp)⟩
    | panicked c => exact hR.elim
    | outgrown => exact hR.elim
  · have h1' : (callFunc g #[.slice a len cap]).run P W = .ok (.value v) w' := h1
    rw [hcall] at h1'
    cases h1'
end Go.Am

/- The symbolic machine: '==' of structs of whole numbers, strings and bools. -/
set_option linter.unusedVariables false
set_option linter.unusedSimpArgs false
namespace Go.Am
open Go Go.RowKit

/-- a type whose values are told apart leaf by leaf; z: the leaves of its zero -/
def eqOk (P : Program) (ti : Nat → Option TI) : Nat → TypeId → List T → Bool
  | 0, _, _ => false
  | d + 1, t, z => match ti t with
    | some i => match i.kind, z with
      | .int _, [.int _ _] => true
      | .bool, [.kb _] => true
      | .str, [.str _] => true
      | .struct _, z => !P.stoodInHeld t && go (eqOk P ti d) (P.fieldsOf t).toList 0 z
      | _, _ => false
    | none => false
where go (f : TypeId → List T → Bool) : List Field → Nat → List T → Bool
  | [], _, z => z.isEmpty
  | g :: gs, off, z => g.name != "_" && g.offset == off && (match ti g.type with | some j => (j.isAgg || j.size == 1) && f g.type (z.take j.size) && decide (0 < j.size ∧ j.size ≤ z.length) && go f gs (off + j.size) (z.drop j.size) | none => false)

theorem leavesEq_nil {l : List T} {r : Bool} (h : leavesEq [] l = some r) : l = [] ∧ r = true := by
  cases l with
  | nil => simp [leavesEq] at h; exact ⟨rfl, h⟩
  | cons b l => simp [leavesEq] at h
theorem leavesEq_cons {a : T} {k l : List T} {r : Bool} (h : leavesEq (a :: k) l = some r) : ∃ b l' x y, l = b :: l' ∧ leafEq a b = some x ∧ leavesEq k l' = some y ∧ r = (x && y) := by
  cases l with
  | nil => cases k <;> simp [leavesEq] at h
  | cons b l =>
    cases k with
    | nil =>
      cases l with
      | nil => simp only [leavesEq] at h; exact ⟨b, [], r, true, rfl, h, rfl, by simp⟩
      | cons c l =>
        simp only [leavesEq] at h
        cases hl : leafEq a b with
        | none => rw [hl] at h; cases h
        | some x => rw [hl] at h; simp [leavesEq] at h
    | cons a' k =>
      simp only [leavesEq] at h
      cases hl : leafEq a b with
      | none => rw [hl] at h; cases h
      | some x =>
        rw [hl] at h
        simp only [Option.map_eq_some_iff] at h
        obtain ⟨y, h1, h2⟩ := h
        exact ⟨b, l, x, y, rfl, hl, h1, h2.symm⟩
theorem leavesEq_split : ∀ (n : Nat) (k l : List T) (r : Bool), leavesEq k l = some r → ∃ x y, leavesEq (k.take n) (l.take n) = some x ∧ leavesEq (k.drop n) (l.drop n) = some y ∧ r = (x && y)
  | 0, k, l, r, h => ⟨true, r, rfl, h, by simp⟩
  | n + 1, [], l, r, h => by
    obtain ⟨rfl, rfl⟩ := leavesEq_nil h
    exact ⟨true, true, rfl, rfl, rfl⟩
  | n + 1, a :: k, l, r, h => by
    obtain ⟨b, l', x, y, rfl, h1, h2, rfl⟩ := leavesEq_cons h
    obtain ⟨x', y', h3, h4, rfl⟩ := leavesEq_split n k l' y h2
    refine ⟨x && x', y', ?_, h4, by simp [Bool.and_assoc]⟩
    simp only [List.take_succ_cons]
    cases hk : k.take n with
    | nil =>
      rw [hk] at h3
      obtain ⟨h5, h6⟩ := leavesEq_nil h3
      rw [h5, h6]
      simp [leavesEq, h1]
    | cons c k' =>
      rw [hk] at h3
      obtain ⟨b2, l2, _, _, h5, _⟩ := leavesEq_cons h3
      rw [h5] at h3 ⊢
      simp only [leavesEq, h1]
      simp only [h3, Option.map_some]
theorem leavesEq_len : ∀ (k l : List T) (r : Bool), leavesEq k l = some r → k.length = l.length
  | [], l, r, h => by rw [(leavesEq_nil h).1]
  | a :: k, l, r, h => by
    obtain ⟨b, l', x, y, rfl, h1, h2, rfl⟩ := leavesEq_cons h
    simp [leavesEq_len k l' y h2]

theorem sameK_len : ∀ (z xs : List T), sameK z xs = true → z.length = xs.length
  | [], [], _ => rfl
  | [], _ :: _, h => by simp [sameK] at h
  | a :: z, [], h => by cases a <;> simp [sameK] at h
  | a :: z, x :: xs, h => by
    have : sameK z xs = true := by
      cases a <;> cases x <;> simp [sameK] at h <;> first | exact h.2 | exact h
    simp [sameK_len z xs this]
theorem sameK_take : ∀ (n : Nat) (z xs : List T), sameK z xs = true → sameK (z.take n) (xs.take n) = true ∧ sameK (z.drop n) (xs.drop n) = true
  | 0, z, xs, h => ⟨rfl, h⟩
  | n + 1, [], xs, h => by
    cases xs with
    | nil => exact ⟨rfl, rfl⟩
    | cons _ _ => simp [sameK] at h
  | n + 1, a :: z, [], h => by cases a <;> simp [sameK] at h
  | n + 1, a :: z, x :: xs, h => by
    simp only [List.take_succ_cons, List.drop_succ_cons]
    cases a <;> cases x <;> simp [sameK] at h ⊢ <;> first | exact ⟨⟨h.1, (sameK_take n z xs h.2).1⟩, (sameK_take n z xs h.2).2⟩ | exact sameK_take n z xs h

section
variable {P : Program} {C : Ctx} {w : World} {O : Nat → Prop} {κ : Kap}
theorem equalIn_ok (hC : CtxOk P C) (n : Nat) : ∀ (d : Nat) (t : TypeId) (z xs ys : List T) (i : TI) (u v : Value) (r : Bool), eqOk P C.ti d t z = true → C.ti t = some i → sameK z xs = true → sameK z ys = true →
    leavesEq xs ys = some r → RepT w O κ (oneOr i.isAgg xs) u → RepT w O κ (oneOr i.isAgg ys) v → (Op.equalIn (n + d) t u v).run P w = .ok r w := by
  intro d
  induction d with
  | zero => intro t z xs ys i u v r h; cases h
  | succ d ih =>
    intro t z xs ys i u v r h hi hx hy hr hu hv
    unfold eqOk at h
    rw [hi] at h
    dsimp only at h
    split at h
    · rename_i k k' m hk
      have hd := hC.int hi hk
      have hagg : i.isAgg = false := by simp [TI.isAgg, hk, aggK]
      rw [hagg] at hu hv
      obtain ⟨a, xs', hxs⟩ : ∃ a xs', xs = a :: xs' := by cases xs with | nil => simp [sameK] at hx | cons a b => exact ⟨a, b, rfl⟩
      obtain ⟨b, ys', hys⟩ : ∃ a xs', ys = a :: xs' := by cases ys with | nil => simp [sameK] at hy | cons a b => exact ⟨a, b, rfl⟩
      subst hxs; subst hys
      have ex : xs' = [] := by have := sameK_len _ _ hx; simp at this; exact this
      have ey : ys' = [] := by have := sameK_len _ _ hy; simp at this; exact this
      subst ex; subst ey
      cases a <;> simp [sameK] at hx
      cases b <;> simp [sameK] at hy
      subst hx; subst hy
      simp only [oneOr, Bool.false_eq_true, if_false, List.headD_cons, RepT] at hu hv
      subst hu; subst hv
      simp only [leavesEq, leafEq, if_true, Option.some.injEq] at hr
      subst hr
      show (Op.equalIn (n + d + 1) _ _ _).run P w = _
      rw [Op.equalIn]
      simp [run_underlying hd]
    · rename_i k' hk
      have hd := hC.bool hi hk
      have hagg : i.isAgg = false := by simp [TI.isAgg, hk, aggK]
      rw [hagg] at hu hv
      obtain ⟨a, xs', hxs⟩ : ∃ a xs', xs = a :: xs' := by cases xs with | nil => simp [sameK] at hx | cons a b => exact ⟨a, b, rfl⟩
      obtain ⟨b, ys', hys⟩ : ∃ a xs', ys = a :: xs' := by cases ys with | nil => simp [sameK] at hy | cons a b => exact ⟨a, b, rfl⟩
      subst hxs; subst hys
      have ex : xs' = [] := by have := sameK_len _ _ hx; simp at this; exact this
      have ey : ys' = [] := by have := sameK_len _ _ hy; simp at this; exact this
      subst ex; subst ey
      cases a <;> simp [sameK] at hx
      all_goals (cases b <;> simp [sameK] at hy)
      all_goals
        simp only [oneOr, Bool.false_eq_true, if_false, List.headD_cons, RepT] at hu hv
        subst hu; subst hv
        simp only [leavesEq, leafEq, Option.some.injEq] at hr
        subst hr
        show (Op.equalIn (n + d + 1) _ _ _).run P w = _
        rw [Op.equalIn]
        simp [run_underlying hd]
    · rename_i k' hk
      have hd := hC.str hi hk
      have hagg : i.isAgg = false := by simp [TI.isAgg, hk, aggK]
      rw [hagg] at hu hv
      obtain ⟨a, xs', hxs⟩ : ∃ a xs', xs = a :: xs' := by cases xs with | nil => simp [sameK] at hx | cons a b => exact ⟨a, b, rfl⟩
      obtain ⟨b, ys', hys⟩ : ∃ a xs', ys = a :: xs' := by cases ys with | nil => simp [sameK] at hy | cons a b => exact ⟨a, b, rfl⟩
      subst hxs; subst hys
      have ex : xs' = [] := by have := sameK_len _ _ hx; simp at this; exact this
      have ey : ys' = [] := by have := sameK_len _ _ hy; simp at this; exact this
      subst ex; subst ey
      cases a <;> simp [sameK] at hx
      cases b <;> simp [sameK] at hy
      simp only [oneOr, Bool.false_eq_true, if_false, List.headD_cons, RepT] at hu hv
      subst hu; subst hv
      simp only [leavesEq, leafEq, Option.some.injEq] at hr
      subst hr
      show (Op.equalIn (n + d + 1) _ _ _).run P w = _
      rw [Op.equalIn]
      simp [run_underlying hd, seqb, beq_toListBytes]
    · rename_i fs z' hk
      obtain ⟨gs, hgs, _⟩ := hC.struct hi hk
      have hagg : i.isAgg = true := by simp [TI.isAgg, hk, aggK]
      rw [hagg] at hu hv
      simp only [oneOr, if_true, RepT] at hu hv
      obtain ⟨us, rfl, hus⟩ := hu
      obtain ⟨vs, rfl, hvs⟩ := hv
      simp only [Bool.and_eq_true, Bool.not_eq_true'] at h
      obtain ⟨hst, hgo⟩ := h
      have hf : P.fieldsOf t = gs := by simp [Program.fieldsOf, hgs]
      show (Op.equalIn (n + d + 1) _ _ _).run P w = _
      rw [run_equalIn_struct (P := P) w (n + d) t us.toArray vs.toArray (by rw [hf]; exact hgs) hst]
      generalize (P.fieldsOf t).toList = fl at hgo
      have key : ∀ (fl : List Field) (off : Nat) (z : List T) (r : Bool), eqOk.go C.ti (eqOk P C.ti d) fl off z = true → sameK z (xs.drop off) = true → sameK z (ys.drop off) = true → leavesEq (xs.drop off) (ys.drop off) = some r →
          (Op.eqFields (n + d) us.toArray vs.toArray fl).run P w = .ok r w := by
        intro fl
        induction fl with
        | nil =>
          intro off z r h1 h2 h3 h4
          simp only [eqOk.go, List.isEmpty_iff] at h1
          subst h1
          have e : xs.drop off = [] := by
            have := sameK_len _ _ h2
            exact List.eq_nil_of_length_eq_zero this.symm
          rw [e] at h4
          obtain ⟨_, rfl⟩ := leavesEq_nil h4
          simp [Op.eqFields]
        | cons g fl ihf =>
          intro off z r h1 h2 h3 h4
          simp only [eqOk.go, Bool.and_eq_true] at h1
          obtain ⟨⟨hn, ho⟩, h1⟩ := h1
          cases hj : C.ti g.type with
          | none => rw [hj] at h1; cases h1
          | some j =>
            rw [hj] at h1
            simp only [Bool.and_eq_true, decide_eq_true_eq] at h1
            obtain ⟨⟨⟨hsz, hck⟩, hle⟩, hgo⟩ := h1
            have hn' : g.name ≠ "_" := by simpa using hn
            have ho' : g.offset = off := by simpa using ho
            have l1 := sameK_len _ _ h2
            have l2 := sameK_len _ _ h3
            simp only [List.length_drop] at l1 l2
            have hlx : off + j.size ≤ us.length := by rw [hus.length]; omega
            have hly : off + j.size ≤ vs.length := by rw [hvs.length]; omega
            obtain ⟨a, p1, p2⟩ := run_part hC hj hsz hlx hus
            obtain ⟨b, q1, q2⟩ := run_part hC hj hsz hly hvs
            obtain ⟨r1, r2, e1, e2, rfl⟩ := leavesEq_split j.size _ _ _ h4
            have hx1 := sameK_take j.size _ _ h2
            have hy1 := sameK_take j.size _ _ h3
            have he := ih g.type _ _ _ j a b r1 hck hj hx1.1 hy1.1 e1 p2 q2
            rw [List.drop_drop] at hx1 hy1 e2
            rw [List.drop_drop] at e2
            have hrest := ihf (off + j.size) _ r2 hgo hx1.2 hy1.2 e2
            rw [Op.eqFields]
            simp only [if_pos hn', Sem.run_bind, ho', p1, q1, he, Result.andThen_ok]
            cases r1
            · simp
            · simpa using hrest
      exact key fl 0 _ r hgo (by simpa using hx) (by simpa using hy) (by simpa using hr)
    · cases h

theorem eqSpec_of (hC : CtxOk P { C with eqs := fun _ => false }) {t : TypeId} {i : TI} (hi : C.ti t = some i) (ha : i.isAgg = true) (h1 : eqOk P C.ti 6 t i.zero = true) (h2 : P.eqGuardType P.depth t = false) : EqSpec P t i.zero := by
  intro w O κ xs ys us vs r hx hy hus hvs hr
  refine ⟨fun op x y => ?_, ?_⟩
  · cases op <;> simp [eqGuard, h2]
  · show (Op.equalIn (9994 + 6) t _ _).run P w = _
    refine equalIn_ok (O := O) (κ := κ) hC 9994 6 t i.zero xs ys i _ _ r h1 hi hx hy hr ?_ ?_
    · rw [ha]; simp only [oneOr, if_true, RepT]; exact ⟨us, rfl, hus⟩
    · rw [ha]; simp only [oneOr, if_true, RepT]; exact ⟨vs, rfl, hvs⟩
end
theorem eqs_all {P : Program} {ti : Nat → Option TI} (hti : ∀ t i, ti t = some i → mkTI P t = some i) (l : List Nat)
    (h : (l.all fun t => match ti t with | some i => i.isAgg && eqOk P ti 6 t i.zero && !P.eqGuardType P.depth t | none => true) = true) : ∀ t i, ti t = some i → l.contains t = true → EqSpec P t i.zero := by
  intro t i hi hl
  have hm : t ∈ l := by simpa using hl
  have := List.all_eq_true.1 h t hm
  rw [hi] at this
  simp only [Bool.and_eq_true, Bool.not_eq_true'] at this
  exact eqSpec_of (C := ⟨ti, fun _ => false, fun _ _ => none, fun _ => none⟩) ⟨hti, fun _ _ _ h => by cases h⟩ hi this.1.1 this.1.2 this.2
end Go.Am
