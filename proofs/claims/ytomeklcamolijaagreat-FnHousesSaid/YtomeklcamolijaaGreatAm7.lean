import Derived.Test.YtomeklcamolijaaGreatAm6
import Derived.Deep.LoopGhost
/- The symbolic machine: regions. -/
set_option linter.unusedVariables false
set_option linter.unusedSimpArgs false
namespace Go.Am
open Go Go.RowKit

/-! ### 1. Two steps in either order -/
theorem opv_setDst {r : List T} {d : Option Nat} {t : T} {x : Operand} (h : ∀ e, d = some e → x ≠ .tmp e) : opv (setDst r d t) x = opv r x := by
  cases d with
  | none => rfl
  | some d =>
    cases x with
    | tmp i =>
      have hne : i ≠ d := fun e => h d rfl (e ▸ rfl)
      simp only [opv, setDst, List.getD_eq_getElem?_getD]
      rw [List.getElem?_set_ne (fun e => hne e.symm)]
    | _ => rfl
theorem getD_setDst {r : List T} {d : Option Nat} {t : T} {i : Nat} (h : ∀ e, d = some e → e ≠ i) : (setDst r d t).getD i .undef = r.getD i .undef := by
  cases d with
  | none => rfl
  | some d =>
    simp only [setDst, List.getD_eq_getElem?_getD]
    rw [List.getElem?_set_ne (h d rfl)]
theorem setDst_comm {r : List T} {d e : Option Nat} {t u : T} (h : ∀ x, d = some x → e ≠ some x) : setDst (setDst r d t) e u = setDst (setDst r e u) d t := by
  cases d with
  | none => rfl
  | some d =>
    cases e with
    | none => rfl
    | some e =>
      have hne : d ≠ e := fun x => h d rfl (x ▸ rfl)
      simp only [setDst]
      exact List.set_comm _ _ hne
theorem look_op {opa : Array Oper} {o : Oper} {d : Nat} (h : d ∉ o.looksAt opa) : ∀ x ∈ o.op.operands, x ≠ .tmp d := by
  rintro x hx rfl
  exact h (List.mem_append_left _ (List.mem_filterMap.2 ⟨.tmp d, by simpa using hx, rfl⟩))
theorem look_guard {ops : List Oper} {o : Oper} {d : Nat} (h : d ∉ o.looksAt ops.toArray) : ∀ j want e, o.guard = some (j, want) → (ops[j]?).bind (·.dst) = some e → d ≠ e := by
  rintro j want e hg he rfl
  exact h (List.mem_append_right _ (by rw [hg]; simp [he]))

theorem disj_spec {a b : List Nat} (h : disj a b = true) : ∀ x ∈ a, x ∉ b := by
  intro x hx
  have := List.all_eq_true.1 h x hx
  simpa using this

theorem swap {C : Ctx} {ops : List Oper} {base k i : Nat} {st st1 st2 : St} {fk fi : FP} (hk : (stepT C ops base k st).val = some (st1, fk)) (hi : (stepT C ops base i st1).val = some (st2, fi))
    (hap : ∀ x y, ops[k]? = some x → ops[i]? = some y → x.apart ops.toArray y = true) (hfp : apartFP fk fi = true) :
    ∃ st1', (stepT C ops base i st).val = some (st1', fi) ∧ (stepT C ops base k st1').val = some (st2, fk) := by
  obtain ⟨ok, tk, wk, nk, sk⟩ := step_val hk
  obtain ⟨oi, ti, wi, ni, si⟩ := step_val hi
  obtain ⟨h1, h2, h3⟩ := Oper.apart_spec (hap ok oi sk.op si.op)
  simp only [apartFP, Bool.and_eq_true] at hfp
  obtain ⟨⟨d1, d2⟩, d3⟩ := hfp
  have e1 := sk.ste
  subst e1
  have hi' := si.local_ st (fun x hx => (opv_setDst (fun e he => look_op (h1 e he) x hx)).symm) (fun j want d hg hd => (getD_setDst (fun e he => look_guard (h1 e he) j want d hg hd)).symm)
    (fun m hm => by
      have : m ∉ fk.wrote := fun hw => disj_spec d1 m hw hm
      rw [sk.fpw] at this
      exact (wrote_ne this).symm)
  refine ⟨_, hi', ?_⟩
  have hk' := sk.local_ ⟨setDst st.regs oi.dst ti, wrote st.heap wi (base + stride * i) ni, st.next⟩ (fun x hx => opv_setDst (fun e he => look_op (h3 e he) x hx)) (fun j want d hg hd => getD_setDst (fun e he => look_guard (h3 e he) j want d hg hd))
    (fun m hm => by
      have : m ∉ fi.wrote := fun hw => disj_spec d2 m hw hm
      rw [si.fpw] at this
      exact wrote_ne this)
  rw [hk', si.ste]
  have e1 : setDst (setDst st.regs oi.dst ti) ok.dst tk = setDst (setDst st.regs ok.dst tk) oi.dst ti := (setDst_comm h2).symm
  have e2 : wrote (wrote st.heap wi (base + stride * i) ni) wk (base + stride * k) nk = wrote (wrote st.heap wk (base + stride * k) nk) wi (base + stride * i) ni := by
    refine (wrote_comm fun j hj => ?_).symm
    rw [← si.fpw]
    exact disj_spec d3 j (by rw [sk.fpw]; exact hj)
  simp only [e1, e2]

theorem stepsT_cons {C : Ctx} {ops : List Oper} {base i : Nat} {r : List Nat} {st st' : St} {fps : List (Nat × FP)} :
    (stepsT C ops base (i :: r) st).val = some (st', fps) ↔ ∃ st1 fp fps', (stepT C ops base i st).val = some (st1, fp) ∧ (stepsT C ops base r st1).val = some (st', fps') ∧ fps = (i, fp) :: fps' := by
  simp only [stepsT, DT.val_bind]
  constructor
  · intro h
    cases h1 : (stepT C ops base i st).val with
    | none => rw [h1] at h; cases h
    | some p =>
      rw [h1] at h
      simp only [Option.bind_some] at h
      cases h2 : (stepsT C ops base r p.1).val with
      | none => rw [h2] at h; cases h
      | some q =>
        rw [h2] at h
        simp only [Option.bind_some, DT.val, Option.some.injEq, Prod.mk.injEq] at h
        obtain ⟨rfl, rfl⟩ := h
        exact ⟨p.1, p.2, q.2, rfl, h2, rfl⟩
  · rintro ⟨st1, fp, fps', h1, h2, rfl⟩
    rw [h1]
    simp only [Option.bind_some]
    rw [h2]
    rfl
theorem stepsT_map {C : Ctx} {ops : List Oper} {base : Nat} : ∀ {l : List Nat} {st st' : St} {fps : List (Nat × FP)}, (stepsT C ops base l st).val = some (st', fps) → fps.map (·.1) = l
  | [], st, st', fps, h => by
    simp only [stepsT, DT.val, Option.some.injEq, Prod.mk.injEq] at h
    rw [← h.2]; rfl
  | i :: r, st, st', fps, h => by
    obtain ⟨st1, fp, fps', h1, h2, rfl⟩ := stepsT_cons.1 h
    simp [stepsT_map h2]

/-- a step that is apart from those ahead of it comes first -/
theorem bubble {C : Ctx} {ops : List Oper} {base i : Nat} {l2 : List Nat} {st' : St} : ∀ (l1 : List Nat) {st : St} {fps : List (Nat × FP)}, (stepsT C ops base (l1 ++ i :: l2) st).val = some (st', fps) →
    ∃ fps1 fi fps2, fps = fps1 ++ (i, fi) :: fps2 ∧ ((∀ p ∈ fps1, (∀ x y, ops[p.1]? = some x → ops[i]? = some y → x.apart ops.toArray y = true) ∧ apartFP p.2 fi = true) →
      ∃ st1, (stepT C ops base i st).val = some (st1, fi) ∧ (stepsT C ops base (l1 ++ l2) st1).val = some (st', fps1 ++ fps2)) ∧ fps1.map (·.1) = l1
  | [], st, fps, h => by
    obtain ⟨st1, fp, fps', h1, h2, rfl⟩ := stepsT_cons.1 h
    exact ⟨[], fp, fps', rfl, fun _ => ⟨st1, h1, h2⟩, rfl⟩
  | k :: l1, st, fps, h => by
    obtain ⟨sta, fk, fps', h1, h2, rfl⟩ := stepsT_cons.1 h
    obtain ⟨fps1, fi, fps2, rfl, h3, h4⟩ := bubble l1 h2
    refine ⟨(k, fk) :: fps1, fi, fps2, rfl, fun hp => ?_, by simp [h4]⟩
    obtain ⟨stb, g1, g2⟩ := h3 fun p hm => hp p (List.mem_cons_of_mem _ hm)
    obtain ⟨a1, a2⟩ := hp (k, fk) (by simp)
    obtain ⟨st1, g3, g4⟩ := swap h1 g1 a1 a2
    exact ⟨st1, g3, stepsT_cons.2 ⟨stb, fk, _, g4, g2, rfl⟩⟩

/-! ### 2. What the checks say -/
theorem maskOf_bit {acc : List Nat} {j : Nat} : ∀ {es : List Edge}, (maskOf acc es).testBit j = true → ∃ e ∈ es, Region.binds .any e = true ∧ (j = e.on ∨ (acc.getD e.on 0).testBit j = true)
  | [], h => by simp [maskOf] at h
  | e :: r, h => by
    unfold maskOf at h
    split at h
    · rename_i hb
      rw [Nat.testBit_or, Nat.testBit_or, Nat.testBit_two_pow] at h
      simp only [Bool.or_eq_true, decide_eq_true_eq] at h
      rcases h with (h | h) | h
      · exact ⟨e, by simp, hb, .inl h.symm⟩
      · exact ⟨e, by simp, hb, .inr h⟩
      · obtain ⟨e', h1, h2⟩ := maskOf_bit h
        exact ⟨e', List.mem_cons_of_mem _ h1, h2⟩
    · obtain ⟨e', h1, h2⟩ := maskOf_bit h
      exact ⟨e', List.mem_cons_of_mem _ h1, h2⟩
theorem befs_take : ∀ (r : List Oper) (acc : List Nat), (befs r acc).take acc.length = acc
  | [], acc => by simp [befs]
  | o :: r, acc => by
    have h := befs_take r (acc ++ [maskOf acc o.after.toList])
    show (befs r (acc ++ [maskOf acc o.after.toList])).take acc.length = acc
    have h2 := congrArg (fun l => l.take acc.length) h
    simp only [List.length_append, List.length_cons, List.length_nil, Nat.zero_add, List.take_take] at h2
    rw [Nat.min_eq_left (by omega)] at h2
    rw [h2]
    simp
theorem befs_get : ∀ (r : List Oper) (acc : List Nat) (k : Nat) (o : Oper), r[k]? = some o → (befs r acc)[acc.length + k]? = some (maskOf ((befs r acc).take (acc.length + k)) o.after.toList)
  | [], acc, k, o, h => by simp at h
  | x :: r, acc, 0, o, h => by
    simp only [List.getElem?_cons_zero, Option.some.injEq] at h
    subst h
    have h1 := befs_take r (acc ++ [maskOf acc x.after.toList])
    have h2 := befs_take (x :: r) acc
    rw [Nat.add_zero, h2]
    show (befs r (acc ++ [maskOf acc x.after.toList]))[acc.length]? = _
    have h3 := congrArg (fun l => l[acc.length]?) h1
    simp only [List.length_append, List.length_cons, List.length_nil, Nat.zero_add] at h3
    rw [List.getElem?_take_of_lt (by omega)] at h3
    rw [h3]
    simp
  | x :: r, acc, k + 1, o, h => by
    simp only [List.getElem?_cons_succ] at h
    have := befs_get r (acc ++ [maskOf acc x.after.toList]) k o h
    simp only [List.length_append, List.length_cons, List.length_nil, Nat.zero_add] at this
    rw [show acc.length + (k + 1) = acc.length + 1 + k by omega]
    exact this
theorem backOk_get : ∀ {l : List Oper} {n : Nat}, backOk n l = true → ∀ k o, l[k]? = some o → ∀ e ∈ o.after.toList, Region.binds .any e = true → e.on < n + k
  | [], _, _, k, o, hk => by simp at hk
  | x :: l, n, h, k, o, hk => by
    simp only [backOk, Bool.and_eq_true] at h
    intro e he hb
    cases k with
    | zero =>
      simp only [List.getElem?_cons_zero, Option.some.injEq] at hk
      subst hk
      have := List.all_eq_true.1 h.1 e he
      simpa [hb] using this
    | succ k =>
      simp only [List.getElem?_cons_succ] at hk
      have := backOk_get h.2 k o hk e he hb
      omega
theorem befs_closed {ops : List Oper} (hb : backOk 0 ops = true) {D : Nat → Prop} (hD : ∀ i o, D i → ops[i]? = some o → ∀ e ∈ o.after.toList, Region.binds .any e = true → D e.on) :
    ∀ (i : Nat) (o : Oper), ops[i]? = some o → (∀ e ∈ o.after.toList, Region.binds .any e = true → D e.on) → ∀ j, ((befs ops []).getD i 0).testBit j = true → D j := by
  intro i
  induction i using Nat.strongRecOn with
  | _ i ih =>
    intro o ho he j hj
    have hg := befs_get ops [] i o ho
    simp only [List.length_nil, Nat.zero_add] at hg
    rw [List.getD_eq_getElem?_getD, hg] at hj
    simp only [Option.getD_some] at hj
    obtain ⟨e, h1, h2, h3⟩ := maskOf_bit hj
    rcases h3 with rfl | h3
    · exact he e h1 h2
    · have hlt := backOk_get hb i o ho e h1 h2
      rw [Nat.zero_add] at hlt
      rw [List.getD_eq_getElem?_getD, List.getElem?_take_of_lt hlt, ← List.getD_eq_getElem?_getD] at h3
      have hil : i < ops.length := (List.getElem?_eq_some_iff.1 ho).1
      have hon : ops[e.on]? = some (ops[e.on]'(by omega)) := List.getElem?_eq_getElem (by omega)
      exact ih e.on hlt _ hon (hD _ _ (he e h1 h2) hon) j h3
theorem apartAll_get {opa : Array Oper} {bs : List Nat} {i : Nat} {x : Oper} : ∀ {l : List Oper} {n : Nat}, apartAll opa bs i x n l = true → ∀ k y, l[k]? = some y → (bs.getD (n + k) 0).testBit i = true ∨ x.apart opa y = true
  | [], _, _, k, y, hk => by simp at hk
  | z :: l, n, h, k, y, hk => by
    simp only [apartAll, Bool.and_eq_true, Bool.or_eq_true] at h
    cases k with
    | zero =>
      simp only [List.getElem?_cons_zero, Option.some.injEq] at hk
      subst hk
      exact h.1
    | succ k =>
      simp only [List.getElem?_cons_succ] at hk
      have := apartAll_get h.2 k y hk
      rwa [show n + 1 + k = n + (k + 1) by omega] at this
theorem pairsOk_get {opa : Array Oper} {bs : List Nat} : ∀ {l : List Oper} {n : Nat}, pairsOk opa bs n l = true → ∀ i j x y, i < j → l[i]? = some x → l[j]? = some y → (bs.getD (n + j) 0).testBit (n + i) = true ∨ x.apart opa y = true
  | [], _, _, i, j, x, y, _, hi, _ => by simp at hi
  | z :: l, n, h, i, j, x, y, hij, hi, hj => by
    simp only [pairsOk, Bool.and_eq_true] at h
    cases j with
    | zero => omega
    | succ j =>
      simp only [List.getElem?_cons_succ] at hj
      cases i with
      | zero =>
        simp only [List.getElem?_cons_zero, Option.some.injEq] at hi
        subst hi
        have := apartAll_get h.1 j y hj
        rwa [show n + 1 + j = n + (j + 1) by omega] at this
      | succ i =>
        simp only [List.getElem?_cons_succ] at hi
        have := pairsOk_get h.2 i j x y (by omega) hi hj
        rwa [show n + 1 + j = n + (j + 1) by omega, show n + 1 + i = n + (i + 1) by omega] at this
theorem freeFP_pair {bs : List Nat} : ∀ {l : List (Nat × FP)}, freeFP bs l = true → l.Pairwise fun p q => (bs.getD q.1 0).testBit p.1 = true ∨ apartFP p.2 q.2 = true
  | [], _ => .nil
  | (i, a) :: r, h => by
    simp only [freeFP, Bool.and_eq_true] at h
    refine .cons (fun p hp => ?_) (freeFP_pair h.2)
    have := List.all_eq_true.1 h.1 p hp
    simpa using this
/-- what saw and wrote nothing comes in any order -/
theorem idle_apart {a b : FP} (h : a.seen = [] ∧ a.wrote = []) : apartFP a b = true ∧ apartFP b a = true := by
  obtain ⟨h1, h2⟩ := h
  unfold apartFP disj
  simp [h1, h2]
theorem busy_not {p : Nat × FP} (h : busyFP p = false) : p.2.seen = [] ∧ p.2.wrote = [] := by
  unfold busyFP at h
  split at h
  · cases h
  · rename_i h1
    split at h
    · cases h
    · rename_i h2; exact ⟨h1, h2⟩
theorem freeB_free {bs : List Nat} : ∀ {l : List (Nat × FP)}, freeB bs l = true → freeFP bs l = true
  | [], _ => rfl
  | (i, a) :: r, h => by
    unfold freeB at h
    simp only [freeFP, Bool.and_eq_true]
    cases hb : busyFP (i, a) with
    | false =>
      rw [List.filter_cons_of_neg (by simp [hb])] at h
      refine ⟨List.all_eq_true.2 fun p _ => ?_, freeB_free h⟩
      simp [(idle_apart (b := p.2) (busy_not hb)).1]
    | true =>
      rw [List.filter_cons_of_pos (by simp [hb])] at h
      simp only [freeFP, Bool.and_eq_true] at h
      refine ⟨List.all_eq_true.2 fun p hp => ?_, freeB_free h.2⟩
      cases hp' : busyFP p with
      | true => exact List.all_eq_true.1 h.1 p (List.mem_filter.2 ⟨hp, hp'⟩)
      | false => simp [(idle_apart (b := a) (busy_not hp')).2]
end Go.Am

/- The symbolic machine: steps and regions over the model. -/
set_option linter.unusedVariables false
set_option linter.unusedSimpArgs false
namespace Go.Am
open Go Go.RowKit

structure Sim (w0 : World) (S A : Nat → Prop) (F : Nat → Option (Value × List Nat)) (κ : Kap) (st : St) (a : Act) (w : World) : Prop where
  hs : HSim w0 S A κ st.heap w
  regs : Regs w (OO A κ st.heap) κ st.regs a.tmps
  defers : a.defers = []
  fixed : ∀ i v L, F i = some (v, L) → a.tmps.getD i undef = v ∧ Good κ (st.regs.getD i .undef) L

section
variable {P : Program} {C : Ctx} {w0 : World} {S A : Nat → Prop} {F : Nat → Option (Value × List Nat)} {κ : Kap} {st : St} {a : Act} {w : World}

theorem put_defers' (a : Act) (d : Option Nat) (v : Value) : (a.put d v).defers = a.defers := by cases d <;> rfl

theorem fixed_put {st : St} {a : Act} {κ κ' : Kap} {d : Option Nat} (hle : κ.le κ') (hd : ∀ e, d = some e → F e = none) (hf : ∀ i v L, F i = some (v, L) → a.tmps.getD i undef = v ∧ Good κ (st.regs.getD i .undef) L) {t : T} {u : Value} :
    ∀ i v L, F i = some (v, L) → (a.put d u).tmps.getD i undef = v ∧ Good κ' ((setDst st.regs d t).getD i .undef) L := by
  intro i v L hi
  obtain ⟨h1, h2⟩ := hf i v L hi
  have hne : ∀ e, d = some e → e ≠ i := by
    rintro e he rfl
    rw [hd e he] at hi; cases hi
  refine ⟨?_, by rw [getD_setDst hne]; exact h2.mono hle⟩
  rw [← h1]
  cases d with
  | none => rfl
  | some d =>
    simp only [Act.put, Array.getD_eq_getD_getElem?, Array.getElem?_setIfInBounds]
    rw [if_neg (hne d rfl)]

theorem settle_rep {w : World} {O : Nat → Prop} {κ : Kap} {g : Bool} {t : T} {v : Value} (hr : RepT w O κ t v) {α : Type} {k : T → DT α} {p : α} (h : (settle g t k).val = some p) : ∃ t', RepT w O κ t' v ∧ (k t').val = some p := by
  unfold settle at h
  cases g
  · exact ⟨t, hr, h⟩
  · simp only [if_true] at h
    cases t <;> simp only [onBool] at h <;> try (cases h; done)
    · rename_i b
      cases b
      · exact ⟨.kb false, by simpa only [RepT] using hr, h⟩
      · exact ⟨.kb true, by simpa only [RepT] using hr, h⟩
    · rename_i b
      cases b
      · exact ⟨.kb false, hr, h⟩
      · exact ⟨.kb true, hr, h⟩

theorem yield_kb {O : Nat → Prop} {ops : List Oper} {j d : Nat} (hrg : Regs w O κ st.regs a.tmps) (hd : (ops[j]?).bind (·.dst) = some d) {b : Bool} (hx : st.regs.getD d .undef = .kb b) : yielded ops.toArray a.tmps j = some b := by
  have h1 := hrg.rep d
  rw [hx] at h1
  simp only [RepT] at h1
  unfold yielded
  have hd' : (ops.toArray[j]?).bind (·.dst) = some d := by simpa using hd
  rw [hd']
  simp only [Option.bind_some]
  rw [Array.getD_eq_getD_getElem?] at h1
  cases h2 : a.tmps[d]? with
  | none => rw [h2] at h1; cases h1
  | some v => rw [h2] at h1; simp only [Option.getD_some] at h1; rw [h1]
theorem yield_nov {O : Nat → Prop} {ops : List Oper} {j d : Nat} (hrg : Regs w O κ st.regs a.tmps) (hd : (ops[j]?).bind (·.dst) = some d) (hx : st.regs.getD d .undef = .nov) : yielded ops.toArray a.tmps j = none := by
  have h1 := hrg.rep d
  rw [hx] at h1
  simp only [RepT] at h1
  unfold yielded
  have hd' : (ops.toArray[j]?).bind (·.dst) = some d := by simpa using hd
  rw [hd']
  simp only [Option.bind_some]
  rw [Array.getD_eq_getD_getElem?] at h1
  cases h2 : a.tmps[d]? with
  | none => rfl
  | some v => rw [h2] at h1; simp only [Option.getD_some] at h1; rw [h1]; rfl

theorem step_sound (hC : CtxOk P C) (hcon : Cons P C) {ops : List Oper} (hfx : ∀ o ∈ ops, ∀ d, o.dst = some d → F d = none) {base i : Nat} {st' : St} {fp : FP} (hs : Sim w0 S A F κ st a w) (hfr : ∀ id, base + stride * i ≤ id → id < base + stride * i + stride → κ id = none)
    (hv : (stepT C ops base i st).val = some (st', fp)) {next : Act → World → Prop} {K : Exit → Act → World → Prop}
    (hn : ∀ κ' a' w', Sim w0 S A F κ' st' a' w' → κ.le κ' → (∀ id, κ' id ≠ none → κ id ≠ none ∨ (base + stride * i ≤ id ∧ id < base + stride * i + stride)) → next a' w') : wpOp P ops.toArray K i next a w := by
  unfold stepT at hv
  cases ho : ops[i]? with
  | none => rw [ho] at hv; cases hv
  | some o =>
    rw [ho] at hv
    dsimp only at hv
    have ho' : ops.toArray[i]? = some o := by simpa using ho
    unfold wpOp
    rw [ho']
    dsimp only
    have go : ((opT C st.regs (restrict st.heap (sees st.heap st.regs o)) (base + stride * i) o).bind fun e =>
        if (e.wr.map (·.1)).all (sees st.heap st.regs o).contains && decide (e.nw.length ≤ stride) then
          settle (guards ops i) e.dst fun t => .ret ({ st with regs := setDst st.regs o.dst t, heap := (st.heap.updAll e.wr).news (base + stride * i) e.nw }, (⟨sees st.heap st.regs o, e.wr.map (·.1) ++ (List.range e.nw.length).map (base + stride * i + ·)⟩ : FP))
        else .fail).val = some (st', fp) → o.wp P a w next K := by
      intro hp
      rw [DT.val_bind] at hp
      cases he : (opT C st.regs (restrict st.heap (sees st.heap st.regs o)) (base + stride * i) o).val with
      | none => rw [he] at hp; cases hp
      | some e =>
        rw [he] at hp
        simp only [Option.bind_some] at hp
        split at hp
        · rename_i hck
          simp only [Bool.and_eq_true, decide_eq_true_eq] at hck
          refine op_sound hC hcon hs.hs (sub_restrict _ _) hs.regs hfr (Q := fun e' => e' = e) (fun e' he' => by subst he'; exact hck.2) (DT.wp_val.2 ⟨e, he, rfl⟩) ?_
          intro e' κ' w' v he' h1 h2 h3 h4 h5
          subst he'
          obtain ⟨t', h6, h7⟩ := settle_rep h5 hp
          injection h7 with h7
          injection h7 with h7 h8
          subst h7
          refine hn κ' _ w' ⟨h1, Regs.put (hs.regs.mono h2 h3) o.dst h6, by rw [put_defers']; exact hs.defers, fixed_put h3 (hfx o (List.mem_of_getElem? ho)) hs.fixed⟩ h3 (fun id hid => ?_)
          rcases h4 id hid with h9 | ⟨h9, h10⟩
          · exact .inl h9
          · exact .inr ⟨h9, by omega⟩
        · cases hp
    have skip : (DT.ret (({ st with regs := setDst st.regs o.dst .nov } : St), (⟨[], []⟩ : FP))).val = some (st', fp) → next (a.put o.dst undef) w := by
      intro hp
      injection hp with hp
      injection hp with h7 h8
      subst h7
      exact hn κ _ w ⟨hs.hs, Regs.put hs.regs o.dst (by simp [RepT]), by rw [put_defers']; exact hs.defers, fixed_put κ.le_refl (hfx o (List.mem_of_getElem? ho)) hs.fixed⟩ κ.le_refl (fun id hid => .inl hid)
    cases hg : o.guard with
    | none =>
      rw [hg] at hv
      have hw : Region.wanted o (yielded ops.toArray a.tmps) = true := by simp [Region.wanted, hg]
      rw [if_pos hw]
      exact .inl (go hv)
    | some gw =>
      obtain ⟨j, want⟩ := gw
      rw [hg] at hv
      dsimp only at hv
      cases hd : (ops[j]?).bind (·.dst) with
      | none => rw [hd] at hv; cases hv
      | some d =>
        rw [hd] at hv
        dsimp only at hv
        cases hx : st.regs.getD d .undef with
        | nov =>
          rw [hx] at hv
          have hw : Region.wanted o (yielded ops.toArray a.tmps) = false := by simp [Region.wanted, hg, yield_nov hs.regs hd hx]
          rw [hw, if_neg (by simp)]
          exact skip hv
        | kb b =>
          rw [hx] at hv
          dsimp only at hv
          have hy := yield_kb hs.regs hd hx
          by_cases hb : b = want
          · rw [if_pos hb] at hv
            have hw : Region.wanted o (yielded ops.toArray a.tmps) = true := by simp [Region.wanted, hg, hy, hb]
            rw [if_pos hw]
            exact .inl (go hv)
          · rw [if_neg hb] at hv
            have hw : Region.wanted o (yielded ops.toArray a.tmps) = false := by simp [Region.wanted, hg, hy, hb]
            rw [hw, if_neg (by simp)]
            exact skip hv
        | _ => rw [hx] at hv; cases hv

theorem stepP_sound (hC : CtxOk P C) (hcon : Cons P C) {ops : List Oper} (hfx : ∀ o ∈ ops, ∀ d, o.dst = some d → F d = none) {base i : Nat} {st' : St} (hs : Sim w0 S A F κ st a w) (hfr : ∀ id, base + stride * i ≤ id → id < base + stride * i + stride → κ id = none)
    (hv : (stepP C ops base i st).val = some st') {next : Act → World → Prop} {K : Exit → Act → World → Prop}
    (hn : ∀ κ' a' w', Sim w0 S A F κ' st' a' w' → κ.le κ' → (∀ id, κ' id ≠ none → κ id ≠ none ∨ (base + stride * i ≤ id ∧ id < base + stride * i + stride)) → next a' w') : wpOp P ops.toArray K i next a w := by
  unfold stepP at hv
  cases ho : ops[i]? with
  | none => rw [ho] at hv; cases hv
  | some o =>
    rw [ho] at hv
    dsimp only at hv
    have ho' : ops.toArray[i]? = some o := by simpa using ho
    unfold wpOp
    rw [ho']
    dsimp only
    have go : ((opT C st.regs st.heap (base + stride * i) o).bind fun e =>
        match decide (e.nw.length ≤ stride) with
        | true => settle (guards ops i) e.dst fun t => .ret { st with regs := setDst st.regs o.dst t, heap := (st.heap.updAll e.wr).news (base + stride * i) e.nw }
        | false => .fail).val = some st' → o.wp P a w next K := by
      intro hp
      rw [DT.val_bind] at hp
      cases he : (opT C st.regs st.heap (base + stride * i) o).val with
      | none => rw [he] at hp; cases hp
      | some e =>
        rw [he] at hp
        simp only [Option.bind_some] at hp
        split at hp
        · rename_i hck
          refine op_sound hC hcon hs.hs (Sub.refl _) hs.regs hfr (Q := fun e' => e' = e) (fun e' he' => by subst he'; exact of_decide_eq_true hck) (DT.wp_val.2 ⟨e, he, rfl⟩) ?_
          intro e' κ' w' v he' h1 h2 h3 h4 h5
          subst he'
          obtain ⟨t', h6, h7⟩ := settle_rep h5 hp
          injection h7 with h7
          subst h7
          refine hn κ' _ w' ⟨h1, Regs.put (hs.regs.mono h2 h3) o.dst h6, by rw [put_defers']; exact hs.defers, fixed_put h3 (hfx o (List.mem_of_getElem? ho)) hs.fixed⟩ h3 (fun id hid => ?_)
          rcases h4 id hid with h9 | ⟨h9, h10⟩
          · exact .inl h9
          · exact .inr ⟨h9, by have := of_decide_eq_true hck; omega⟩
        · cases hp
    have skip : (DT.ret ({ st with regs := setDst st.regs o.dst .nov } : St)).val = some st' → next (a.put o.dst undef) w := by
      intro hp
      injection hp with h7
      subst h7
      exact hn κ _ w ⟨hs.hs, Regs.put hs.regs o.dst (by simp [RepT]), by rw [put_defers']; exact hs.defers, fixed_put κ.le_refl (hfx o (List.mem_of_getElem? ho)) hs.fixed⟩ κ.le_refl (fun id hid => .inl hid)
    cases hg : o.guard with
    | none =>
      rw [hg] at hv
      have hw : Region.wanted o (yielded ops.toArray a.tmps) = true := by simp [Region.wanted, hg]
      rw [if_pos hw]
      exact .inl (go hv)
    | some gw =>
      obtain ⟨j, want⟩ := gw
      rw [hg] at hv
      dsimp only at hv
      cases hd : (ops[j]?).bind (·.dst) with
      | none => rw [hd] at hv; cases hv
      | some d =>
        rw [hd] at hv
        dsimp only at hv
        cases hx : st.regs.getD d .undef with
        | nov =>
          rw [hx] at hv
          have hw : Region.wanted o (yielded ops.toArray a.tmps) = false := by simp [Region.wanted, hg, yield_nov hs.regs hd hx]
          rw [hw, if_neg (by simp)]
          exact skip hv
        | kb b =>
          rw [hx] at hv
          dsimp only at hv
          have hy := yield_kb hs.regs hd hx
          by_cases hb : b = want
          · rw [if_pos hb] at hv
            have hw : Region.wanted o (yielded ops.toArray a.tmps) = true := by simp [Region.wanted, hg, hy, hb]
            rw [if_pos hw]
            exact .inl (go hv)
          · rw [if_neg hb] at hv
            have hw : Region.wanted o (yielded ops.toArray a.tmps) = false := by simp [Region.wanted, hg, hy, hb]
            rw [hw, if_neg (by simp)]
            exact skip hv
        | _ => rw [hx] at hv; cases hv

/-- the numbers of operations to come are free -/
def Free (κ : Kap) (base : Nat) (l : List Nat) : Prop := ∀ i ∈ l, ∀ id, base + stride * i ≤ id → id < base + stride * i + stride → κ id = none
theorem Free.next {κ κ' : Kap} {base i : Nat} {l : List Nat} (hf : Free κ base l) (hk : ∀ id, κ' id ≠ none → κ id ≠ none ∨ (base + stride * i ≤ id ∧ id < base + stride * i + stride)) {l' : List Nat} (hl : ∀ j ∈ l', j ∈ l ∧ j ≠ i) : Free κ' base l' := by
  intro j hj id h1 h2
  obtain ⟨h3, h4⟩ := hl j hj
  by_cases hn : κ' id = none
  · exact hn
  · rcases hk id hn with h5 | ⟨h5, h6⟩
    · exact absurd (hf j h3 id h1 h2) h5
    · exfalso
      have hst : stride = 32 := rfl
      rw [hst] at h1 h2 h5 h6
      omega

/-- in the order of the text -/
theorem steps_sound (hC : CtxOk P C) (hcon : Cons P C) {ops : List Oper} (hfx : ∀ o ∈ ops, ∀ d, o.dst = some d → F d = none) {base : Nat} {st' : St} {K : Exit → Act → World → Prop} : ∀ (l : List Nat) {κ : Kap} {st : St} {a : Act} {w : World} {fps : List (Nat × FP)}, l.Nodup → Sim w0 S A F κ st a w → Free κ base l →
    (stepsT C ops base l st).val = some (st', fps) →
    (∀ κ' a' w', Sim w0 S A F κ' st' a' w' → κ.le κ' → (∀ id, κ' id ≠ none → κ id ≠ none ∨ ∃ i ∈ l, base + stride * i ≤ id ∧ id < base + stride * i + stride) → K .normal a' w') → wpOps P ops.toArray K l a w
  | [], κ, st, a, w, fps, hnd, hs, hf, hv, hn => by
    simp only [stepsT, DT.val, Option.some.injEq, Prod.mk.injEq] at hv
    obtain ⟨rfl, _⟩ := hv
    exact hn κ a w hs κ.le_refl (fun id h => .inl h)
  | i :: r, κ, st, a, w, fps, hnd, hs, hf, hv, hn => by
    obtain ⟨st1, fp, fps', h1, h2, rfl⟩ := stepsT_cons.1 hv
    rw [List.nodup_cons] at hnd
    rw [wpOps_cons]
    refine step_sound hC hcon hfx hs (hf i (by simp)) h1 fun κ1 a1 w1 hs1 hle1 hk1 => ?_
    refine steps_sound hC hcon hfx r hnd.2 hs1 (hf.next hk1 fun j hj => ⟨List.mem_cons_of_mem _ hj, fun e => hnd.1 (e ▸ hj)⟩) h2 fun κ2 a2 w2 hs2 hle2 hk2 => ?_
    refine hn κ2 a2 w2 hs2 (Kap.le_trans hle1 hle2) fun id hid => ?_
    rcases hk2 id hid with h3 | ⟨j, hj, h3⟩
    · rcases hk1 id h3 with h4 | h4
      · exact .inl h4
      · exact .inr ⟨i, by simp, h4⟩
    · exact .inr ⟨j, List.mem_cons_of_mem _ hj, h3⟩

theorem stepsP_cons {ops : List Oper} {base i : Nat} {r : List Nat} {st st' : St} (h : (stepsP C ops base (i :: r) st).val = some st') : ∃ st1, (stepP C ops base i st).val = some st1 ∧ (stepsP C ops base r st1).val = some st' := by
  simp only [stepsP, DT.val_bind] at h
  cases hs : (stepP C ops base i st).val with
  | none => rw [hs] at h; cases h
  | some st1 => rw [hs] at h; exact ⟨st1, rfl, h⟩
theorem stepsP_sound (hC : CtxOk P C) (hcon : Cons P C) {ops : List Oper} (hfx : ∀ o ∈ ops, ∀ d, o.dst = some d → F d = none) {base : Nat} {st' : St} {K : Exit → Act → World → Prop} : ∀ (l : List Nat) {κ : Kap} {st : St} {a : Act} {w : World}, l.Nodup → Sim w0 S A F κ st a w → Free κ base l →
    (stepsP C ops base l st).val = some st' →
    (∀ κ' a' w', Sim w0 S A F κ' st' a' w' → κ.le κ' → (∀ id, κ' id ≠ none → κ id ≠ none ∨ ∃ i ∈ l, base + stride * i ≤ id ∧ id < base + stride * i + stride) → K .normal a' w') → wpOps P ops.toArray K l a w
  | [], κ, st, a, w, hnd, hs, hf, hv, hn => by
    simp only [stepsP, DT.val, Option.some.injEq] at hv
    subst hv
    exact hn κ a w hs κ.le_refl (fun id h => .inl h)
  | i :: r, κ, st, a, w, hnd, hs, hf, hv, hn => by
    obtain ⟨st1, h1, h2⟩ := stepsP_cons hv
    rw [List.nodup_cons] at hnd
    rw [wpOps_cons]
    refine stepP_sound hC hcon hfx hs (hf i (by simp)) h1 fun κ1 a1 w1 hs1 hle1 hk1 => ?_
    refine stepsP_sound hC hcon hfx r hnd.2 hs1 (hf.next hk1 fun j hj => ⟨List.mem_cons_of_mem _ hj, fun e => hnd.1 (e ▸ hj)⟩) h2 fun κ2 a2 w2 hs2 hle2 hk2 => ?_
    refine hn κ2 a2 w2 hs2 (Kap.le_trans hle1 hle2) fun id hid => ?_
    rcases hk2 id hid with h3 | ⟨j, hj, h3⟩
    · rcases hk1 id h3 with h4 | h4
      · exact .inl h4
      · exact .inr ⟨i, by simp, h4⟩
    · exact .inr ⟨j, List.mem_cons_of_mem _ hj, h3⟩

theorem mem_ready {ops : List Oper} {listed : Array Bool} {i : Nat} : i ∈ Region.ready .any ops.toArray listed ↔ ∃ o, ops[i]? = some o ∧ listed.getD i true = false ∧ ∀ e ∈ o.after.toList, Region.binds .any e = true → listed.getD e.on false = true := by
  unfold Region.ready
  simp only [List.mem_filter, List.mem_range, Bool.and_eq_true, Bool.not_eq_true', List.size_toArray, List.getElem?_toArray]
  constructor
  · rintro ⟨h1, h2, h3⟩
    refine ⟨ops[i], List.getElem?_eq_getElem h1, h2, fun e he hb => ?_⟩
    rw [List.getElem?_eq_getElem h1] at h3
    simp only [Option.map_some, Option.getD_some] at h3
    have := Array.all_eq_true'.1 h3 e (Array.mem_toList_iff.1 he)
    simpa [hb] using this
  · rintro ⟨o, h1, h2, h3⟩
    refine ⟨(List.getElem?_eq_some_iff.1 h1).1, h2, ?_⟩
    rw [h1]
    simp only [Option.map_some, Option.getD_some]
    refine Array.all_eq_true'.2 fun e he => ?_
    cases hb : Region.binds .any e
    · rfl
    · simpa [hb] using h3 e (Array.mem_toList_iff.2 he) hb

/-- in any order -/
theorem any_sound (hC : CtxOk P C) (hcon : Cons P C) {ops : List Oper} (hfx : ∀ o ∈ ops, ∀ d, o.dst = some d → F d = none) (hok : orderOk ops (befs ops []) = true) {base : Nat} {st' : St} {K : Exit → Act → World → Prop} : ∀ (fuel : Nat) (l : List Nat) {listed : Array Bool} {κ : Kap} {st : St} {a : Act} {w : World} {fps : List (Nat × FP)},
    l.length ≤ fuel → l.Pairwise (· < ·) → listed.size = ops.length → (∀ i, i < ops.length → (listed.getD i true = true ↔ i ∉ l)) → (∀ i ∈ l, i < ops.length) →
    (∀ i o, i ∉ l → ops[i]? = some o → ∀ e ∈ o.after.toList, Region.binds .any e = true → e.on ∉ l) → Sim w0 S A F κ st a w → Free κ base l →
    (stepsT C ops base l st).val = some (st', fps) → (fps.Pairwise fun p q => ((befs ops []).getD q.1 0).testBit p.1 = true ∨ apartFP p.2 q.2 = true) →
    (∀ κ' a' w', Sim w0 S A F κ' st' a' w' → κ.le κ' → (∀ id, κ' id ≠ none → κ id ≠ none ∨ ∃ i ∈ l, base + stride * i ≤ id ∧ id < base + stride * i + stride) → K .normal a' w') → wpAny P .any ops.toArray K fuel listed a w := by
  simp only [orderOk, Bool.and_eq_true] at hok
  obtain ⟨hok1, hok2⟩ := hok
  intro fuel
  induction fuel with
  | zero =>
    intro l listed κ st a w fps hl hp hsz hli hlt hcl hs hf hv hfp hn
    have e : l = [] := List.eq_nil_of_length_eq_zero (by omega)
    subst e
    simp only [stepsT, DT.val, Option.some.injEq, Prod.mk.injEq] at hv
    obtain ⟨rfl, _⟩ := hv
    refine ⟨?_, hn κ a w hs κ.le_refl (fun id h => .inl h)⟩
    rw [List.eq_nil_iff_forall_not_mem]
    intro i hi
    obtain ⟨o, h1, h2, _⟩ := mem_ready.1 hi
    have := (hli i (List.getElem?_eq_some_iff.1 h1).1).2 (by simp)
    rw [h2] at this; cases this
  | succ fuel ih =>
    intro l listed κ st a w fps hl hp hsz hli hlt hcl hs hf hv hfp hn
    have hdir : ∀ i ∈ Region.ready .any ops.toArray listed, ∃ o, ops[i]? = some o ∧ i ∈ l ∧ ∀ e ∈ o.after.toList, Region.binds .any e = true → e.on ∉ l := by
      intro i hi
      obtain ⟨o, h1, h2, h3⟩ := mem_ready.1 hi
      have hil := (List.getElem?_eq_some_iff.1 h1).1
      refine ⟨o, h1, ?_, fun e he hb hm => ?_⟩
      · by_cases c : i ∈ l
        · exact c
        · have := (hli i hil).2 c; rw [h2] at this; cases this
      · have h4 := h3 e he hb
        have h5 := hlt e.on hm
        have h6 : listed.getD e.on true = true := by
          simp only [Array.getD_eq_getD_getElem?] at h4 ⊢
          rw [Array.getElem?_eq_getElem (by omega)] at h4 ⊢
          simpa using h4
        exact (hli e.on h5).1 h6 hm
    refine ⟨fun hr => ?_, fun i hi => ?_⟩
    · cases l with
      | nil =>
        simp only [stepsT, DT.val, Option.some.injEq, Prod.mk.injEq] at hv
        obtain ⟨rfl, _⟩ := hv
        exact hn κ a w hs κ.le_refl (fun id h => .inl h)
      | cons i r =>
        exfalso
        have hil := hlt i (by simp)
        have hm : i ∈ Region.ready .any ops.toArray listed := by
          refine mem_ready.2 ⟨ops[i], List.getElem?_eq_getElem hil, ?_, fun e he hb => ?_⟩
          · cases hc : listed.getD i true with
            | false => rfl
            | true => exact absurd (by simp) ((hli i hil).1 hc)
          · have h1 := backOk_get hok1 i _ (List.getElem?_eq_getElem hil) e he hb
            rw [Nat.zero_add] at h1
            have h2 : e.on ∉ i :: r := by
              rw [List.pairwise_cons] at hp
              intro hm
              rcases List.mem_cons.1 hm with h3 | h3
              · omega
              · have := hp.1 _ h3; omega
            have h3 := (hli e.on (by omega)).2 h2
            simp only [Array.getD_eq_getD_getElem?] at h3 ⊢
            rw [Array.getElem?_eq_getElem (by omega)] at h3 ⊢
            simpa using h3
        rw [hr] at hm; cases hm
    · obtain ⟨o, ho, hil, hpre⟩ := hdir i hi
      obtain ⟨l1, l2, rfl⟩ := List.append_of_mem hil
      obtain ⟨fps1, fi, fps2, rfl, h1, h2⟩ := bubble l1 hv
      have hbit : ∀ k ∈ l1, ((befs ops []).getD i 0).testBit k = false := by
        intro k hk
        cases hb : ((befs ops []).getD i 0).testBit k with
        | false => rfl
        | true => exact absurd (List.mem_append_left _ hk) (befs_closed hok1 (D := fun j => j ∉ l1 ++ i :: l2) hcl i o ho hpre k hb)
      have hlt1 : ∀ k ∈ l1, k < i := fun k hk => (List.pairwise_append.1 hp).2.2 k hk i (by simp)
      obtain ⟨st1, h3, h4⟩ := h1 fun p hpm => by
        have hpl : p.1 ∈ l1 := by rw [← h2]; exact List.mem_map.2 ⟨p, hpm, rfl⟩
        refine ⟨fun x y hx hy => ?_, ?_⟩
        · have := pairsOk_get hok2 p.1 i x y (hlt1 _ hpl) hx hy
          simp only [Nat.zero_add] at this
          rcases this with h5 | h5
          · rw [hbit _ hpl] at h5; cases h5
          · exact h5
        · have := (List.pairwise_append.1 hfp).2.2 p hpm (i, fi) (by simp)
          rcases this with h5 | h5
          · rw [hbit _ hpl] at h5; cases h5
          · exact h5
      have hsub : ∀ j, j ∈ l1 ++ l2 → j ∈ l1 ++ i :: l2 := fun j hj => by
        rcases List.mem_append.1 hj with h5 | h5
        · exact List.mem_append_left _ h5
        · exact List.mem_append_right _ (List.mem_cons_of_mem _ h5)
      have hnd : (l1 ++ i :: l2).Nodup := hp.imp (fun h => Nat.ne_of_lt h)
      have hni : i ∉ l1 ++ l2 := by
        have h5 := List.nodup_append.1 hnd
        have h6 := List.nodup_cons.1 h5.2.1
        intro hm
        rcases List.mem_append.1 hm with h7 | h7
        · exact h5.2.2 i h7 i (by simp) rfl
        · exact h6.1 h7
      have hmem : ∀ j, j ∈ l1 ++ i :: l2 ↔ j ∈ l1 ++ l2 ∨ j = i := fun j => by
        simp only [List.mem_append, List.mem_cons]
        constructor
        · rintro (h | h | h)
          · exact .inl (.inl h)
          · exact .inr h
          · exact .inl (.inr h)
        · rintro ((h | h) | h)
          · exact .inl h
          · exact .inr (.inr h)
          · exact .inr (.inl h)
      refine step_sound hC hcon hfx hs (hf i hil) h3 fun κ1 a1 w1 hs1 hle1 hk1 => ?_
      have hsl : (l1 ++ l2).Sublist (l1 ++ i :: l2) := List.Sublist.append (List.Sublist.refl _) (List.sublist_cons_self _ _)
      refine ih (l1 ++ l2) (by simp at hl ⊢; omega) (hp.sublist hsl) (by simpa using hsz) (fun j hj => ?_) (fun j hj => hlt j (hsub j hj)) (fun j oj hj hoj e he hb hm => ?_) hs1
        (hf.next hk1 fun j hj => ⟨hsub j hj, fun e => hni (e ▸ hj)⟩) h4 (hfp.sublist (List.Sublist.append (List.Sublist.refl _) (List.sublist_cons_self _ _))) fun κ2 a2 w2 hs2 hle2 hk2 => ?_
      · by_cases e : j = i
        · subst e
          simp only [Array.getD_eq_getD_getElem?, Array.getElem?_setIfInBounds]
          simp [hsz, hj, hni]
        · have : (listed.setIfInBounds i true).getD j true = listed.getD j true := by
            simp only [Array.getD_eq_getD_getElem?, Array.getElem?_setIfInBounds]
            rw [if_neg (fun h => e h.symm)]
          rw [this, hli j hj, hmem j]
          exact ⟨fun h hm => h (.inl hm), fun h hm => hm.elim h e⟩
      · by_cases e1 : j = i
        · subst e1
          rw [ho] at hoj; injection hoj with hoj; subst hoj
          exact hpre e he hb (hsub _ hm)
        · exact hcl j oj (fun h5 => ((hmem j).1 h5).elim hj e1) hoj e he hb (hsub _ hm)
      · refine hn κ2 a2 w2 hs2 (Kap.le_trans hle1 hle2) fun id hid => ?_
        rcases hk2 id hid with h5 | ⟨j, hj, h5⟩
        · rcases hk1 id h5 with h6 | h6
          · exact .inl h6
          · exact .inr ⟨i, hil, h6⟩
        · exact .inr ⟨j, hsub j hj, h5⟩

theorem Sim.drew (hs : Sim w0 S A F κ st a w) : Sim w0 S A F κ st a { w with drawn := w.drawn + 1 } :=
  ⟨hs.hs.drew, hs.regs.mono (ext_drew w _) κ.le_refl, hs.defers, hs.fixed⟩

theorem region_sound (hC : CtxOk P C) (hcon : Cons P C) (hm : P.follows .mixedOrders = true) {id : Nat} {ops : Array Oper} (hfx : ∀ o ∈ ops.toList, ∀ d, o.dst = some d → F d = none) {draw : Bool} (hs : Sim w0 S A F κ st a w) (hfr : ∀ id, st.next ≤ id → κ id = none)
    {Qs : St → Prop} (hq : (regionT C ops.toList draw st).wp Qs) {K : Exit → Act → World → Prop}
    (hn : ∀ κ' st' a' w', Qs st' → Sim w0 S A F κ' st' a' w' → κ.le κ' → (∀ id, st'.next ≤ id → κ' id = none) → K .normal a' w') : (Code.region id ops draw).wp P K a w := by
  have harr : ops.toList.toArray = ops := by simp
  have hfree : ∀ l, Free κ st.next l := fun l i _ id h1 _ => hfr id (by omega)
  have hend : ∀ (st' : St), Qs { st' with next := st.next + stride * ops.toList.length } → ∀ κ' a' w', Sim w0 S A F κ' st' a' w' → κ.le κ' → (∀ id, κ' id ≠ none → κ id ≠ none ∨ ∃ i ∈ List.range ops.toList.length, st.next + stride * i ≤ id ∧ id < st.next + stride * i + stride) → K .normal a' w' := by
    intro st' hQ κ' a' w' hs' hle hk
    refine hn κ' _ a' w' hQ ⟨hs'.hs, hs'.regs, hs'.defers, hs'.fixed⟩ hle fun id hid => ?_
    by_cases hc : κ' id = none
    · exact hc
    · exfalso
      dsimp only at hid
      rcases hk id hc with h1 | ⟨i, hi, h1, h2⟩
      · exact h1 (hfr id (by omega))
      · rw [List.mem_range] at hi
        have : stride * i + stride ≤ stride * ops.toList.length := by
          rw [show stride * i + stride = stride * (i + 1) by rw [Nat.mul_add, Nat.mul_one]]
          exact Nat.mul_le_mul_left _ hi
        omega
  unfold regionT at hq
  cases draw with
  | false =>
    dsimp only at hq
    rw [DT.wp_bind] at hq
    obtain ⟨st', hv, hq⟩ := DT.wp_val.1 hq
    refine wp_region ?_
    have := stepsP_sound (K := K) hC hcon hfx (List.range ops.toList.length) List.nodup_range hs (hfree _) hv (hend st' hq)
    rw [harr] at this
    simpa using this
  | true =>
    dsimp only at hq
    cases hu : unruly ops.toList true with
    | true => rw [hu] at hq; exact hq.elim
    | false =>
    rw [hu] at hq
    dsimp only at hq
    rw [DT.wp_bind] at hq
    obtain ⟨p, hv, hq⟩ := DT.wp_val.1 hq
    obtain ⟨st', fps⟩ := p
    dsimp only at hq
    split at hq
    · rename_i hck1
      have hck : orderOk ops.toList (befs ops.toList []) = true ∧ freeFP (befs ops.toList []) fps = true := by
        refine ⟨?_, freeB_free hck1⟩
        unfold unruly at hu
        simpa using hu
      refine wp_region_any hm ?_
      have := any_sound (K := K) hC hcon hfx hck.1 ops.toList.length (List.range ops.toList.length) (listed := Array.replicate ops.toList.length false) (by simp) List.pairwise_lt_range (by simp)
        (fun i hi => by
          have hi' : i < ops.size := by simpa using hi
          simp [Array.getD_eq_getD_getElem?, Array.getElem?_replicate, hi']) (fun i hi => by simpa using hi) (fun i o hi ho => absurd (List.mem_range.2 (List.getElem?_eq_some_iff.1 ho).1) hi)
        hs.drew (hfree _) hv (freeFP_pair hck.2) (hend st' hq)
      rw [harr] at this
      simpa using this
    · exact hq.elim
end
end Go.Am

/- The symbolic machine: code. -/
set_option linter.unusedVariables false
set_option linter.unusedSimpArgs false
namespace Go.Am
open Go Go.RowKit

/-! ### 1. A state that is made anew -/
theorem putAs_idx : ∀ (as : List AK) {n : Nat} {x : AXs as} {k : Nat} {t : T}, (putAs n as x).1[k]? = some t → ∃ a m y, as[k]? = some a ∧ t = (putA m a y).1
  | [], n, x, k, t, h => by simp [putAs] at h
  | [a], n, x, k, t, h => by
    have h' : [(putA n a x).1][k]? = some t := h
    cases k with
    | zero => simp only [List.getElem?_cons_zero, Option.some.injEq] at h'; exact ⟨a, n, x, rfl, h'.symm⟩
    | succ k => simp at h'
  | a :: b :: as, n, x, k, t, h => by
    have h' : ((putA n a x.1).1 :: (putAs (n + (putA n a x.1).2.length) (b :: as) x.2).1)[k]? = some t := h
    cases k with
    | zero => simp only [List.getElem?_cons_zero, Option.some.injEq] at h'; exact ⟨a, n, x.1, rfl, h'.symm⟩
    | succ k =>
      simp only [List.getElem?_cons_succ] at h' ⊢
      exact putAs_idx (b :: as) h'
theorem putAs_len : ∀ (as : List AK) {n : Nat} {x : AXs as}, (putAs n as x).1.length = as.length
  | [], _, _ => rfl
  | [a], _, _ => rfl
  | a :: b :: as, n, x => by
    show ((putA n a x.1).1 :: (putAs (n + (putA n a x.1).2.length) (b :: as) x.2).1).length = _
    simp [putAs_len (b :: as)]

/-- a kind whose value may be written through -/
def liveK : AK → Bool
  | .one (.own _) => true | .box _ => true | .fnb _ _ => true | _ => false
theorem dead_put {a : AK} {n : Nat} {x : a.X} (h : liveK a = false) : uIdT (putA n a x).1 = none ∧ (putA n a x).1 ≠ .z := by
  cases a with
  | one c =>
    cases c with
    | val t =>
      show uIdT ((enc t x).headD .undef) = none ∧ (enc t x).headD .undef ≠ .z
      cases he : enc t x with
      | nil => exact ⟨rfl, by simp⟩
      | cons u r => exact enc_dead t x u (by rw [he]; simp)
    | own e => cases h
  | agg cs => exact ⟨rfl, by simp [putA]⟩
  | box cs => cases h
  | fnb g cs => cases h
  | fn g cs => exact ⟨uIdT_fn, by simp [putA]⟩
theorem takeA_live {hr : Heap} {a : AK} {t : T} {x : a.X} {own seen : List Nat} (hl : liveK a = true) (ht : takeA hr a t = some (x, own, seen)) : t = .z ∨ (∃ id, t = .ow id ∧ own = [id]) ∨ (∃ id r, t = .ptr id 0 ∧ own = id :: r) ∨ ∃ g id r, t = .fn g [.ptr id 0] ∧ own = id :: r := by
  cases a with
  | one c =>
    cases c with
    | val t => cases hl
    | own e =>
      cases t with
      | ow id => exact .inr (.inl ⟨id, rfl, takeA_uid (a := .one (.own e)) ht rfl⟩)
      | z => exact .inl rfl
      | _ => simp [takeA, takeC] at ht
  | agg cs => cases hl
  | fn g cs => cases hl
  | box cs =>
    cases t with
    | ptr id off =>
      cases off with
      | succ n => simp [takeA] at ht
      | zero =>
        simp only [takeA] at ht
        cases hb : hr id with
        | box l =>
          simp only [hb] at ht
          split at ht
          · have ht := Option.some.inj ht
            exact .inr (.inr (.inl ⟨id, _, rfl, (congrArg (fun p => p.2.1) ht).symm⟩))
          · cases ht
        | _ => simp only [hb] at ht; cases ht
    | _ => simp [takeA] at ht
  | fnb g cs =>
    rw [takeA_fnb] at ht
    obtain ⟨id, hid⟩ := takeA_box_ptr ht
    have ht2 := unFn_ptr hid
    rw [hid] at ht
    simp only [takeA] at ht
    cases hb : hr id with
    | box l =>
      simp only [hb] at ht
      split at ht
      · have ht := Option.some.inj ht
        exact .inr (.inr (.inr ⟨g, id, _, ht2, (congrArg (fun p => p.2.1) ht).symm⟩))
      · cases ht
    | _ => simp only [hb] at ht; cases ht

theorem putRegs_len : ∀ (ks : List (Nat × AK)) (ts r : List T), (putRegs ks ts r).length = r.length
  | [], _, _ => rfl
  | k :: ks, [], _ => rfl
  | k :: ks, t :: ts, r => by
    show (putRegs ks ts (r.set k.1 t)).length = _
    rw [putRegs_len ks ts]; simp
theorem putRegs_get : ∀ (ks : List (Nat × AK)) (ts r : List T) (i : Nat), (putRegs ks ts r).getD i .undef = r.getD i .undef ∨ ∃ (k : Nat) (p : Nat × AK) (t : T), ks[k]? = some p ∧ p.1 = i ∧ ts[k]? = some t ∧ (putRegs ks ts r).getD i .undef = t
  | [], _, _, _ => .inl rfl
  | k :: ks, [], _, _ => .inl rfl
  | p :: ks, t :: ts, r, i => by
    have e0 : putRegs (p :: ks) (t :: ts) r = putRegs ks ts (r.set p.1 t) := rfl
    rw [e0]
    rcases putRegs_get ks ts (r.set p.1 t) i with h | ⟨k, q, u, h1, h2, h3, h4⟩
    · by_cases e : p.1 = i
      · by_cases hl : i < r.length
        · refine .inr ⟨0, p, t, by simp, e, by simp, ?_⟩
          rw [h, List.getD_eq_getElem?_getD, e, List.getElem?_set_self hl]; rfl
        · left
          rw [h, List.getD_eq_getElem?_getD, List.getD_eq_getElem?_getD, List.getElem?_eq_none (by simp; omega), List.getElem?_eq_none (by omega)]
      · left
        rw [h, List.getD_eq_getElem?_getD, List.getElem?_set_ne e, ← List.getD_eq_getElem?_getD]
    · exact .inr ⟨k + 1, q, u, h1, h2, h3, h4⟩

section
variable {P : Program} {C : Ctx} {w0 : World} {S A : Nat → Prop} {F : Nat → Option (Value × List Nat)} {κ : Kap} {st : St} {a : Act} {w : World}

theorem take_facts {h hr : Heap} (H : HSim w0 S A κ h w) (hs : Sub hr h) {own seen : List Nat} (hlive : ∀ i ∈ own, (h i).live = true) (hdis : ∀ i ∈ seen, i ∉ own) :
    Looks κ hr h A (fun b => A b ∨ b ∈ blocks κ own) seen ∧ (∀ b ∈ blocks κ own, Own κ h b) := by
  have hLown : ∀ b ∈ blocks κ own, Own κ h b := fun b hb => by
    obtain ⟨i, hi, v, h1⟩ := mem_blocks.1 hb
    exact ⟨i, v, hlive i hi, h1⟩
  refine ⟨⟨fun b hb => hb.imp _root_.id (hLown b), fun id hid e xs v b h1 h2 hb => ?_⟩, hLown⟩
  have hl : (h id).live = true := by rw [hs.get h1 (by simp)]; rfl
  rcases hb with hb | hb
  · exact (H.own b ⟨id, v, hl, h2⟩).1 hb
  · obtain ⟨j, hj, u, h3⟩ := mem_blocks.1 hb
    have := H.inj id j v u b hl (hlive j hj) h2 h3
    subst this
    exact hdis id hid hj

theorem reps_at {O : Nat → Prop} (hrg : Regs w O κ st.regs a.tmps) : ∀ (ks : List (Nat × AK)), RepTs w O κ (atRegs st.regs ks) (ks.map fun k => a.tmps.getD k.1 undef)
  | [] => RepTs.nil
  | k :: ks => RepTs.cons (hrg.rep k.1) (reps_at hrg ks)

theorem empty_sim (hA : ∀ b, A b → b < w.heap.size) (hF : Fr w0 S w) {L : List Nat} (hL : ∀ b ∈ L, b < w.heap.size) : HSim w0 S (fun b => A b ∨ b ∈ L) (fun _ => none) (fun _ => .none) w ∧ OO (fun b => A b ∨ b ∈ L) (fun _ => none) (fun _ => .none) = fun b => A b ∨ b ∈ L := by
  refine ⟨⟨fun _ => trivial, fun i j v u b h1 => by simp [B.live] at h1, fun id L n c b h => (by cases h), fun b hb => ?_, fun b hb => hb.elim (hA b) (hL b), fun _ _ _ h => (by cases h), fun _ _ _ h => (by cases h), hF⟩, ?_⟩
  · obtain ⟨id, v, h1, _⟩ := hb; simp [B.live] at h1
  · funext b
    apply propext
    exact ⟨fun h => h.elim _root_.id (fun ⟨id, v, h1, _⟩ => by simp [B.live] at h1), .inl⟩

theorem restart (hs : Sim w0 S A F κ st a w) {ks : List (Nat × AK)} {x : AXs (ks.map (·.2))} (hv : (takeSt ks st).val = some x) :
    ∃ κ', Sim w0 S A F κ' (stOf st.regs.length ks x) a w ∧ ∀ id, (stOf st.regs.length ks x).next ≤ id → κ' id = none := by
  unfold takeSt at hv
  cases ht : takeAs st.heap (ks.map (·.2)) (atRegs st.regs ks) with
  | none => rw [ht] at hv; cases hv
  | some p =>
    obtain ⟨y, own, seen⟩ := p
    rw [ht] at hv
    dsimp only at hv
    split at hv
    · rename_i hck
      injection hv with hv
      subst hv
      rw [Bool.and_eq_true] at hck
      have hown := nodup_of hck.1
      have hdis : ∀ i ∈ seen, i ∉ own := by
        intro i hi
        have := List.all_eq_true.1 hck.2 i hi
        simpa using this
      have hreps := reps_at hs.regs ks
      obtain ⟨_, _, _, q3, _, _⟩ := takeAs_sound hs.hs (Sub.refl _) (O1 := fun _ => False) _ ht ⟨fun _ hf => hf.elim, fun _ _ _ _ _ _ _ _ hf => hf⟩ hreps
      obtain ⟨hlk, hLown⟩ := take_facts hs.hs (Sub.refl _) q3 hdis
      obtain ⟨owns, q1, q2, _, _, q5⟩ := takeAs_sound hs.hs (Sub.refl _) _ ht hlk hreps
      have hfl : (owns.map (blocks κ)).flatten = blocks κ own := by rw [flatten_blocks, q1]
      obtain ⟨H0, o0⟩ := empty_sim hs.hs.abnd hs.hs.frame (L := blocks κ own) (fun b hb => (hs.hs.own b (hLown b hb)).2.1)
      obtain ⟨κ', hp, hrep, hgood⟩ := putAs_sound (ks.map (·.2)) H0 (n := 0) (x := y) (fun _ _ _ => rfl) (by rw [o0]; exact q2) (fun b hb => by
        rw [hfl] at hb
        exact ⟨.inr hb, (hs.hs.own b (hLown b hb)).2.2⟩) (by rw [hfl]; exact blocks_nodup hs.hs hown q3)
      have eA : (fun b => (A b ∨ b ∈ blocks κ own) ∧ b ∉ (owns.map (blocks κ)).flatten) = A := by
        rw [hfl]
        funext b
        apply propext
        exact ⟨fun h => h.1.elim _root_.id (fun hm => absurd hm h.2), fun h => ⟨.inl h, fun hm => (hs.hs.own b (hLown b hm)).1 h⟩⟩
      have hh := hp.hsim
      have ho := hp.oo
      rw [eA] at hh ho
      refine ⟨κ', ⟨hh, ⟨?_, fun i => ?_⟩, hs.defers, fun i v L hi => ?_⟩, fun id hid => ?_⟩
      · show a.tmps.size = (putRegs ks _ _).length
        rw [putRegs_len, List.length_replicate]
        exact hs.regs.size
      · have ho' : OO A κ' (stOf st.regs.length ks y).heap = fun b => A b ∨ b ∈ blocks κ own := ho.trans o0
        rw [o0] at hrep
        rw [ho']
        rcases putRegs_get ks (putAs 0 (ks.map (·.2)) y).1 (List.replicate st.regs.length .undef) i with h | ⟨k, p, t, h1, h2, h3, h4⟩
        · show RepT _ _ _ ((putRegs ks (putAs 0 (ks.map (·.2)) y).1 (List.replicate st.regs.length .undef)).getD i .undef) _
          rw [h]
          have : (List.replicate st.regs.length T.undef).getD i .undef = .undef := by
            rw [List.getD_eq_getElem?_getD, List.getElem?_replicate]; split <;> rfl
          rw [this]; simp [RepT]
        · show RepT _ _ _ ((putRegs ks (putAs 0 (ks.map (·.2)) y).1 (List.replicate st.regs.length .undef)).getD i .undef) _
          rw [h4]
          obtain ⟨v, h5, h6⟩ := hrep.get k t h3
          rw [List.getElem?_map, h1] at h5
          injection h5 with h5
          dsimp only at h5
          rw [h2] at h5
          rw [← h5] at h6
          exact h6
      · obtain ⟨f1, f2⟩ := hs.fixed i v L hi
        refine ⟨f1, ?_⟩
        show Good κ' ((putRegs ks (putAs 0 (ks.map (·.2)) y).1 (List.replicate st.regs.length .undef)).getD i .undef) L
        rcases putRegs_get ks (putAs 0 (ks.map (·.2)) y).1 (List.replicate st.regs.length .undef) i with h | ⟨k, p, t, h1, h2, h3, h4⟩
        · rw [h]
          have : (List.replicate st.regs.length T.undef).getD i .undef = .undef := by
            rw [List.getD_eq_getElem?_getD, List.getElem?_replicate]; split <;> rfl
          rw [this]; exact .inl ⟨rfl, by simp⟩
        · rw [h4]
          obtain ⟨ak, m, z, g1, g2⟩ := putAs_idx _ h3
          by_cases hlk2 : liveK ak = true
          · have g3 := hgood k t h3
            have hts : (atRegs st.regs ks)[k]? = some (st.regs.getD i .undef) := by
              show (ks.map fun k => st.regs.getD k.1 .undef)[k]? = _
              rw [List.getElem?_map, h1]
              simp only [Option.map_some, h2]
            obtain ⟨y', o, s, g4, g5⟩ := q5 k ak _ g1 hts
            have g6 : (owns.map (blocks κ)).getD k [] = blocks κ o := by
              rw [List.getD_eq_getElem?_getD, List.getElem?_map, g5]; rfl
            rw [g6] at g3
            have key : (blocks κ o).take 1 = L := by
              rcases takeA_live hlk2 g4 with hz | ⟨id, hz, rfl⟩ | ⟨id, r, hz, rfl⟩ | ⟨gg, id, r, hz, rfl⟩
              · rcases f2 with f2 | ⟨id, f2, _⟩
                · exact absurd hz f2.2
                · rw [hz] at f2; cases f2
              · rcases f2 with f2 | ⟨id', f2, f3, f4⟩
                · rw [hz] at f2; cases f2.1
                · rw [hz] at f2
                  injection f2 with f2
                  subst f2
                  rw [← f3]
                  cases hk : κ id with
                  | none => exact absurd hk f4
                  | some q =>
                    obtain ⟨v', ob⟩ := q
                    cases ob <;> simp [blocks, hk]
              · rcases f2 with f2 | ⟨id', f2, f3, f4⟩
                · rw [hz] at f2; cases f2.1
                · rw [hz] at f2
                  injection f2 with f2
                  subst f2
                  rw [← f3]
                  have hr := hs.regs.rep i
                  rw [hz] at hr
                  simp only [RepT] at hr
                  obtain ⟨hv', b, h5, _⟩ := hr
                  simp [blocks, h5]
              · rcases f2 with f2 | ⟨id', f2, f3, f4⟩
                · rw [hz] at f2; cases f2.1
                · rw [hz] at f2
                  injection f2 with f2
                  subst f2
                  rw [← f3]
                  have hr := hs.regs.rep i
                  rw [hz] at hr
                  simp only [RepT, RepTs] at hr
                  obtain ⟨_, _, _, _, _, ⟨hv', b, h5, _⟩, _⟩ := hr
                  simp [blocks, h5]
            rw [key] at g3
            exact g3
          · have := dead_put (n := m) (x := z) (by simpa using hlk2)
            rw [g2]; exact .inl this
      · have := hp.high id (by simpa [stOf] using hid)
        rw [this]
    · cases hv
end
end Go.Am
