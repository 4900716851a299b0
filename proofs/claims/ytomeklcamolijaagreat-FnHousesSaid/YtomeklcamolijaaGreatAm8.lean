import Derived.Test.YtomeklcamolijaaGreatAm7
/- The symbolic machine: code, loops, functions. -/
set_option linter.unusedVariables false
set_option linter.unusedSimpArgs false
namespace Go.Am
open Go Go.RowKit

def exitOf : Out → Exit
  | .normal => .normal | .exit id => .exit id | .ret => .ret
def noWrite (fx : List Nat) : Code → Bool
  | .region _ ops _ => ops.toList.all fun o => match o.dst with | some d => !fx.contains d | none => true
  | .seq a b => noWrite fx a && noWrite fx b
  | .cond _ a b => noWrite fx a && noWrite fx b
  | .block _ c => noWrite fx c
  | .loop c => noWrite fx c
  | _ => true
def fresh (κ : Kap) (st : St) : Prop := ∀ id, st.next ≤ id → κ id = none

/-- a loop does as its contract says -/
def LoopOk (P : Program) (C : Ctx) (fx : List Nat) (n id : Nat) (body : Code) : Prop :=
  ∀ (l : LC), C.loop id = some l → ∀ (w0 : World) (S A : Nat → Prop) (F : Nat → Option (Value × List Nat)) (κ : Kap) (x : AXs (l.keep.map (·.2))) (a : Act) (w : World), (∀ d, d ∉ fx → F d = none) →
    Sim w0 S A F κ (stOf n l.keep x) a w → fresh κ (stOf n l.keep x) → ∀ (Q : AXs (l.keep.map (·.2)) ⊕ AXs (l.ret.map (·.2)) → Prop) (K : Exit → Act → World → Prop), (l.F x).wp Q →
    (∀ y κ' a' w', Q (.inl y) → Sim w0 S A F κ' (stOf n l.keep y) a' w' → fresh κ' (stOf n l.keep y) → K .normal a' w') →
    (∀ y κ' a' w', Q (.inr y) → Sim w0 S A F κ' (stOf n l.ret y) a' w' → fresh κ' (stOf n l.ret y) → K .ret a' w') → (Code.block id (.loop body)).wp P K a w
def Loops (P : Program) (C : Ctx) (fx : List Nat) (n : Nat) : Code → Prop
  | .block id (.loop body) => LoopOk P C fx n id body
  | .block _ c => Loops P C fx n c
  | .seq a b => Loops P C fx n a ∧ Loops P C fx n b
  | .cond _ a b => Loops P C fx n a ∧ Loops P C fx n b
  | _ => True

section
variable {P : Program} {C : Ctx} {w0 : World} {S A : Nat → Prop} {F : Nat → Option (Value × List Nat)}

theorem setDst_len (r : List T) (d : Option Nat) (t : T) : (setDst r d t).length = r.length := by cases d <;> simp [setDst]
theorem steps_len {ops : List Oper} {base : Nat} : ∀ {l : List Nat} {st st' : St} {fps : List (Nat × FP)}, (stepsT C ops base l st).val = some (st', fps) → st'.regs.length = st.regs.length
  | [], st, st', fps, h => by
    simp only [stepsT, DT.val, Option.some.injEq, Prod.mk.injEq] at h
    rw [← h.1]
  | i :: r, st, st', fps, h => by
    obtain ⟨st1, fp, fps', h1, h2, _⟩ := stepsT_cons.1 h
    obtain ⟨o, t, wr, nw, hs⟩ := step_val h1
    rw [steps_len h2, hs.ste]
    exact setDst_len _ _ _
theorem stepP_len {ops : List Oper} {base i : Nat} {st st' : St} (h : (stepP C ops base i st).val = some st') : st'.regs.length = st.regs.length := by
  unfold stepP at h
  cases ho : ops[i]? with
  | none => rw [ho] at h; cases h
  | some o =>
    rw [ho] at h
    dsimp only at h
    have skip : ∀ {t : T}, (DT.ret ({ st with regs := setDst st.regs o.dst t } : St)).val = some st' → st'.regs.length = st.regs.length := by
      intro t hp; injection hp with hp; subst hp; exact setDst_len _ _ _
    have go : ((opT C st.regs st.heap (base + stride * i) o).bind fun e =>
        match decide (e.nw.length ≤ stride) with
        | true => settle (guards ops i) e.dst fun t => .ret { st with regs := setDst st.regs o.dst t, heap := (st.heap.updAll e.wr).news (base + stride * i) e.nw }
        | false => .fail).val = some st' → st'.regs.length = st.regs.length := by
      intro hp
      rw [DT.val_bind] at hp
      cases he : (opT C st.regs st.heap (base + stride * i) o).val with
      | none => rw [he] at hp; cases hp
      | some e =>
        rw [he] at hp
        simp only [Option.bind_some] at hp
        split at hp
        · obtain ⟨t', h1, _⟩ := settle_val hp
          injection h1 with h1; subst h1; exact setDst_len _ _ _
        · cases hp
    cases hg : o.guard with
    | none => rw [hg] at h; exact go h
    | some gw =>
      obtain ⟨j, want⟩ := gw
      rw [hg] at h
      dsimp only at h
      cases hd : (ops[j]?).bind (·.dst) with
      | none => rw [hd] at h; cases h
      | some d =>
        rw [hd] at h
        dsimp only at h
        cases hx : st.regs.getD d .undef with
        | nov => rw [hx] at h; exact skip h
        | kb b =>
          rw [hx] at h
          dsimp only at h
          by_cases hb : b = want
          · rw [if_pos hb] at h; exact go h
          · rw [if_neg hb] at h; exact skip h
        | _ => rw [hx] at h; cases h
theorem stepsP_len {ops : List Oper} {base : Nat} : ∀ {l : List Nat} {st st' : St}, (stepsP C ops base l st).val = some st' → st'.regs.length = st.regs.length
  | [], st, st', h => by
    simp only [stepsP, DT.val, Option.some.injEq] at h
    rw [← h]
  | i :: r, st, st', h => by
    obtain ⟨st1, h1, h2⟩ := stepsP_cons h
    rw [stepsP_len h2, stepP_len h1]
theorem region_len {ops : List Oper} {draw : Bool} {st : St} {Q : St → Prop} (hq : (regionT C ops draw st).wp Q) : (regionT C ops draw st).wp fun s => Q s ∧ s.regs.length = st.regs.length := by
  unfold regionT at hq ⊢
  cases draw with
  | false =>
    dsimp only at hq ⊢
    rw [DT.wp_bind] at hq ⊢
    obtain ⟨p, hv, hq⟩ := DT.wp_val.1 hq
    have hl := stepsP_len hv
    exact DT.wp_val.2 ⟨p, hv, hq, hl⟩
  | true =>
    dsimp only at hq ⊢
    cases hu : unruly ops true with
    | true => rw [hu] at hq; exact hq.elim
    | false =>
    rw [hu] at hq
    dsimp only at hq ⊢
    rw [DT.wp_bind] at hq ⊢
    obtain ⟨p, hv, hq⟩ := DT.wp_val.1 hq
    refine DT.wp_val.2 ⟨p, hv, ?_⟩
    have hl := steps_len hv
    split
    · rename_i hck
      rw [hck] at hq
      exact ⟨hq, hl⟩
    · rename_i hck
      rw [hck] at hq
      exact hq.elim

theorem stOf_len {n : Nat} {ks : List (Nat × AK)} {x : AXs (ks.map (·.2))} : (stOf n ks x).regs.length = n := by
  show (putRegs ks _ _).length = n
  rw [putRegs_len, List.length_replicate]

theorem run_sound (hC : CtxOk P C) (hcon : Cons P C) (hm : P.follows .mixedOrders = true) {fx : List Nat} {n : Nat} (hF : ∀ d, d ∉ fx → F d = none) : ∀ (c : Code), Loops P C fx n c → noWrite fx c = true →
    ∀ (κ : Kap) (st : St) (a : Act) (w : World), st.regs.length = n → Sim w0 S A F κ st a w → fresh κ st → ∀ (Q : Out × St → Prop) (K : Exit → Act → World → Prop), (run C c st).wp Q →
    (∀ o st' κ' a' w', Q (o, st') → st'.regs.length = n → Sim w0 S A F κ' st' a' w' → fresh κ' st' → K (exitOf o) a' w') → c.wp P K a w := by
  intro c
  induction c with
  | skip =>
    intro _ _ κ st a w hn hs hf Q K hq hK
    exact wp_skip (hK .normal st κ a w hq hn hs hf)
  | region id ops draw =>
    intro _ hw κ st a w hn hs hf Q K hq hK
    simp only [run] at hq
    rw [DT.wp_bind] at hq
    refine region_sound hC hcon hm (fun o ho d hd => hF d ?_) hs hf (region_len hq) (fun κ' st' a' w' hQ hs' _ hf' => hK .normal st' κ' a' w' hQ.1 (hQ.2.trans hn) hs' hf')
    have := List.all_eq_true.1 hw o ho
    rw [hd] at this
    simpa using this
  | seq x y ihx ihy =>
    intro hl hw κ st a w hn hs hf Q K hq hK
    simp only [noWrite, Bool.and_eq_true] at hw
    simp only [run] at hq
    rw [DT.wp_bind] at hq
    refine wp_seq (ihx hl.1 hw.1 κ st a w hn hs hf _ _ hq fun o st' κ' a' w' hQ hn' hs' hf' => ?_)
    cases o with
    | normal => exact ihy hl.2 hw.2 κ' st' a' w' hn' hs' hf' Q K hQ hK
    | exit id => exact hK (.exit id) st' κ' a' w' hQ hn' hs' hf'
    | ret => exact hK .ret st' κ' a' w' hQ hn' hs' hf'
  | cond c x y ihx ihy =>
    intro hl hw κ st a w hn hs hf Q K hq hK
    simp only [noWrite, Bool.and_eq_true] at hw
    simp only [run] at hq
    obtain ⟨b, hv, hk⟩ := onBool_wp (opv_rep hs.regs c) hq
    cases b with
    | true => exact wp_cond_true hv (ihx hl.1 hw.1 κ st a w hn hs hf Q K hk hK)
    | false => exact wp_cond_false hv (ihy hl.2 hw.2 κ st a w hn hs hf Q K hk hK)
  | block id c ih =>
    intro hl hw κ st a w hn hs hf Q K hq hK
    have plain : (run C c st).wp (fun p => (inBlock id p).wp Q) → Loops P C fx n c → (Code.block id c).wp P K a w := by
      intro hq hl
      refine wp_block (ih hl hw κ st a w hn hs hf _ _ hq fun o st' κ' a' w' hQ hn' hs' hf' => ?_)
      cases o with
      | normal => exact hK .normal st' κ' a' w' hQ hn' hs' hf'
      | exit j =>
        show Exit.inBlock id K (.exit j) a' w'
        have hQ' : Q (if j = id then .normal else .exit j, st') := hQ
        unfold Exit.inBlock
        dsimp only
        by_cases e : j = id
        · rw [if_pos e] at hQ' ⊢
          exact hK .normal st' κ' a' w' hQ' hn' hs' hf'
        · rw [if_neg e] at hQ' ⊢
          exact hK (.exit j) st' κ' a' w' hQ' hn' hs' hf'
      | ret => exact hK .ret st' κ' a' w' hQ hn' hs' hf'
    cases c with
    | loop body =>
      clear plain
      have hl' : LoopOk P C fx n id body := hl
      have hq' : (loopT C id st).wp Q := hq
      unfold loopT at hq'
      cases hc : C.loop id with
      | none => rw [hc] at hq'; exact hq'.elim
      | some l =>
        rw [hc] at hq'
        dsimp only at hq'
        rw [DT.wp_bind] at hq'
        obtain ⟨x, hx, hq'⟩ := DT.wp_val.1 hq'
        rw [DT.wp_bind] at hq'
        obtain ⟨κ1, hs1, hf1⟩ := restart hs hx
        rw [hn] at hs1 hf1 hq'
        refine hl' l hc w0 S A F κ1 x a w hF hs1 hf1 _ K hq' (fun y κ' a' w' hQ hs' hf' => ?_) (fun y κ' a' w' hQ hs' hf' => ?_)
        · exact hK .normal _ κ' a' w' hQ stOf_len hs' hf'
        · exact hK .ret _ κ' a' w' hQ stOf_len hs' hf'
    | _ => exact plain (by rw [← DT.wp_bind]; exact hq) hl
  | exit id =>
    intro _ _ κ st a w hn hs hf Q K hq hK
    exact wp_exit (hK (.exit id) st κ a w hq hn hs hf)
  | ret =>
    intro _ _ κ st a w hn hs hf Q K hq hK
    exact wp_ret (hK .ret st κ a w hq hn hs hf)
  | _ =>
    intro _ _ κ st a w hn hs hf Q K hq hK
    exact hq.elim

/-- a loop whose rounds are as G says, and whose answer F comes of G -/
theorem loop_sound (hC : CtxOk P C) (hcon : Cons P C) (hm : P.follows .mixedOrders = true) {fx : List Nat} {n id : Nat} {body : Code} {l : LC} (hl : C.loop id = some l) (hloops : Loops P C fx n body) (hnw : noWrite fx body = true)
    (G : AXs (l.keep.map (·.2)) → DT (Rd (AXs (l.keep.map (·.2))) (AXs (l.ret.map (·.2))))) (hG : ∀ x, roundT C n id body l.keep l.ret x = G x) (μ : AXs (l.keep.map (·.2)) → Nat)
    (hF : ∀ x Q, (l.F x).wp Q → (G x).wp fun | .on y => μ y < μ x ∧ (l.F y).wp Q | .out y => Q (.inl y) | .ret y => Q (.inr y)) : LoopOk P C fx n id body := by
  intro l' hl' w0 S A F κ x a w hfx hs hf Q K hq hK1 hK2
  rw [hl] at hl'; injection hl' with hl'; subst hl'
  refine wp_block (wp_loop_ghost (fun k a w => ∃ κ x, μ x = k ∧ Sim w0 S A F κ (stOf n l.keep x) a w ∧ fresh κ (stOf n l.keep x) ∧ (l.F x).wp Q) (μ x) ⟨κ, x, rfl, hs, hf, hq⟩ ?_)
  rintro k a w ⟨κ, x, rfl, hs, hf, hq⟩
  have hr := hF x Q hq
  rw [← hG x] at hr
  unfold roundT at hr
  rw [DT.wp_bind] at hr
  refine run_sound hC hcon hm hfx body hloops hnw κ _ a w stOf_len hs hf _ _ hr fun o st' κ' a' w' hQ hn' hs' hf' => ?_
  cases o with
  | normal =>
    dsimp only at hQ
    rw [DT.wp_bind] at hQ
    obtain ⟨y, hy, hQ⟩ := DT.wp_val.1 hQ
    obtain ⟨κ1, hs1, hf1⟩ := restart hs' hy
    rw [hn'] at hs1 hf1
    exact ⟨μ y, hQ.1, κ1, y, rfl, hs1, hf1, hQ.2⟩
  | exit j =>
    dsimp only at hQ
    show Exit.inBlock id K (.exit j) a' w'
    unfold Exit.inBlock
    dsimp only
    by_cases e : j = id
    · rw [if_pos e] at hQ ⊢
      rw [DT.wp_bind] at hQ
      obtain ⟨y, hy, hQ⟩ := DT.wp_val.1 hQ
      obtain ⟨κ1, hs1, hf1⟩ := restart hs' hy
      rw [hn'] at hs1 hf1
      exact hK1 y κ1 a' w' hQ hs1 hf1
    · rw [if_neg e] at hQ
      exact hQ.elim
  | ret =>
    dsimp only at hQ
    rw [DT.wp_bind] at hQ
    obtain ⟨y, hy, hQ⟩ := DT.wp_val.1 hQ
    obtain ⟨κ1, hs1, hf1⟩ := restart hs' hy
    rw [hn'] at hs1 hf1
    exact hK2 y κ1 a' w' hQ hs1 hf1
end
end Go.Am

/- The symbolic machine: functions. -/
set_option linter.unusedVariables false
set_option linter.unusedSimpArgs false
namespace Go.Am
open Go Go.RowKit

/-- a function's first state -/
def stF (n : Nat) (ps : List AK) (x : AXs ps) : St :=
  let p := putAs 0 ps x
  ⟨p.1 ++ List.replicate (n - p.1.length) .undef, Heap.news (fun _ => .none) 0 p.2, p.2.length⟩
def uOk : AK → Bool
  | .one (.own _) => true | .box [.val _] => true | .fnb _ [.val _] => true | _ => false
/-- a result: a register, or what stands in a box -/
def resT (C : Ctx) (st : St) : ResultVar → DT T
  | .tmp t => .ret (st.regs.getD t .undef)
  | .cell a t => match C.ti t with
    | some i => if i.isAgg || i.size == 1 then loadT i st.heap (st.regs.getD a .undef) else .fail
    | none => .fail
def ressT (C : Ctx) (st : St) : List ResultVar → DT (List T)
  | [] => .ret []
  | r :: rs => (resT C st r).bind fun t => (ressT C st rs).bind fun ts => .ret (t :: ts)
def finT (C : Ctx) (ps : List AK) (us : List Nat) (rs : List AK) (rg : List ResultVar) (st : St) : DT (Res ps us rs) :=
  (ressT C st rg).bind fun ts =>
  match takeAs st.heap rs ts, takeAs st.heap (us.map fun i => ps.getD i (.one (.val .unit))) (us.map fun i => st.regs.getD i .undef) with
  | some (y, own, seen), some (z, own', seen') =>
    if nodupB (own ++ own') && (seen ++ seen').all (fun i => !(own ++ own').contains i) && us.all (fun i => uOk (ps.getD i (.one (.val .unit))) && (uIdT (st.regs.getD i .undef)).isSome) then .ret ⟨y, z⟩ else .fail
  | _, _ => .fail
def fnT (C : Ctx) (code : Code) (n : Nat) (ps : List AK) (us : List Nat) (rs : List AK) (rg : List ResultVar) (x : AXs ps) : DT (Res ps us rs) :=
  (run C code (stF n ps x)).bind fun p => match p.1 with
    | .exit _ => .fail
    | _ => finT C ps us rs rg p.2

section
variable {P : Program} {C : Ctx}

theorem resT_sound (hC : CtxOk P C) {w0 : World} {S A : Nat → Prop} {F : Nat → Option (Value × List Nat)} {κ : Kap} {st : St} {a : Act} {w : World} (hs : Sim w0 S A F κ st a w) {r : ResultVar} {Q : T → Prop} (hq : (resT C st r).wp Q)
    {f : ResultVar → Sem Value} (hf1 : ∀ t, f (.tmp t) = pure (a.tmps.getD t undef)) (hf2 : ∀ b t, f (.cell b t) = do loadVar t (← asAddr (a.tmps.getD b undef))) : ∃ t v, Q t ∧ RepT w (OO A κ st.heap) κ t v ∧ (f r).run P w = .ok v w := by
  cases r with
  | tmp t => exact ⟨_, _, hq, hs.regs.rep t, by rw [hf1]; rfl⟩
  | cell b t =>
    simp only [resT] at hq
    cases hi : C.ti t with
    | none => rw [hi] at hq; exact hq.elim
    | some i =>
      rw [hi] at hq
      dsimp only at hq
      split at hq
      · rename_i hck
        obtain ⟨r, z, h1, h2, h3⟩ := load_sound hC hs.hs (Sub.refl _) hi hck (hs.regs.rep b) hq
        refine ⟨r, z, h1, h2, ?_⟩
        rw [hf2]
        generalize a.tmps.getD b undef = v at h3
        cases v with
        | pointer p =>
          cases p with
          | none => simp [Instr.loadAt, Instr.sureAddr] at h3
          | some p => simpa [Instr.loadAt, Instr.sureAddr, asAddr] using h3
        | _ => simp [Instr.loadAt, Instr.sureAddr] at h3
      · exact hq.elim
theorem ressT_sound (hC : CtxOk P C) {w0 : World} {S A : Nat → Prop} {F : Nat → Option (Value × List Nat)} {κ : Kap} {st : St} {a : Act} {w : World} (hs : Sim w0 S A F κ st a w)
    {f : ResultVar → Sem Value} (hf1 : ∀ t, f (.tmp t) = pure (a.tmps.getD t undef)) (hf2 : ∀ b t, f (.cell b t) = do loadVar t (← asAddr (a.tmps.getD b undef))) :
    ∀ (rg : List ResultVar) {Q : List T → Prop}, (ressT C st rg).wp Q → ∃ ts vs, Q ts ∧ RepTs w (OO A κ st.heap) κ ts vs ∧ (rg.mapM f).run P w = .ok vs w
  | [], Q, hq => ⟨[], [], hq, RepTs.nil, rfl⟩
  | r :: rg, Q, hq => by
    simp only [ressT] at hq
    rw [DT.wp_bind] at hq
    obtain ⟨t, v, h1, h2, h3⟩ := resT_sound hC hs hq hf1 hf2
    rw [DT.wp_bind] at h1
    obtain ⟨ts, vs, h4, h5, h6⟩ := ressT_sound hC hs hf1 hf2 rg h1
    exact ⟨t :: ts, v :: vs, h4, RepTs.cons h2 h5, by simp only [List.mapM_cons, Sem.run_bind, h3, h6, Result.andThen_ok, Sem.run_pure]⟩
theorem results_run (hC : CtxOk P C) {w0 : World} {S A : Nat → Prop} {F : Nat → Option (Value × List Nat)} {κ : Kap} {st : St} {a : Act} {w : World} (hs : Sim w0 S A F κ st a w) {fn : Func} {rg : List ResultVar} (h : fn.results = rg.toArray) {Q : List T → Prop} (hq : (ressT C st rg).wp Q) :
    ∃ ts vs, Q ts ∧ RepTs w (OO A κ st.heap) κ ts vs ∧ (results fn a.tmps).run P w = .ok (tupV vs) w := by
  unfold results
  rw [h, List.mapM_toArray]
  obtain ⟨ts, vs, h1, h2, h3⟩ := ressT_sound hC hs (fun t => rfl) (fun b t => rfl) rg hq (f := fun
    | .tmp t => pure (a.tmps.getD t undef)
    | .cell b t => do loadVar t (← asAddr (a.tmps.getD b undef)))
  refine ⟨ts, vs, h1, h2, ?_⟩
  simp only [Sem.run_bind, Sem.run_map]
  have h3' : (rg.mapM (m := Sem) fun
    | .tmp t => pure (a.tmps.getD t undef)
    | .cell b t => do loadVar t (← asAddr (a.tmps.getD b undef))).run P w = .ok vs w := h3
  erw [h3']
  simp only [Result.andThen_ok, Sem.run_pure]
  match vs with
  | [] => rfl
  | [v] => rfl
  | u :: v :: l => simp [tupV]

theorem ARep.uOk_len {w : World} {O : Nat → Prop} {a : AK} {x : a.X} {v : Value} {L : List Nat} (h : ARep w O a x v L) (hu : uOk a = true) : L.length ≤ 1 := by
  unfold uOk at hu
  split at hu
  · obtain ⟨v', _, ⟨_, _, h1⟩ | ⟨b, h1, _⟩⟩ := h <;> simp [h1]
  · obtain ⟨b, vs, et, L', _, h1, _, _, h3⟩ := h
    simp [h1, h3]
  · obtain ⟨b, vs, et, L', _, h1, _, _, h3⟩ := h
    simp [h1, h3]
  · cases hu
theorem AReps.nth {w : World} {O : Nat → Prop} : ∀ (as : List AK) {x : AXs as} {vs : List Value} {Ls : List (List Nat)}, AReps w O as x vs Ls → ∀ (i : Nat) (a : AK), as[i]? = some a → ∃ y, ARep w O a y (vs.getD i undef) (Ls.getD i [])
  | [], x, vs, Ls, h, i, a, hi => by simp at hi
  | [a], x, vs, Ls, h, i, a', hi => by
    obtain ⟨v, L, rfl, rfl, h1⟩ := h
    cases i with
    | zero => simp only [List.getElem?_cons_zero, Option.some.injEq] at hi; subst hi; exact ⟨x, h1⟩
    | succ i => simp at hi
  | a :: b :: as, x, vs, Ls, h, i, a', hi => by
    obtain ⟨v, vs', L, Ls', rfl, rfl, h1, h2⟩ := h
    cases i with
    | zero => simp only [List.getElem?_cons_zero, Option.some.injEq] at hi; subst hi; exact ⟨x.1, h1⟩
    | succ i =>
      simp only [List.getElem?_cons_succ] at hi
      exact AReps.nth (b :: as) h2 i a' hi

theorem takeA_uOk {hr : Heap} {a : AK} {t : T} {x : a.X} {own seen : List Nat} (hu : uOk a = true) {id : Nat} (hid : uIdT t = some id) (ht : takeA hr a t = some (x, own, seen)) : own = [id] := by
  unfold uOk at hu
  split at hu
  · cases t with
    | ow j => simp [uIdT] at hid; subst hid; exact takeA_uid ht rfl
    | ptr j off => simp [takeA, takeC] at ht
    | fn g l => simp [takeA, takeC] at ht
    | _ => simp [uIdT] at hid
  · cases t with
    | ptr j off =>
      cases off with
      | zero => simp [uIdT] at hid; subst hid; exact takeA_uid ht rfl
      | succ n => simp [uIdT] at hid
    | _ => simp [takeA] at ht
  · have ht' := ht
    rw [takeA_fnb] at ht'
    obtain ⟨j, hj⟩ := takeA_box_ptr ht'
    have ht2 := unFn_ptr hj
    have e : uIdT t = some j := by rw [ht2]; rfl
    rw [e] at hid; injection hid with hid; subst hid
    exact takeA_uid ht (by show uId0 _ (unFn _ t) = _; rw [hj]; rfl)
  · cases hu

theorem fn_sound (hC : CtxOk P C) (hcon : Cons P C) (hm : P.follows .mixedOrders = true) {g : Nat} {fn : Func} {code : Code} (hf : P.funcs[g]? = some fn) (hb : fn.body = some code) (hname : (fn.name == "runtime.NumGoroutine") = false)
    {ps : List AK} {us : List Nat} {rs : List AK} {rg : List ResultVar} (hres : fn.results = rg.toArray) {n : Nat} (hn : ps.length + (fn.ntmps - ps.length) = n) (hloops : Loops P C us n code) (hnw : noWrite us code = true)
    (F : AXs ps → DT (Res ps us rs)) (hF : ∀ x Q, (F x).wp Q → (fnT C code fn.ntmps ps us rs rg x).wp Q) : Con.Sound P g ⟨ps, us, rs, F⟩ := by
  intro w A x vs Ls hx hnd hL hA Q hq
  have hq := hF x Q hq
  refine .inl ⟨?_, ?_⟩
  · have hne : fn.name ≠ "runtime.NumGoroutine" := by simpa using hname
    simp [callFunc, hf, hne, hb]
  obtain ⟨hlen, hLlen⟩ := AReps.length ps x vs Ls hx
  refine calls_of_wp hf hb ?_
  obtain ⟨H0, o0⟩ := empty_sim (w0 := w) (S := (· ∈ Ls.flatten)) (A := A) (L := Ls.flatten) hA (Fr.refl w _) (fun b hb => (hL b hb).2)
  obtain ⟨κ0, hp, hrep, hgood⟩ := putAs_sound ps H0 (n := 0) (x := x) (fun _ _ _ => rfl) (by rw [o0]; exact hx) (fun b hb => ⟨.inr hb, .inl hb⟩) hnd
  have eA : (fun b => (A b ∨ b ∈ Ls.flatten) ∧ b ∉ Ls.flatten) = A := by
    funext b
    apply propext
    exact ⟨fun h => h.1.elim _root_.id (fun hm => absurd hm h.2), fun h => ⟨.inl h, fun hm => (hL b hm).1 h⟩⟩
  have hh := hp.hsim
  have ho := hp.oo
  rw [eA] at hh ho
  rw [o0] at hrep
  have hplen : (putAs 0 ps x).1.length = ps.length := putAs_len ps
  have hsim : Sim w (· ∈ Ls.flatten) A (fun i => if i ∈ us then some (vs.getD i undef, (Ls.getD i []).take 1) else none) κ0 (stF fn.ntmps ps x) { tmps := vs.toArray ++ Array.replicate (fn.ntmps - vs.toArray.size) undef, defers := [] } w := by
    have htm : ∀ i, (vs.toArray ++ Array.replicate (fn.ntmps - vs.toArray.size) undef).getD i undef = vs.getD i undef := by
      intro i
      rw [Array.getD_eq_getD_getElem?, List.getD_eq_getElem?_getD, Array.getElem?_append]
      by_cases c : i < vs.length
      · rw [if_pos (by simpa using c)]; simp
      · rw [if_neg (by simpa using c), Array.getElem?_replicate]
        rw [List.getElem?_eq_none (by omega)]
        split <;> rfl
    have hrg : ∀ i, (stF fn.ntmps ps x).regs.getD i .undef = (putAs 0 ps x).1.getD i .undef := by
      intro i
      show ((putAs 0 ps x).1 ++ List.replicate (fn.ntmps - (putAs 0 ps x).1.length) T.undef).getD i T.undef = _
      rw [List.getD_eq_getElem?_getD, List.getD_eq_getElem?_getD, List.getElem?_append]
      by_cases c : i < (putAs 0 ps x).1.length
      · rw [if_pos c]
      · rw [if_neg c, List.getElem?_replicate, List.getElem?_eq_none (by omega)]
        split <;> rfl
    refine ⟨hh, ⟨?_, fun i => ?_⟩, rfl, fun i v L hi => ?_⟩
    · show _ = ((putAs 0 ps x).1 ++ List.replicate (fn.ntmps - (putAs 0 ps x).1.length) T.undef).length
      simp [hplen, hlen]
    · have ho' : OO A κ0 (stF fn.ntmps ps x).heap = fun b => A b ∨ b ∈ Ls.flatten := ho.trans o0
      rw [ho', htm, hrg]
      by_cases c : i < (putAs 0 ps x).1.length
      · have h1 : (putAs 0 ps x).1[i]? = some ((putAs 0 ps x).1[i]) := List.getElem?_eq_getElem c
        obtain ⟨v, h2, h3⟩ := hrep.get i _ h1
        rw [List.getD_eq_getElem?_getD, List.getD_eq_getElem?_getD, h1, h2]
        exact h3
      · rw [List.getD_eq_getElem?_getD, List.getElem?_eq_none (by omega)]
        simp [RepT]
    · split at hi
      · injection hi with hi
        injection hi with h1 h2
        refine ⟨(htm i).trans h1, ?_⟩
        rw [hrg, List.getD_eq_getElem?_getD]
        cases hk : (putAs 0 ps x).1[i]? with
        | none => exact .inl ⟨rfl, by simp⟩
        | some t => rw [← h2]; exact hgood i t hk
      · cases hi
  have hfr : fresh κ0 (stF fn.ntmps ps x) := fun id hid => by
    have := hp.high id (by simpa [stF] using hid)
    rw [this]
  have hlen0 : (stF fn.ntmps ps x).regs.length = n := by
    show ((putAs 0 ps x).1 ++ List.replicate (fn.ntmps - (putAs 0 ps x).1.length) T.undef).length = n
    simp [hplen]; omega
  unfold fnT at hq
  rw [DT.wp_bind] at hq
  refine run_sound hC hcon hm (fun d hd => by simp [hd]) code hloops hnw κ0 _ _ w hlen0 hsim hfr _ _ hq fun o st' κ' a' w' hQ hn' hs' hf' => ?_
  have fin : (finT C ps us rs rg st').wp Q → ∃ v, (results fn a'.tmps).run P w' = .ok v w' ∧ Ret w A ps us vs Ls Q (.returned v) w' := by
    intro hQ
    unfold finT at hQ
    rw [DT.wp_bind] at hQ
    obtain ⟨rts, rvs, hQ, hrep1, hrun⟩ := results_run hC hs' hres hQ
    refine ⟨_, hrun, ?_⟩
    cases h1 : takeAs st'.heap rs rts with
    | none => rw [h1] at hQ; exact hQ.elim
    | some p =>
      obtain ⟨y, own, seen⟩ := p
      rw [h1] at hQ
      cases h2 : takeAs st'.heap (us.map fun i => ps.getD i (.one (.val .unit))) (us.map fun i => st'.regs.getD i .undef) with
      | none => rw [h2] at hQ; exact hQ.elim
      | some p =>
        obtain ⟨z, own', seen'⟩ := p
        rw [h2] at hQ
        dsimp only at hQ
        split at hQ
        · rename_i hck
          simp only [Bool.and_eq_true] at hck
          obtain ⟨⟨hk1, hk2⟩, hk3⟩ := hck
          have hown := nodup_of hk1
          have hdis : ∀ i ∈ seen ++ seen', i ∉ own ++ own' := by
            intro i hi
            have := List.all_eq_true.1 hk2 i hi
            simpa only [Bool.not_eq_true', List.contains_eq_mem, decide_eq_false_iff_not] using this
          have hat : ∀ (l : List Nat), RepTs w' (OO A κ' st'.heap) κ' (l.map fun i => st'.regs.getD i .undef) (l.map fun i => a'.tmps.getD i undef) := by
            intro l
            induction l with
            | nil => exact RepTs.nil
            | cons i l ih => exact RepTs.cons (hs'.regs.rep i) ih
          obtain ⟨_, _, _, q3, _, _⟩ := takeAs_sound hs'.hs (Sub.refl _) (O1 := fun _ => False) _ h1 ⟨fun _ hf => hf.elim, fun _ _ _ _ _ _ _ _ hf => hf⟩ hrep1
          obtain ⟨_, _, _, q3', _, _⟩ := takeAs_sound hs'.hs (Sub.refl _) (O1 := fun _ => False) _ h2 ⟨fun _ hf => hf.elim, fun _ _ _ _ _ _ _ _ hf => hf⟩ (hat us)
          have hlive : ∀ i ∈ own ++ own', (st'.heap i).live = true := fun i hi => (List.mem_append.1 hi).elim (q3 i) (q3' i)
          obtain ⟨hlk, hLown⟩ := take_facts hs'.hs (Sub.refl _) hlive hdis
          obtain ⟨owns, e1, r1, _, _, _⟩ := takeAs_sound hs'.hs (Sub.refl _) _ h1 hlk.left hrep1
          obtain ⟨owns', e2, r2, _, _, q5⟩ := takeAs_sound hs'.hs (Sub.refl _) _ h2 hlk.right (hat us)
          have f1 : (owns.map (blocks κ')).flatten = blocks κ' own := by rw [flatten_blocks, e1]
          -- what is handed back is what came
          have huv : (us.map fun i => a'.tmps.getD i undef) = us.map fun i => vs.getD i undef :=
            List.map_congr_left fun i hi => (hs'.fixed i (vs.getD i undef) ((Ls.getD i []).take 1) (by simp [hi])).1
          have huL : owns'.map (blocks κ') = us.map fun i => Ls.getD i [] := by
            have hl2 := (AReps.length _ _ _ _ r2).2
            simp only [List.length_map] at hl2
            apply List.ext_getElem?
            intro k
            rw [List.getElem?_map, List.getElem?_map]
            cases hk : us[k]? with
            | none =>
              have : us.length ≤ k := List.getElem?_eq_none_iff.1 hk
              rw [List.getElem?_eq_none (by omega)]; rfl
            | some i =>
              have hi : i ∈ us := List.mem_of_getElem? hk
              have hck := List.all_eq_true.1 hk3 i hi
              rw [Bool.and_eq_true] at hck
              obtain ⟨u1, u2⟩ := hck
              obtain ⟨id, hid⟩ := Option.isSome_iff_exists.1 u2
              obtain ⟨y', o', s', g1, g2⟩ := q5 k (ps.getD i (.one (.val .unit))) (st'.regs.getD i .undef) (by rw [List.getElem?_map, hk]; rfl) (by rw [List.getElem?_map, hk]; rfl)
              have ho' := takeA_uOk u1 hid g1
              subst ho'
              rw [g2]
              simp only [Option.map_some, Option.some.injEq]
              obtain ⟨_, g3⟩ := hs'.fixed i (vs.getD i undef) ((Ls.getD i []).take 1) (by simp [hi])
              rcases g3 with g3 | ⟨id', g3, g4, _⟩
              · rw [hid] at g3; cases g3.1
              · rw [hid] at g3; injection g3 with g3; subst g3
                rw [g4]
                have hps : ps[i]? = some (ps.getD i (.one (.val .unit))) := by
                  cases hp' : ps[i]? with
                  | some a => rw [List.getD_eq_getElem?_getD, hp']; rfl
                  | none =>
                    rw [List.getD_eq_getElem?_getD, hp'] at u1
                    simp [uOk] at u1
                obtain ⟨y'', g5⟩ := AReps.nth ps hx i _ hps
                have := g5.uOk_len u1
                exact List.take_of_length_le this
          have f2 : (us.map fun i => Ls.getD i []).flatten = blocks κ' own' := by rw [← huL, flatten_blocks, e2]
          refine ⟨⟨y, z⟩, _, fun b => A b ∨ b ∈ blocks κ' (own ++ own'), owns.map (blocks κ'), hQ, rfl, hs'.hs.frame, fun b hb => .inl hb, fun b hb => ?_, r1, ?_, ?_, fun b hb => ?_⟩
          · rcases hb with hb | hb
            · refine ⟨.inl hb, hs'.hs.abnd b hb⟩
            · obtain ⟨_, g2, g3⟩ := hs'.hs.own b (hLown b hb)
              exact ⟨.inr g3, g2⟩
          · rw [huv, huL] at r2
            exact r2
          · rw [f1, f2, ← blocks_append]
            exact blocks_nodup hs'.hs hown hlive
          · rw [f1, f2, ← blocks_append] at hb
            exact ⟨.inr hb, (hs'.hs.own b (hLown b hb)).2.2⟩
        · exact hQ.elim
  cases o with
  | normal => exact ⟨hs'.defers, fin hQ⟩
  | exit id => exact hQ.elim
  | ret => exact ⟨hs'.defers, fin hQ⟩
end
end Go.Am

/- The symbolic machine: the same with what follows handed on, so that a tree is written out in one piece. -/
set_option linter.unusedVariables false
set_option linter.unusedSimpArgs false
namespace Go.Am
open Go Go.RowKit

namespace DT
variable {α β γ : Type}
theorem bind_assoc (m : DT α) (f : α → DT β) (g : β → DT γ) : (m.bind f).bind g = m.bind fun a => (f a).bind g := by
  induction m with
  | ret a => rfl
  | fail => rfl
  | ite b t e iht ihe => simp only [bind, iht, ihe]
theorem ret_bind (a : α) (f : α → DT β) : (DT.ret a).bind f = f a := rfl
theorem fail_bind (f : α → DT β) : (DT.fail : DT α).bind f = .fail := rfl
end DT

/-! ### trees with calls in them -/
inductive DTB (α : Type) : Type 1 where
  | ret (a : α) | fail | ite (b : Bool) (t e : DTB α) | bnd {β : Type} (m : DT β) (k : β → DTB α)
namespace DTB
variable {α β : Type}
def toDT : DTB α → DT α
  | ret a => .ret a
  | fail => .fail
  | ite b t e => .ite b t.toDT e.toDT
  | bnd m k => m.bind fun b => (k b).toDT
def guard (b : Bool) (k : DTB α) : DTB α := ite b k fail
end DTB
section
variable {α β : Type}
def bindB : DT β → (β → DTB α) → DTB α
  | .ret a, k => k a
  | .fail, _ => .fail
  | .ite b t e, k => .ite b (bindB t k) (bindB e k)
theorem bindB_eq (m : DT β) (k : β → DTB α) : (bindB m k).toDT = m.bind fun b => (k b).toDT := by
  induction m with
  | ret a => rfl
  | fail => rfl
  | ite b t e iht ihe => simp only [bindB, DTB.toDT, DT.bind, iht, ihe]
end

/-! ### values that are worked out before they go on -/
section
variable {α : Type 1}
def natK (n : Nat) (k : Nat → α) : α :=
  match n with
  | 0 => k 0
  | m + 1 => k (m + 1)
theorem natK_eq (n : Nat) (k : Nat → α) : natK n k = k n := by cases n <;> rfl
def force0 (t : T) (k : T → α) : α :=
  match t with
  | .undef => k .undef | .nov => k .nov | .int i n => k (.int i n) | .bool b => k (.bool b) | .kb b => (match b with | true => k (.kb true) | false => k (.kb false)) | .str s => k (.str s)
  | .agg cs => k (.agg cs) | .ro e xs => k (.ro e xs) | .z => k .z | .ow i => natK i fun i => k (.ow i) | .ptr i o => natK i fun i => natK o fun o => k (.ptr i o)
  | .eptr i z n o => natK i fun i => natK o fun o => k (.eptr i z n o) | .aptr i n l => natK i fun i => k (.aptr i n l) | .pro cs o => natK o fun o => k (.pro cs o) | .fn f cs => k (.fn f cs) | .tup ts => k (.tup ts)
theorem force0_eq (t : T) (k : T → α) : force0 t k = k t := by
  cases t <;> simp only [force0, natK_eq]
  rename_i b; cases b <;> rfl
def forceL0 : List T → (List T → α) → α
  | [], k => k []
  | t :: r, k => force0 t fun t => forceL0 r fun r => k (t :: r)
theorem forceL0_eq : ∀ (l : List T) (k : List T → α), forceL0 l k = k l
  | [], k => rfl
  | t :: r, k => by simp only [forceL0, force0_eq, forceL0_eq r]
def force (t : T) (k : T → α) : α :=
  force0 t fun t => match t with
    | .agg cs => forceL0 cs fun cs => k (.agg cs)
    | .pro cs o => forceL0 cs fun cs => k (.pro cs o)
    | .fn f cs => forceL0 cs fun cs => k (.fn f cs)
    | t => k t
theorem force_eq (t : T) (k : T → α) : force t k = k t := by
  unfold force
  rw [force0_eq]
  cases t <;> simp only [forceL0_eq]
def forceL : List T → (List T → α) → α
  | [], k => k []
  | t :: r, k => force t fun t => forceL r fun r => k (t :: r)
theorem forceL_eq : ∀ (l : List T) (k : List T → α), forceL l k = k l
  | [], k => rfl
  | t :: r, k => by simp only [forceL, force_eq, forceL_eq r]
/-- a result: also what is in a tuple -/
def forceR (t : T) (k : T → α) : α :=
  force t fun t => match t with
    | .tup ts => forceL ts fun ts => k (.tup ts)
    | t => k t
theorem forceR_eq (t : T) (k : T → α) : forceR t k = k t := by
  unfold forceR
  rw [force_eq]
  cases t <;> simp only [forceL_eq]
def forceB (b : B) (k : B → α) : α :=
  match b with
  | .none => k .none
  | .box cs => forceL cs fun cs => k (.box cs)
  | .row e xs => k (.row e xs)
  | .fro e xs => k (.fro e xs)
theorem forceB_eq (b : B) (k : B → α) : forceB b k = k b := by cases b <;> simp only [forceB, forceL_eq]
def setK : List T → Nat → T → (List T → α) → α
  | [], _, _, k => k []
  | _ :: r, 0, t, k => k (t :: r)
  | x :: r, d + 1, t, k => setK r d t fun r => k (x :: r)
theorem setK_eq : ∀ (r : List T) (d : Nat) (t : T) (k : List T → α), setK r d t k = k (r.set d t)
  | [], _, _, k => rfl
  | _ :: r, 0, t, k => rfl
  | x :: r, d + 1, t, k => by simp only [setK, setK_eq r, List.set_cons_succ]
def setDstK (r : List T) (d : Option Nat) (t : T) (k : List T → α) : α :=
  match d with
  | some d => setK r d t k
  | none => k r
theorem setDstK_eq (r : List T) (d : Option Nat) (t : T) (k : List T → α) : setDstK r d t k = k (setDst r d t) := by
  cases d with
  | none => rfl
  | some d => exact setK_eq _ _ _ _
def updK : Heap → List (Nat × B) → (Heap → α) → α
  | h, [], k => k h
  | h, (i, b) :: r, k => natK i fun i => forceB b fun b => updK (h.upd i b) r k
theorem updK_eq : ∀ (l : List (Nat × B)) (h : Heap) (k : Heap → α), updK h l k = k (h.updAll l)
  | [], h, k => rfl
  | (i, b) :: r, h, k => by simp only [updK, natK_eq, forceB_eq, updK_eq r]; rfl
def newsK : Heap → Nat → List B → (Heap → α) → α
  | h, _, [], k => k h
  | h, n, b :: r, k => natK n fun n => forceB b fun b => newsK (h.upd n b) (n + 1) r k
theorem newsK_eq : ∀ (l : List B) (h : Heap) (n : Nat) (k : Heap → α), newsK h n l k = k (h.news n l)
  | [], h, n, k => rfl
  | b :: r, h, n, k => by simp only [newsK, natK_eq, forceB_eq, newsK_eq r]; rfl
end

section
variable {α β : Type}
theorem onBool_bind (t : T) (k : Bool → DT α) (f : α → DT β) : (onBool t k).bind f = onBool t fun b => (k b).bind f := by
  cases t <;> simp only [onBool, DT.fail_bind]
  · rfl
  · rename_i b; cases b <;> rfl
theorem settle_bind (g : Bool) (t : T) (k : T → DT α) (f : α → DT β) : (settle g t k).bind f = settle g t fun t => (k t).bind f := by
  unfold settle
  cases g
  · rfl
  · simp only [if_true]; exact onBool_bind _ _ _
def onBoolK (t : T) (k : Bool → DTB α) : DTB α :=
  match t with
  | .kb b => match b with
    | true => k true
    | false => k false
  | .bool b => .ite b (k true) (k false)
  | _ => .fail
theorem onBoolK_eq (t : T) (k : Bool → DTB α) : (onBoolK t k).toDT = onBool t fun b => (k b).toDT := by
  cases t <;> simp only [onBool, onBoolK, DTB.toDT]
  rename_i b; cases b <;> rfl
def settleK (g : Bool) (t : T) (k : T → DTB α) : DTB α :=
  match g with
  | true => onBoolK t fun b => k (.kb b)
  | false => k t
theorem settleK_eq (g : Bool) (t : T) (k : T → DTB α) : (settleK g t k).toDT = settle g t fun t => (k t).toDT := by
  cases g
  · rfl
  · unfold settle
    rw [if_pos rfl]
    exact onBoolK_eq t fun b => k (.kb b)

def conK (h : Heap) (ts : List T) (base : Nat) (ps : List AK) (us : List Nat) (rs : List AK) (F : AXs ps → DT (Res ps us rs)) (k : Eff → DTB α) : DTB α :=
  match takeAs h ps ts with
  | some (x, own, seen) =>
    match nodupB own && seen.all (fun i => !own.contains i) && nodupB us with
    | true => .bnd (F x) fun r =>
      let p := putAs base rs r.1
      match backAs ps ts us r.2 with
      | some back => k { dst := tupT p.1, wr := (if rs.all AK.plain && us.all (fun i => (ps.getD i (.one (.val .unit))).plain) then [] else fz h seen) ++ kill own ++ back, nw := p.2 }
      | none => .fail
    | false => .fail
  | none => .fail
def callK (C : Ctx) (h : Heap) (f : T) (args : List T) (base : Nat) (k : Eff → DTB α) : DTB α :=
  match f with
  | .fn g caps => forceL0 (args ++ caps) fun ts =>
    match C.con g (fnsIn ts) with
    | some c => match c with
      | ⟨ps, us, rs, F⟩ => conK h ts base ps us rs F k
    | none => .fail
  | _ => .fail
theorem callK_eq (C : Ctx) (h : Heap) (f : T) (args : List T) (base : Nat) (k : Eff → DTB α) : (callK C h f args base k).toDT = (callT C h f args base).bind fun e => (k e).toDT := by
  cases f with
  | fn g caps =>
    simp only [callK, callT, forceL0_eq]
    cases hc : C.con g (fnsIn (args ++ caps)) with
    | none => rfl
    | some c =>
      obtain ⟨ps, us, rs, F⟩ := c
      dsimp only
      unfold conK
      cases ht : takeAs h ps (args ++ caps) with
      | none => rfl
      | some p =>
        obtain ⟨x, own, seen⟩ := p
        dsimp only
        cases nodupB own && seen.all (fun i => !own.contains i) && nodupB us with
        | true =>
          dsimp only
          rw [if_pos rfl, DT.bind_assoc]
          simp only [DTB.toDT]
          congr 1
          funext r
          cases hb : backAs ps (args ++ caps) us r.2 <;> rfl
        | false => rfl
  | _ => rfl

def opK (C : Ctx) (r : List T) (h : Heap) (base : Nat) (o : Oper) (k : Eff → DTB α) : DTB α :=
  match o.op with
  | .call c => match c.callee with
    | .value f => callK C h (opv r f) (c.args.toList.map (opv r)) base k
    | .builtin b => bindB (builtinT C h b c.argTypes.toList (c.args.toList.map (opv r)) base) k
    | .invoke _ _ => .fail
  | _ => bindB (opT C r h base o) k
theorem opK_eq (C : Ctx) (r : List T) (h : Heap) (base : Nat) (o : Oper) (k : Eff → DTB α) : (opK C r h base o k).toDT = (opT C r h base o).bind fun e => (k e).toDT := by
  unfold opK
  split
  · rename_i c hc
    have e : opT C r h base o = match c.callee with
        | .builtin b => builtinT C h b c.argTypes.toList (c.args.toList.map (opv r)) base
        | .value f => callT C h (opv r f) (c.args.toList.map (opv r)) base
        | .invoke _ _ => .fail := by
      unfold opT
      rw [hc]
      rfl
    rw [e]
    cases c.callee with
    | value f => exact callK_eq _ _ _ _ _ _
    | builtin b => exact bindB_eq _ _
    | invoke _ _ => rfl
  · exact bindB_eq _ _

/-- what an operation leaves -/
def endK (r : List T) (h : Heap) (d : Option Nat) (base : Nat) (g : Bool) (e : Eff) (k : List T → Heap → DTB α) : DTB α :=
  updK h e.wr fun h => newsK h base e.nw fun h => settleK g e.dst fun t => forceR t fun t => setDstK r d t fun r => k r h
theorem endK_eq (r : List T) (h : Heap) (d : Option Nat) (base : Nat) (g : Bool) (e : Eff) (k : List T → Heap → DTB α) : (endK r h d base g e k).toDT = settle g e.dst fun t => (k (setDst r d t) ((h.updAll e.wr).news base e.nw)).toDT := by
  unfold endK
  rw [updK_eq, newsK_eq, settleK_eq]
  simp only [forceR_eq, setDstK_eq]
def stepK (C : Ctx) (ops : List Oper) (base i : Nat) (st : St) (k : St × FP → DTB α) : DTB α :=
  match ops[i]? with
  | none => .fail
  | some o =>
    let go : DTB α :=
      let l := sees st.heap st.regs o
      natK (base + stride * i) fun b => opK C st.regs (restrict st.heap l) b o fun e =>
        let w := e.wr.map (·.1)
        match w.all l.contains && decide (e.nw.length ≤ stride) with
        | true => endK st.regs st.heap o.dst b (guards ops i) e fun r h => k (⟨r, h, st.next⟩, ⟨l, w ++ (List.range e.nw.length).map (b + ·)⟩)
        | false => .fail
    match o.guard with
    | none => go
    | some (j, want) => match (ops[j]?).bind (·.dst) with
      | some d => match st.regs.getD d .undef with
        | .kb b => if b = want then go else setDstK st.regs o.dst .nov fun r => k (⟨r, st.heap, st.next⟩, ⟨[], []⟩)
        | .nov => setDstK st.regs o.dst .nov fun r => k (⟨r, st.heap, st.next⟩, ⟨[], []⟩)
        | _ => .fail
      | none => .fail
theorem stepK_eq (C : Ctx) (ops : List Oper) (base i : Nat) (st : St) (k : St × FP → DTB α) : (stepK C ops base i st k).toDT = (stepT C ops base i st).bind fun p => (k p).toDT := by
  unfold stepK stepT
  cases ho : ops[i]? with
  | none => rfl
  | some o =>
    dsimp only
    simp only [natK_eq, setDstK_eq]
    have go : (opK C st.regs (restrict st.heap (sees st.heap st.regs o)) (base + stride * i) o fun e =>
        match (e.wr.map (·.1)).all (sees st.heap st.regs o).contains && decide (e.nw.length ≤ stride) with
        | true => endK st.regs st.heap o.dst (base + stride * i) (guards ops i) e fun r h => k (⟨r, h, st.next⟩, ⟨sees st.heap st.regs o, e.wr.map (·.1) ++ (List.range e.nw.length).map (base + stride * i + ·)⟩)
        | false => .fail).toDT = (((opT C st.regs (restrict st.heap (sees st.heap st.regs o)) (base + stride * i) o).bind fun e =>
        if (e.wr.map (·.1)).all (sees st.heap st.regs o).contains && decide (e.nw.length ≤ stride) then
          settle (guards ops i) e.dst fun t => .ret ({ st with regs := setDst st.regs o.dst t, heap := (st.heap.updAll e.wr).news (base + stride * i) e.nw }, (⟨sees st.heap st.regs o, e.wr.map (·.1) ++ (List.range e.nw.length).map (base + stride * i + ·)⟩ : FP))
        else .fail).bind fun p => (k p).toDT) := by
      rw [opK_eq, DT.bind_assoc]
      congr 1
      funext e
      cases (e.wr.map (·.1)).all (sees st.heap st.regs o).contains && decide (e.nw.length ≤ stride) with
      | true => dsimp only; rw [endK_eq, if_pos rfl, settle_bind]; rfl
      | false => rfl
    cases o.guard with
    | none => exact go
    | some gw =>
      obtain ⟨j, want⟩ := gw
      dsimp only
      cases (ops[j]?).bind (·.dst) with
      | none => rfl
      | some d =>
        dsimp only
        cases st.regs.getD d .undef <;> first | rfl | skip
        rename_i b
        dsimp only
        split
        · exact go
        · rfl
def stepPK (C : Ctx) (ops : List Oper) (base i : Nat) (st : St) (k : St → DTB α) : DTB α :=
  match ops[i]? with
  | none => .fail
  | some o =>
    let go : DTB α :=
      natK (base + stride * i) fun b => opK C st.regs st.heap b o fun e =>
        match decide (e.nw.length ≤ stride) with
        | true => endK st.regs st.heap o.dst b (guards ops i) e fun r h => k ⟨r, h, st.next⟩
        | false => .fail
    match o.guard with
    | none => go
    | some (j, want) => match (ops[j]?).bind (·.dst) with
      | some d => match st.regs.getD d .undef with
        | .kb b => if b = want then go else setDstK st.regs o.dst .nov fun r => k ⟨r, st.heap, st.next⟩
        | .nov => setDstK st.regs o.dst .nov fun r => k ⟨r, st.heap, st.next⟩
        | _ => .fail
      | none => .fail
theorem stepPK_eq (C : Ctx) (ops : List Oper) (base i : Nat) (st : St) (k : St → DTB α) : (stepPK C ops base i st k).toDT = (stepP C ops base i st).bind fun p => (k p).toDT := by
  unfold stepPK stepP
  cases ho : ops[i]? with
  | none => rfl
  | some o =>
    dsimp only
    simp only [natK_eq, setDstK_eq]
    have go : (opK C st.regs st.heap (base + stride * i) o fun e =>
        match decide (e.nw.length ≤ stride) with
        | true => endK st.regs st.heap o.dst (base + stride * i) (guards ops i) e fun r h => k ⟨r, h, st.next⟩
        | false => .fail).toDT = (((opT C st.regs st.heap (base + stride * i) o).bind fun e =>
        match decide (e.nw.length ≤ stride) with
        | true => settle (guards ops i) e.dst fun t => .ret { st with regs := setDst st.regs o.dst t, heap := (st.heap.updAll e.wr).news (base + stride * i) e.nw }
        | false => .fail).bind fun p => (k p).toDT) := by
      rw [opK_eq, DT.bind_assoc]
      congr 1
      funext e
      cases decide (e.nw.length ≤ stride) with
      | true => dsimp only; rw [endK_eq, settle_bind]; rfl
      | false => rfl
    cases o.guard with
    | none => exact go
    | some gw =>
      obtain ⟨j, want⟩ := gw
      dsimp only
      cases (ops[j]?).bind (·.dst) with
      | none => rfl
      | some d =>
        dsimp only
        cases st.regs.getD d .undef <;> first | rfl | skip
        rename_i b
        dsimp only
        split
        · exact go
        · rfl

def stepsK (C : Ctx) (ops : List Oper) (base : Nat) : List Nat → St → (St × List (Nat × FP) → DTB α) → DTB α
  | [], st, k => k (st, [])
  | i :: r, st, k => stepK C ops base i st fun p => stepsK C ops base r p.1 fun q => k (q.1, (i, p.2) :: q.2)
theorem stepsK_eq (C : Ctx) (ops : List Oper) (base : Nat) : ∀ (l : List Nat) (st : St) (k : St × List (Nat × FP) → DTB α), (stepsK C ops base l st k).toDT = (stepsT C ops base l st).bind fun p => (k p).toDT
  | [], st, k => rfl
  | i :: r, st, k => by
    simp only [stepsK, stepsT, stepK_eq, DT.bind_assoc]
    congr 1
    funext p
    rw [stepsK_eq C ops base r]
    rfl
def stepsPK (C : Ctx) (ops : List Oper) (base : Nat) : List Nat → St → (St → DTB α) → DTB α
  | [], st, k => k st
  | i :: r, st, k => stepPK C ops base i st fun s => stepsPK C ops base r s k
theorem stepsPK_eq (C : Ctx) (ops : List Oper) (base : Nat) : ∀ (l : List Nat) (st : St) (k : St → DTB α), (stepsPK C ops base l st k).toDT = (stepsP C ops base l st).bind fun p => (k p).toDT
  | [], st, k => rfl
  | i :: r, st, k => by
    simp only [stepsPK, stepsP, stepPK_eq, DT.bind_assoc]
    congr 1
    funext s
    exact stepsPK_eq C ops base r s k
def regionK (C : Ctx) (ops : List Oper) (draw : Bool) (st : St) (k : St → DTB α) : DTB α :=
  match draw with
  | false => natK st.next fun n => stepsPK C ops n (List.range ops.length) st fun s => k ⟨s.regs, s.heap, n + stride * ops.length⟩
  | true => match unruly ops true with
    | true => .fail
    | false => natK st.next fun n => stepsK C ops n (List.range ops.length) st fun p =>
      match freeB (befs ops []) p.2 with
      | true => k ⟨p.1.regs, p.1.heap, n + stride * ops.length⟩
      | false => .fail
theorem regionK_eq (C : Ctx) (ops : List Oper) (draw : Bool) (st : St) (k : St → DTB α) : (regionK C ops draw st k).toDT = (regionT C ops draw st).bind fun p => (k p).toDT := by
  unfold regionK regionT
  cases draw with
  | false =>
    dsimp only
    rw [natK_eq, stepsPK_eq, DT.bind_assoc]
    rfl
  | true =>
    dsimp only
    cases unruly ops true with
    | true => rfl
    | false =>
      dsimp only
      rw [natK_eq, stepsK_eq, DT.bind_assoc]
      congr 1
      funext p
      cases freeB (befs ops []) p.2 <;> rfl

/-- the state out of what is kept -/
def stOfK (n : Nat) (ks : List (Nat × AK)) (x : AXs (ks.map (·.2))) (k : St → DTB α) : DTB α :=
  let p := putAs 0 (ks.map (·.2)) x
  forceL (putRegs ks p.1 (List.replicate n .undef)) fun r => newsK (fun _ => .none) 0 p.2 fun h => natK p.2.length fun m => k ⟨r, h, m⟩
theorem stOfK_eq (n : Nat) (ks : List (Nat × AK)) (x : AXs (ks.map (·.2))) (k : St → DTB α) : stOfK n ks x k = k (stOf n ks x) := by
  unfold stOfK
  simp only [forceL_eq, newsK_eq, natK_eq]
  rfl
def loopK (C : Ctx) (id : Nat) (st : St) (k : Out × St → DTB α) : DTB α :=
  match C.loop id with
  | some l => match l with
    | ⟨keep, ret, F⟩ => bindB (takeSt keep st) fun x => .bnd (F x) fun
      | .inl y => stOfK st.regs.length keep y fun s => k (.normal, s)
      | .inr y => stOfK st.regs.length ret y fun s => k (.ret, s)
  | none => .fail
theorem loopK_eq (C : Ctx) (id : Nat) (st : St) (k : Out × St → DTB α) : (loopK C id st k).toDT = (loopT C id st).bind fun p => (k p).toDT := by
  unfold loopK loopT
  cases C.loop id with
  | none => rfl
  | some l =>
    obtain ⟨keep, ret, F⟩ := l
    dsimp only
    simp only [stOfK_eq]
    rw [bindB_eq, DT.bind_assoc]
    congr 1
    funext x
    simp only [DTB.toDT]
    rw [DT.bind_assoc]
    congr 1
    funext y
    cases y <;> rfl

def runK (C : Ctx) : Code → St → (Out × St → DTB α) → DTB α
  | .skip, st, k => k (.normal, st)
  | .region _ ops draw, st, k => regionK C ops.toList draw st fun s => k (.normal, s)
  | .seq a b, st, k => runK C a st fun p => match p.1 with
    | .normal => runK C b p.2 k
    | o => k (o, p.2)
  | .cond c t e, st, k => onBoolK (opv st.regs c) fun b => match b with
    | true => runK C t st k
    | false => runK C e st k
  | .block id (.loop _), st, k => loopK C id st k
  | .block id c, st, k => runK C c st fun p => match p.1 with
    | .exit j => k (if j = id then .normal else .exit j, p.2)
    | o => k (o, p.2)
  | .exit id, st, k => k (.exit id, st)
  | .ret, st, k => k (.ret, st)
  | _, _, _ => .fail
theorem runK_eq (C : Ctx) : ∀ (c : Code) (st : St) (k : Out × St → DTB α), (runK C c st k).toDT = (run C c st).bind fun p => (k p).toDT := by
  intro c
  induction c with
  | skip => intro st k; rfl
  | region id ops draw =>
    intro st k
    simp only [runK, run, regionK_eq, DT.bind_assoc]
    rfl
  | seq a b iha ihb =>
    intro st k
    simp only [runK, run, iha, DT.bind_assoc]
    congr 1
    funext p
    obtain ⟨o, s⟩ := p
    cases o with
    | normal => exact ihb s k
    | exit id => rfl
    | ret => rfl
  | cond c t e iht ihe =>
    intro st k
    simp only [runK, run, onBool_bind, onBoolK_eq]
    congr 1
    funext b
    cases b
    · exact ihe st k
    · exact iht st k
  | block id c ih =>
    intro st k
    have plain : (runK C c st fun p => match p.1 with
        | .exit j => k (if j = id then .normal else .exit j, p.2)
        | o => k (o, p.2)).toDT = ((run C c st).bind (inBlock id)).bind fun p => (k p).toDT := by
      rw [ih, DT.bind_assoc]
      congr 1
      funext p
      obtain ⟨o, s⟩ := p
      cases o <;> rfl
    cases c with
    | loop body => exact loopK_eq C id st k
    | _ => exact plain
  | exit id => intro st k; rfl
  | ret => intro st k; rfl
  | _ => intro st k; rfl
end

def stFK {α : Type} (n : Nat) (ps : List AK) (x : AXs ps) (k : St → DTB α) : DTB α :=
  let p := putAs 0 ps x
  forceL (p.1 ++ List.replicate (n - p.1.length) .undef) fun r => newsK (fun _ => .none) 0 p.2 fun h => natK p.2.length fun m => k ⟨r, h, m⟩
theorem stFK_eq {α : Type} (n : Nat) (ps : List AK) (x : AXs ps) (k : St → DTB α) : stFK n ps x k = k (stF n ps x) := by
  unfold stFK
  simp only [forceL_eq, newsK_eq, natK_eq]
  rfl
def fnK (C : Ctx) (code : Code) (n : Nat) (ps : List AK) (us : List Nat) (rs : List AK) (rg : List ResultVar) (x : AXs ps) : DTB (Res ps us rs) :=
  stFK n ps x fun s => runK C code s fun p => match p.1 with
    | .exit _ => .fail
    | _ => bindB (finT C ps us rs rg p.2) .ret
theorem bind_ret {α : Type} (m : DT α) : (m.bind fun a => .ret a) = m := by
  induction m with
  | ret a => rfl
  | fail => rfl
  | ite b t e iht ihe => simp only [DT.bind, iht, ihe]
theorem fnK_eq (C : Ctx) (code : Code) (n : Nat) (ps : List AK) (us : List Nat) (rs : List AK) (rg : List ResultVar) (x : AXs ps) : (fnK C code n ps us rs rg x).toDT = fnT C code n ps us rs rg x := by
  unfold fnK fnT
  rw [stFK_eq, runK_eq]
  congr 1
  funext p
  obtain ⟨o, s⟩ := p
  cases o with
  | exit _ => rfl
  | _ => dsimp only; rw [bindB_eq]; exact bind_ret _
def roundK (C : Ctx) (n id : Nat) (body : Code) (keep ret : List (Nat × AK)) (x : AXs (keep.map (·.2))) : DTB (Rd (AXs (keep.map (·.2))) (AXs (ret.map (·.2)))) :=
  stOfK n keep x fun s => runK C body s fun p => match p.1 with
    | .normal => bindB (takeSt keep p.2) fun y => .ret (.on y)
    | .exit j => if j = id then bindB (takeSt keep p.2) fun y => .ret (.out y) else .fail
    | .ret => bindB (takeSt ret p.2) fun y => .ret (.ret y)
theorem roundK_eq (C : Ctx) (n id : Nat) (body : Code) (keep ret : List (Nat × AK)) (x : AXs (keep.map (·.2))) : (roundK C n id body keep ret x).toDT = roundT C n id body keep ret x := by
  unfold roundK roundT
  rw [stOfK_eq, runK_eq]
  congr 1
  funext p
  obtain ⟨o, s⟩ := p
  cases o with
  | normal => exact bindB_eq _ _
  | ret => exact bindB_eq _ _
  | exit j =>
    dsimp only
    split
    · exact bindB_eq _ _
    · rfl

/-- rounds, one behind the other -/
def iter {X Y : Type} (G : X → DT (Rd X Y)) : Nat → X → DT (X ⊕ Y)
  | 0, _ => .fail
  | n + 1, x => (G x).bind fun
    | .on y => iter G n y
    | .out y => .ret (.inl y)
    | .ret y => .ret (.inr y)

section
variable {P : Program} {C : Ctx}
theorem loop_iter (hC : CtxOk P C) (hcon : Cons P C) (hm : P.follows .mixedOrders = true) {fx : List Nat} {n id : Nat} {body : Code} {l : LC} (hl : C.loop id = some l) (hloops : Loops P C fx n body) (hnw : noWrite fx body = true)
    (G : AXs (l.keep.map (·.2)) → DT (Rd (AXs (l.keep.map (·.2))) (AXs (l.ret.map (·.2))))) (hG : ∀ x, (roundK C n id body l.keep l.ret x).toDT = G x) (fuel : AXs (l.keep.map (·.2)) → Nat) (hF : ∀ x, l.F x = iter G (fuel x) x) : LoopOk P C fx n id body := by
  intro l' hl' w0 S A F κ x a w hfx hs hf Q K hq hK1 hK2
  rw [hl] at hl'; injection hl' with hl'; subst hl'
  rw [hF] at hq
  refine wp_block (wp_loop_ghost (fun k a w => ∃ κ x, Sim w0 S A F κ (stOf n l.keep x) a w ∧ fresh κ (stOf n l.keep x) ∧ (iter G k x).wp Q) (fuel x) ⟨κ, x, hs, hf, hq⟩ ?_)
  rintro k a w ⟨κ, x, hs, hf, hq⟩
  cases k with
  | zero => exact hq.elim
  | succ k =>
    simp only [iter] at hq
    rw [DT.wp_bind, ← hG x, roundK_eq] at hq
    unfold roundT at hq
    rw [DT.wp_bind] at hq
    refine run_sound hC hcon hm hfx body hloops hnw κ _ a w stOf_len hs hf _ _ hq fun o st' κ' a' w' hQ hn' hs' hf' => ?_
    cases o with
    | normal =>
      dsimp only at hQ
      rw [DT.wp_bind] at hQ
      obtain ⟨y, hy, hQ⟩ := DT.wp_val.1 hQ
      obtain ⟨κ1, hs1, hf1⟩ := restart hs' hy
      rw [hn'] at hs1 hf1
      exact ⟨k, Nat.lt_succ_self k, κ1, y, hs1, hf1, hQ⟩
    | exit j =>
      dsimp only at hQ
      show Exit.inBlock id K (.exit j) a' w'
      unfold Exit.inBlock
      dsimp only
      by_cases e : j = id
      · rw [if_pos e] at hQ ⊢
        rw [DT.wp_bind] at hQ
        obtain ⟨y, hy, hQ⟩ := DT.wp_val.1 hQ
        obtain ⟨κ1, hs1, hf1⟩ := restart hs' hy
        rw [hn'] at hs1 hf1
        exact hK1 y κ1 a' w' hQ hs1 hf1
      · rw [if_neg e] at hQ
        exact hQ.elim
    | ret =>
      dsimp only at hQ
      rw [DT.wp_bind] at hQ
      obtain ⟨y, hy, hQ⟩ := DT.wp_val.1 hQ
      obtain ⟨κ1, hs1, hf1⟩ := restart hs' hy
      rw [hn'] at hs1 hf1
      exact hK2 y κ1 a' w' hQ hs1 hf1

/-- a function out of its tree -/
theorem fn_ok (hC : CtxOk P C) (hcon : Cons P C) (hm : P.follows .mixedOrders = true) {g : Nat} {fn : Func} {code : Code} (hf : P.funcs[g]? = some fn) (hb : fn.body = some code) (hname : (fn.name == "runtime.NumGoroutine") = false)
    {ps : List AK} {us : List Nat} {rs : List AK} {rg : List ResultVar} (hres : fn.results = rg.toArray) {n : Nat} (hn : ps.length + (fn.ntmps - ps.length) = n) (hloops : Loops P C us n code) (hnw : noWrite us code = true)
    (F : AXs ps → DT (Res ps us rs)) (hF : ∀ x, (fnK C code fn.ntmps ps us rs rg x).toDT = F x) : Con.Sound P g ⟨ps, us, rs, F⟩ :=
  fn_sound hC hcon hm hf hb hname hres hn hloops hnw F fun x Q hq => by rw [← fnK_eq, hF x]; exact hq
end
end Go.Am
