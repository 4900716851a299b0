import Derived.Test.YtomeklcamolijaaGreatAm3
/- The symbolic machine: slices made and grown. -/
set_option linter.unusedVariables false
set_option linter.unusedSimpArgs false
namespace Go.Am
open Go Go.RowKit

section
variable {P : Program} {C : Ctx} {w0 : World} {S A : Nat → Prop} {κ : Kap} {h hr : Heap} {w : World}

theorem buildSlice_sound (hC : CtxOk P C) (H : HSim w0 S A κ h w) (hs : Sub hr h) {a : Act} {rs : List T} (hrg : Regs w (OO A κ h) κ rs a.tmps) {t len : Nat} {ps : Array (Nat × Operand)} (hok : ∀ p ∈ ps.toList, (opv rs p.2).cells.all T.cellOk = true)
    {base : Nat} (hb : κ base = none) {Q : Eff → Prop} (hq : (buildSliceT C hr t len (ps.toList.map fun p => (p.1, opv rs p.2)) base).wp Q) :
    Res1 P w0 S A κ h w base Q fun d z w' h' κ' => RepT w' (OO A κ' h') κ' d z ∧ (Instr.buildSlice t len (ps.map fun (i, x) => (i, a.eval x))).run P w = .ok z w' := by
  have hmap : (ps.toList.map fun p => (p.1, opv rs p.2)).map (·.1) = ((ps.map fun (i, x) => (i, a.eval x)).toList).map (·.1) := by
    simp [List.map_map, Function.comp_def]
  unfold buildSliceT at hq
  split at hq
  · rename_i j hj
    split at hq
    · rename_i hck
      obtain ⟨hsm, hz, hp, hty⟩ := hck
      obtain ⟨el, h1, h2⟩ := elemT_sound hC hj
      obtain ⟨ji, z, h3, h4, h5, _, h6, h7⟩ := zero_of hC h2 hz hp
      split at hq
      · rename_i cs hf
        split at hq
        · rename_i hcok
          split at hq
          · rename_i xs hxs
            have hzl : z.cells.toList.length = j.size := by simpa using h6
            have hrep := repT_rep (h7 w (OO A κ h) κ) len
            rw [← zeros_list z.cells len (by omega)] at hrep
            obtain ⟨us, h8, h9⟩ := fill_sound (pv := fun i => some (i * ji.size, ji.size)) (fun k q hk => by simp only [Option.some.injEq] at hk ⊢; rw [← hk, h5]) hrep hmap (parts_reps hrg H hok) hf
            obtain ⟨H1, hx1⟩ := H.freeze hs (rowsIn cs)
            have hsee := see_frozen (hr := hr) H1 (fun i hi => (updAll_fz (mem_rowsIn.2 hi)).symm) (RepTs.mono hx1 κ.le_refl _ _ h9)
            obtain ⟨h10, h11, h12⟩ := elems_sound hsee hxs
            obtain ⟨κ', h13, h14, h15, h16⟩ := H1.newRow hb (et := el) (cap := len) (by omega) h11 h12
            refine ⟨_, κ', _, .slice (some ⟨w.heap.size, 0, none⟩) len len, hq, h14, hx1.trans h15, h16, ?_, ?_, ?_⟩
            · rw [h13]; exact put_new (by simp)
            · simp only [RepT]; exact ⟨some w.heap.size, by rw [h13, Kap.put_self, h10]⟩
            · have hsm' : ¬ len * ji.size > 2 ^ 24 := by rw [h5]; omega
              have hzs : z.cells.size = ji.size := by omega
              rw [Array.toArray_toList, show len * z.cells.size = len * ji.size by rw [hzs]] at h8
              simp only [Instr.buildSlice, Sem.run_bind, run_underlying h1, Result.andThen_ok, hC.size h2, ← h5, if_neg hsm']
              by_cases h0 : len * ji.size = 0
              · have e0 : ∀ f : Nat → Value, (Array.range (len * ji.size)).map f = (#[] : Array Value) := by intro f; rw [h0]; simp
                rw [e0] at h8
                simp only [h0, if_true, Sem.run_pure, Sem.run_bind, Result.andThen_ok]
                rw [show ∀ f : Nat → Value, (Array.range 0).map f = (#[] : Array Value) from fun f => by simp, h8]
                simp only [Sem.run_bind, Go.newRow, run_newObj, Result.andThen_ok, Sem.run_pure]
                rfl
              · have hzv : (zeroValue el).run P w = .ok z w := by simp [zeroValue, typeInfo, h3, h4]
                simp only [if_neg h0, Sem.run_bind, hzv, Result.andThen_ok, Sem.run_pure]
                rw [h8]
                simp only [Sem.run_bind, Go.newRow, run_newObj, Result.andThen_ok, Sem.run_pure]
                rfl
          · exact hq.elim
        · exact hq.elim
      · exact hq.elim
    · exact hq.elim
  · exact hq.elim

theorem bytes_nil {a b : ByteArray} (ha : (a.data.toList == []) = true) (hb : (b.data.toList == []) = true) : a = b := by
  have h1 : a.data.toList = [] := by simpa using ha
  have h2 : b.data.toList = [] := by simpa using hb
  cases a; cases b
  congr 1
  apply Array.ext'
  rw [h1, h2]

theorem zeroOk_sound {O : Nat → Prop} : ∀ (t : Ty) (x : t.X) (zs r : List T) (vs : List Value), RepTs w O κ zs vs → zeroOk.leavesEq' zs (enc t x ++ r) = true →
    ∃ us ws zs', vs = us ++ ws ∧ us.length = t.size ∧ RoX w O t x us ∧ RepTs w O κ zs' ws ∧ zeroOk.leavesEq' zs' r = true := by
  intro t
  induction t with
  | int k =>
    intro x zs r vs hr he
    cases zs with
    | nil => simp [enc, zeroOk.leavesEq'] at he
    | cons t zs =>
      cases t <;> simp [enc, zeroOk.leavesEq'] at he
      obtain ⟨⟨rfl, hnx⟩, he⟩ := he
      have hnx := eq_of_beq (α := Int) hnx
      subst hnx
      simp only [RepTs] at hr
      obtain ⟨v, us, rfl, h1, h2⟩ := hr
      simp only [RepT] at h1
      exact ⟨[v], us, zs, rfl, rfl, by simp [RoX, h1], h2, he⟩
  | bool =>
    intro x zs r vs hr he
    cases zs with
    | nil => simp [enc, zeroOk.leavesEq'] at he
    | cons t zs =>
      cases t <;> simp [enc, zeroOk.leavesEq'] at he
      obtain ⟨hnx, he⟩ := he
      have hnx := eq_of_beq (α := Bool) hnx
      subst hnx
      simp only [RepTs] at hr
      obtain ⟨v, us, rfl, h1, h2⟩ := hr
      simp only [RepT] at h1
      exact ⟨[v], us, zs, rfl, rfl, by simp [RoX, h1], h2, he⟩
  | str =>
    intro x zs r vs hr he
    cases zs with
    | nil => simp [enc, zeroOk.leavesEq'] at he
    | cons t zs =>
      cases t <;> simp only [enc, List.cons_append, List.nil_append, zeroOk.leavesEq', Bool.and_eq_true] at he <;> try (cases he; done)
      obtain ⟨⟨ha, hb⟩, he⟩ := he
      simp only [RepTs] at hr
      obtain ⟨v, us, rfl, h1, h2⟩ := hr
      simp only [RepT] at h1
      exact ⟨[v], us, zs, rfl, rfl, by simp only [RoX]; rw [h1, bytes_nil ha hb], h2, he⟩
  | sl e ih =>
    intro x zs r vs hr he
    cases zs with
    | nil => simp [enc, zeroOk.leavesEq'] at he
    | cons t zs =>
      cases t <;> simp only [enc, List.cons_append, List.nil_append, zeroOk.leavesEq', Bool.and_eq_true] at he <;> try (cases he; done)
      obtain ⟨hx, he⟩ := he
      have hx0 : List.length (α := e.X) x = 0 := by simpa using hx
      have hx1 : x = ([] : List e.X) := List.eq_nil_of_length_eq_zero hx0
      subst hx1
      simp only [RepTs] at hr
      obtain ⟨v, us, rfl, h1, h2⟩ := hr
      simp only [RepT] at h1
      obtain ⟨L, rfl⟩ := h1
      exact ⟨[_], us, zs, rfl, rfl, ⟨L, 0, rfl, Nat.le_refl _, fun hn => absurd rfl hn⟩, h2, he⟩
  | pair a b iha ihb =>
    intro x zs r vs hr he
    simp only [enc, List.append_assoc] at he
    obtain ⟨u1, w1, z1, rfl, l1, x1, r1, e1⟩ := iha x.1 zs _ vs hr he
    obtain ⟨u2, w2, z2, rfl, l2, x2, r2, e2⟩ := ihb x.2 z1 _ w1 r1 e1
    exact ⟨u1 ++ u2, w2, z2, by simp, by simp [Ty.size, l1, l2], ⟨u1, u2, rfl, x1, x2⟩, r2, e2⟩
  | unit =>
    intro x zs r vs hr he
    exact ⟨[], vs, zs, rfl, rfl, by simp [RoX], hr, he⟩

theorem range_slice (z : List Value) (n i : Nat) (hi : i < n) : ((((List.range (n * z.length)).map fun k => z.getD (k % z.length) undef).drop (i * z.length)).take z.length) = z := by
  apply List.ext_getElem?
  intro k
  by_cases hk : k < z.length
  · have hlt : i * z.length + k < n * z.length := by
      have : (i + 1) * z.length ≤ n * z.length := Nat.mul_le_mul_right _ hi
      rw [Nat.add_mul, Nat.one_mul] at this; omega
    rw [List.getElem?_take_of_lt hk, List.getElem?_drop, List.getElem?_map, List.getElem?_range hlt]
    simp only [Option.map_some]
    rw [show (i * z.length + k) % z.length = k by rw [Nat.add_comm, Nat.add_mul_mod_self_right, Nat.mod_eq_of_lt hk], List.getD_eq_getElem?_getD, List.getElem?_eq_getElem hk]
    rfl
  · rw [List.getElem?_take, if_neg hk, List.getElem?_eq_none (by omega)]

theorem makeSlice_sound (hC : CtxOk P C) (H : HSim w0 S A κ h w) {t : Nat} {l c : T} {u v : Value} (hl : RepT w (OO A κ h) κ l u) (hc : RepT w (OO A κ h) κ c v)
    {base : Nat} (hb : κ base = none) {Q : Eff → Prop} (hq : (makeSliceT C t l c base).wp Q) :
    Res1 P w0 S A κ h w base Q fun d z w' h' κ' => RepT w' (OO A κ' h') κ' d z ∧ (Instr.makeSlice t u v).run P w = .ok z w' := by
  unfold makeSliceT at hq
  split at hq
  · rename_i l c j hj
    split at hq
    · rename_i hck
      obtain ⟨hzo, hz, hp, hty, hby⟩ := hck
      obtain ⟨hg, hq⟩ := DT.wp_guard hq
      have hg := of_decide_eq_true hg
      simp only [RepT] at hl hc; subst hl; subst hc
      obtain ⟨el, h1, h2⟩ := elemT_sound hC hj
      obtain ⟨ji, z, h3, h4, h5, h5b, h6, h7⟩ := zero_of hC h2 hz hp
      have hzl : z.cells.toList.length = j.size := by simpa using h6
      have hle : c ≤ 140737488355328 := by
        have h0 : 0 ≤ c := by omega
        have h9 : c * 1 ≤ c * (j.bytes : Int) := Int.mul_le_mul_of_nonneg_left (by omega) h0
        omega
      have hw1 : IntKind.i64.wrap l = l := by simp [IntKind.wrap, IntKind.bits, IntKind.signed]; omega
      have hw2 : IntKind.i64.wrap c = c := by simp [IntKind.wrap, IntKind.bits, IntKind.signed]; omega
      let vs := (List.range (c.toNat * z.cells.toList.length)).map fun k => z.cells.toList.getD (k % z.cells.toList.length) undef
      have hzero : ∀ O', RoX w O' j.ty j.ty.dflt z.cells.toList := by
        intro O'
        obtain ⟨us, ws, zs', e1, e2, e3, e4, e5⟩ := zeroOk_sound j.ty j.ty.dflt j.zero [] z.cells.toList (h7 w O' κ) (by rw [List.append_nil]; exact hzo)
        have : ws = [] := by
          have := congrArg List.length e1
          rw [List.length_append, e2, hzl, hty] at this
          exact List.eq_nil_of_length_eq_zero (by omega)
        rw [this, List.append_nil] at e1
        rw [e1]; exact e3
      obtain ⟨κ', h13, h14, h15, h16⟩ := H.newRow (id := base) hb (et := el) (e := j.ty) (xs := List.replicate l.toNat j.ty.dflt) (vs := vs) (cap := c.toNat) (by simp; omega) (by simp [vs, hzl, hty]) (fun i x hi => by
        have hlt : i < l.toNat := by have := (List.getElem?_eq_some_iff.1 hi).1; simpa using this
        have hx : x = j.ty.dflt := by rw [List.getElem?_replicate, if_pos hlt] at hi; exact (Option.some.inj hi).symm
        subst hx
        have hsl := range_slice z.cells.toList c.toNat i (by omega)
        rw [hzl, ← hty] at hsl
        simp only [vs, hzl, ← hty]
        rw [hsl]
        exact hzero _)
      refine ⟨_, κ', _, .slice (some ⟨w.heap.size, 0, none⟩) l.toNat c.toNat, hq, h14, h15, h16, ?_, ?_, ?_⟩
      · rw [h13]; exact put_new (by simp)
      · simp only [RepT]; exact ⟨some w.heap.size, by rw [h13, Kap.put_self]; simp⟩
      · have hbz : (ji.bytes : Int) * c ≤ 2 ^ 48 := by rw [h5b, Int.mul_comm]; omega
        have hti : (typeInfo el).run P w = .ok ji w := by simp [typeInfo, h3]
        have hcells : (if c.toNat * j.size = 0 then (#[] : Array Value) else z.cells) = z.cells ∨ c.toNat * j.size = 0 := by
          by_cases h0 : c.toNat * j.size = 0
          · exact .inr h0
          · exact .inl (by rw [if_neg h0])
        have harr : ((Array.range (c.toNat * j.size)).map (fun i => z.cells[i % z.cells.size]!)) = vs.toArray := by
          apply Array.ext'
          have := zeros_list z.cells c.toNat (by omega)
          rw [show c.toNat * z.cells.size = c.toNat * j.size by rw [h6]] at this
          rw [this]
        unfold Instr.makeSlice
        simp only [Sem.run_bind, run_underlying h1, Result.andThen_ok, asInt, asIntOf, Sem.run_pure, hti, hw1, hw2]
        rw [if_neg (by simp; omega)]
        simp only [Sem.run_bind, run_askRoom, Result.andThen_ok, hC.size h2]
        by_cases h0 : c.toNat * j.size = 0
        · have hv : vs = [] := by simp only [vs, hzl]; rw [h0]; rfl
          simp only [h0, if_true, Sem.run_pure, Result.andThen_ok, Go.newRow, Sem.run_bind, run_newObj, hv]
          rw [show ∀ f : Nat → Value, (Array.range 0).map f = (#[] : Array Value) from fun f => by simp]
          rfl
        · have hzv : (zeroValue el).run P w = .ok z w := by simp [zeroValue, typeInfo, h3, h4]
          simp only [h0, if_false, Sem.run_bind, hzv, Result.andThen_ok, Sem.run_pure, harr, Go.newRow, run_newObj]
          rfl
    · exact hq.elim
  · exact hq.elim

/-- the cells of what is read, in one list -/
theorem collect {α : Type} {R : α → List Value → Prop} {b sz : Nat} : ∀ (xs : List α) (off : Nat),
    (∀ (i : Nat) (x : α), xs[i]? = some x → ∃ us, R x us ∧ us.length = sz ∧ ∀ (j : Nat) (u : Value), us[j]? = some u → w.cell? ⟨b, off + (i * sz + j), none⟩ = some u) →
    ∃ cl : List Value, cl.length = xs.length * sz ∧ (∀ (j : Nat) (u : Value), cl[j]? = some u → w.cell? ⟨b, off + j, none⟩ = some u) ∧ ∀ (i : Nat) (x : α), xs[i]? = some x → R x ((cl.drop (i * sz)).take sz)
  | [], off, h => ⟨[], by simp, fun j u hj => by simp at hj, fun i x hi => by simp at hi⟩
  | x :: xs, off, h => by
    obtain ⟨us, h1, h2, h3⟩ := h 0 x rfl
    obtain ⟨cl, h4, h5, h6⟩ := collect xs (off + sz) (fun i y hi => by
      obtain ⟨us, k1, k2, k3⟩ := h (i + 1) y (by simpa using hi)
      exact ⟨us, k1, k2, fun j u hj => by have := k3 j u hj; rw [show off + sz + (i * sz + j) = off + ((i + 1) * sz + j) by rw [Nat.add_mul]; omega]; exact this⟩)
    refine ⟨us ++ cl, by simp [h2, h4, Nat.add_mul]; omega, fun j u hj => ?_, fun i y hi => ?_⟩
    · rw [List.getElem?_append] at hj
      split at hj
      · have := h3 j u hj; simpa using this
      · rename_i hge
        have := h5 _ u hj
        rw [show off + j = off + sz + (j - us.length) by omega]; exact this
    · cases i with
      | zero =>
        simp only [List.getElem?_cons_zero, Option.some.injEq] at hi; subst hi
        simp only [Nat.zero_mul, List.drop_zero]
        rw [← h2, List.take_left]; exact h1
      | succ i =>
        simp only [List.getElem?_cons_succ] at hi
        rw [show (i + 1) * sz = us.length + i * sz by rw [h2, Nat.add_mul]; omega, ← List.drop_drop, List.drop_left]
        exact h6 i y hi

/-- a slice's cells, as append reads them -/
def CellsOf (P : Program) (w : World) (O : Nat → Prop) (e : Ty) (xs : List e.X) (v : Value) : Prop :=
  ∃ cl : List Value, (∀ w' : World, (Builtin.lenOf v).run P w' = .ok xs.length w') ∧ (∀ w' : World, (∀ b, b < w.heap.size → w'.heap[b]? = w.heap[b]?) → (Builtin.firstCells e.size xs.length v).run P w' = .ok cl.toArray w') ∧
    cl.length = xs.length * e.size ∧ ∀ (i : Nat) (x : e.X), xs[i]? = some x → RoX w O e x ((cl.drop (i * e.size)).take e.size)

theorem cells_ro {O : Nat → Prop} {e : Ty} {xs : List e.X} {v : Value} (h : RoX w O (.sl e) xs [v]) : CellsOf P w O e xs v := by
  obtain ⟨L, c, h1, h2, h3⟩ := h
  injection h1 with h1; subst h1
  by_cases hne : xs = []
  · refine ⟨[], fun w' => by simp [Builtin.lenOf], fun w' _ => ?_, by simp [hne], fun i x hi => by rw [hne] at hi; simp at hi⟩
    cases L with
    | none => simp [Builtin.firstCells]
    | some a => simp [Builtin.firstCells, hne, loadCells, loadCellsFrom]
  · obtain ⟨b, off, hL, hb, ho, hc⟩ := h3 hne
    obtain ⟨cl, h4, h5, h6⟩ := collect xs off hc
    refine ⟨cl, fun w' => by simp [Builtin.lenOf], fun w' hw => ?_, h4, h6⟩
    subst hL
    simp only [Builtin.firstCells]
    rw [← h4]
    exact run_loadCells_list w' _ _ (fun j u hj => by rw [addr_add, World.cell?_of_block (w := w) (hw b hb)]; exact h5 j u hj)

theorem cells_row (H : HSim w0 S A κ h w) {id : Nat} {e : Ty} {xs : List e.X} {v : Value} {ob : Option Nat} (hb : h id = .row e xs) (hk : κ id = some (v, ob)) : CellsOf P w (OO A κ h) e xs v := by
  have hrep := H.rep id
  rw [hb] at hrep
  rcases hrep with ⟨rfl, L, h1⟩ | ⟨b, cap, vs, et, h1, h2, h3, h4, h5⟩
  · rw [hk] at h1; injection h1 with h1; injection h1 with h1 _; subst h1
    refine ⟨[], fun w' => by simp [Builtin.lenOf], fun w' _ => ?_, by simp, fun i x hi => by simp at hi⟩
    cases L with
    | none => simp [Builtin.firstCells]
    | some a => simp [Builtin.firstCells, loadCells, loadCellsFrom]
  · rw [hk] at h1; injection h1 with h1; injection h1 with h1 _; subst h1
    have hle : xs.length * e.size ≤ vs.length := by rw [h4]; exact Nat.mul_le_mul_right _ h2
    have hlt : b < w.heap.size := (Array.getElem?_eq_some_iff.1 h3).1
    refine ⟨vs.take (xs.length * e.size), fun w' => by simp [Builtin.lenOf], fun w' hw => ?_, by simp; omega, fun i x hi => ?_⟩
    · simp only [Builtin.firstCells]
      have hl : (vs.take (xs.length * e.size)).length = xs.length * e.size := by simp; omega
      have hrun := run_loadCells_list (P := P) w' ⟨b, 0, none⟩ (vs.take (xs.length * e.size)) (fun j u hj => ?_)
      · rw [hl] at hrun; exact hrun
      rw [addr_add]
      rw [World.cell?_of_block (w := w) (hw b hlt)]
      have hj2 : j < xs.length * e.size := by have := (List.getElem?_eq_some_iff.1 hj).1; omega
      rw [List.getElem?_take_of_lt hj2] at hj
      simp only [World.cell?, h3, Nat.zero_add]
      simpa using hj
    · have hilt : i < xs.length := (List.getElem?_eq_some_iff.1 hi).1
      have hm : (i + 1) * e.size ≤ xs.length * e.size := Nat.mul_le_mul_right _ hilt
      rw [Nat.add_mul, Nat.one_mul] at hm
      have : ((vs.take (xs.length * e.size)).drop (i * e.size)).take e.size = (vs.drop (i * e.size)).take e.size := by
        rw [List.drop_take, List.take_take]
        congr 1; omega
      rw [this]; exact h5 i x hi

theorem castX_cells {O : Nat → Prop} {e e' : Ty} {xs : List e.X} {ys : List e'.X} {v : Value} (hc : castX e e' xs = some ys) (h : CellsOf P w O e xs v) : CellsOf P w O e' ys v := by
  obtain ⟨rfl, rfl⟩ := castX_some hc
  exact h

theorem add_sound (H : HSim w0 S A κ h w) (hs : Sub hr h) {e : Ty} {x : T} {v : Value} {ys : List e.X} (hx : RepT w (OO A κ h) κ x v) (ha : addT hr e x = some ys) : CellsOf P w (OO A κ h) e ys v := by
  unfold addT at ha
  cases x with
  | ro e' xs => exact castX_cells ha (cells_ro (by simpa only [RepT] using hx))
  | z =>
    simp only [Option.some.injEq] at ha; subst ha
    simp only [RepT] at hx
    obtain ⟨L, rfl⟩ := hx
    refine ⟨[], fun w' => by simp [Builtin.lenOf], fun w' _ => ?_, by simp, fun i x hi => by simp at hi⟩
    cases L with
    | none => simp [Builtin.firstCells]
    | some a => simp [Builtin.firstCells, loadCells, loadCellsFrom]
  | ow id =>
    simp only [RepT] at hx
    obtain ⟨ob, hx⟩ := hx
    simp only at ha
    cases hb : hr id with
    | row e' xs =>
      simp only [hb] at ha
      exact castX_cells ha (cells_row H (hs.get hb (by simp)) hx)
    | fro e' xs =>
      simp only [hb] at ha
      have hrep := H.rep id
      rw [hs.get hb (by simp)] at hrep
      obtain ⟨v', ob', h1, h2⟩ := hrep
      rw [hx] at h1; injection h1 with h1; injection h1 with h1 _; subst h1
      exact castX_cells ha (cells_ro h2)
    | _ => simp [hb] at ha
  | str s =>
    simp only [RepT] at hx; subst hx
    obtain ⟨he, ha⟩ := castX_some ha
    subst he
    have hys : ys = List.map (fun b : UInt8 => (b.toNat : Int)) s.data.toList := ha.symm
    have hlen : List.length ys = s.size := by rw [hys]; exact (List.length_map _).trans rfl
    refine ⟨s.data.toList.map fun b => .int .u8 b.toNat, fun w' => by rw [hlen]; simp [Builtin.lenOf], fun w' _ => ?_, by rw [hlen, List.length_map]; simp only [Ty.size, Nat.mul_one]; rfl, fun i x hi => ?_⟩
    · simp only [Builtin.firstCells, hlen]
      have : (s.extract 0 s.size) = s := by simp
      rw [this]
      simp only [Sem.run_pure]
      congr 1
      apply Array.ext'
      simp
    · rw [hys] at hi
      obtain ⟨b, hb, hbx⟩ := Option.map_eq_some_iff.1 ((List.getElem?_map (f := fun b : UInt8 => (b.toNat : Int)) (l := s.data.toList) (i := i)).symm.trans hi)
      have hlt : i < s.data.toList.length := (List.getElem?_eq_some_iff.1 hb).1
      have hb' : s.data.toList[i] = b := (List.getElem?_eq_some_iff.1 hb).2
      simp only [RoX, Ty.size, Nat.mul_one]
      rw [List.drop_eq_getElem_cons (by simpa using hlt)]
      simp only [List.getElem_map, hb', List.take_succ_cons, List.take_zero]
      rw [← hbx]
  | _ => cases ha
end
end Go.Am

/- The symbolic machine: append. -/
set_option linter.unusedVariables false
set_option linter.unusedSimpArgs false
namespace Go.Am
open Go Go.RowKit

theorem RoX.ones {w : World} {O : Nat → Prop} : ∀ (t : Ty) (x : t.X) (vs : List Value), RoX w O t x vs → ∀ v ∈ vs, v.oneCell' = true
  | .int k, n, vs, h, v, hv => by simp only [RoX] at h; subst h; simp at hv; subst hv; rfl
  | .bool, n, vs, h, v, hv => by simp only [RoX] at h; subst h; simp at hv; subst hv; rfl
  | .str, n, vs, h, v, hv => by simp only [RoX] at h; subst h; simp at hv; subst hv; rfl
  | .sl e, xs, vs, h, v, hv => by obtain ⟨A, c, rfl, _⟩ := h; simp at hv; subst hv; rfl
  | .pair a b, x, vs, h, v, hv => by
    obtain ⟨v1, v2, rfl, h1, h2⟩ := h
    rcases List.mem_append.1 hv with hv | hv
    · exact RoX.ones a _ _ h1 v hv
    · exact RoX.ones b _ _ h2 v hv
  | .unit, _, vs, h, v, hv => by simp only [RoX] at h; subst h; simp at hv

theorem cells_ones {w : World} {O : Nat → Prop} {e : Ty} {xs : List e.X} {cl : List Value} (hp : 0 < e.size) (hl : cl.length = xs.length * e.size) (hx : ∀ (i : Nat) (x : e.X), xs[i]? = some x → RoX w O e x ((cl.drop (i * e.size)).take e.size)) :
    ∀ v ∈ cl, v.oneCell' = true := by
  intro v hv
  obtain ⟨k, hk, rfl⟩ := List.getElem_of_mem hv
  have hi : k / e.size < xs.length := Nat.div_lt_of_lt_mul (by rw [Nat.mul_comm, ← hl]; exact hk)
  have h1 := hx _ _ (List.getElem?_eq_getElem hi)
  refine RoX.ones _ _ _ h1 _ ?_
  have hmod : k % e.size < e.size := Nat.mod_lt _ hp
  have hdec : k / e.size * e.size + k % e.size = k := by rw [Nat.mul_comm]; exact Nat.div_add_mod k e.size
  apply List.mem_of_getElem? (i := k % e.size)
  rw [List.getElem?_take_of_lt hmod, List.getElem?_drop, hdec, List.getElem?_eq_getElem hk]

section
variable {P : Program} {C : Ctx} {w0 : World} {S A : Nat → Prop} {κ : Kap} {h hr : Heap} {w : World}

/-- a row goes on under a new number -/
theorem HSim.rename (H : HSim w0 S A κ h w) {id id' b : Nat} {v v' : Value} {nb : B} (hl : (h id).live = true) (hk : κ id = some (v, some b)) (hid : κ id' = none) (hnl : nb.live = true) (hone : v'.oneCell' = true)
    (hkw : ∀ L n c, v' = .slice L n c → L = some ⟨b, 0, none⟩) (hnb : RepB w (OO A κ h) (κ.put id' (v', some b)) id' nb) :
    HSim w0 S A (κ.put id' (v', some b)) ((h.upd id .none).upd id' nb) w ∧ Ext w (OO A κ h) w (OO A (κ.put id' (v', some b)) ((h.upd id .none).upd id' nb)) := by
  have hle := Kap.le_put hid (v', some b)
  have hne : id ≠ id' := by rintro rfl; rw [hk] at hid; cases hid
  have hcase : ∀ j, ((h.upd id .none).upd id' nb) j = if j = id' then nb else if j = id then .none else h j := fun j => rfl
  have hlive : ∀ j, (((h.upd id .none).upd id' nb) j).live = true → j = id' ∨ (j ≠ id ∧ j ≠ id' ∧ (h j).live = true) := by
    intro j hj
    rw [hcase] at hj
    by_cases e1 : j = id'
    · exact .inl e1
    · by_cases e2 : j = id
      · rw [if_neg e1, if_pos e2] at hj; cases hj
      · rw [if_neg e1, if_neg e2] at hj; exact .inr ⟨e2, e1, hj⟩
  have hown : ∀ k, Own (κ.put id' (v', some b)) ((h.upd id .none).upd id' nb) k ↔ Own κ h k := by
    intro k
    constructor
    · rintro ⟨j, u, h1, h2⟩
      rcases hlive j h1 with rfl | ⟨e1, e2, h3⟩
      · rw [Kap.put_self] at h2
        injection h2 with h2; injection h2 with _ h2; injection h2 with h2; subst h2
        exact ⟨id, v, hl, hk⟩
      · rw [Kap.put_other _ _ e2] at h2; exact ⟨j, u, h3, h2⟩
    · rintro ⟨j, u, h1, h2⟩
      by_cases e : j = id
      · subst e
        rw [hk] at h2; injection h2 with h2; injection h2 with _ h2; injection h2 with h2; subst h2
        exact ⟨id', v', by rw [hcase, if_pos rfl]; exact hnl, Kap.put_self _ _ _⟩
      · have e2 : j ≠ id' := by rintro rfl; rw [hid] at h2; cases h2
        exact ⟨j, u, by rw [hcase, if_neg e2, if_neg e]; exact h1, by rw [Kap.put_other _ _ e2]; exact h2⟩
  have hO : OO A (κ.put id' (v', some b)) ((h.upd id .none).upd id' nb) = OO A κ h := by
    funext k
    exact propext ⟨fun x => x.imp _root_.id (hown k).1, fun x => x.imp _root_.id (hown k).2⟩
  rw [hO]
  refine ⟨⟨fun j => ?_, fun i j u1 u2 k h1 h2 h3 h4 => ?_, fun j L n c k hj => ?_, fun k hk' => H.own k ((hown k).1 hk'), H.abnd, fun j u k hj => ?_, fun j u ob hj => ?_, H.frame⟩, Ext.refl _ _⟩
  · rw [hO, hcase]
    by_cases e1 : j = id'
    · subst e1; rw [if_pos rfl]; exact hnb
    · rw [if_neg e1]
      by_cases e2 : j = id
      · rw [if_pos e2]; trivial
      · rw [if_neg e2]; exact RepB.mono (Ext.refl _ _) hle (fun _ _ _ _ => rfl) (H.rep j)
  · rcases hlive i h1 with rfl | ⟨a1, a2, a3⟩ <;> rcases hlive j h2 with rfl | ⟨b1, b2, b3⟩
    · rfl
    · rw [Kap.put_self] at h3; rw [Kap.put_other _ _ b2] at h4
      injection h3 with h3; injection h3 with _ h3; injection h3 with h3; subst h3
      exact absurd (H.inj j id _ _ b b3 hl h4 hk) b1
    · rw [Kap.put_self] at h4; rw [Kap.put_other _ _ a2] at h3
      injection h4 with h4; injection h4 with _ h4; injection h4 with h4; subst h4
      exact absurd (H.inj i id _ _ b a3 hl h3 hk) a1
    · rw [Kap.put_other _ _ a2] at h3; rw [Kap.put_other _ _ b2] at h4
      exact H.inj i j _ _ k a3 b3 h3 h4
  · by_cases e : j = id'
    · subst e
      rw [Kap.put_self] at hj
      injection hj with hj; injection hj with hj1 hj2; injection hj2 with hj2; subst hj2
      exact hkw L n c hj1
    · rw [Kap.put_other _ _ e] at hj; exact H.kwf j L n c k hj
  · by_cases e : j = id'
    · subst e
      rw [Kap.put_self] at hj
      injection hj with hj; injection hj with hj1 hj2; injection hj2 with hj2; subst hj2
      exact H.kbnd _ _ _ hk
    · rw [Kap.put_other _ _ e] at hj; exact H.kbnd _ _ _ hj
  · by_cases e : j = id'
    · subst e
      rw [Kap.put_self] at hj
      injection hj with hj; injection hj with hj1 hj2
      rw [← hj1]; exact hone
    · rw [Kap.put_other _ _ e] at hj; exact H.kone _ _ _ hj

/-- growing: a new row -/
theorem run_append_grow (hC : CtxOk P C) {t u el ty : Nat} {iu j : TI} (hu : C.ti u = some iu) (hni : noInt iu.kind = true) (ht : P.underlying t = some (.slice el)) (hj : C.ti el = some j) (hsz : j.ty.size = j.size) (hz : j.zero.length = j.size) (hp : 0 < j.size) (hby : 0 < j.bytes)
    {O : Nat → Prop} {xs ys : List j.ty.X} {L : Option Addr} {cap : Nat} {y : Value} (hx : CellsOf P w O j.ty xs (.slice L xs.length cap)) (hy : CellsOf P w O j.ty ys y) (hcap : cap < xs.length + ys.length) (hb : (xs.length + ys.length) * j.bytes ≤ 140737488355328) :
    ∃ newCap vs, (Builtin.append_ #[t, u] ty #[.slice L xs.length cap, y]).run P w = .ok (.slice (some ⟨w.heap.size, 0, none⟩) (xs.length + ys.length) newCap) (w.drew.alloc (.cells (List.toArray vs) el)) ∧
      xs.length + ys.length ≤ newCap ∧ vs.length = newCap * j.ty.size ∧ ∀ (i : Nat) (x : j.ty.X), (xs ++ ys)[i]? = some x → RoX w O j.ty x ((vs.drop (i * j.ty.size)).take j.ty.size) := by
  obtain ⟨cx, x1, x2, x3, x4⟩ := hx
  obtain ⟨cy, y1, y2, y3, y4⟩ := hy
  obtain ⟨ji, z, h3, h4, h5, h5b, h6, _⟩ := zero_of hC hj hz hp
  obtain ⟨_, du, _, hdu, _, _, hku, _⟩ := hC.info hu
  have hti : ∀ w' : World, (typeInfo el).run P w' = .ok ji w' := fun w' => by simp [typeInfo, h3]
  have hso : ∀ w' : World, (sizeOf el).run P w' = .ok j.size w' := fun w' => hC.size hj w'
  have hzv : ∀ w' : World, (zeroValue el).run P w' = .ok z w' := fun w' => by simp [zeroValue, typeInfo, h3, h4]
  have hnd : ∀ k, du ≠ .int k := by rintro k rfl; rw [← hku] at hni; simp [kindOf, noInt] at hni
  have hneed : xs.length + ys.length ≤ 140737488355328 := Nat.le_trans (Nat.le_mul_of_pos_right _ hby) hb
  have hnext : Builtin.nextslicecap (xs.length + ys.length) cap * ji.bytes ≤ 2 ^ 48 := by
    have h7 := nextslicecap_le hcap
    rw [h5b]
    calc _ ≤ 2 * (xs.length + ys.length) * j.bytes := Nat.mul_le_mul_right _ h7
      _ ≤ 2 ^ 48 := by rw [Nat.mul_assoc]; omega
  let nc := Question.cut (.appendCap (xs.length + ys.length) cap el) (w.tape w.drawn (.appendCap (xs.length + ys.length) cap el))
  have hnc : (xs.length + ys.length) ≤ nc := by simp only [nc, Question.cut]; omega
  have hch : (choose (.appendCap (xs.length + ys.length) cap el)).run P w = .ok nc w.drew := by
    rw [run_choose]; rfl
  let rest := Builtin.zeroCells z.cells (nc - (xs.length + ys.length))
  refine ⟨nc, cx ++ cy ++ rest.toList, ?_, hnc, ?_, fun i x hi => ?_⟩
  · have hlim : ¬ xs.length + ys.length ≤ cap := by omega
    have hdr : ∀ b, b < w.heap.size → w.drew.heap[b]? = w.heap[b]? := fun _ _ => rfl
    unfold Builtin.append_
    simp only [List.getElem?_toArray, List.getElem?_cons_zero, List.getElem?_cons_succ, Sem.run_bind, run_underlying ht, Result.andThen_ok, hso, run_underlying hdu, Sem.run_pure]
    rw [if_neg]
    rotate_left
    · cases du <;> first | (simp; done) | exact absurd rfl (hnd _)
    simp only [Sem.run_bind, y1, Result.andThen_ok]
    rw [if_neg hlim]
    simp only [Sem.run_bind, hti, Result.andThen_ok]
    rw [if_neg (by intro hh; have := hh.1; simp at this; omega)]
    simp only [Sem.run_bind, hti, Result.andThen_ok]
    rw [if_neg (Nat.not_lt.2 hnext)]
    simp only [Sem.run_bind, hch, Result.andThen_ok, hti, run_askRoom, ← hsz, x2 w.drew hdr]
    rw [if_pos]
    rotate_left
    · cases du <;> first | (simp; done) | exact absurd rfl (hnd _)
    simp only [y2 w.drew hdr, Result.andThen_ok, Sem.run_bind, hzv, Sem.run_pure, Go.newRow, run_newObj]
    have e : cx.toArray ++ cy.toArray ++ Builtin.zeroCells z.cells (nc - (xs.length + ys.length)) = (cx ++ cy ++ rest.toList).toArray := by
      simp [rest]
    rw [e]
    rfl
  · have hrl : rest.toList.length = (nc - (xs.length + ys.length)) * j.ty.size := by
      simp [rest, Builtin.zeroCells, h6, hsz]
    rw [List.length_append, List.length_append, x3, y3, hrl, ← Nat.add_mul, ← Nat.add_mul]
    congr 1; omega
  · rw [List.append_assoc]
    by_cases c : i < xs.length
    · rw [List.getElem?_append_left c] at hi
      have hm : (i + 1) * j.ty.size ≤ xs.length * j.ty.size := Nat.mul_le_mul_right _ c
      rw [Nat.add_mul, Nat.one_mul] at hm
      rw [List.drop_append_of_le_length (by omega), List.take_append_of_le_length (by simp; omega)]
      exact x4 i x hi
    · rw [List.getElem?_append_right (by omega)] at hi
      have hlt : i - xs.length < ys.length := (List.getElem?_eq_some_iff.1 hi).1
      have hm : (i - xs.length + 1) * j.ty.size ≤ ys.length * j.ty.size := Nat.mul_le_mul_right _ hlt
      rw [Nat.add_mul, Nat.one_mul] at hm
      have e : i * j.ty.size = cx.length + (i - xs.length) * j.ty.size := by
        rw [x3, ← Nat.add_mul]; congr 1; omega
      rw [e, ← List.drop_drop, List.drop_left, List.drop_append_of_le_length (by omega), List.take_append_of_le_length (by simp; omega)]
      exact y4 _ x hi

/-- room enough: in place -/
theorem run_append_here (hC : CtxOk P C) {t u el ty : Nat} {iu j : TI} (hu : C.ti u = some iu) (hni : noInt iu.kind = true) (ht : P.underlying t = some (.slice el)) (hj : C.ti el = some j)
    {n m cap : Nat} {L : Option Addr} {y : Value} {cl : List Value} {w' : World} (h1 : (Builtin.lenOf y).run P w = .ok m w) (h2 : (Builtin.firstCells j.size m y).run P w = .ok cl.toArray w) (hcap : n + m ≤ cap)
    (hst : ∀ a, L = some a → (storeCells (a.add (n * j.size)) cl).run P w = .ok () w') (hno : L = none → w' = w) :
    (Builtin.append_ #[t, u] ty #[.slice L n cap, y]).run P w = .ok (.slice L (n + m) cap) w' := by
  obtain ⟨_, du, _, hdu, _, _, hku, _⟩ := hC.info hu
  have hnd : ∀ k, du ≠ .int k := by rintro k rfl; rw [← hku] at hni; simp [kindOf, noInt] at hni
  have hso : ∀ w' : World, (sizeOf el).run P w' = .ok j.size w' := fun w' => hC.size hj w'
  unfold Builtin.append_
  simp only [List.getElem?_toArray, List.getElem?_cons_zero, List.getElem?_cons_succ, Sem.run_bind, run_underlying ht, Result.andThen_ok, hso, run_underlying hdu, Sem.run_pure]
  rw [if_neg]
  rotate_left
  · cases du <;> first | (simp; done) | exact absurd rfl (hnd _)
  simp only [Sem.run_bind, h1, Result.andThen_ok]
  rw [if_pos hcap]
  simp only [Sem.run_bind]
  rw [if_pos]
  rotate_left
  · cases du <;> first | (simp; done) | exact absurd rfl (hnd _)
  simp only [h2, Result.andThen_ok]
  cases L with
  | none => rw [hno rfl]; rfl
  | some a =>
    have := hst a rfl
    simp only [Sem.run_bind, this, Result.andThen_ok, Sem.run_pure]

theorem HSim.upd_self {id : Nat} {b : B} (hb : h id = b) : h.upd id b = h := by
  funext j
  unfold Heap.upd
  by_cases e : j = id
  · subst e; rw [if_pos rfl, hb]
  · rw [if_neg e]

theorem append_sound (hC : CtxOk P C) (H : HSim w0 S A κ h w) (hs : Sub hr h) {tys : List Nat} {ty : Nat} {s x : T} {u v : Value} (hsr : RepT w (OO A κ h) κ s u) (hxr : RepT w (OO A κ h) κ x v)
    {base : Nat} (hb : κ base = none) {Q : Eff → Prop} (hq : (appendT C hr tys s x base).wp Q) :
    Res1 P w0 S A κ h w base Q fun d z w' h' κ' => RepT w' (OO A κ' h') κ' d z ∧ (Builtin.append_ tys.toArray ty #[u, v]).run P w = .ok z w' := by
  unfold appendT at hq
  split at hq
  · rename_i t ut
    split at hq
    · rename_i iu j hu hj
      obtain ⟨el, ht, hel⟩ := elemT_sound hC hj
      split at hq
      · rename_i hck
        obtain ⟨hni, hp, hby, hsz, hz⟩ := hck
        split at hq
        · rename_i ys hys
          have hcy := add_sound (P := P) H hs hxr hys
          -- growth
          have grow : ∀ {κ1 : Kap} {h1 : Heap} {xs : List j.ty.X} {L : Option Addr} {cap : Nat}, u = .slice L xs.length cap → CellsOf P w (OO A κ h) j.ty xs u → cap < xs.length + ys.length → (xs.length + ys.length) * j.bytes ≤ 140737488355328 →
              HSim w0 S A κ h1 w → Ext w (OO A κ h) w (OO A κ h1) →
              ∃ κ' w' z, HSim w0 S A κ' (h1.upd base (.row j.ty (xs ++ ys))) w' ∧ Ext w (OO A κ h) w' (OO A κ' (h1.upd base (.row j.ty (xs ++ ys)))) ∧ κ.le κ' ∧ (∀ id, κ' id ≠ none → κ id ≠ none ∨ (base ≤ id ∧ id < base + 1)) ∧
                RepT w' (OO A κ' (h1.upd base (.row j.ty (xs ++ ys)))) κ' (.ow base) z ∧ (Builtin.append_ #[t, ut] ty #[u, v]).run P w = .ok z w' := by
            intro κ1 h1 xs L cap hu' hcx hcap hbz H1 hx1
            subst hu'
            obtain ⟨nc, vs, g1, g2, g3, g4⟩ := run_append_grow (ty := ty) hC hu hni ht hel hsz hz hp hby hcx hcy hcap hbz
            have Hd := H1.drew
            obtain ⟨κ', g5, g6, g7, g8⟩ := Hd.newRow hb (et := el) (e := j.ty) (xs := xs ++ ys) (vs := vs) (cap := nc) (by rw [List.length_append]; exact g2) g3 (fun i y hi => RoX.mono (hx1.trans (ext_drew w _)) _ _ _ (g4 i y hi))
            refine ⟨κ', _, _, g6, (hx1.trans (ext_drew w _)).trans g7, g8, by rw [g5]; exact put_new (by simp), ?_, g1⟩
            simp only [RepT]
            exact ⟨some w.heap.size, by rw [g5, Kap.put_self, List.length_append]; rfl⟩
          -- nothing at nothing
          have nil : ∀ {h1 : Heap} {L : Option Addr}, u = .slice L 0 0 → ys = [] → HSim w0 S A κ h1 w → Ext w (OO A κ h) w (OO A κ h1) →
              ∃ κ' w' z, HSim w0 S A κ' (h1.upd base (.row j.ty ys)) w' ∧ Ext w (OO A κ h) w' (OO A κ' (h1.upd base (.row j.ty ys))) ∧ κ.le κ' ∧ (∀ id, κ' id ≠ none → κ id ≠ none ∨ (base ≤ id ∧ id < base + 1)) ∧
                RepT w' (OO A κ' (h1.upd base (.row j.ty ys))) κ' (.ow base) z ∧ (Builtin.append_ #[t, ut] ty #[u, v]).run P w = .ok z w' := by
            intro h1 L hu' hy0 H1 hx1
            subst hu'; subst hy0
            obtain ⟨cy, y1, y2, y3, y4⟩ := hcy
            have hcy0 : cy = [] := List.eq_nil_of_length_eq_zero (by rw [y3]; simp)
            subst hcy0
            have hn := H1.new hb (v := .slice L 0 0) (ob := none) (nb := .row j.ty []) (w' := w) H1.frame (Ext.refl _ _) (fun _ _ => rfl) rfl (fun b hb => by cases hb) (fun _ _ _ _ _ hb => by cases hb)
              (fun _ => .inl ⟨rfl, L, Kap.put_self _ _ _⟩)
            refine ⟨_, w, .slice L 0 0, hn.1, hx1.trans hn.2, Kap.le_put hb _, put_new (by simp), ?_, ?_⟩
            · simp only [RepT]; exact ⟨none, Kap.put_self _ _ _⟩
            · have y2' := y2 w (fun _ _ => rfl)
              rw [hsz] at y2'
              exact run_append_here hC hu hni ht hel (y1 w) y2' (by simp) (fun a _ => by simp [storeCells]) (fun _ => rfl)
          have cells0 : ∀ {L : Option Addr}, CellsOf P w (OO A κ h) j.ty [] (.slice L 0 0) := by
            intro L
            refine ⟨[], fun w' => by simp [Builtin.lenOf], fun w' _ => ?_, by simp, fun i x hi => by simp at hi⟩
            cases L with
            | none => simp [Builtin.firstCells]
            | some a => simp [Builtin.firstCells, loadCells, loadCellsFrom]
          split at hq
          · -- onto nothing
            obtain ⟨hg, hq⟩ := DT.wp_guard hq
            have hg := of_decide_eq_true hg
            simp only [RepT] at hsr
            obtain ⟨L, rfl⟩ := hsr
            by_cases hy0 : ys = []
            · obtain ⟨κ', w', z, g1, g2, g3, g4, g5, g6⟩ := nil rfl hy0 H (Ext.refl _ _)
              exact ⟨_, κ', w', z, hq, g1, g2, g3, g4, g5, g6⟩
            · have hpos : 0 < ys.length := List.length_pos_iff.2 hy0
              obtain ⟨κ', w', z, g1, g2, g3, g4, g5, g6⟩ := grow (κ1 := κ) (h1 := h) (xs := []) rfl cells0 (by simpa using hpos) (by simpa using hg) H (Ext.refl _ _)
              exact ⟨_, κ', w', z, hq, g1, g2, g3, g4, g5, g6⟩
          · rename_i id
            cases hbr : hr id with
            | row e xs0 =>
              simp only [hbr] at hq
              have hb' := hs.get hbr (by simp)
              split at hq
              · rename_i xs hcast
                split at hq
                · exact hq.elim
                · obtain ⟨hg, hq⟩ := DT.wp_guard hq
                  have hg := of_decide_eq_true hg
                  obtain ⟨he, hxs⟩ := castX_some hcast
                  subst he
                  simp only at hxs; subst hxs
                  simp only [RepT] at hsr
                  obtain ⟨ob, hk⟩ := hsr
                  have hkill := H.less (h' := h.upd id .none) (fun k => by
                    unfold Heap.upd
                    by_cases e : k = id
                    · rw [if_pos e]; exact .inr (.inr rfl)
                    · rw [if_neg e]; exact .inl rfl)
                  have hcx := cells_row (P := P) H hb' hk
                  have hrep := H.rep id
                  rw [hb'] at hrep
                  rcases hrep with ⟨hx0, L, h1⟩ | ⟨b, cap, vs, et, h1, h2, h3, h4, h5⟩
                  · rw [hk] at h1; injection h1 with h1; injection h1 with h1 _; subst h1
                    subst hx0
                    by_cases hy0 : ys = []
                    · obtain ⟨κ', w', z, g1, g2, g3, g4, g5, g6⟩ := nil rfl hy0 hkill.1 hkill.2
                      exact ⟨_, κ', w', z, hq, g1, g2, g3, g4, g5, g6⟩
                    · have hpos : 0 < ys.length := List.length_pos_iff.2 hy0
                      obtain ⟨κ', w', z, g1, g2, g3, g4, g5, g6⟩ := grow (κ1 := κ) (h1 := h.upd id .none) (xs := []) rfl hcx (by simpa using hpos) (by simpa using hg) hkill.1 hkill.2
                      exact ⟨_, κ', w', z, hq, g1, g2, g3, g4, g5, g6⟩
                  · rw [hk] at h1; injection h1 with h1; injection h1 with h1 h1'; subst h1; subst h1'
                    by_cases hcap : xs0.length + ys.length ≤ cap
                    · -- in place
                      obtain ⟨cy, y1, y2, y3, y4⟩ := hcy
                      have hsp : 0 < j.ty.size := by omega
                      have hfit : (xs0.length + ys.length) * j.ty.size ≤ cap * j.ty.size := Nat.mul_le_mul_right _ hcap
                      rw [Nat.add_mul] at hfit
                      have hones := cells_ones hsp y3 y4
                      have hrun := run_storeCells_at (P := P) b (xs0.length * j.ty.size) et cy 0 vs.toArray w h3 (by simp [h4]; omega) hones
                      simp only [Nat.add_zero] at hrun
                      have hget := spl_get vs cy (xs0.length * j.ty.size) (by omega)
                      generalize hnw : vs.take (xs0.length * j.ty.size) ++ cy ++ vs.drop (xs0.length * j.ty.size + cy.length) = new at hget hrun
                      have hnl : new.length = vs.length := by
                        rw [← hnw]; simp only [List.length_append, List.length_take, List.length_drop]; omega
                      have hold : ∀ i, i < xs0.length → (new.drop (i * j.ty.size)).take j.ty.size = (vs.drop (i * j.ty.size)).take j.ty.size := by
                        intro i hi
                        have hm : (i + 1) * j.ty.size ≤ xs0.length * j.ty.size := Nat.mul_le_mul_right _ hi
                        rw [Nat.add_mul, Nat.one_mul] at hm
                        apply List.ext_getElem?
                        intro k
                        by_cases c : k < j.ty.size
                        · rw [List.getElem?_take_of_lt c, List.getElem?_drop, hget, if_pos (by omega), List.getElem?_take_of_lt c, List.getElem?_drop]
                        · rw [List.getElem?_take, if_neg c, List.getElem?_take, if_neg c]
                      have hnewel : ∀ i, i < ys.length → (new.drop ((xs0.length + i) * j.ty.size)).take j.ty.size = (cy.drop (i * j.ty.size)).take j.ty.size := by
                        intro i hi
                        have hm : (i + 1) * j.ty.size ≤ ys.length * j.ty.size := Nat.mul_le_mul_right _ hi
                        rw [Nat.add_mul, Nat.one_mul] at hm
                        apply List.ext_getElem?
                        intro k
                        by_cases c : k < j.ty.size
                        · rw [List.getElem?_take_of_lt c, List.getElem?_drop, hget, if_neg (by rw [Nat.add_mul]; omega), if_pos (by rw [Nat.add_mul]; omega), List.getElem?_take_of_lt c, List.getElem?_drop]
                          congr 1; rw [Nat.add_mul]; omega
                        · rw [List.getElem?_take, if_neg c, List.getElem?_take, if_neg c]
                      have hxw : Ext w (OO A κ h) (w.setRow b new.toArray) (OO A κ h) :=
                        ⟨by simp, fun k _ hk2 => ⟨hk2, setRow_other _ _ _ _ (fun e => hk2 (e ▸ .inr ⟨id, _, by rw [hb']; rfl, hk⟩))⟩⟩
                      have hst := H.store (id := id) (vs' := new) (nb := .row j.ty xs0) (by rw [hb']; rfl) hk h3 rfl
                        (.inr ⟨b, cap, new, et, hk, h2, setRow_heap _ _ _ _ _ _ h3, by omega, fun i x hi => by
                          rw [hold i (List.getElem?_eq_some_iff.1 hi).1]; exact RoX.mono hxw _ _ _ (h5 i x hi)⟩)
                      rw [HSim.upd_self hb'] at hst
                      have hren := hst.1.rename (id := id) (id' := base) (b := b) (v' := .slice (some ⟨b, 0, none⟩) (xs0.length + ys.length) cap) (nb := .row j.ty (xs0 ++ ys)) (by rw [hb']; rfl) hk hb rfl rfl
                        (fun L n c hv => by injection hv with hv _ _; exact hv.symm)
                        (.inr ⟨b, cap, new, et, by rw [Kap.put_self, List.length_append], by rw [List.length_append]; exact hcap, setRow_heap _ _ _ _ _ _ h3, by omega, fun i x hi => by
                          by_cases c : i < xs0.length
                          · rw [List.getElem?_append_left c] at hi
                            rw [hold i c]; exact RoX.mono hxw _ _ _ (h5 i x hi)
                          · rw [List.getElem?_append_right (by omega)] at hi
                            have hlt : i - xs0.length < ys.length := (List.getElem?_eq_some_iff.1 hi).1
                            have e := hnewel _ hlt
                            rw [show xs0.length + (i - xs0.length) = i by omega] at e
                            rw [e]; exact RoX.mono hxw _ _ _ (y4 _ x hi)⟩)
                      refine ⟨_, _, w.setRow b new.toArray, .slice (some ⟨b, 0, none⟩) (xs0.length + ys.length) cap, hq, hren.1, hst.2.trans hren.2, Kap.le_put hb _, put_new (by simp), ?_, ?_⟩
                      · simp only [RepT]; exact ⟨some b, Kap.put_self _ _ _⟩
                      · have y2' := y2 w (fun _ _ => rfl)
                        rw [hsz] at y2'
                        refine run_append_here hC hu hni ht hel (y1 w) y2' hcap (fun a ha => ?_) (fun hn => by cases hn)
                        injection ha with ha; subst ha
                        rw [addr_add, Nat.zero_add, ← hsz]
                        exact hrun
                    · obtain ⟨κ', w', z, g1, g2, g3, g4, g5, g6⟩ := grow (κ1 := κ) (h1 := h.upd id .none) rfl hcx (by omega) hg hkill.1 hkill.2
                      exact ⟨_, κ', w', z, hq, g1, g2, g3, g4, g5, g6⟩
              · exact hq.elim
            | _ => simp only [hbr] at hq; exact hq.elim
          · exact hq.elim
        · exact hq.elim
      · exact hq.elim
    · exact hq.elim
  · exact hq.elim
end
end Go.Am

/- The symbolic machine: typed values at the model's. -/
set_option linter.unusedVariables false
set_option linter.unusedSimpArgs false
namespace Go.Am
open Go Go.RowKit

/-! ### 1. Typed values and the model's -/
def RowAt (w : World) (O : Nat → Prop) (e : Ty) (xs : List e.X) (v : Value) (b : Nat) : Prop :=
  ∃ cap us et, v = .slice (some ⟨b, 0, none⟩) xs.length cap ∧ xs.length ≤ cap ∧ w.heap[b]? = some (.cells (List.toArray us) et (0, 0)) ∧ us.length = cap * e.size ∧
    ∀ (i : Nat) (x : e.X), xs[i]? = some x → RoX w O e x ((us.drop (i * e.size)).take e.size)

def CRep (w : World) (O : Nat → Prop) : (c : CK) → c.X → List Value → List Nat → Prop
  | .val t, x, vs, L => RoX w O t x vs ∧ L = []
  | .own e, xs, vs, L => ∃ v, vs = [v] ∧ (((xs : List e.X) = [] ∧ (∃ A, v = .slice A 0 0) ∧ L = []) ∨ ∃ b, L = [b] ∧ RowAt w O e xs v b)
def CReps (w : World) (O : Nat → Prop) : (cs : List CK) → CXs cs → List Value → List Nat → Prop
  | [], _, vs, L => vs = [] ∧ L = []
  | [c], x, vs, L => CRep w O c x vs L
  | c :: d :: cs, x, vs, L => ∃ v1 v2 L1 L2, vs = v1 ++ v2 ∧ L = L1 ++ L2 ∧ CRep w O c x.1 v1 L1 ∧ CReps w O (d :: cs) x.2 v2 L2
def ARep (w : World) (O : Nat → Prop) : (a : AK) → a.X → Value → List Nat → Prop
  | .one c, x, v, L => CRep w O c x [v] L
  | .agg cs, x, v, L => ∃ vs, v = .agg (List.toArray vs) ∧ CReps w O cs x vs L
  | .box cs, x, v, L => ∃ b vs et L', v = .pointer (some ⟨b, 0, none⟩) ∧ L = b :: L' ∧ w.heap[b]? = some (.cells (List.toArray vs) et (0, 0)) ∧ CReps w O cs x vs L'
  | .fn g cs, x, v, L => ∃ vs, v = .func (.func g) #[] (List.toArray vs) ∧ CReps w O cs x vs L
  | .fnb g cs, x, v, L => ∃ b vs et L', v = .func (.func g) #[] (List.toArray [.pointer (some ⟨b, 0, none⟩)]) ∧ L = b :: L' ∧ w.heap[b]? = some (.cells (List.toArray vs) et (0, 0)) ∧ CReps w O cs x vs L'
theorem ARep.fnb {w : World} {O : Nat → Prop} {g : Nat} {cs : List CK} {x : CXs cs} {v : Value} {L : List Nat} : ARep w O (.fnb g cs) x v L ↔ ∃ u, v = .func (.func g) #[] (List.toArray [u]) ∧ ARep w O (.box cs) x u L := by
  constructor
  · rintro ⟨b, vs, et, L', h1, h2, h3, h4⟩; exact ⟨_, h1, b, vs, et, L', rfl, h2, h3, h4⟩
  · rintro ⟨u, h1, b, vs, et, L', rfl, h2, h3, h4⟩; exact ⟨b, vs, et, L', h1, h2, h3, h4⟩
/-- with each value's own blocks -/
def AReps (w : World) (O : Nat → Prop) : (as : List AK) → AXs as → List Value → List (List Nat) → Prop
  | [], _, vs, Ls => vs = [] ∧ Ls = []
  | [a], x, vs, Ls => ∃ v L, vs = [v] ∧ Ls = [L] ∧ ARep w O a x v L
  | a :: b :: as, x, vs, Ls => ∃ v vs' L Ls', vs = v :: vs' ∧ Ls = L :: Ls' ∧ ARep w O a x.1 v L ∧ AReps w O (b :: as) x.2 vs' Ls'

/-! ### 2. Moves: what the model's world may do -/
/-- as Ext, and what is owned (L) stands as it stood -/
structure ExtL (w : World) (O : Nat → Prop) (w' : World) (O' : Nat → Prop) (L : List Nat) : Prop extends Ext w O w' O' where
  own : ∀ b ∈ L, w'.heap[b]? = w.heap[b]?
theorem ExtL.sub {w w' : World} {O O' : Nat → Prop} {L L' : List Nat} (h : ExtL w O w' O' L) (hs : ∀ b ∈ L', b ∈ L) : ExtL w O w' O' L' := ⟨h.toExt, fun b hb => h.own b (hs b hb)⟩

theorem RowAt.mono {w w' : World} {O O' : Nat → Prop} {e : Ty} {xs : List e.X} {v : Value} {b : Nat} (hx : Ext w O w' O') (hb : w'.heap[b]? = w.heap[b]?) (h : RowAt w O e xs v b) : RowAt w' O' e xs v b := by
  obtain ⟨cap, us, et, h1, h2, h3, h4, h5⟩ := h
  exact ⟨cap, us, et, h1, h2, hb.trans h3, h4, fun i x hi => RoX.mono hx _ _ _ (h5 i x hi)⟩
theorem CRep.mono {w w' : World} {O O' : Nat → Prop} : ∀ (c : CK) (x : c.X) (vs : List Value) (L : List Nat), ExtL w O w' O' L → CRep w O c x vs L → CRep w' O' c x vs L
  | .val t, x, vs, L, hx, h => ⟨RoX.mono hx.toExt _ _ _ h.1, h.2⟩
  | .own e, xs, vs, L, hx, h => by
    obtain ⟨v, h1, h2 | ⟨b, rfl, h3⟩⟩ := h
    · exact ⟨v, h1, .inl h2⟩
    · exact ⟨v, h1, .inr ⟨b, rfl, h3.mono hx.toExt (hx.own b (by simp))⟩⟩
theorem CReps.mono {w w' : World} {O O' : Nat → Prop} : ∀ (cs : List CK) (x : CXs cs) (vs : List Value) (L : List Nat), ExtL w O w' O' L → CReps w O cs x vs L → CReps w' O' cs x vs L
  | [], _, _, _, _, h => h
  | [c], x, vs, L, hx, h => CRep.mono c x vs L hx h
  | c :: d :: cs, x, vs, L, hx, h => by
    obtain ⟨v1, v2, L1, L2, rfl, rfl, h1, h2⟩ := h
    exact ⟨v1, v2, L1, L2, rfl, rfl, CRep.mono c _ _ _ (hx.sub fun b hb => List.mem_append_left _ hb) h1, CReps.mono (d :: cs) _ _ _ (hx.sub fun b hb => List.mem_append_right _ hb) h2⟩
theorem ARep.mono {w w' : World} {O O' : Nat → Prop} (a : AK) (x : a.X) (v : Value) (L : List Nat) (hx : ExtL w O w' O' L) (h : ARep w O a x v L) : ARep w' O' a x v L := by
  cases a with
  | one c => exact CRep.mono c x _ L hx h
  | agg cs => obtain ⟨vs, h1, h2⟩ := h; exact ⟨vs, h1, CReps.mono cs x vs L hx h2⟩
  | box cs =>
    obtain ⟨b, vs, et, L', h1, rfl, h2, h3⟩ := h
    exact ⟨b, vs, et, L', h1, rfl, (hx.own b (by simp)).trans h2, CReps.mono cs x vs L' (hx.sub fun b hb => List.mem_cons_of_mem _ hb) h3⟩
  | fn g cs => obtain ⟨vs, h1, h2⟩ := h; exact ⟨vs, h1, CReps.mono cs x vs L hx h2⟩
  | fnb g cs =>
    obtain ⟨b, vs, et, L', h1, rfl, h2, h3⟩ := h
    exact ⟨b, vs, et, L', h1, rfl, (hx.own b (by simp)).trans h2, CReps.mono cs x vs L' (hx.sub fun b hb => List.mem_cons_of_mem _ hb) h3⟩
theorem AReps.mono {w w' : World} {O O' : Nat → Prop} : ∀ (as : List AK) (x : AXs as) (vs : List Value) (Ls : List (List Nat)), ExtL w O w' O' Ls.flatten → AReps w O as x vs Ls → AReps w' O' as x vs Ls
  | [], _, _, _, _, h => h
  | [a], x, vs, Ls, hx, h => by
    obtain ⟨v, L, h1, rfl, h3⟩ := h
    exact ⟨v, L, h1, rfl, ARep.mono a x v L (by simpa using hx) h3⟩
  | a :: b :: as, x, vs, Ls, hx, h => by
    obtain ⟨v, vs', L, Ls', h1, rfl, h2, h3⟩ := h
    simp only [List.flatten_cons] at hx
    exact ⟨v, vs', L, Ls', h1, rfl, ARep.mono a _ _ _ (hx.sub fun b hb => List.mem_append_left _ hb) h2, AReps.mono (b :: as) _ _ _ (hx.sub fun b hb => List.mem_append_right _ hb) h3⟩
theorem AReps.length {w : World} {O : Nat → Prop} : ∀ (as : List AK) (x : AXs as) (vs : List Value) (Ls : List (List Nat)), AReps w O as x vs Ls → vs.length = as.length ∧ Ls.length = as.length
  | [], _, _, _, h => by obtain ⟨rfl, rfl⟩ := h; exact ⟨rfl, rfl⟩
  | [a], x, vs, Ls, h => by obtain ⟨v, L, rfl, rfl, _⟩ := h; exact ⟨rfl, rfl⟩
  | a :: b :: as, x, vs, Ls, h => by
    obtain ⟨v, vs', L, Ls', rfl, rfl, _, h3⟩ := h
    obtain ⟨h4, h5⟩ := AReps.length (b :: as) _ _ _ h3
    exact ⟨by simp [h4], by simp [h5]⟩

section
variable {w0 : World} {S A : Nat → Prop} {κ : Kap} {h hr : Heap} {w : World}

/-- fewer blocks that others hold -/
theorem HSim.weakA (H : HSim w0 S A κ h w) {A' : Nat → Prop} (hA : ∀ b, A' b → A b) : HSim w0 S A' κ h w ∧ Ext w (OO A κ h) w (OO A' κ h) := by
  have hx : Ext w (OO A κ h) w (OO A' κ h) := Ext.less fun b hb => hb.imp (hA b) id
  exact ⟨⟨fun id => RepB.mono hx κ.le_refl (fun _ _ _ _ => rfl) (H.rep id), H.inj, H.kwf, fun b hb => ⟨fun h => (H.own b hb).1 (hA b h), (H.own b hb).2⟩, fun b hb => H.abnd b (hA b hb), H.kbnd, H.kone, H.frame⟩, hx⟩

/-- blocks of one's own are handed to others -/
theorem HSim.demote (H : HSim w0 S A κ h w) (l : List Nat) :
    HSim w0 S (fun b => A b ∨ ∃ id ∈ l, (h id).live = true ∧ ∃ v, κ id = some (v, some b)) κ (h.updAll (kill l)) w ∧
      OO (fun b => A b ∨ ∃ id ∈ l, (h id).live = true ∧ ∃ v, κ id = some (v, some b)) κ (h.updAll (kill l)) = OO A κ h := by
  have hcase : ∀ j, (h.updAll (kill l)) j = h j ∧ j ∉ l ∨ (h.updAll (kill l)) j = .none ∧ j ∈ l := by
    intro j
    by_cases hj : j ∈ l
    · exact .inr ⟨updAll_kill hj, hj⟩
    · exact .inl ⟨updAll_ne (fun b hb => hj (mem_kill hb).2), hj⟩
  have hlive : ∀ j, ((h.updAll (kill l)) j).live = true → (h j).live = true ∧ j ∉ l ∧ (h.updAll (kill l)) j = h j := by
    intro j hj
    rcases hcase j with ⟨e, hn⟩ | ⟨e, _⟩
    · rw [e] at hj; exact ⟨hj, hn, e⟩
    · rw [e] at hj; cases hj
  have hO : OO (fun b => A b ∨ ∃ id ∈ l, (h id).live = true ∧ ∃ v, κ id = some (v, some b)) κ (h.updAll (kill l)) = OO A κ h := by
    funext b
    apply propext
    constructor
    · rintro ((ha | ⟨id, _, h1, v, h2⟩) | ⟨id, v, h1, h2⟩)
      · exact .inl ha
      · exact .inr ⟨id, v, h1, h2⟩
      · exact .inr ⟨id, v, (hlive id h1).1, h2⟩
    · rintro (ha | ⟨id, v, h1, h2⟩)
      · exact .inl (.inl ha)
      · by_cases hm : id ∈ l
        · exact .inl (.inr ⟨id, hm, h1, v, h2⟩)
        · refine .inr ⟨id, v, ?_, h2⟩
          rcases hcase id with ⟨e, _⟩ | ⟨_, hm'⟩
          · rw [e]; exact h1
          · exact absurd hm' hm
  refine ⟨⟨fun id => ?_, fun i j v u b h1 h2 h3 h4 => H.inj i j v u b (hlive i h1).1 (hlive j h2).1 h3 h4, H.kwf, fun b hb => ?_, fun b hb => ?_, H.kbnd, H.kone, H.frame⟩, hO⟩
  · rw [hO]
    rcases hcase id with ⟨e, _⟩ | ⟨e, _⟩ <;> rw [e]
    · exact H.rep id
    · trivial
  · obtain ⟨id, v, h1, h2⟩ := hb
    obtain ⟨h3, h4, _⟩ := hlive id h1
    have := H.own b ⟨id, v, h3, h2⟩
    refine ⟨?_, this.2⟩
    rintro (ha | ⟨id', hm, h5, u, h6⟩)
    · exact this.1 ha
    · have := H.inj id id' v u b h3 h5 h2 h6
      subst this
      exact h4 hm
  · rcases hb with ha | ⟨id, _, h1, v, h2⟩
    · exact H.abnd b ha
    · exact H.kbnd _ _ _ h2

/-- the world goes on: what others hold may turn, new blocks are others' -/
theorem HSim.go (H : HSim w0 S A κ h w) {w' : World} {A' : Nat → Prop} (hsz : w.heap.size ≤ w'.heap.size) (hkeep : ∀ b, b < w.heap.size → ¬ A b → w'.heap[b]? = w.heap[b]?) (hA' : ∀ b, A' b → A b ∨ w.heap.size ≤ b ∧ b < w'.heap.size)
    (hF : Fr w0 S w') : HSim w0 S A' κ h w' ∧ Ext w (OO A κ h) w' (OO A' κ h) := by
  have hx : Ext w (OO A κ h) w' (OO A' κ h) := ⟨hsz, fun b hb ho => ⟨by
    rintro (ha | hw)
    · rcases hA' b ha with ha | ⟨hge, _⟩
      · exact ho (.inl ha)
      · omega
    · exact ho (.inr hw), hkeep b hb (fun ha => ho (.inl ha))⟩⟩
  refine ⟨⟨fun id => RepB.mono hx κ.le_refl (fun v k h1 h2 => hkeep k (H.kbnd _ _ _ h1) (H.own k ⟨id, v, h2, h1⟩).1) (H.rep id), H.inj, H.kwf, fun b hb => ?_, fun b hb => ?_, fun id v b hk => Nat.lt_of_lt_of_le (H.kbnd _ _ _ hk) hsz, H.kone, hF⟩, hx⟩
  · obtain ⟨h1, h2, h3⟩ := H.own b hb
    refine ⟨fun ha => ?_, Nat.lt_of_lt_of_le h2 hsz, h3⟩
    rcases hA' b ha with ha | ⟨hge, _⟩
    · exact h1 ha
    · omega
  · rcases hA' b hb with ha | ⟨_, hlt⟩
    · exact Nat.lt_of_lt_of_le (H.abnd b ha) hsz
    · exact hlt

/-- a block that others held is taken on, under a number that names nothing (or named this block before) -/
theorem HSim.adopt (H : HSim w0 S A κ h w) {id b : Nat} {v : Value} {nb : B} (hAb : A b) (hS : S b ∨ w0.heap.size ≤ b) (hn : h id = .none) (hid : κ id = none ∨ κ id = some (v, some b)) (hnl : nb.live = true) (hone : v.oneCell' = true)
    (hkw : ∀ L n c, v = .slice L n c → L = some ⟨b, 0, none⟩) (hnb : RepB w (OO A κ h) (κ.put id (v, some b)) id nb) :
    HSim w0 S (fun k => A k ∧ k ≠ b) (κ.put id (v, some b)) (h.upd id nb) w ∧ OO (fun k => A k ∧ k ≠ b) (κ.put id (v, some b)) (h.upd id nb) = OO A κ h ∧ κ.le (κ.put id (v, some b)) := by
  have hle : κ.le (κ.put id (v, some b)) := by
    intro j p hp
    by_cases e : j = id
    · subst e
      rcases hid with h1 | h1
      · rw [h1] at hp; cases hp
      · rw [h1] at hp; injection hp with hp; subst hp; exact Kap.put_self _ _ _
    · rw [Kap.put_other _ _ e]; exact hp
  have hob : ¬ Own κ h b := fun ho => (H.own b ho).1 hAb
  have hup : ∀ j, (h.upd id nb) j = if j = id then nb else h j := fun j => rfl
  have hlive : ∀ j, ((h.upd id nb) j).live = true → j = id ∨ (j ≠ id ∧ (h j).live = true) := by
    intro j hj
    rw [hup] at hj
    by_cases e : j = id
    · exact .inl e
    · rw [if_neg e] at hj; exact .inr ⟨e, hj⟩
  have hown : ∀ k, Own (κ.put id (v, some b)) (h.upd id nb) k ↔ Own κ h k ∨ k = b := by
    intro k
    constructor
    · rintro ⟨j, u, h1, h2⟩
      rcases hlive j h1 with rfl | ⟨e, h3⟩
      · rw [Kap.put_self] at h2; injection h2 with h2; injection h2 with _ h2; injection h2 with h2; exact .inr h2.symm
      · rw [Kap.put_other _ _ e] at h2; exact .inl ⟨j, u, h3, h2⟩
    · rintro (⟨j, u, h1, h2⟩ | rfl)
      · have e : j ≠ id := by rintro rfl; rw [hn] at h1; cases h1
        exact ⟨j, u, by rw [hup, if_neg e]; exact h1, by rw [Kap.put_other _ _ e]; exact h2⟩
      · exact ⟨id, v, by rw [hup, if_pos rfl]; exact hnl, Kap.put_self _ _ _⟩
  have hO : OO (fun k => A k ∧ k ≠ b) (κ.put id (v, some b)) (h.upd id nb) = OO A κ h := by
    funext k
    apply propext
    constructor
    · rintro (⟨ha, _⟩ | ho)
      · exact .inl ha
      · rcases (hown k).1 ho with ho | rfl
        · exact .inr ho
        · exact .inl hAb
    · rintro (ha | ho)
      · by_cases e : k = b
        · exact .inr ((hown k).2 (.inr e))
        · exact .inl ⟨ha, e⟩
      · exact .inr ((hown k).2 (.inl ho))
  refine ⟨⟨fun j => ?_, fun i j u1 u2 k h1 h2 h3 h4 => ?_, fun j L n c k hj => ?_, fun k hk => ?_, fun k hk => H.abnd k hk.1, fun j u k hj => ?_, fun j u ob hj => ?_, H.frame⟩, hO, hle⟩
  · rw [hO, hup]
    by_cases e : j = id
    · subst e; rw [if_pos rfl]; exact hnb
    · rw [if_neg e]; exact RepB.mono (Ext.refl _ _) hle (fun _ _ _ _ => rfl) (H.rep j)
  · rcases hlive i h1 with rfl | ⟨a1, a3⟩ <;> rcases hlive j h2 with rfl | ⟨b1, b3⟩
    · rfl
    · rw [Kap.put_self] at h3; rw [Kap.put_other _ _ b1] at h4
      injection h3 with h3; injection h3 with _ h3; injection h3 with h3; subst h3
      exact absurd ⟨j, _, b3, h4⟩ hob
    · rw [Kap.put_self] at h4; rw [Kap.put_other _ _ a1] at h3
      injection h4 with h4; injection h4 with _ h4; injection h4 with h4; subst h4
      exact absurd ⟨i, _, a3, h3⟩ hob
    · rw [Kap.put_other _ _ a1] at h3; rw [Kap.put_other _ _ b1] at h4
      exact H.inj i j _ _ k a3 b3 h3 h4
  · by_cases e : j = id
    · subst e
      rw [Kap.put_self] at hj
      injection hj with hj; injection hj with hj1 hj2; injection hj2 with hj2; subst hj2
      exact hkw L n c hj1
    · rw [Kap.put_other _ _ e] at hj; exact H.kwf j L n c k hj
  · rcases (hown k).1 hk with ho | rfl
    · obtain ⟨h1, h2, h3⟩ := H.own k ho
      exact ⟨fun h => h1 h.1, h2, h3⟩
    · exact ⟨fun h => h.2 rfl, H.abnd _ hAb, hS⟩
  · by_cases e : j = id
    · subst e
      rw [Kap.put_self] at hj
      injection hj with hj; injection hj with hj1 hj2; injection hj2 with hj2; subst hj2
      exact H.abnd _ hAb
    · rw [Kap.put_other _ _ e] at hj; exact H.kbnd _ _ _ hj
  · by_cases e : j = id
    · subst e
      rw [Kap.put_self] at hj
      injection hj with hj; injection hj with hj1 hj2
      rw [← hj1]; exact hone
    · rw [Kap.put_other _ _ e] at hj; exact H.kone _ _ _ hj
end
end Go.Am
