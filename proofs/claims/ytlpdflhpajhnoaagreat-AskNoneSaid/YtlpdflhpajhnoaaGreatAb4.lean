/- The abstract layer, part 4: an operation that the evaluator runs does in the world what it says. -/
import Derived.Test.YtlpdflhpajhnoaaGreatAb3
namespace Go.Ab

section
variable {P : Program} {tt : TyT} {Γ : VL} {Pr : Nat → Prop} {H : Heap} {w : World} {T : Tm} {tmps : Array Value} {ds : List Deferred} {nt : Nat}

/-! ### Operands -/
theorem mkPtr {id off b n : Nat} (hg : Γ[id]? = some (b, n)) : RelV Γ Pr w (.ptr id off) (.pointer (some ⟨b, off, none⟩)) := ⟨b, n, hg, rfl⟩
theorem mkRop {cs : List RD} {b off : Nat} (hb : Pr b) (h : RelDs Pr w cs b off) : RelV Γ Pr w (.ro (.ptr cs)) (.pointer (some ⟨b, off, none⟩)) := ⟨b, off, rfl, hb, h⟩
theorem evK_ok (hT : RelT Γ Pr w nt T tmps) {x : Operand} {k : AV → Prop} (h : evK T x k) : ∃ a, RelV Γ Pr w a (Act.eval ⟨tmps, ds⟩ x) ∧ k a := by
  unfold evK at h
  split at h
  · exact ⟨_, hT.2 _, getK_iff.1 h⟩
  · refine ⟨_, ?_, h⟩; exact rfl
  · refine ⟨_, ?_, h⟩; exact rfl
  · refine ⟨_, ?_, h⟩; exact rfl
  · split at h
    · refine ⟨_, ?_, h⟩; exact rfl
    · exact ⟨.any, trivial, h⟩
  · rename_i v _ _ _ _ _
    refine ⟨_, ?_, h⟩
    unfold ofV0
    split
    all_goals first
      | exact rfl
      | exact ⟨none, 0, 0, rfl, rfl, Nat.le_refl _, fun c0 hc => by cases hc; rfl, .inl rfl⟩
      | exact trivial
  · refine ⟨_, ?_, h⟩; exact rfl
  · exact h.elim
theorem evsK_ok (hT : RelT Γ Pr w nt T tmps) : ∀ {xs : List Operand} {k : List AV → Prop}, evsK T xs k → ∃ as, RelVs Γ Pr w as (xs.map (Act.eval ⟨tmps, ds⟩)) ∧ k as
  | [], k, h => ⟨[], rfl, h⟩
  | x :: xs, k, h => by
    obtain ⟨a, ha, h⟩ := evK_ok (ds := ds) hT h
    obtain ⟨as, has, h⟩ := evsK_ok hT h
    exact ⟨a :: as, ⟨_, _, rfl, ha, has⟩, h⟩
/-- Numbered values that stand for numbered abstract ones. -/
def RelPs (Γ : VL) (Pr : Nat → Prop) (w : World) : List (Nat × AV) → List (Nat × Value) → Prop
  | [], l => l = []
  | (i, a) :: r, l => ∃ v l', l = (i, v) :: l' ∧ RelV Γ Pr w a v ∧ RelPs Γ Pr w r l'
theorem evpK_ok (hT : RelT Γ Pr w nt T tmps) : ∀ {xs : List (Nat × Operand)} {k : List (Nat × AV) → Prop}, evpK T xs k → ∃ as, RelPs Γ Pr w as (xs.map fun p => (p.1, Act.eval ⟨tmps, ds⟩ p.2)) ∧ k as
  | [], k, h => ⟨[], rfl, h⟩
  | (i, x) :: xs, k, h => by
    obtain ⟨a, ha, h⟩ := evK_ok (ds := ds) hT h
    obtain ⟨as, has, h⟩ := evpK_ok hT h
    exact ⟨(i, a) :: as, ⟨_, _, rfl, ha, has⟩, h⟩

/-! ### What a value's cells are -/
theorem relD_scal {d : RD} {v : Value} (h : RelD Pr w d v) : v.oneCell' = true := by
  cases d with
  | slice sz cs cap => obtain ⟨A, n, c, rfl, _⟩ := h; rfl
  | ptr cs => obtain ⟨b, off, rfl, _⟩ := h; rfl
  | ifc t cs => obtain ⟨vs, rfl, _⟩ := h; rfl
  | _ => cases (show v = _ from h); rfl
theorem relV_scal {a : AV} {v : Value} (h : RelV Γ Pr w a v) (hs : a.scal = true) : v.oneCell' = true := by
  cases a with
  | any => simp [AV.scal] at hs
  | agg cs => simp [AV.scal] at hs
  | tup cs => simp [AV.scal] at hs
  | ro d => exact relD_scal (Pr := Pr) (w := w) h
  | ptr i o => obtain ⟨b, n, _, rfl⟩ := h; rfl
  | sl sz i o l c => obtain ⟨b, n, c, _, rfl, _⟩ := h; rfl
  | fn f a b => obtain ⟨fs, cs, rfl, _⟩ := h; rfl
  | mp i => obtain ⟨b, n, _, rfl⟩ := h; rfl
  | yld i => obtain ⟨b, n, _, rfl⟩ := h; rfl
  | ifc t a => obtain ⟨u, rfl, _⟩ := h; rfl
theorem cells_of_oneCell {v : Value} (h : ∀ cs, v ≠ .agg cs) : v.cells = #[v] := by
  cases v <;> first | rfl | exact absurd rfl (h _)
theorem oneCell_not_agg {v : Value} (h : v.oneCell' = true) : ∀ cs, v ≠ .agg cs := by
  intro cs e; subst e; simp [Value.oneCell'] at h
theorem relV_cells {a : AV} {v : Value} (h : RelV Γ Pr w a v) (hk : a.known = true) : RelVs Γ Pr w a.cellsOf v.cells.toList := by
  cases a with
  | any => simp [AV.known] at hk
  | agg cs => obtain ⟨vs, rfl, hr⟩ := h; exact hr
  | tup cs =>
    have h' := h
    obtain ⟨vs, rfl, hr⟩ := h
    exact ⟨_, [], rfl, h', rfl⟩
  | _ =>
    have hs := relV_scal h (by rfl)
    rw [cells_of_oneCell (oneCell_not_agg hs)]
    exact ⟨v, [], rfl, h, rfl⟩
theorem allB_iff {α : Type} {p : α → Bool} {l : List α} : allB p l = true ↔ ∀ a ∈ l, p a = true := by
  induction l with
  | nil => simp [allB]
  | cons a l ih =>
    simp only [allB, List.mem_cons, forall_eq_or_imp]
    cases h : p a <;> simp [ih]
theorem relVs_scal {as : List AV} {vs : List Value} (h : RelVs Γ Pr w as vs) (hs : allB AV.scal as = true) : ∀ v ∈ vs, v.oneCell' = true := by
  intro v hv
  obtain ⟨i, hi⟩ := List.mem_iff_getElem?.1 hv
  have hl := relVs_length h
  have hlt : i < as.length := by rw [← hl]; exact (List.getElem?_eq_some_iff.1 hi).1
  obtain ⟨v', hv', hr⟩ := relVs_get h i as[i] (List.getElem?_eq_getElem hlt)
  rw [hi] at hv'
  cases hv'
  exact relV_scal hr (allB_iff.1 hs _ (List.getElem_mem hlt))
theorem relVs_of_relDs {cs : List RD} {b off : Nat} (h : RelDs Pr w cs b off) : ∃ vs : List Value, vs.length = cs.length ∧ (∀ (j : Nat) (v : Value), vs[j]? = some v → w.cell? ⟨b, off + j, none⟩ = some v) ∧ RelVs Γ Pr w (cs.map AV.ro) vs := by
  induction cs generalizing off with
  | nil => exact ⟨[], rfl, by simp, rfl⟩
  | cons d ds ih =>
    obtain ⟨⟨v, hc, hv⟩, hr⟩ := h
    obtain ⟨vs, hl, hcs, hrs⟩ := ih hr
    refine ⟨v :: vs, by simp [hl], fun j u hj => ?_, ⟨v, vs, rfl, hv, hrs⟩⟩
    cases j with
    | zero => simp only [List.getElem?_cons_zero, Option.some.injEq] at hj; subst hj; exact hc
    | succ j => rw [show off + (j + 1) = off + 1 + j from by omega]; exact hcs j u (by simpa using hj)
/-- A stretch of an owned block. -/
theorem relObj_cells {b n : Nat} {T' : TypeId} {cs : List AV} (h : RelObj Γ Pr w b n (.cells T' cs)) {off m : Nat} (hm : off + m ≤ cs.length) :
    ∃ vs : List Value, vs.length = m ∧ (∀ (j : Nat) (v : Value), vs[j]? = some v → w.cell? ⟨b, off + j, none⟩ = some v) ∧ RelVs Γ Pr w ((cs.drop off).take m) vs := by
  obtain ⟨c, hb, hs, hl, hr⟩ := h
  refine ⟨(c.toList.drop off).take m, by simp; omega, fun j v hj => ?_, relVs_of_get (by simp; omega) fun i a hi => ?_⟩
  · rw [cell_of_block hb]
    rw [List.getElem?_take] at hj
    split at hj
    · rw [List.getElem?_drop] at hj; simpa using hj
    · cases hj
  · rw [List.getElem?_take] at hi ⊢
    split at hi
    · rename_i hlt
      rw [if_pos hlt, List.getElem?_drop]
      rw [List.getElem?_drop] at hi
      obtain ⟨v, hv, hrv⟩ := hr _ a hi
      exact ⟨v, by simpa using hv, hrv⟩
    · cases hi
theorem sim_cells (hs : Sim Γ Pr H w) {id : Nat} {k : Nat → List AV → Prop} (h : cellsK H id k) : ∃ T' cs b n, H[id]? = some (.cells T' cs) ∧ Γ[id]? = some (b, n) ∧ RelObj Γ Pr w b n (.cells T' cs) ∧ k T' cs := by
  unfold cellsK at h
  obtain ⟨o, ho, h⟩ := nthK_iff.1 h
  split at h
  · rename_i T' cs
    obtain ⟨b, n, hg, _, hr⟩ := hs.obj id _ ho rfl
    exact ⟨T', cs, b, n, ho, hg, hr, h⟩
  · exact h.elim

/-! ### Loads -/
theorem loadK_ok (hP : TyOK P tt) (hs : Sim Γ Pr H w) {t : Nat} {a : AV} {va : Value} {k : AV → Prop} (ha : RelV Γ Pr w a va) (h : loadK tt H t a k) :
    ∃ x v, (Instr.loadAt t va).run P w = .ok v w ∧ RelV Γ Pr w x v ∧ k x := by
  unfold loadK at h
  split at h
  · rename_i id off
    obtain ⟨b, n, hg, rfl⟩ := ha
    obtain ⟨T', cs, b', n', hH, hg', hr, h⟩ := sim_cells hs h
    rw [hg] at hg'
    simp only [Option.some.injEq, Prod.mk.injEq] at hg'
    obtain ⟨rfl, rfl⟩ := hg'
    split at h
    · rename_i d hd
      have hF := hP t d hd
      split at h
      · rename_i hagg
        obtain ⟨h1, h⟩ := dropK_iff.1 h
        obtain ⟨h2, h⟩ := takeK_iff.1 h
        simp only [List.length_drop] at h2
        obtain ⟨vs, hl, hc, hrel⟩ := relObj_cells hr (off := off) (m := d.size) (by omega)
        refine ⟨_, .agg vs.toArray, ?_, ?_, h⟩
        · simp [Instr.loadAt, Instr.sureAddr, loadVar, run_isAgg' hF, run_sizeOf' hF, hagg, run_loadCells' hl hc]
        · exact ⟨vs, rfl, hrel⟩
      · rename_i hagg
        obtain ⟨x, hx, h⟩ := nthK_iff.1 h
        obtain ⟨c, hb, _, _, hrr⟩ := hr
        obtain ⟨v, hv, hrv⟩ := hrr _ x hx
        refine ⟨x, v, ?_, hrv, h⟩
        simp [Instr.loadAt, Instr.sureAddr, loadVar, run_isAgg' hF, hagg, cell_of_block hb, hv]
    · exact h.elim
  · rename_i cs
    obtain ⟨b, off, rfl, hp, hr⟩ := ha
    split at h
    · rename_i d hd
      have hF := hP t d hd
      split at h
      · rename_i hagg
        obtain ⟨h1, h⟩ := takeK_iff.1 h
        have h := mapK_iff.1 h
        obtain ⟨vs, hl, hc, hrel⟩ := relVs_of_relDs (Γ := Γ) (relDs_take hr d.size)
        have hl' : vs.length = d.size := by rw [hl]; simp; omega
        refine ⟨_, .agg vs.toArray, ?_, ?_, h⟩
        · simp [Instr.loadAt, Instr.sureAddr, loadVar, run_isAgg' hF, run_sizeOf' hF, hagg, run_loadCells' hl' hc]
        · exact ⟨vs, rfl, hrel⟩
      · rename_i hagg
        obtain ⟨x, hx, h⟩ := nthK_iff.1 h
        obtain ⟨v, hc, hv⟩ := relDs_get hr 0 x hx
        refine ⟨.ro x, v, ?_, hv, h⟩
        simp only [Nat.add_zero] at hc
        simp [Instr.loadAt, Instr.sureAddr, loadVar, run_isAgg' hF, hagg, hc]
    · exact h.elim
  · exact h.elim

/-! ### Stores -/
theorem putObj_eq_self {b : Nat} {x : Obj} (h : w.heap[b]? = some x) : w.putObj b x = w := by
  unfold World.putObj
  have : w.heap.setIfInBounds b x = w.heap := by
    apply Array.ext_getElem?
    intro i
    rw [Array.getElem?_setIfInBounds]
    split
    · rename_i e; subst e; rw [if_pos (Array.getElem?_eq_some_iff.1 h).1, h]
    · rfl
  rw [this]
theorem put_get {α : Type} {cs : List α} {off : Nat} {vs : List α} (hl : off + vs.length ≤ cs.length) (i : Nat) : (put cs off vs)[i]? = if i < off then cs[i]? else if i < off + vs.length then vs[i - off]? else cs[i]? := by
  unfold put
  by_cases h1 : i < off
  · rw [if_pos h1, List.append_assoc, List.getElem?_append_left (by simp; omega), List.getElem?_take, if_pos h1]
  · rw [if_neg h1]
    by_cases h2 : i < off + vs.length
    · rw [if_pos h2, List.append_assoc, List.getElem?_append_right (by simp; omega), List.getElem?_append_left (by simp; omega)]
      congr 1; simp; omega
    · rw [if_neg h2, List.getElem?_append_right (by simp; omega), List.getElem?_drop]
      congr 1; simp; omega
theorem put_length {α : Type} {cs : List α} {off : Nat} {vs : List α} (hl : off + vs.length ≤ cs.length) : (put cs off vs).length = cs.length := by
  unfold put; simp; omega
/-- Storing values into an owned block. -/
theorem sim_store (hs : Sim Γ Pr H w) {id b n off : Nat} {T' : TypeId} {cs as : List AV} {vs : List Value} (hH : H[id]? = some (.cells T' cs)) (hg : Γ[id]? = some (b, n)) (hr : RelObj Γ Pr w b n (.cells T' cs))
    (hv : RelVs Γ Pr w as vs) (hsc : allB AV.scal as = true) (hl : off + as.length ≤ cs.length) :
    ∃ w', (storeCells ⟨b, off, none⟩ vs).run P w = .ok () w' ∧ Sim Γ Pr (H.set id (.cells T' (put cs off as))) w' ∧ Ext Γ Pr H w Γ Pr (H.set id (.cells T' (put cs off as))) w' ∧ (∀ b', Pr b' → w'.heap[b']? = w.heap[b']?) := by
  obtain ⟨c, hb, hcs, hcl, hrr⟩ := hr
  have hlen := relVs_length hv
  have hrun := run_storeCells' (P := P) (b := b) vs w c off 0 hb (by omega) (relVs_scal hv hsc)
  have hblt : b < w.heap.size := (Array.getElem?_eq_some_iff.1 hb).1
  let w' := w.putObj b (.cells (putA c off vs) T' (0, 0))
  have hw' : (if vs = [] then w else w.putObj b (.cells (putA c (off + 0) vs) T' (0, 0))) = w' := by
    split
    · rename_i e; subst e; exact (putObj_eq_self hb).symm
    · rfl
  rw [hw'] at hrun
  have hnp : ¬ Pr b := by
    obtain ⟨b', n', hg', hp, _⟩ := hs.obj id _ hH rfl
    rw [hg] at hg'
    simp only [Option.some.injEq, Prod.mk.injEq] at hg'
    exact hg'.1 ▸ hp
  have hkp : ∀ b', Pr b' → w'.heap[b']? = w.heap[b']? := fun b' hb' => World.putObj_heap_other (fun e => hnp (e ▸ hb'))
  have hobj : RelObj Γ Pr w' b n (.cells T' (put cs off as)) := by
    refine ⟨_, World.putObj_heap_same hblt, by rw [putA_size]; exact hcs, by rw [put_length hl]; exact hcl, fun j a hj => ?_⟩
    rw [put_get hl] at hj
    rw [putA_get _ _ _ _ (by omega)]
    split at hj
    · rename_i h1
      rw [if_pos h1]
      obtain ⟨v, hv, hrv⟩ := hrr j a hj
      exact ⟨v, hv, hrv.mono ⟨[], by simp⟩ (fun _ h => h) hkp⟩
    · rename_i h1
      rw [if_neg h1]
      split at hj
      · rename_i h2
        rw [if_pos (by omega)]
        obtain ⟨v, hv, hrv⟩ := relVs_get hv _ a hj
        exact ⟨v, hv, hrv.mono ⟨[], by simp⟩ (fun _ h => h) hkp⟩
      · rename_i h2
        rw [if_neg (by omega)]
        obtain ⟨v, hv, hrv⟩ := hrr j a hj
        exact ⟨v, hv, hrv.mono ⟨[], by simp⟩ (fun _ h => h) hkp⟩
  obtain ⟨h1, h2⟩ := Sim.set hs hH rfl hg (o' := .cells T' (put cs off as)) rfl hobj
  exact ⟨w', hrun, h1, h2, hkp⟩
theorem storeAtK_ok (hP : TyOK P tt) (hs : Sim Γ Pr H w) {t : Nat} {a x : AV} {va vx : Value} {k : Heap → Prop} (ha : RelV Γ Pr w a va) (hx : RelV Γ Pr w x vx) (h : storeAtK tt H t a x k) :
    ∃ H' w', (Instr.storeAt t va vx).run P w = .ok () w' ∧ Ext Γ Pr H w Γ Pr H' w' ∧ Sim Γ Pr H' w' ∧ k H' := by
  unfold storeAtK at h
  split at h
  · rename_i id off
    obtain ⟨b, n, hg, rfl⟩ := ha
    split at h
    · rename_i d hd
      have hF := hP t d hd
      obtain ⟨hgd, h⟩ := guardP_iff.1 h
      simp only [Bool.and_eq_true, beq_iff_eq] at hgd
      obtain ⟨T', cs, b', n', hH, hg', hr, h⟩ := sim_cells hs h
      rw [hg] at hg'
      simp only [Option.some.injEq, Prod.mk.injEq] at hg'
      obtain ⟨rfl, rfl⟩ := hg'
      obtain ⟨hl, h⟩ := storeK_of h
      obtain ⟨_, h⟩ := setNthK_iff.1 h
      have hkn : x.known = true := by
        cases x <;> first | rfl | (simp [AV.cellsOf, allB, AV.scal] at hgd)
      have hv := relV_cells hx hkn
      obtain ⟨w', hrun, h1, h2, _⟩ := sim_store (P := P) hs hH hg hr hv hgd.2 hl
      refine ⟨_, w', ?_, h2, h1, h⟩
      have hsz : vx.cells.size = d.size := by
        have := relVs_length hv
        simp only [Array.length_toList] at this
        omega
      simp [Instr.storeAt, Instr.sureAddr, storeVar, run_sizeOf' hF, hsz, hrun]
    · exact h.elim
  · exact h.elim

/-! ### New blocks -/
theorem newRow_run (e : TypeId) (c : Array Value) : (newRow e c).run P w = .ok ⟨w.heap.size, 0, none⟩ { w with heap := w.heap.push (.cells c e) } := by simp [newRow]
theorem sim_new (hs : Sim Γ Pr H w) {w' : World} {e : TypeId} {c : Array Value} {as : List AV} (hw : w'.heap = w.heap.push (.cells c e (0, 0))) (hos : w'.os = w.os) (hta : w'.tape = w.tape) (hou : w'.output = w.output)
    (hl : as.length ≤ c.size) (hr : ∀ (j : Nat) (a : AV), as[j]? = some a → ∃ v, c[j]? = some v ∧ RelV Γ Pr w a v) :
    Sim (Γ ++ [(w.heap.size, c.size)]) Pr (H ++ [.cells e as]) w' ∧ Ext Γ Pr H w (Γ ++ [(w.heap.size, c.size)]) Pr (H ++ [.cells e as]) w' := by
  refine Sim.new hs c.size hw hos hta hou ⟨c, by rw [hw]; simp, rfl, hl, fun j a hj => ?_⟩
  obtain ⟨v, hv, hrv⟩ := hr j a hj
  refine ⟨v, hv, hrv.mono ⟨_, rfl⟩ (fun _ h => h) fun b hb => ?_⟩
  rw [hw, Array.getElem?_push, if_neg (by have := hs.prlt b hb; omega)]
theorem relVs_arr {as : List AV} {c : Array Value} (h : RelVs Γ Pr w as c.toList) : ∀ (j : Nat) (a : AV), as[j]? = some a → ∃ v, c[j]? = some v ∧ RelV Γ Pr w a v := fun j a hj => by
  obtain ⟨v, hv, hr⟩ := relVs_get h j a hj
  exact ⟨v, by simpa using hv, hr⟩
theorem vl_last (hs : Sim Γ Pr H w) (y : Nat × Nat) : (Γ ++ [y])[H.length]? = some y := by rw [← hs.len]; simp

theorem zerosK_ok (hP : TyOK P tt) {t : Nat} {k : List AV → Prop} (h : zerosK tt t k) : ∃ z as, (zeroValue t).run P w = .ok z w ∧ RelVs Γ Pr w as z.cells.toList ∧ k as := by
  unfold zerosK at h
  split at h
  · rename_i d hd
    obtain ⟨z, hz, hzs, _⟩ := run_zeroValue' (w := w) (hP t d hd)
    exact ⟨z, _, hz, zsOK_rel hzs, mapK_iff.1 h⟩
  · exact h.elim

/-! ### Addresses -/
theorem fieldPlace_run {f : Field} {i : TypeInfo} (hi : P.info? f.type = some i) (hne : i.size ≠ 0) (a : Addr) : (fieldPlace a f).run P w = .ok (a.add f.offset) w := by
  simp [fieldPlace, sizeOf, typeInfo, hi, hne]
theorem fields_get {fields : Array Field} {fs : List (Nat × Nat)} (h : fieldsOK P fields fs) {f : Nat} {p : Nat × Nat} (hp : fs[f]? = some p) :
    ∃ fd i, fields[f]? = some fd ∧ P.info? fd.type = some i ∧ fd.offset = p.1 ∧ i.size = p.2 ∧ p.2 ≠ 0 := by
  obtain ⟨h1, h2⟩ := h
  have e : (fs.map (fun p => (p.1, some p.2)))[f]? = some (p.1, some p.2) := by simp [hp]
  rw [← h1] at e
  simp only [List.getElem?_map, Option.map_eq_some_iff, Prod.mk.injEq] at e
  obtain ⟨fd, hfd, ho, hsz⟩ := e
  obtain ⟨i, hi, hsz⟩ := hsz
  exact ⟨fd, i, by simpa using hfd, hi, ho, hsz, h2 p (List.mem_of_getElem? hp)⟩
theorem fieldK_ok (hP : TyOK P tt) {s f : Nat} {a : AV} {va : Value} {k : AV → Prop} (ha : RelV Γ Pr w a va) (h : fieldK tt s a f k) :
    ∃ x v, (Instr.fieldAt s va f).run P w = .ok v w ∧ RelV Γ Pr w x v ∧ k x := by
  unfold fieldK at h
  split at h
  · rename_i fs zs cm ag hd
    obtain ⟨p, hp, h⟩ := nthK_iff.1 h
    obtain ⟨u, hu, _, fields, rfl, hf, _⟩ := (hP s _ hd).und
    obtain ⟨fd, i, hfd, hi, ho, hsz, hne⟩ := fields_get hf hp
    have hpl := fun a => fieldPlace_run (w := w) hi (by omega : i.size ≠ 0) a
    split at h
    · rename_i id off _
      obtain ⟨b, n, hg, rfl⟩ := ha
      exact ⟨_, _, by simp [Instr.fieldAt, run_underlying' hu, hfd, Instr.sureAddr, hpl, add_plain, ho], mkPtr hg, h⟩
    · rename_i cs _
      obtain ⟨b, off, rfl, hpb, hr⟩ := ha
      obtain ⟨_, h⟩ := dropK_iff.1 h
      exact ⟨_, _, by simp [Instr.fieldAt, run_underlying' hu, hfd, Instr.sureAddr, hpl, add_plain, ho], mkRop hpb (relDs_drop hr _), h⟩
    · exact h.elim
  · exact h.elim
theorem relD_int {k : IntKind} {n : Int} {v : Value} (h : RelV Γ Pr w (.ro (.int k n)) v) : v = .int k n := h
theorem indexAddrK_ok (hP : TyOK P tt) {t : Nat} {x i : AV} {vx vi : Value} {k : AV → Prop} (hx : RelV Γ Pr w x vx) (hi : RelV Γ Pr w i vi) (h : indexAddrK tt t x i k) :
    ∃ y v, (Instr.indexAt t vx vi).run P w = .ok v w ∧ RelV Γ Pr w y v ∧ k y := by
  unfold indexAddrK at h
  split at h
  · rename_i ki n
    cases relD_int hi
    split at h
    · rename_i e esz eb ez hd
      obtain ⟨u, hu, _, rfl, he⟩ := (hP t _ hd).und
      obtain ⟨ie, z, hie, hse, _, _, _, _, hpos, _⟩ := he
      split at h
      · rename_i sz id off len cap
        obtain ⟨b, m, c, hg, rfl, _⟩ := hx
        obtain ⟨hgd, h⟩ := guardP_iff.1 h
        simp only [decide_eq_true_eq] at hgd
        exact ⟨_, _, by simp [Instr.indexAt, asIntOf, run_underlying' hu, hgd, sizeOf, typeInfo, hie, hse, add_plain], mkPtr hg, h⟩
      · rename_i sz cs cap
        obtain ⟨A, m, c, rfl, hm, _, _, hr⟩ := hx
        obtain ⟨hgd, h⟩ := guardP_iff.1 h
        simp only [Bool.and_eq_true, beq_iff_eq, decide_eq_true_eq] at hgd
        obtain ⟨rfl, h0, h1⟩ := hgd
        obtain ⟨_, h⟩ := dropK_iff.1 h
        have hlt : n.toNat < m := by
          rw [← hm] at h1
          exact Nat.lt_of_succ_le (Nat.le_of_mul_le_mul_right h1 hpos)
        have hne : cs ≠ [] := by
          intro e; subst e
          rw [List.length_nil, Nat.add_mul] at h1; omega
        obtain ⟨b, off, rfl, hpb, hrel⟩ := hr.resolve_left hne
        have : 0 ≤ n ∧ n < (m : Int) := ⟨h0, by omega⟩
        exact ⟨_, _, by simp [Instr.indexAt, asIntOf, run_underlying' hu, this, sizeOf, typeInfo, hie, hse, add_plain], mkRop hpb (relDs_drop hrel _), h⟩
      · exact h.elim
    · rename_i m e esz zs hd
      obtain ⟨u, hu, _, rfl, ⟨ie, hie, hse⟩, hpos⟩ := (hP t _ hd).und
      obtain ⟨hgd, h⟩ := guardP_iff.1 h
      simp only [decide_eq_true_eq] at hgd
      split at h
      · rename_i id off
        obtain ⟨b, m', hg, rfl⟩ := hx
        exact ⟨_, _, by simp [Instr.indexAt, asIntOf, run_underlying' hu, Instr.sureAddr, hgd, sizeOf, typeInfo, hie, hse, add_plain], mkPtr hg, h⟩
      · rename_i cs
        obtain ⟨b, off, rfl, hpb, hr⟩ := hx
        obtain ⟨_, h⟩ := dropK_iff.1 h
        exact ⟨_, _, by simp [Instr.indexAt, asIntOf, run_underlying' hu, Instr.sureAddr, hgd, sizeOf, typeInfo, hie, hse, add_plain], mkRop hpb (relDs_drop hr _), h⟩
      · exact h.elim
    · exact h.elim
  · exact h.elim
end
end Go.Ab
