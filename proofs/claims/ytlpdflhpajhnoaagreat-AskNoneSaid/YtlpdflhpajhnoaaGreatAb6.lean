/- The abstract layer, part 6: building values and slices, parts of slices, append and copy. -/
import Derived.Test.YtlpdflhpajhnoaaGreatAb5
namespace Go.Ab

section
variable {P : Program} {tt : TyT} {Γ : VL} {Pr : Nat → Prop} {H : Heap} {w : World} {T : Tm} {tmps : Array Value} {ds : List Deferred} {nt : Nat}

/-! ### Building -/
theorem zipIdx_put (off : Nat) : ∀ (vs : List Value) (n : Nat) (cs : Array Value), (vs.zipIdx n).foldl (fun cs p => cs.setIfInBounds (off + p.2) p.1) cs = putA cs (off + n) vs
  | [], n, cs => rfl
  | v :: vs, n, cs => by
    simp only [List.zipIdx_cons, List.foldl_cons, putA]
    rw [zipIdx_put off vs (n + 1)]
    rfl
theorem relVs_put {zs as : List AV} {cells : Array Value} {vs : List Value} {off : Nat} (hz : RelVs Γ Pr w zs cells.toList) (hv : RelVs Γ Pr w as vs) (hl : off + as.length ≤ zs.length) :
    RelVs Γ Pr w (put zs off as) (putA cells off vs).toList := by
  have h1 := relVs_length hz
  have h2 := relVs_length hv
  simp only [Array.length_toList] at h1
  refine relVs_of_get (by rw [put_length hl]; simp [putA_size, h1]) fun i a hi => ?_
  rw [put_get hl] at hi
  have hg : (putA cells off vs).toList[i]? = (putA cells off vs)[i]? := by simp
  rw [hg, putA_get _ _ _ _ (by omega)]
  split at hi
  · rename_i h3; rw [if_pos h3]; simpa using relVs_get hz i a hi
  · rename_i h3
    rw [if_neg h3]
    split at hi
    · rename_i h4; rw [if_pos (by omega)]; exact relVs_get hv _ a hi
    · rename_i h4; rw [if_neg (by omega)]; simpa using relVs_get hz i a hi
theorem fillK_ok {fs : List (Nat × Nat)} {place : Nat → Option (Nat × Nat)} (hpl : ∀ i p, fs[i]? = some p → place i = some p) : ∀ {ps : List (Nat × AV)} {vs : List (Nat × Value)} {z : List AV} {cells : Array Value} {k : List AV → Prop},
    RelPs Γ Pr w ps vs → RelVs Γ Pr w z cells.toList → fillK z fs ps k → ∃ z' cells', Instr.fill place cells vs = some cells' ∧ RelVs Γ Pr w z' cells'.toList ∧ k z'
  | [], vs, z, cells, k, hps, hz, h => by
    have : vs = [] := hps
    subst this
    exact ⟨z, cells, rfl, hz, h⟩
  | (i, a) :: ps, vs, z, cells, k, ⟨v, vs', e, hv, hps⟩, hz, h => by
    subst e
    simp only [fillK] at h
    obtain ⟨p, hp, h⟩ := nthK_iff.1 h
    obtain ⟨hg, h⟩ := guardP_iff.1 h
    simp only [Bool.and_eq_true, beq_iff_eq] at hg
    obtain ⟨hl, h⟩ := storeK_of h
    have hc := relV_cells hv hg.1
    have hlen := relVs_length hc
    simp only [Array.length_toList] at hlen
    have hzl := relVs_length hz
    simp only [Array.length_toList] at hzl
    obtain ⟨z', cells', h1, h2, h3⟩ := fillK_ok hpl hps (relVs_put hz hc hl) h
    refine ⟨z', cells', ?_, h2, h3⟩
    obtain ⟨po, psz⟩ := p
    simp only at hl hg h1 ⊢
    have e1 : (v.cells.size ≠ psz || po + v.cells.size > cells.size) = false := by simp; omega
    simp only [Instr.fill, hpl i _ hp, e1, Bool.false_eq_true, if_false]
    rw [← h1]
    congr 1
    rw [← Array.foldl_toList, Array.toList_zipIdx, zipIdx_put po v.cells.toList 0 cells]
    simp
theorem fillEK_ok {esz : Nat} : ∀ {ps : List (Nat × AV)} {vs : List (Nat × Value)} {z : List AV} {cells : Array Value} {k : List AV → Prop},
    RelPs Γ Pr w ps vs → RelVs Γ Pr w z cells.toList → fillEK esz z ps k → ∃ z' cells', Instr.fill (fun i => some (i * esz, esz)) cells vs = some cells' ∧ RelVs Γ Pr w z' cells'.toList ∧ k z'
  | [], vs, z, cells, k, hps, hz, h => by
    have : vs = [] := hps
    subst this
    exact ⟨z, cells, rfl, hz, h⟩
  | (i, a) :: ps, vs, z, cells, k, ⟨v, vs', e, hv, hps⟩, hz, h => by
    subst e
    simp only [fillEK] at h
    obtain ⟨hg, h⟩ := guardP_iff.1 h
    simp only [Bool.and_eq_true, beq_iff_eq] at hg
    obtain ⟨hl, h⟩ := storeK_of h
    have hc := relV_cells hv hg.1
    have hlen := relVs_length hc
    simp only [Array.length_toList] at hlen
    have hzl := relVs_length hz
    simp only [Array.length_toList] at hzl
    obtain ⟨z', cells', h1, h2, h3⟩ := fillEK_ok hps (relVs_put hz hc hl) h
    refine ⟨z', cells', ?_, h2, h3⟩
    have e1 : (v.cells.size ≠ esz || i * esz + v.cells.size > cells.size) = false := by simp; omega
    simp only [Instr.fill, e1, Bool.false_eq_true, if_false]
    rw [← h1]
    congr 1
    rw [← Array.foldl_toList, Array.toList_zipIdx, zipIdx_put (i * esz) v.cells.toList 0 cells]
    simp
theorem run_places {fields : Array Field} {fs : List (Nat × Nat)} (h : fieldsOK P fields fs) : (fields.mapM fun f => do pure (f.offset, ← sizeOf f.type) : Sem (Array (Nat × Nat))).run P w = .ok fs.toArray w := by
  obtain ⟨h, _⟩ := h
  rw [Array.mapM_eq_mapM_toList]
  simp only [Sem.run_map]
  have key : ∀ (l : List Field) (fs : List (Nat × Nat)), l.map (fun f => (f.offset, (P.info? f.type).map (·.size))) = fs.map (fun p => (p.1, some p.2)) →
      (l.mapM fun f => do pure (f.offset, ← sizeOf f.type) : Sem (List (Nat × Nat))).run P w = .ok fs w := by
    intro l
    induction l with
    | nil => intro fs h; cases fs <;> simp_all
    | cons f l ih =>
      intro fs h
      cases fs with
      | nil => simp at h
      | cons p fs =>
        simp only [List.map_cons, List.cons.injEq, Prod.mk.injEq] at h
        obtain ⟨⟨h1, h2⟩, h3⟩ := h
        cases hi : P.info? f.type with
        | none => rw [hi] at h2; cases h2
        | some i =>
          rw [hi] at h2
          simp only [Option.map_some, Option.some.injEq] at h2
          have hso : (sizeOf f.type).run P w = .ok p.2 w := by simp [sizeOf, typeInfo, hi, h2]
          rw [List.mapM_cons]
          simp only [Sem.run_bind, hso, Result.andThen_ok, Sem.run_pure, ih fs h3, h1]
  rw [key _ _ h]
  simp
theorem buildK_ok (hP : TyOK P tt) {t : Nat} {ps : List (Nat × AV)} {vs : Array (Nat × Value)} {k : AV → Prop} (hps : RelPs Γ Pr w ps vs.toList) (h : buildK tt t ps k) :
    ∃ x v, (Instr.build t vs).run P w = .ok v w ∧ RelV Γ Pr w x v ∧ k x := by
  unfold buildK at h
  split at h
  · rename_i fs zs cm ag hd
    obtain ⟨u, hu, _, fields, rfl, hf, _⟩ := (hP t _ hd).und
    obtain ⟨z, hz, hzs, hza, _⟩ := run_zeroValue' (w := w) (hP t _ hd)
    have h := mapK_iff.1 h
    have hpl : ∀ (i : Nat) (p : Nat × Nat), fs[i]? = some p → (fun i => fs.toArray[i]?) i = some p := fun i p hp => by simpa using hp
    obtain ⟨z', cells', h1, h2, h3⟩ := fillK_ok hpl hps (zsOK_rel hzs) h
    have hr : RelV Γ Pr w (.agg z') (.agg cells') := ⟨cells'.toList, by simp, h2⟩
    refine ⟨_, _, ?_, hr, h3⟩
    have h1' : Instr.fill (fun x => fs.toArray[x]?) z.cells vs.toList = some cells' := h1
    simp only [Instr.build, Sem.run_bind, hz, Result.andThen_ok, run_underlying' hu]
    rw [run_places hf]
    simp only [Result.andThen_ok, h1', Sem.run_pure]
  · rename_i n e esz zs hd
    obtain ⟨u, hu, _, rfl, ⟨ie, hie, hse⟩, hpos⟩ := (hP t _ hd).und
    obtain ⟨z, hz, hzs, hza, _⟩ := run_zeroValue' (w := w) (hP t _ hd)
    have h := mapK_iff.1 h
    obtain ⟨z', cells', h1, h2, h3⟩ := fillEK_ok hps (zsOK_rel hzs) h
    have hr : RelV Γ Pr w (.agg z') (.agg cells') := ⟨cells'.toList, by simp, h2⟩
    exact ⟨_, _, by simp [Instr.build, hz, run_underlying' hu, sizeOf, typeInfo, hie, hse, h1], hr, h3⟩
  · exact h.elim

theorem reps_length {α : Type} (zs : List α) : ∀ n, (reps zs n).length = n * zs.length
  | 0 => by simp [reps]
  | n + 1 => by simp [reps, reps_length zs n, Nat.add_mul]; omega
theorem repK_iff {zs : List RD} : ∀ {n : Nat} {k : List AV → Prop}, repK zs n k ↔ k ((reps zs n).map AV.ro)
  | 0, k => Iff.rfl
  | n + 1, k => by
    rw [show repK zs (n + 1) k = repK zs n (fun l => mapK AV.ro zs (fun z => appK z l k)) from rfl]
    simp only [reps]
    rw [repK_iff, mapK_iff, appK_iff, List.map_append]
theorem reps_get {α : Type} {zs : List α} : ∀ {n i : Nat}, i < n * zs.length → (reps zs n)[i]? = zs[i % zs.length]?
  | 0, i, h => by simp at h
  | n + 1, i, h => by
    simp only [reps]
    rcases Nat.lt_or_ge i zs.length with h1 | h1
    · rw [List.getElem?_append_left h1, Nat.mod_eq_of_lt h1]
    · rw [List.getElem?_append_right h1, reps_get (by rw [Nat.add_mul] at h; omega)]
      congr 1
      conv => rhs; rw [show i = (i - zs.length) + zs.length from by omega, Nat.add_mod_right]
theorem relV_reps {ez : List RD} {zc : Array Value} (h : zsOK ez zc.toList = true) (n : Nat) :
    RelVs Γ Pr w ((reps ez n).map AV.ro) ((Array.range (n * ez.length)).map (zc[· % zc.size]!)).toList := by
  have hl := zsOK_length h
  simp only [Array.length_toList] at hl
  have hz := zsOK_rel (Γ := Γ) (Pr := Pr) (w := w) h
  refine relVs_of_get (by simp [reps_length]) fun i a hi => ?_
  have hlt : i < n * ez.length := by
    have := (List.getElem?_eq_some_iff.1 hi).1
    simpa [reps_length] using this
  rw [List.getElem?_map, reps_get hlt] at hi
  have hpos : 0 < ez.length := by
    rcases Nat.eq_zero_or_pos ez.length with e | e
    · rw [e] at hlt; simp at hlt
    · exact e
  have hm : i % ez.length < ez.length := Nat.mod_lt _ hpos
  rw [List.getElem?_eq_getElem hm] at hi
  simp only [Option.map_some, Option.some.injEq] at hi
  obtain ⟨v, hv, hr⟩ := relVs_get hz (i % ez.length) (.ro ez[i % ez.length]) (by rw [List.getElem?_map, List.getElem?_eq_getElem hm]; rfl)
  subst hi
  refine ⟨v, ?_, hr⟩
  have hv' : zc[i % zc.size]? = some v := by rw [hl]; simpa using hv
  rw [Array.getElem?_toList, Array.getElem?_map, Array.getElem?_range, if_pos hlt]
  simp only [Option.map_some]
  rw [Array.getElem!_eq_getD, Array.getD_eq_getD_getElem?, hv']
  rfl
theorem pushed_ext (hs : Sim Γ Pr H w) {w' : World} {e : TypeId} {c : Array Value} {as : List AV} (hw : w'.heap = w.heap.push (.cells c e (0, 0))) (hos : w'.os = w.os) (hta : w'.tape = w.tape) (hou : w'.output = w.output) (hr : RelVs Γ Pr w as c.toList) :
    Sim (Γ ++ [(w.heap.size, c.size)]) Pr (H ++ [.cells e as]) w' ∧ Ext Γ Pr H w (Γ ++ [(w.heap.size, c.size)]) Pr (H ++ [.cells e as]) w' := by
  have hl := relVs_length hr
  simp only [Array.length_toList] at hl
  exact sim_new hs hw hos hta hou (by omega) (relVs_arr hr)
/-- A slice over a whole new block. -/
theorem mkSlice (hs : Sim Γ Pr H w) {w' : World} {b n esz len c : Nat} {cap : Option Nat} (h1 : len ≤ c) (h2 : c * esz ≤ n) (h3 : ∀ c0, cap = some c0 → c = c0) {Pr' : Nat → Prop} :
    RelV (Γ ++ [(b, n)]) Pr' w' (.sl esz H.length 0 len cap) (.slice (some ⟨b, 0, none⟩) len c) :=
  ⟨b, n, c, vl_last hs _, rfl, h1, by omega, h3⟩

def Fin (P : Program) (Γ : VL) (Pr : Nat → Prop) (H : Heap) (w : World) (s : Sem Value) (k : AV → Heap → Prop) : Prop :=
  ∃ v w' a H' Γ' Pr', s.run P w = .ok v w' ∧ Ext Γ Pr H w Γ' Pr' H' w' ∧ Sim Γ' Pr' H' w' ∧ RelV Γ' Pr' w' a v ∧ k a H'
theorem Fin.same (hs : Sim Γ Pr H w) {s : Sem Value} {v : Value} {a : AV} {k : AV → Heap → Prop} (h : s.run P w = .ok v w) (hr : RelV Γ Pr w a v) (hk : k a H) : Fin P Γ Pr H w s k :=
  ⟨v, w, a, H, Γ, Pr, h, Ext.refl _ _ _ _, hs, hr, hk⟩

theorem buildSliceK_ok (hP : TyOK P tt) (hs : Sim Γ Pr H w) {t n : Nat} {ps : List (Nat × AV)} {vs : Array (Nat × Value)} {k : AV → Heap → Prop} (hps : RelPs Γ Pr w ps vs.toList) (h : buildSliceK tt H t n ps k) :
    Fin P Γ Pr H w (Instr.buildSlice t n vs) k := by
  unfold buildSliceK at h
  split at h
  · rename_i e esz eb ez hd
    obtain ⟨u, hu, _, rfl, ie, z, hie, hse, _, hz, hzs, hel, hpos, _⟩ := (hP t _ hd).und
    obtain ⟨hg, h⟩ := guardP_iff.1 h
    simp only [decide_eq_true_eq] at hg
    have h := repK_iff.1 h
    have hcell : RelVs Γ Pr w ((reps ez n).map AV.ro) ((Array.range (n * esz)).map (z.cells[· % z.cells.size]!)).toList := by rw [hel]; exact relV_reps hzs n
    obtain ⟨z', cells', h1, h2, h3⟩ := fillEK_ok hps hcell h
    have h3 := newK_iff.1 h3
    obtain ⟨s1, s2⟩ := pushed_ext hs (w' := { w with heap := w.heap.push (.cells cells' e) }) (e := e) rfl rfl rfl rfl h2
    have hcs : n * esz ≤ cells'.size := by
      have hl := relVs_length h2
      have hsz : ∀ {l : List (Nat × Value)} {c c' : Array Value} {place : Nat → Option (Nat × Nat)}, Instr.fill place c l = some c' → c'.size = c.size := by
        intro l
        induction l with
        | nil => intro c c' place hh; simp only [Instr.fill, Option.some.injEq] at hh; rw [hh]
        | cons p l ih =>
          intro c c' place hh
          obtain ⟨i, v⟩ := p
          simp only [Instr.fill] at hh
          split at hh
          · cases hh
          · split at hh
            · cases hh
            · rw [ih hh, ← Array.foldl_toList, Array.toList_zipIdx, zipIdx_put, putA_size]
      rw [hsz h1]; simp
    refine ⟨.slice (some ⟨w.heap.size, 0, none⟩) n n, _, _, _, _, _, ?_, s2, s1, mkSlice hs (Nat.le_refl _) hcs (fun c0 hc => by cases hc; rfl), h3⟩
    have hzr : (zeroValue e).run P w = .ok z w := by simp [zeroValue, typeInfo, hie, hz]
    have hse' : (sizeOf e).run P w = .ok esz w := by simp [sizeOf, typeInfo, hie, hse]
    have hng : ¬ n * esz > 2 ^ 24 := by omega
    by_cases h0 : n * esz = 0
    · have hc0 : (Array.range (n * esz)).map (z.cells[· % z.cells.size]!) = #[] := by simp [h0]
      rw [hc0] at h1
      have hm : ∀ f : Nat → Value, (Array.range 0).map f = #[] := fun f => by simp
      simp [Instr.buildSlice, run_underlying' hu, hse', h0, hm, h1, newRow_run]
    · simp [Instr.buildSlice, run_underlying' hu, hse', hng, h0, hzr, h1, newRow_run]
  · exact h.elim
theorem makeSliceK_ok (hP : TyOK P tt) (hs : Sim Γ Pr H w) {t : Nat} {l c : AV} {vl vc : Value} {k : AV → Heap → Prop} (hl : RelV Γ Pr w l vl) (hc : RelV Γ Pr w c vc) (h : makeSliceK tt H t l c k) :
    Fin P Γ Pr H w (Instr.makeSlice t vl vc) k := by
  unfold makeSliceK at h
  split at h
  · rename_i e esz eb ez kl ln kc cn hd
    obtain ⟨u, hu, _, rfl, ie, z, hie, hse, heb, hz, hzs, hel, hpos, _⟩ := (hP t _ hd).und
    cases getInt hl; cases getInt hc
    obtain ⟨hg, h⟩ := guardP_iff.1 h
    simp only [decide_eq_true_eq] at hg
    obtain ⟨g1, g2, g3, g4⟩ := hg
    have h := newK_iff.1 h
    have hcell : RelVs Γ Pr w ((reps ez cn.toNat).map AV.ro) ((Array.range (cn.toNat * esz)).map (z.cells[· % z.cells.size]!)).toList := by rw [hel]; exact relV_reps hzs _
    have hwl : IntKind.i64.wrap ln = ln := by simp [IntKind.wrap, IntKind.bits, IntKind.signed]; omega
    have hwc : IntKind.i64.wrap cn = cn := by simp [IntKind.wrap, IntKind.bits, IntKind.signed]; omega
    obtain ⟨s1, s2⟩ := pushed_ext hs (w' := { w with heap := w.heap.push (.cells ((Array.range (cn.toNat * esz)).map (z.cells[· % z.cells.size]!)) e) }) (e := e) rfl rfl rfl rfl hcell
    have hzr : (zeroValue e).run P w = .ok z w := by simp [zeroValue, typeInfo, hie, hz]
    have hse' : (sizeOf e).run P w = .ok esz w := by simp [sizeOf, typeInfo, hie, hse]
    have hti : (typeInfo e).run P w = .ok ie w := by simp [typeInfo, hie]
    refine ⟨.slice (some ⟨w.heap.size, 0, none⟩) ln.toNat cn.toNat, _, _, _, _, _, ?_, s2, s1, mkSlice hs (by omega) (by simp) (fun c0 hc => by cases hc; rfl), h⟩
    have b1 : ¬ (cn < 0) := by omega
    have b2 : ¬ (281474976710656 < (eb : Int) * cn) := by
      have : (eb : Int) * cn = cn * eb := Int.mul_comm _ _
      omega
    have b3 : ¬ ln < 0 := by omega
    have b4 : ¬ ln > cn := by omega
    by_cases h0 : cn.toNat * esz = 0
    · have hm : ∀ f : Nat → Value, (Array.range 0).map f = #[] := fun f => by simp
      simp [Instr.makeSlice, run_underlying' hu, asInt, asIntOf, hti, heb, hwl, hwc, b1, b2, b3, b4, hse', h0, hm, newRow_run]
    · simp [Instr.makeSlice, run_underlying' hu, asInt, asIntOf, hti, heb, hwl, hwc, b1, b2, b3, b4, hse', h0, hzr, newRow_run]
  · exact h.elim
end
end Go.Ab
