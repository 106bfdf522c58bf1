/- The abstract layer, part 3: what a type's entry says of the program; worlds and abstract heaps, step by step. -/
import Derived.Test.YtlpdflhpajhnoaaGreatAb2
namespace Go.Ab

/-! ### Types -/
def z0 : RD → Value → Bool
  | .int k n, .int k' n' => kindEq k k' && n == n'
  | .bool b, .bool b' => b == b'
  | .str s, .string s' => s.size == 0 && s'.size == 0
  | .nilp, .pointer none => true
  | .nilfn, .nilFunc => true
  | .nilmap, .map none => true
  | .niface, .nilIface => true
  | .slice _ [] (some 0), .slice none 0 0 => true
  | _, _ => false
theorem kindEq_eq {a b : IntKind} (h : kindEq a b = true) : a = b := by cases a <;> cases b <;> simp_all [kindEq]
theorem kindEq_self (a : IntKind) : kindEq a a = true := by cases a <;> rfl
theorem bytes_size_zero {s t : ByteArray} (h : s.size = 0) (k : t.size = 0) : s = t := by
  obtain ⟨⟨a⟩⟩ := s
  obtain ⟨⟨b⟩⟩ := t
  have ha : a = [] := List.eq_nil_of_length_eq_zero h
  have hb : b = [] := List.eq_nil_of_length_eq_zero k
  rw [ha, hb]
theorem z0_rel {Pr : Nat → Prop} {w : World} {d : RD} {v : Value} (h : z0 d v = true) : RelD Pr w d v := by
  unfold z0 at h
  split at h
  · simp only [Bool.and_eq_true, beq_iff_eq] at h; obtain ⟨h1, rfl⟩ := h; rw [kindEq_eq h1]; exact rfl
  · simp only [beq_iff_eq] at h; subst h; exact rfl
  · simp only [Bool.and_eq_true, beq_iff_eq] at h; rw [bytes_size_zero h.1 h.2]; exact rfl
  · exact rfl
  · exact rfl
  · exact rfl
  · exact rfl
  · exact ⟨none, 0, 0, rfl, by simp, Nat.le_refl _, by simp, .inl rfl⟩
  · simp at h
def zsOK : List RD → List Value → Bool
  | [], [] => true
  | d :: ds, v :: vs => z0 d v && zsOK ds vs
  | _, _ => false
theorem zsOK_rel {Γ : VL} {Pr : Nat → Prop} {w : World} : ∀ {ds : List RD} {vs : List Value}, zsOK ds vs = true → RelVs Γ Pr w (ds.map AV.ro) vs
  | [], [], _ => rfl
  | d :: ds, v :: vs, h => by
    simp only [zsOK, Bool.and_eq_true] at h
    exact ⟨v, vs, rfl, z0_rel h.1, zsOK_rel h.2⟩
theorem zsOK_length {ds : List RD} : ∀ {vs : List Value}, zsOK ds vs = true → vs.length = ds.length := by
  induction ds with
  | nil => intro vs h; cases vs <;> simp_all [zsOK]
  | cons d ds ih => intro vs h; cases vs <;> simp_all [zsOK]

def aggD : TypeDesc → Bool
  | .struct _ => true
  | .array _ _ => true
  | _ => false
def fieldsOK (P : Program) (fields : Array Field) (fs : List (Nat × Nat)) : Prop :=
  fields.toList.map (fun f => (f.offset, (P.info? f.type).map (·.size))) = fs.map (fun p => (p.1, some p.2)) ∧ ∀ p ∈ fs, p.2 ≠ 0
def elemOK (P : Program) (e esz eb : Nat) (ez : List RD) : Prop :=
  ∃ i z, P.info? e = some i ∧ i.size = esz ∧ i.bytes = eb ∧ i.zero = some z ∧ zsOK ez z.cells.toList = true ∧ esz = ez.length ∧ 0 < esz ∧ 0 < eb
def agsOK (P : Program) : List Field → List Bool → Bool
  | [], [] => true
  | f :: r, b :: q => (match P.underlying f.type with | some u => aggD u == b | none => false) && agsOK P r q
  | _, _ => false
theorem agsOK_get {P : Program} : ∀ {l : List Field} {ag : List Bool} {i : Nat} {f : Field} {b : Bool}, agsOK P l ag = true → l[i]? = some f → ag[i]? = some b → ∃ u, P.underlying f.type = some u ∧ aggD u = b
  | [], _, i, f, b, _, h, _ => by simp at h
  | g :: r, [], i, f, b, h, _, _ => by simp [agsOK] at h
  | g :: r, c :: q, 0, f, b, h, h1, h2 => by
    simp only [agsOK, Bool.and_eq_true] at h
    simp only [List.getElem?_cons_zero, Option.some.injEq] at h1 h2
    subst h1; subst h2
    cases hu : P.underlying g.type with
    | none => rw [hu] at h; simp at h
    | some u => rw [hu] at h; exact ⟨u, rfl, by simpa using h.1⟩
  | g :: r, c :: q, i + 1, f, b, h, h1, h2 => by
    simp only [agsOK, Bool.and_eq_true] at h
    simp only [List.getElem?_cons_succ] at h1 h2
    exact agsOK_get h.2 h1 h2
def UndOK (P : Program) (u : TypeDesc) : Ty → Prop
  | .int k => u = .int k
  | .str => u = .string
  | .sc z => (match z with
    | .nilp => ∃ e, u = .pointer e
    | .bool _ => u = .bool
    | .niface => ∃ ms, u = .interface ms
    | _ => True)
  | .st fs _ _ ag => ∃ fields, u = .struct fields ∧ fieldsOK P fields fs ∧ agsOK P fields.toList ag = true
  | .arr n e esz _ => u = .array n e ∧ (∃ i, P.info? e = some i ∧ i.size = esz) ∧ 0 < esz
  | .sl e esz eb ez => u = .slice e ∧ elemOK P e esz eb ez
  | .mp kt e kb agg ez => u = .map kt e ∧ (∃ v, P.underlying e = some v ∧ aggD v = agg) ∧ (∃ k, P.underlying kt = some k ∧ (match kb with | true => k = .bool | false => ∃ ik, k = .int ik)) ∧
      ∃ i z, P.info? e = some i ∧ i.zero = some z ∧ zsOK ez z.cells.toList = true ∧ (agg = true → ∃ cs, z = .agg cs) ∧ (agg = false → ∀ cs, z ≠ .agg cs)
def plainF (P : Program) : List Field → List RD → Nat → Bool
  | [], [], _ => true
  | f :: r, z :: zs, j => f.offset == j && f.name != "_" && (match z, P.underlying f.type with | .bool _, some .bool => true | .int _ _, some (.int _) => true | _, _ => false) && plainF P r zs (j + 1)
  | _, _, _ => false
def Ty.cmp : Ty → Bool
  | .st _ _ c _ => c
  | _ => false
structure EqOK (P : Program) (t : Nat) (zs : List RD) : Prop where
  guard : P.eqGuardType P.depth t = false
  held : P.stoodInHeld t = false
  fields : ∃ fs, P.underlying t = some (.struct fs) ∧ plainF P fs.toList zs 0 = true
structure TyF (P : Program) (t : Nat) (d : Ty) : Prop where
  cmp : d.cmp = true → EqOK P t d.zs
  info : ∃ i z, P.info? t = some i ∧ i.size = d.size ∧ i.zero = some z ∧ zsOK d.zs z.cells.toList = true ∧ (d.isAgg = true → ∃ cs, z = .agg cs) ∧ (d.isAgg = false → ∀ cs, z ≠ .agg cs)
  und : ∃ u, P.underlying t = some u ∧ aggD u = d.isAgg ∧ UndOK P u d
def TyOK (P : Program) (tt : TyT) : Prop := ∀ t d, tt.find t = some d → TyF P t d

def isAggV : Value → Bool
  | .agg _ => true
  | _ => false
theorem isAggV_true {z : Value} (h : isAggV z = true) : ∃ cs, z = .agg cs := by cases z <;> simp_all [isAggV]
theorem isAggV_false {z : Value} (h : isAggV z = false) : ∀ cs, z ≠ .agg cs := by intro cs e; subst e; simp [isAggV] at h
def chkFields (P : Program) : List Field → List (Nat × Nat) → Bool
  | [], [] => true
  | f :: r, p :: q => f.offset == p.1 && (match P.info? f.type with | some i => i.size == p.2 | none => false) && p.2 != 0 && chkFields P r q
  | _, _ => false
theorem chkFields_ok {P : Program} : ∀ {l : List Field} {fs : List (Nat × Nat)}, chkFields P l fs = true → l.map (fun f => (f.offset, (P.info? f.type).map (·.size))) = fs.map (fun p => (p.1, some p.2)) ∧ ∀ p ∈ fs, p.2 ≠ 0
  | [], [], _ => by simp
  | f :: r, (a, b) :: q, h => by
    simp only [chkFields, Bool.and_eq_true, beq_iff_eq, bne_iff_ne] at h
    obtain ⟨⟨⟨h1, h2⟩, h3⟩, h4⟩ := h
    obtain ⟨k1, k2⟩ := chkFields_ok h4
    cases hi : P.info? f.type with
    | none => rw [hi] at h2; simp at h2
    | some i =>
      rw [hi] at h2
      simp only [beq_iff_eq] at h2
      refine ⟨by simp [k1, h1, hi, h2], fun p hp => ?_⟩
      rcases List.mem_cons.1 hp with rfl | hp
      · exact h3
      · exact k2 p hp
def chkElem (P : Program) (e esz eb : Nat) (ez : List RD) : Bool :=
  match P.info? e with
  | some i => i.size == esz && i.bytes == eb && (match i.zero with | some z => zsOK ez z.cells.toList | none => false) && esz == ez.length && decide (0 < esz) && decide (0 < eb)
  | none => false
theorem chkElem_ok {P : Program} {e esz eb : Nat} {ez : List RD} (h : chkElem P e esz eb ez = true) : elemOK P e esz eb ez := by
  unfold chkElem at h
  cases hi : P.info? e with
  | none => rw [hi] at h; simp at h
  | some i =>
    simp only [hi] at h
    cases hz : i.zero with
    | none => simp [hz] at h
    | some z =>
      simp only [hz, Bool.and_eq_true, beq_iff_eq, decide_eq_true_eq] at h
      obtain ⟨⟨⟨⟨⟨h1, h2⟩, h3⟩, h4⟩, h5⟩, h6⟩ := h
      exact ⟨i, z, hi, h1, h2, hz, h3, h4, h5, h6⟩
def chkUnd (P : Program) (u : TypeDesc) : Ty → Bool
  | .int k => match u with | .int k' => kindEq k k' | _ => false
  | .str => match u with | .string => true | _ => false
  | .sc z => (match z, u with
    | .nilp, .pointer _ => true
    | .bool _, .bool => true
    | .niface, .interface _ => true
    | .nilp, _ => false
    | .bool _, _ => false
    | .niface, _ => false
    | _, _ => true)
  | .st fs _ _ ag => match u with | .struct fields => chkFields P fields.toList fs && agsOK P fields.toList ag | _ => false
  | .arr n e esz _ => match u with | .array n' e' => n == n' && e == e' && (match P.info? e with | some i => i.size == esz | none => false) && decide (0 < esz) | _ => false
  | .sl e esz eb ez => match u with | .slice e' => e == e' && chkElem P e esz eb ez | _ => false
  | .mp kt e kb agg ez => match u with
    | .map kt' e' => kt == kt' && e == e' && (match P.underlying e with | some v => aggD v == agg | none => false) && (match kb, P.underlying kt with | true, some .bool => true | false, some (.int _) => true | _, _ => false) &&
        (match P.info? e with | some i => (match i.zero with | some z => zsOK ez z.cells.toList && (isAggV z == agg) | none => false) | none => false)
    | _ => false
theorem chkUnd_ok {P : Program} {u : TypeDesc} : ∀ {d : Ty}, chkUnd P u d = true → UndOK P u d
  | .int k, h => by
    simp only [chkUnd] at h; split at h
    · rw [kindEq_eq h]; exact rfl
    · simp at h
  | .str, h => by
    simp only [chkUnd] at h; split at h
    · exact rfl
    · simp at h
  | .sc z, h => by
    simp only [chkUnd] at h; split at h
    · exact ⟨_, rfl⟩
    · exact rfl
    · exact ⟨_, rfl⟩
    · simp at h
    · simp at h
    · simp at h
    · simp only [UndOK]
  | .st fs _ _ _, h => by
    simp only [chkUnd] at h; split at h
    · simp only [Bool.and_eq_true] at h
      exact ⟨_, rfl, chkFields_ok h.1, h.2⟩
    · simp at h
  | .arr n e esz _, h => by
    simp only [chkUnd] at h; split at h
    · simp only [Bool.and_eq_true, beq_iff_eq, decide_eq_true_eq] at h
      obtain ⟨⟨⟨rfl, rfl⟩, h3⟩, h4⟩ := h
      refine ⟨rfl, ?_, h4⟩
      cases hi : P.info? e with
      | none => rw [hi] at h3; simp at h3
      | some i => rw [hi] at h3; exact ⟨i, rfl, by simpa using h3⟩
    · simp at h
  | .sl e esz eb ez, h => by
    simp only [chkUnd] at h; split at h
    · simp only [Bool.and_eq_true, beq_iff_eq] at h
      obtain ⟨rfl, h2⟩ := h
      exact ⟨rfl, chkElem_ok h2⟩
    · simp at h
  | .mp kt e kb agg ez, h => by
    simp only [chkUnd] at h; split at h
    · simp only [Bool.and_eq_true, beq_iff_eq] at h
      obtain ⟨⟨⟨⟨rfl, rfl⟩, h3⟩, h4⟩, h5⟩ := h
      refine ⟨rfl, ?_, ?_, ?_⟩
      · cases hu : P.underlying e with
        | none => rw [hu] at h3; simp at h3
        | some v => rw [hu] at h3; exact ⟨v, rfl, by simpa using h3⟩
      · split at h4
        · rename_i hk; exact ⟨_, hk, rfl⟩
        · rename_i ik hk; exact ⟨_, hk, ⟨ik, rfl⟩⟩
        · simp at h4
      · cases hi : P.info? e with
        | none => rw [hi] at h5; simp at h5
        | some i =>
          rw [hi] at h5
          cases hz : i.zero with
          | none => simp [hz] at h5
          | some z =>
            simp only [hz, Bool.and_eq_true, beq_iff_eq] at h5
            exact ⟨i, z, rfl, hz, h5.1, fun ha => isAggV_true (h5.2.trans ha), fun ha => isAggV_false (h5.2.trans ha)⟩
    · simp at h
def chkEq (P : Program) (t : Nat) (zs : List RD) : Bool :=
  !P.eqGuardType P.depth t && !P.stoodInHeld t && (match P.underlying t with | some (.struct fs) => plainF P fs.toList zs 0 | _ => false)
theorem chkEq_ok {P : Program} {t : Nat} {zs : List RD} (h : chkEq P t zs = true) : EqOK P t zs := by
  unfold chkEq at h
  simp only [Bool.and_eq_true, Bool.not_eq_true'] at h
  obtain ⟨⟨h1, h2⟩, h3⟩ := h
  refine ⟨h1, h2, ?_⟩
  split at h3
  · rename_i fs hfs; exact ⟨fs, hfs, h3⟩
  · simp at h3
def chkTy (P : Program) (t : Nat) (d : Ty) : Bool :=
  match P.info? t, P.underlying t with
  | some i, some u => (!d.cmp || chkEq P t d.zs) && i.size == d.size && (match i.zero with | some z => zsOK d.zs z.cells.toList && (isAggV z == d.isAgg) | none => false) && (aggD u == d.isAgg) && chkUnd P u d
  | _, _ => false
theorem chkTy_ok {P : Program} {t : Nat} {d : Ty} (h : chkTy P t d = true) : TyF P t d := by
  unfold chkTy at h
  split at h
  · rename_i i u hi hu
    cases hz : i.zero with
    | none => simp [hz] at h
    | some z =>
      simp only [hz, Bool.and_eq_true, beq_iff_eq] at h
      obtain ⟨⟨⟨⟨h0, h1⟩, h2, h3⟩, h4⟩, h5⟩ := h
      exact ⟨fun hc => chkEq_ok (by simpa [hc] using h0), ⟨i, z, hi, h1, hz, h2, fun ha => isAggV_true (h3.trans ha), fun ha => isAggV_false (h3.trans ha)⟩, ⟨u, hu, h4, chkUnd_ok h5⟩⟩
  · simp at h
def TyT.chk (P : Program) : TyT → Bool
  | .leaf => true
  | .node l k d r => l.chk P && chkTy P k d && r.chk P
theorem TyT.chk_ok {P : Program} : ∀ {tt : TyT}, tt.chk P = true → TyOK P tt
  | .leaf, _ => fun t d h => by simp [TyT.find] at h
  | .node l k d r, h => fun t d' hf => by
    simp only [TyT.chk, Bool.and_eq_true] at h
    simp only [TyT.find] at hf
    split at hf
    · rename_i e; subst e; simp only [Option.some.injEq] at hf; subst hf; exact chkTy_ok h.1.2
    · split at hf
      · exact TyT.chk_ok h.1.1 t d' hf
      · exact TyT.chk_ok h.2 t d' hf

section runs
variable {P : Program} {w : World}
theorem run_sizeOf' {t : Nat} {d : Ty} (h : TyF P t d) : (sizeOf t).run P w = .ok d.size w := by
  obtain ⟨i, z, hi, hs, _⟩ := h.info
  simp [sizeOf, typeInfo, hi, hs]
theorem run_isAgg' {t : Nat} {d : Ty} (h : TyF P t d) : (isAgg t).run P w = .ok d.isAgg w := by
  obtain ⟨u, hu, ha, _⟩ := h.und
  rw [← ha]
  cases u <;> simp [isAgg, underlying, hu, aggD]
theorem run_underlying' {t : Nat} {u : TypeDesc} (h : P.underlying t = some u) : (underlying t).run P w = .ok u w := by simp [underlying, h]
theorem run_zeroValue' {t : Nat} {d : Ty} (h : TyF P t d) : ∃ z, (zeroValue t).run P w = .ok z w ∧ zsOK d.zs z.cells.toList = true ∧ (d.isAgg = true → ∃ cs, z = .agg cs) ∧ (d.isAgg = false → ∀ cs, z ≠ .agg cs) := by
  obtain ⟨i, z, hi, hs, hz, h1, h2, h3⟩ := h.info
  exact ⟨z, by simp [zeroValue, typeInfo, hi, hz], h1, h2, h3⟩
end runs

/-! ### Cells of a world -/
theorem add_plain (b off j : Nat) : (⟨b, off, none⟩ : Addr).add j = ⟨b, off + j, none⟩ := by
  unfold Addr.add; split <;> simp_all
theorem cell_of_block {w : World} {b : Nat} {c : Array Value} {T : TypeId} {fr : Nat × Nat} (h : w.heap[b]? = some (.cells c T fr)) (off : Nat) : w.cell? ⟨b, off, none⟩ = c[off]? := by
  simp [World.cell?, h]
theorem run_loadCellsFrom {P : Program} {w : World} {b off : Nat} : ∀ (vs : List Value) (i : Nat) (acc : Array Value), (∀ (j : Nat) (v : Value), vs[j]? = some v → w.cell? ⟨b, off + (i + j), none⟩ = some v) →
    (loadCellsFrom ⟨b, off, none⟩ i vs.length acc).run P w = .ok (acc ++ vs.toArray) w
  | [], i, acc, _ => by simp [loadCellsFrom]
  | v :: vs, i, acc, h => by
    have h0 := h 0 v rfl
    simp only [Nat.add_zero] at h0
    simp only [List.length_cons, loadCellsFrom, Sem.run_bind, run_load, add_plain, h0, Result.andThen_ok]
    rw [run_loadCellsFrom vs (i + 1) (acc.push v) fun j u hj => by
      have := h (j + 1) u (by simpa using hj)
      rw [show i + 1 + j = i + (j + 1) from by omega]; exact this]
    congr 1
    apply Array.toList_inj.1
    simp
theorem run_loadCells' {P : Program} {w : World} {b off : Nat} {vs : List Value} {n : Nat} (hn : vs.length = n) (h : ∀ (j : Nat) (v : Value), vs[j]? = some v → w.cell? ⟨b, off + j, none⟩ = some v) :
    (loadCells ⟨b, off, none⟩ n).run P w = .ok vs.toArray w := by
  subst hn
  unfold loadCells
  rw [run_loadCellsFrom vs 0 #[] fun j v hj => by rw [Nat.zero_add]; exact h j v hj]
  simp

theorem setCell_block {w : World} {b off : Nat} {c : Array Value} {T : TypeId} (h : w.heap[b]? = some (.cells c T (0, 0))) (v : Value) :
    w.setCell ⟨b, off, none⟩ v = w.putObj b (.cells (c.setIfInBounds off v) T (0, 0)) := by
  unfold World.setCell World.putObj
  congr 1
  apply Array.ext_getElem?
  intro i
  rw [Array.getElem?_modify, Array.getElem?_setIfInBounds]
  by_cases e : b = i
  · subst e
    rw [if_pos rfl, if_pos rfl, h]
    have hlt : b < w.heap.size := (Array.getElem?_eq_some_iff.1 h).1
    simp [hlt]
  · rw [if_neg e, if_neg e]
def putA (c : Array Value) : Nat → List Value → Array Value
  | _, [] => c
  | off, v :: vs => putA (c.setIfInBounds off v) (off + 1) vs
theorem putA_size (vs : List Value) : ∀ (c : Array Value) (off : Nat), (putA c off vs).size = c.size := by
  induction vs with
  | nil => intro c off; rfl
  | cons v vs ih => intro c off; simp [putA, ih]
theorem putA_get (vs : List Value) : ∀ (c : Array Value) (off i : Nat), off + vs.length ≤ c.size → (putA c off vs)[i]? = if i < off then c[i]? else if i < off + vs.length then vs[i - off]? else c[i]? := by
  induction vs with
  | nil =>
    intro c off i _
    simp only [putA, List.length_nil, Nat.add_zero]
    split <;> rfl
  | cons v vs ih =>
    intro c off i hl
    simp only [List.length_cons] at hl
    simp only [putA]
    rw [ih _ _ _ (by simp; omega)]
    simp only [Array.getElem?_setIfInBounds, List.length_cons]
    by_cases h1 : i < off
    · rw [if_pos (by omega), if_neg (by omega), if_pos h1]
    · rw [if_neg h1]
      by_cases h2 : i = off
      · subst h2
        rw [if_pos (by omega), if_pos rfl, if_pos (by omega), if_pos (by omega)]
        simp
      · rw [if_neg (by omega)]
        by_cases h3 : i < off + 1 + vs.length
        · rw [if_pos h3, if_pos (by omega)]
          rw [show i - off = (i - (off + 1)) + 1 from by omega]
          simp
        · rw [if_neg h3, if_neg (by omega), if_neg (by omega)]
theorem putObj_putObj (w : World) (b : Nat) (o o' : Obj) : (w.putObj b o).putObj b o' = w.putObj b o' := by
  unfold World.putObj
  congr 1
  apply Array.ext_getElem?
  intro i
  simp only [Array.getElem?_setIfInBounds, Array.size_setIfInBounds]
  split <;> rfl
theorem run_storeCells' {P : Program} {b : Nat} {T : TypeId} : ∀ (vs : List Value) (w : World) (c : Array Value) (off i : Nat), w.heap[b]? = some (.cells c T (0, 0)) → off + i + vs.length ≤ c.size → (∀ v ∈ vs, v.oneCell' = true) →
    (storeCells ⟨b, off, none⟩ vs i).run P w = .ok () (if vs = [] then w else w.putObj b (.cells (putA c (off + i) vs) T (0, 0)))
  | [], w, c, off, i, _, _, _ => by simp [storeCells]
  | v :: vs, w, c, off, i, h, hl, hv => by
    simp only [List.length_cons] at hl
    have hc : w.cell? ⟨b, off + i, none⟩ = some (c[off + i]'(by omega)) := by rw [cell_of_block h]; simp
    have hf : w.frozen? ⟨b, off + i, none⟩ = false := by simp [World.frozen?, h]
    simp only [storeCells, Sem.run_bind, add_plain, run_store P w _ v .plain (hv v (by simp)), hc, hf, Bool.false_eq_true, if_false, Result.andThen_ok]
    rw [setCell_block h v]
    have hb : b < w.heap.size := (Array.getElem?_eq_some_iff.1 h).1
    rw [run_storeCells' vs _ (c.setIfInBounds (off + i) v) off (i + 1) (World.putObj_heap_same hb) (by simp; omega) (fun u hu => hv u (by simp [hu]))]
    simp only [reduceCtorEq, if_false]
    by_cases he : vs = []
    · subst he; simp [putA]
    · rw [if_neg he, putObj_putObj]
      simp [putA, Nat.add_assoc]

/-! ### Abstract heap and world, step by step -/
theorem live_of {H : Heap} {i : Nat} {o : AObj} (h : H[i]? = some o) (hd : o.isDead = false) : live H i := ⟨o, h, hd⟩

/-- A block that is owned turns. -/
theorem Sim.set {Γ : VL} {Pr : Nat → Prop} {H : Heap} {w : World} (hs : Sim Γ Pr H w) {i b n : Nat} {o o' : AObj} {x : Obj} (hi : H[i]? = some o) (hd : o.isDead = false) (hg : Γ[i]? = some (b, n))
    (hd' : o'.isDead = false) (hr : RelObj Γ Pr (w.putObj b x) b n o') : Sim Γ Pr (H.set i o') (w.putObj b x) ∧ Ext Γ Pr H w Γ Pr (H.set i o') (w.putObj b x) := by
  have hlt : i < H.length := (List.getElem?_eq_some_iff.1 hi).1
  have hlive : live H i := live_of hi hd
  have hnp : ¬ Pr b := by
    obtain ⟨b', n', hg', hp, _⟩ := hs.obj i o hi hd
    rw [hg] at hg'
    simp only [Option.some.injEq, Prod.mk.injEq] at hg'
    exact hg'.1 ▸ hp
  have hkeep : ∀ c, c ≠ b → (w.putObj b x).heap[c]? = w.heap[c]? := fun c hc => World.putObj_heap_other hc
  have hkp : ∀ c, Pr c → (w.putObj b x).heap[c]? = w.heap[c]? := fun c hc => hkeep c (fun e => hnp (e ▸ hc))
  have hll : ∀ j, live (H.set i o') j ↔ live H j := by
    intro j
    constructor
    · rintro ⟨p, hp, hpd⟩
      rw [List.getElem?_set] at hp
      split at hp
      · rename_i e; subst e; exact hlive
      · exact ⟨p, hp, hpd⟩
    · rintro ⟨p, hp, hpd⟩
      by_cases e : i = j
      · subst e; exact ⟨o', by rw [List.getElem?_set]; simp [hlt], hd'⟩
      · exact ⟨p, by rw [List.getElem?_set]; simp [e, hp], hpd⟩
  refine ⟨⟨by simp [hs.len], fun j p hp hpd => ?_, fun j k c n m hj hk h1 h2 => hs.inj j k c n m ((hll j).1 hj) ((hll k).1 hk) h1 h2, fun c hc => by simp [World.putObj]; exact hs.prlt c hc⟩, ?_⟩
  · rw [List.getElem?_set] at hp
    split at hp
    · rename_i e
      subst e
      simp only [Option.some.injEq] at hp
      subst hp
      exact ⟨b, n, hg, hnp, hr⟩
    · rename_i e
      obtain ⟨c, m, hgc, hpc, hrc⟩ := hs.obj j p hp hpd
      have hne : c ≠ b := fun ec => e (hs.inj i j b n m hlive (live_of hp hpd) hg (ec ▸ hgc))
      exact ⟨c, m, hgc, hpc, hrc.mono ⟨[], by simp⟩ (fun _ h => h) hkp (hkeep c hne)⟩
  · refine ⟨rfl, rfl, rfl, by simp [World.putObj], ⟨[], by simp⟩, fun _ h => h, fun _ h => .inl h, fun j c m hl hgj => .inr ⟨j, m, (hll j).1 hl, hgj⟩, fun c hc hno => hkeep c (fun e => hno i n hlive (e ▸ hg))⟩

/-- A new block. -/
theorem Sim.new {Γ : VL} {Pr : Nat → Prop} {H : Heap} {w w' : World} (hs : Sim Γ Pr H w) {x : Obj} {o : AObj} (n : Nat) (hw : w'.heap = w.heap.push x) (hos : w'.os = w.os) (hta : w'.tape = w.tape) (hou : w'.output = w.output)
    (hr : RelObj (Γ ++ [(w.heap.size, n)]) Pr w' w.heap.size n o) : Sim (Γ ++ [(w.heap.size, n)]) Pr (H ++ [o]) w' ∧ Ext Γ Pr H w (Γ ++ [(w.heap.size, n)]) Pr (H ++ [o]) w' := by
  have hold : ∀ c, c < w.heap.size → w'.heap[c]? = w.heap[c]? := by
    intro c hc; rw [hw, Array.getElem?_push, if_neg (by omega)]
  have hkp : ∀ c, Pr c → w'.heap[c]? = w.heap[c]? := fun c hc => hold c (hs.prlt c hc)
  have hblk : ∀ (i : Nat) (b m : Nat), live H i → Γ[i]? = some (b, m) → b < w.heap.size := by
    rintro i b m ⟨p, hp, hpd⟩ hg
    obtain ⟨c, m', hgc, _, hrc⟩ := hs.obj i p hp hpd
    rw [hg] at hgc
    simp only [Option.some.injEq, Prod.mk.injEq] at hgc
    obtain ⟨rfl, rfl⟩ := hgc
    cases p with
    | cells T cs => obtain ⟨c, hc, _⟩ := hrc; exact (Array.getElem?_eq_some_iff.1 hc).1
    | map es => obtain ⟨c, k, hc, _⟩ := hrc; exact (Array.getElem?_eq_some_iff.1 hc).1
    | siter s k => exact (Array.getElem?_eq_some_iff.1 hrc).1
    | loop l => obtain ⟨_, _, _, _, _, _, hc⟩ := hrc; exact (Array.getElem?_eq_some_iff.1 hc).1
    | dfr => exact (Array.getElem?_eq_some_iff.1 hrc).1
    | dead => exact hrc.elim
  have hgl : ∀ (j : Nat) (y : Nat × Nat), (Γ ++ [(w.heap.size, n)])[j]? = some y → (j < Γ.length ∧ Γ[j]? = some y) ∨ (j = Γ.length ∧ y = (w.heap.size, n)) := by
    intro j y hy
    rcases Nat.lt_or_ge j Γ.length with h | h
    · rw [List.getElem?_append_left h] at hy; exact .inl ⟨h, hy⟩
    · rw [List.getElem?_append_right h] at hy
      have : j - Γ.length = 0 := by
        rcases Nat.eq_zero_or_pos (j - Γ.length) with h0 | h0
        · exact h0
        · rw [List.getElem?_eq_none (by simp; omega)] at hy; cases hy
      rw [this] at hy
      simp only [List.getElem?_cons_zero, Option.some.injEq] at hy
      exact .inr ⟨by omega, hy.symm⟩
  have hhl : ∀ (j : Nat) (y : AObj), (H ++ [o])[j]? = some y → (j < H.length ∧ H[j]? = some y) ∨ (j = H.length ∧ y = o) := by
    intro j y hy
    rcases Nat.lt_or_ge j H.length with h | h
    · rw [List.getElem?_append_left h] at hy; exact .inl ⟨h, hy⟩
    · rw [List.getElem?_append_right h] at hy
      have : j - H.length = 0 := by
        rcases Nat.eq_zero_or_pos (j - H.length) with h0 | h0
        · exact h0
        · rw [List.getElem?_eq_none (by simp; omega)] at hy; cases hy
      rw [this] at hy
      simp only [List.getElem?_cons_zero, Option.some.injEq] at hy
      exact .inr ⟨by omega, hy.symm⟩
  have hlen := hs.len
  have hlo : ∀ j, live (H ++ [o]) j → live H j ∨ j = H.length := by
    rintro j ⟨p, hp, hpd⟩
    rcases hhl j p hp with ⟨h1, h2⟩ | ⟨h1, _⟩
    · exact .inl ⟨p, h2, hpd⟩
    · exact .inr h1
  refine ⟨⟨by simp [hlen], fun j p hp hpd => ?_, fun i j b m m' hi hj h1 h2 => ?_, fun c hc => by rw [hw]; simp; have := hs.prlt c hc; omega⟩, ?_⟩
  · rcases hhl j p hp with ⟨h1, h2⟩ | ⟨h1, rfl⟩
    · obtain ⟨c, m, hgc, hpc, hrc⟩ := hs.obj j p h2 hpd
      exact ⟨c, m, vl_ext ⟨_, rfl⟩ hgc, hpc, hrc.mono ⟨_, rfl⟩ (fun _ h => h) hkp (hold c (hblk j c m (live_of h2 hpd) hgc))⟩
    · subst h1
      exact ⟨w.heap.size, n, by rw [← hlen]; simp, fun hp => Nat.lt_irrefl _ (hs.prlt _ hp), hr⟩
  · rcases hlo i hi with hi' | rfl <;> rcases hlo j hj with hj' | rfl
    · rcases hgl i _ h1 with ⟨_, g1⟩ | ⟨e1, _⟩
      · rcases hgl j _ h2 with ⟨_, g2⟩ | ⟨e2, _⟩
        · exact hs.inj i j b m m' hi' hj' g1 g2
        · obtain ⟨p, hp, _⟩ := hj'; have := (List.getElem?_eq_some_iff.1 hp).1; omega
      · obtain ⟨p, hp, _⟩ := hi'; have := (List.getElem?_eq_some_iff.1 hp).1; omega
    · rcases hgl i _ h1 with ⟨_, g1⟩ | ⟨e1, _⟩
      · rcases hgl _ _ h2 with ⟨e2, _⟩ | ⟨_, e2⟩
        · omega
        · simp only [Prod.mk.injEq] at e2; have := hblk i b m hi' g1; omega
      · obtain ⟨p, hp, _⟩ := hi'; have := (List.getElem?_eq_some_iff.1 hp).1; omega
    · rcases hgl j _ h2 with ⟨_, g1⟩ | ⟨e1, _⟩
      · rcases hgl _ _ h1 with ⟨e2, _⟩ | ⟨_, e2⟩
        · omega
        · simp only [Prod.mk.injEq] at e2; have := hblk j b m' hj' g1; omega
      · obtain ⟨p, hp, _⟩ := hj'; have := (List.getElem?_eq_some_iff.1 hp).1; omega
    · rfl
  · refine ⟨hos, hta, hou, by rw [hw]; simp, ⟨_, rfl⟩, fun _ h => h, fun _ h => .inl h, fun j c m hl hgj => ?_, fun c hc _ => hold c hc⟩
    rcases hlo j hl with hl' | rfl
    · rcases hgl j _ hgj with ⟨_, g⟩ | ⟨e, _⟩
      · exact .inr ⟨j, m, hl', g⟩
      · obtain ⟨p, hp, _⟩ := hl'; have := (List.getElem?_eq_some_iff.1 hp).1; omega
    · rcases hgl _ _ hgj with ⟨e, _⟩ | ⟨_, e⟩
      · omega
      · simp only [Prod.mk.injEq] at e; exact .inl (by omega)

/-- A label is let go. -/
theorem Sim.kill {Γ : VL} {Pr : Nat → Prop} {H : Heap} {w : World} (hs : Sim Γ Pr H w) (i : Nat) : Sim Γ Pr (H.set i .dead) w ∧ Ext Γ Pr H w Γ Pr (H.set i .dead) w := by
  have hll : ∀ j, live (H.set i .dead) j → live H j := by
    rintro j ⟨p, hp, hpd⟩
    rw [List.getElem?_set] at hp
    split at hp
    · split at hp
      · simp only [Option.some.injEq] at hp; subst hp; simp [AObj.isDead] at hpd
      · cases hp
    · exact ⟨p, hp, hpd⟩
  refine ⟨⟨by simp [hs.len], fun j p hp hpd => ?_, fun j k c n m hj hk => hs.inj j k c n m (hll j hj) (hll k hk), hs.prlt⟩, ?_⟩
  · rw [List.getElem?_set] at hp
    split at hp
    · split at hp
      · simp only [Option.some.injEq] at hp; subst hp; simp [AObj.isDead] at hpd
      · cases hp
    · exact hs.obj j p hp hpd
  · exact ⟨rfl, rfl, rfl, Nat.le_refl _, ⟨[], by simp⟩, fun _ h => h, fun _ h => .inl h, fun j c m hl hgj => .inr ⟨j, m, hll j hl, hgj⟩, fun _ _ _ => rfl⟩
/-- A label is let go, and its block turned. -/
theorem Sim.drop {Γ : VL} {Pr : Nat → Prop} {H : Heap} {w : World} (hs : Sim Γ Pr H w) {i b n : Nat} {o : AObj} {x : Obj} (hi : H[i]? = some o) (hd : o.isDead = false) (hg : Γ[i]? = some (b, n)) :
    Sim Γ Pr (H.set i .dead) (w.putObj b x) ∧ Ext Γ Pr H w Γ Pr (H.set i .dead) (w.putObj b x) := by
  have hlive : live H i := live_of hi hd
  have hnp : ¬ Pr b := by
    obtain ⟨b', n', hg', hp, _⟩ := hs.obj i o hi hd
    rw [hg] at hg'
    simp only [Option.some.injEq, Prod.mk.injEq] at hg'
    exact hg'.1 ▸ hp
  have hkeep : ∀ c, c ≠ b → (w.putObj b x).heap[c]? = w.heap[c]? := fun c hc => World.putObj_heap_other hc
  have hkp : ∀ c, Pr c → (w.putObj b x).heap[c]? = w.heap[c]? := fun c hc => hkeep c (fun e => hnp (e ▸ hc))
  have hll : ∀ j, live (H.set i .dead) j → live H j ∧ i ≠ j := by
    rintro j ⟨p, hp, hpd⟩
    rw [List.getElem?_set] at hp
    split at hp
    · split at hp
      · simp only [Option.some.injEq] at hp; subst hp; simp [AObj.isDead] at hpd
      · cases hp
    · rename_i e; exact ⟨⟨p, hp, hpd⟩, e⟩
  refine ⟨⟨by simp [hs.len], fun j p hp hpd => ?_, fun j k c n m hj hk => hs.inj j k c n m (hll j hj).1 (hll k hk).1, fun c hc => by simp [World.putObj]; exact hs.prlt c hc⟩, ?_⟩
  · have hj := hll j ⟨p, hp, hpd⟩
    rw [List.getElem?_set, if_neg hj.2] at hp
    obtain ⟨c, m, hgc, hpc, hrc⟩ := hs.obj j p hp hpd
    have hne : c ≠ b := fun ec => hj.2 (hs.inj i j b n m hlive hj.1 hg (ec ▸ hgc))
    exact ⟨c, m, hgc, hpc, hrc.mono ⟨[], by simp⟩ (fun _ h => h) hkp (hkeep c hne)⟩
  · exact ⟨rfl, rfl, rfl, by simp [World.putObj], ⟨[], by simp⟩, fun _ h => h, fun _ h => .inl h, fun j c m hl hgj => .inr ⟨j, m, (hll j hl).1, hgj⟩, fun c hc hno => hkeep c (fun e => hno i n hlive (e ▸ hg))⟩
/-- A new label for a block that an elder label, let go, was of. -/
theorem Sim.again {Γ : VL} {Pr : Nat → Prop} {H : Heap} {w : World} (hs : Sim Γ Pr H w) {i b n : Nat} {o o' : AObj} (hi : H[i]? = some o) (hd : o.isDead = false) (hg : Γ[i]? = some (b, n)) (hd' : o'.isDead = false)
    {x : Obj} (hr : RelObj (Γ ++ [(b, n)]) Pr (w.putObj b x) b n o') :
    Sim (Γ ++ [(b, n)]) Pr (H.set i .dead ++ [o']) (w.putObj b x) ∧ Ext Γ Pr H w (Γ ++ [(b, n)]) Pr (H.set i .dead ++ [o']) (w.putObj b x) := by
  have hlive : live H i := live_of hi hd
  have hnp : ¬ Pr b := by
    obtain ⟨b', n', hg', hp, _⟩ := hs.obj i o hi hd
    rw [hg] at hg'
    simp only [Option.some.injEq, Prod.mk.injEq] at hg'
    exact hg'.1 ▸ hp
  have hkeep : ∀ c, c ≠ b → (w.putObj b x).heap[c]? = w.heap[c]? := fun c hc => World.putObj_heap_other hc
  have hkp : ∀ c, Pr c → (w.putObj b x).heap[c]? = w.heap[c]? := fun c hc => hkeep c (fun e => hnp (e ▸ hc))
  have hlen := hs.len
  have hsl : (H.set i .dead).length = H.length := by simp
  have hhl : ∀ (j : Nat) (y : AObj), (H.set i .dead ++ [o'])[j]? = some y → y.isDead = false → (j < H.length ∧ j ≠ i ∧ H[j]? = some y) ∨ (j = H.length ∧ y = o') := by
    intro j y hy hyd
    rcases Nat.lt_or_ge j H.length with h | h
    · rw [List.getElem?_append_left (by simpa using h), List.getElem?_set] at hy
      split at hy
      · split at hy
        · simp only [Option.some.injEq] at hy; subst hy; simp [AObj.isDead] at hyd
        · cases hy
      · rename_i e; exact .inl ⟨h, fun e' => e e'.symm, hy⟩
    · rw [List.getElem?_append_right (by simpa using h)] at hy
      have : j - (H.set i .dead).length = 0 := by
        rcases Nat.eq_zero_or_pos (j - (H.set i .dead).length) with h0 | h0
        · exact h0
        · rw [List.getElem?_eq_none (by simp at *; omega)] at hy; cases hy
      rw [this] at hy
      simp only [List.getElem?_cons_zero, Option.some.injEq] at hy
      exact .inr ⟨by simp at this; omega, hy.symm⟩
  have hgl : ∀ (j : Nat) (y : Nat × Nat), (Γ ++ [(b, n)])[j]? = some y → (j < Γ.length ∧ Γ[j]? = some y) ∨ (j = Γ.length ∧ y = (b, n)) := by
    intro j y hy
    rcases Nat.lt_or_ge j Γ.length with h | h
    · rw [List.getElem?_append_left h] at hy; exact .inl ⟨h, hy⟩
    · rw [List.getElem?_append_right h] at hy
      have : j - Γ.length = 0 := by
        rcases Nat.eq_zero_or_pos (j - Γ.length) with h0 | h0
        · exact h0
        · rw [List.getElem?_eq_none (by simp; omega)] at hy; cases hy
      rw [this] at hy
      simp only [List.getElem?_cons_zero, Option.some.injEq] at hy
      exact .inr ⟨by omega, hy.symm⟩
  refine ⟨⟨by simp [hlen], fun j p hp hpd => ?_, fun j k c m m' hj hk h1 h2 => ?_, fun c hc => by simp [World.putObj]; exact hs.prlt c hc⟩, ?_⟩
  · rcases hhl j p hp hpd with ⟨h1, hne, h2⟩ | ⟨h1, rfl⟩
    · obtain ⟨c, m, hgc, hpc, hrc⟩ := hs.obj j p h2 hpd
      have hcb : c ≠ b := fun e => hne (hs.inj j i b m n (live_of h2 hpd) hlive (e ▸ hgc) hg)
      exact ⟨c, m, vl_ext ⟨_, rfl⟩ hgc, hpc, hrc.mono ⟨_, rfl⟩ (fun _ h => h) hkp (hkeep c hcb)⟩
    · subst h1
      exact ⟨b, n, by rw [← hlen]; simp, hnp, hr⟩
  · obtain ⟨p, hp, hpd⟩ := hj
    obtain ⟨q, hq, hqd⟩ := hk
    rcases hhl j p hp hpd with ⟨h3, hne, h4⟩ | ⟨h3, rfl⟩ <;> rcases hhl k q hq hqd with ⟨h5, hne', h6⟩ | ⟨h5, rfl⟩
    · rcases hgl j _ h1 with ⟨_, g1⟩ | ⟨e, _⟩
      · rcases hgl k _ h2 with ⟨_, g2⟩ | ⟨e, _⟩
        · exact hs.inj j k c m m' (live_of h4 hpd) (live_of h6 hqd) g1 g2
        · omega
      · omega
    · rcases hgl j _ h1 with ⟨_, g1⟩ | ⟨e, _⟩
      · rcases hgl k _ h2 with ⟨e2, _⟩ | ⟨_, e2⟩
        · omega
        · simp only [Prod.mk.injEq] at e2
          exact absurd (hs.inj j i b m n (live_of h4 hpd) hlive (e2.1 ▸ g1) hg) hne
      · omega
    · rcases hgl k _ h2 with ⟨_, g1⟩ | ⟨e, _⟩
      · rcases hgl j _ h1 with ⟨e2, _⟩ | ⟨_, e2⟩
        · omega
        · simp only [Prod.mk.injEq] at e2
          exact absurd (hs.inj k i b m' n (live_of h6 hqd) hlive (e2.1 ▸ g1) hg) hne'
      · omega
    · omega
  · refine ⟨rfl, rfl, rfl, by simp [World.putObj], ⟨_, rfl⟩, fun _ h => h, fun _ h => .inl h, fun j c m hl hgj => ?_, fun c hc hno => hkeep c (fun e => hno i n hlive (e ▸ hg))⟩
    obtain ⟨p, hp, hpd⟩ := hl
    rcases hhl j p hp hpd with ⟨h3, hne, h4⟩ | ⟨h3, rfl⟩
    · rcases hgl j _ hgj with ⟨_, g⟩ | ⟨e, _⟩
      · exact .inr ⟨j, m, live_of h4 hpd, g⟩
      · omega
    · rcases hgl j _ hgj with ⟨e, _⟩ | ⟨_, e⟩
      · omega
      · simp only [Prod.mk.injEq] at e; exact .inr ⟨i, n, hlive, by rw [hg, e.1]⟩
end Go.Ab
