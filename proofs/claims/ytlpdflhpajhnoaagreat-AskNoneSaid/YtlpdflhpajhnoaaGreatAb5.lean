/- The abstract layer, part 5: arithmetic, comparing, building, slices, append, maps: what the evaluator says is what the world does. -/
import Derived.Test.YtlpdflhpajhnoaaGreatAb4
import Derived.Laws.StructEq
namespace Go.Ab

section
variable {P : Program} {tt : TyT} {Γ : VL} {Pr : Nat → Prop} {H : Heap} {w : World} {T : Tm} {tmps : Array Value} {ds : List Deferred} {nt : Nat}

theorem mkInt {k : IntKind} {n : Int} : RelV Γ Pr w (.ro (.int k n)) (.int k n) := (rfl : Value.int k n = .int k n)
theorem mkBool {b : Bool} : RelV Γ Pr w (.ro (.bool b)) (.bool b) := (rfl : Value.bool b = .bool b)
theorem mkStr {s : ByteArray} : RelV Γ Pr w (.ro (.str s)) (.string s) := (rfl : Value.string s = .string s)
theorem getInt {k : IntKind} {n : Int} {v : Value} (h : RelV Γ Pr w (.ro (.int k n)) v) : v = .int k n := h
theorem getBool {b : Bool} {v : Value} (h : RelV Γ Pr w (.ro (.bool b)) v) : v = .bool b := h
theorem getStr {s : ByteArray} {v : Value} (h : RelV Γ Pr w (.ro (.str s)) v) : v = .string s := h

/-! ### Arithmetic -/
theorem binIntK_ok {op : BinOp} {ka : IntKind} {x y : Int} {t : Nat} {k : AV → Prop} (h : binIntK op ka x y k) :
    ∃ r v, (binOp op t (.int ka x) (.int ka y)).run P w = .ok v w ∧ RelV Γ Pr w r v ∧ k r := by
  unfold binIntK at h
  split at h
  · exact ⟨_, _, by simp [binOp, Op.intArith], mkInt, h⟩
  · exact ⟨_, _, by simp [binOp, Op.intArith], mkInt, h⟩
  · exact ⟨_, _, by simp [binOp, Op.intArith], mkInt, h⟩
  · obtain ⟨hy, h⟩ := guardP_iff.1 h
    have hy : y ≠ 0 := by simpa using hy
    exact ⟨_, _, by simp [binOp, Op.intDiv, hy], mkInt, h⟩
  · obtain ⟨hy, h⟩ := guardP_iff.1 h
    have hy : y ≠ 0 := by simpa using hy
    exact ⟨_, _, by simp [binOp, Op.intDiv, hy], mkInt, h⟩
  · exact ⟨_, _, by simp only [binOp, Op.intBits, ne_eq, not_true_eq_false, if_false]; rfl, mkInt, h⟩
  · exact ⟨_, _, by simp only [binOp, Op.intBits, ne_eq, not_true_eq_false, if_false]; rfl, mkInt, h⟩
  · exact ⟨_, _, by simp only [binOp, Op.intBits, ne_eq, not_true_eq_false, if_false]; rfl, mkInt, h⟩
  · exact ⟨_, _, by simp only [binOp, Op.intCmp, ne_eq, not_true_eq_false, if_false]; rfl, mkBool, h⟩
  · exact ⟨_, _, by simp only [binOp, Op.intCmp, ne_eq, not_true_eq_false, if_false]; rfl, mkBool, h⟩
  · exact ⟨_, _, by simp only [binOp, Op.intCmp, ne_eq, not_true_eq_false, if_false]; rfl, mkBool, h⟩
  · exact ⟨_, _, by simp only [binOp, Op.intCmp, ne_eq, not_true_eq_false, if_false]; rfl, mkBool, h⟩
  · exact ⟨_, _, by simp only [binOp, Op.intCmp, ne_eq, not_true_eq_false, if_false]; rfl, mkBool, h⟩
  · exact ⟨_, _, by simp only [binOp, Op.intCmp, ne_eq, not_true_eq_false, if_false]; rfl, mkBool, h⟩
  · exact h.elim
theorem shiftK_ok {op : BinOp} (hop : op = .shl ∨ op = .shr) {ka kb : IntKind} {x y : Int} {t : Nat} {k : AV → Prop} (h : shiftK op ka x y k) :
    ∃ r v, (binOp op t (.int ka x) (.int kb y)).run P w = .ok v w ∧ RelV Γ Pr w r v ∧ k r := by
  unfold shiftK at h
  obtain ⟨hy, h⟩ := guardP_iff.1 h
  have hy : ¬ y < 0 := by simpa using hy
  rcases hop with rfl | rfl
  · exact ⟨_, _, by simp only [binOp, Op.shift, hy, if_false]; rfl, mkInt, h⟩
  · exact ⟨_, _, by simp only [binOp, Op.shift, hy, if_false]; rfl, mkInt, h⟩

/-! ### Comparing -/
theorem drop_cons {α : Type} {l : List α} {j : Nat} {u : α} {us : List α} (e : l.drop j = u :: us) : l[j]? = some u ∧ l.drop (j + 1) = us := by
  constructor
  · have := congrArg (fun l => l[0]?) e
    simpa using this
  · rw [← List.drop_drop, e]; rfl
theorem eqField_step {f : Field} {fs : List Field} {d j : Nat} {xs ys : List Value} {v u : Value} {r : Bool} {k : Bool → Prop} {td : TypeDesc} (ho : f.offset = j) (hn : f.name ≠ "_") (htd : P.underlying f.type = some td) (hag : aggD td = false)
    (hxj : xs[j]? = some v) (hyj : ys[j]? = some u) (hr : (Op.equalIn (d + 1) f.type v u).run P w = .ok r w)
    (h : ∃ r', (Op.eqFields (d + 1) xs.toArray ys.toArray fs).run P w = .ok r' w ∧ k (r && r')) : ∃ r', (Op.eqFields (d + 1) xs.toArray ys.toArray (f :: fs)).run P w = .ok r' w ∧ k r' := by
  obtain ⟨r', hr', hk⟩ := h
  have hagg : (isAgg f.type).run P w = .ok false w := by cases td <;> simp_all [isAgg, underlying, aggD]
  have h1 : (part f.type xs.toArray f.offset).run P w = .ok v w := by simp [part, hagg, ho, hxj]
  have h2 : (part f.type ys.toArray f.offset).run P w = .ok u w := by simp [part, hagg, ho, hyj]
  refine ⟨r && r', ?_, hk⟩
  simp only [Op.eqFields, ne_eq, hn, not_false_eq_true, if_true, Sem.run_bind, h1, h2, Result.andThen_ok, hr]
  cases r <;> simp [hr']
theorem eqInts_ok {d : Nat} : ∀ {zs : List RD} {as bs : List AV} {k : Bool → Prop} {fs : List Field} {j : Nat} {xs ys : List Value}, plainF P fs zs j = true →
    RelVs Γ Pr w as (xs.drop j) → RelVs Γ Pr w bs (ys.drop j) → eqInts zs as bs k → ∃ r, (Op.eqFields (d + 1) xs.toArray ys.toArray fs).run P w = .ok r w ∧ k r
  | [], [], [], k, fs, j, xs, ys, hp, _, _, h => by
    cases fs with
    | nil => exact ⟨true, by simp [Op.eqFields], by simpa [eqInts] using h⟩
    | cons f fs => simp [plainF] at hp
  | .int _ _ :: z, .ro (.int ka a) :: x, .ro (.int kb b) :: y, k, fs, j, xs, ys, hp, hx, hy, h => by
    cases fs with
    | nil => simp [plainF] at hp
    | cons f fs =>
      simp only [plainF, Bool.and_eq_true, beq_iff_eq, bne_iff_ne] at hp
      obtain ⟨⟨⟨ho, hn⟩, hu⟩, hp⟩ := hp
      obtain ⟨v, vs, hxs, hv, hxr⟩ := hx
      obtain ⟨u, us, hys, huu, hyr⟩ := hy
      obtain ⟨hxj, hxd⟩ := drop_cons hxs
      obtain ⟨hyj, hyd⟩ := drop_cons hys
      simp only [eqInts] at h
      obtain ⟨hk, h'⟩ := guardP_iff.1 h
      obtain rfl := kindEq_eq hk
      cases getInt hv; cases getInt huu
      split at hu
      · rename_i e _; cases e
      · rename_i hb; exact eqField_step ho hn hb rfl hxj hyj (run_equalIn_int w d _ _ _ _ _ hb) (eqInts_ok hp (hxd ▸ hxr) (hyd ▸ hyr) h')
      · simp at hu
  | .bool _ :: z, .ro (.bool a) :: x, .ro (.bool b) :: y, k, fs, j, xs, ys, hp, hx, hy, h => by
    cases fs with
    | nil => simp [plainF] at hp
    | cons f fs =>
      simp only [plainF, Bool.and_eq_true, beq_iff_eq, bne_iff_ne] at hp
      obtain ⟨⟨⟨ho, hn⟩, hu⟩, hp⟩ := hp
      obtain ⟨v, vs, hxs, hv, hxr⟩ := hx
      obtain ⟨u, us, hys, huu, hyr⟩ := hy
      obtain ⟨hxj, hxd⟩ := drop_cons hxs
      obtain ⟨hyj, hyd⟩ := drop_cons hys
      simp only [eqInts] at h
      cases getBool hv; cases getBool huu
      split at hu
      · rename_i hb; exact eqField_step ho hn hb rfl hxj hyj (run_equalIn_bool w d _ _ _ hb) (eqInts_ok hp (hxd ▸ hxr) (hyd ▸ hyr) h)
      · rename_i e _; cases e
      · simp at hu

theorem run_eqGuard_plain {op : BinOp} {t : Nat} {x y : Operand} {va vb : Value} (h1 : ∀ cs, va ≠ .agg cs) (h2 : va ≠ .nilIface) : (eqGuard op t x y va vb).run P w = .ok () w := by
  cases va <;> first
    | exact absurd rfl (h1 _)
    | exact absurd rfl h2
    | (unfold eqGuard; cases op <;> rfl)
theorem eqBoth {t : Nat} {va vb : Value} {r : Bool} (h : (Op.equal t va vb).run P w = .ok r w) (hb : ∀ op, op = .eql ∨ op = .neq → binOp op t va vb = (if op = .eql then (do pure (.bool (← Op.equal t va vb))) else (do pure (.bool (!(← Op.equal t va vb)))) : Sem Value)) :
    (binOp .eql t va vb).run P w = .ok (.bool r) w ∧ (binOp .neq t va vb).run P w = .ok (.bool (!r)) w := by
  rw [hb .eql (.inl rfl), hb .neq (.inr rfl)]
  simp [h]
theorem eqIn_ptr {d t e : Nat} (hu : P.underlying t = some (.pointer e)) (p q : Option Addr) (h : p = none ∨ q = none) : (Op.equalIn (d + 1) t (.pointer p) (.pointer q)).run P w = .ok (p.isNone && q.isNone) w := by
  cases p <;> cases q <;> simp [Op.equalIn, run_underlying' hu] at h ⊢
theorem eqIn_slice {d t e : Nat} (hu : P.underlying t = some (.slice e)) (p : Option Addr) (n c : Nat) : (Op.equalIn (d + 1) t (.slice p n c) (.slice none 0 0)).run P w = .ok p.isNone w := by
  cases p <;> simp [Op.equalIn, run_underlying' hu]
theorem eqIn_map {d t k e : Nat} (hu : P.underlying t = some (.map k e)) (p : Option Nat) : (Op.equalIn (d + 1) t (.map p) (.map none)).run P w = .ok p.isNone w := by
  cases p <;> simp [Op.equalIn, run_underlying' hu]
theorem eqIn_iface {d t : Nat} {ms : Array (String × TypeId)} (hu : P.underlying t = some (.interface ms)) (u : Nat) (v : Value) : (Op.equalIn (d + 1) t (.iface u v) .nilIface).run P w = .ok false w := by
  simp [Op.equalIn, run_underlying' hu]
theorem eqIn_niface {d t : Nat} {ms : Array (String × TypeId)} (hu : P.underlying t = some (.interface ms)) : (Op.equalIn (d + 1) t .nilIface .nilIface).run P w = .ok true w := by
  simp [Op.equalIn, run_underlying' hu]
theorem eqOf {t : Nat} {a b : Value} {r : Bool} (h : ∀ d, (Op.equalIn (d + 1) t a b).run P w = .ok r w) : (Op.equal t a b).run P w = .ok r w := h 9999
theorem eqlK_ok (hP : TyOK P tt) {op : BinOp} (hop : op = .eql ∨ op = .neq) {t : Nat} {x y : Operand} {a b : AV} {va vb : Value} {k : Bool → Prop} (hc : isNilC y = true → ∃ v, y = .const v ∧ (v = .slice none 0 0 ∨ v = .nilIface) ∧ vb = v)
    (ha : RelV Γ Pr w a va) (hb : RelV Γ Pr w b vb) (h : eqlK tt t (isNilC y) a b k) :
    ∃ r, (eqGuard op t x y va vb).run P w = .ok () w ∧ ((binOp .eql t va vb).run P w = .ok (.bool r) w ∧ (binOp .neq t va vb).run P w = .ok (.bool (!r)) w) ∧ k r := by
  unfold eqlK at h
  split at h
  · rename_i z hd
    obtain ⟨u, hu, _, rfl⟩ := (hP t _ hd).und
    split at h
    · rename_i p q
      cases getBool ha; cases getBool hb
      exact ⟨_, run_eqGuard_plain (by simp) (by simp), eqBoth (eqOf fun d => run_equalIn_bool w d t p q hu) (by rintro op (rfl | rfl) <;> rfl), h⟩
    · exact h.elim
  · rename_i hd
    obtain ⟨u, hu, _, e, rfl⟩ := (hP t _ hd).und
    have h1 : ∀ (p q : Option Addr), (p = none ∨ q = none) → (Op.equal t (.pointer p) (.pointer q)).run P w = .ok (p.isNone && q.isNone) w := fun p q hpq => eqOf fun d => eqIn_ptr hu p q hpq
    split at h
    · cases (show va = .pointer none from ha); cases (show vb = .pointer none from hb)
      exact ⟨true, run_eqGuard_plain (by simp) (by simp), eqBoth (h1 _ _ (.inl rfl)) (by rintro op (rfl | rfl) <;> rfl), h⟩
    · obtain ⟨_, _, _, rfl⟩ := ha; cases (show vb = .pointer none from hb)
      exact ⟨false, run_eqGuard_plain (by simp) (by simp), eqBoth (h1 _ _ (.inr rfl)) (by rintro op (rfl | rfl) <;> rfl), h⟩
    · obtain ⟨_, _, rfl, _⟩ := ha; cases (show vb = .pointer none from hb)
      exact ⟨false, run_eqGuard_plain (by simp) (by simp), eqBoth (h1 _ _ (.inr rfl)) (by rintro op (rfl | rfl) <;> rfl), h⟩
    · obtain ⟨_, _, _, rfl⟩ := hb; cases (show va = .pointer none from ha)
      exact ⟨false, run_eqGuard_plain (by simp) (by simp), eqBoth (h1 _ _ (.inl rfl)) (by rintro op (rfl | rfl) <;> rfl), h⟩
    · exact h.elim
  · rename_i e esz eb ez hd
    obtain ⟨u, hu, _, rfl, _⟩ := (hP t _ hd).und
    split at h
    · rename_i hcst
      obtain ⟨_, rfl, hv, rfl⟩ := hc hcst
      obtain ⟨_, _, _, _, rfl, _⟩ := ha
      obtain ⟨A, n, c, hvb, _⟩ := hb
      rcases hv with rfl | rfl
      · exact ⟨false, run_eqGuard_plain (by simp) (by simp), eqBoth (eqOf fun d => eqIn_slice hu _ _ _) (by rintro op (rfl | rfl) <;> rfl), h⟩
      · cases hvb
    · rename_i hcst
      obtain ⟨_, rfl, hv, rfl⟩ := hc hcst
      obtain ⟨A, n, c, rfl, hn, _, _, hA⟩ := ha
      obtain ⟨A', n', c', hvb, _⟩ := hb
      rcases hv with rfl | rfl
      · refine ⟨A.isNone, run_eqGuard_plain (by simp) (by simp), eqBoth (eqOf fun d => eqIn_slice hu _ _ _) (by rintro op (rfl | rfl) <;> rfl), nilK_of h _ fun hA' => ?_⟩
        rcases hA with hA | ⟨b, off, rfl, _⟩
        · exact hA
        · simp at hA'
      · cases hvb
    · exact h.elim
  · rename_i kt e kb agg ez hd
    obtain ⟨u, hu, _, rfl, _⟩ := (hP t _ hd).und
    split at h
    · cases (show va = .map none from ha); cases (show vb = .map none from hb)
      exact ⟨true, run_eqGuard_plain (by simp) (by simp), eqBoth (eqOf fun d => eqIn_map hu _) (by rintro op (rfl | rfl) <;> rfl), h⟩
    · obtain ⟨_, _, _, rfl⟩ := ha; cases (show vb = .map none from hb)
      exact ⟨false, run_eqGuard_plain (by simp) (by simp), eqBoth (eqOf fun d => eqIn_map hu _) (by rintro op (rfl | rfl) <;> rfl), h⟩
    · exact h.elim
  · rename_i hd
    obtain ⟨u, hu, _, ms, rfl⟩ := (hP t _ hd).und
    split at h
    · rename_i hcst
      obtain ⟨_, rfl, _⟩ := hc hcst
      cases (show va = .nilIface from ha); cases (show vb = .nilIface from hb)
      refine ⟨true, ?_, eqBoth (eqOf fun d => eqIn_niface hu) (by rintro op (rfl | rfl) <;> rfl), h⟩
      rcases hop with rfl | rfl <;> simp [eqGuard]
    · obtain ⟨_, rfl, _⟩ := ha; cases (show vb = .nilIface from hb)
      exact ⟨false, run_eqGuard_plain (by simp) (by simp), eqBoth (eqOf fun d => eqIn_iface hu _ _) (by rintro op (rfl | rfl) <;> rfl), h⟩
    · obtain ⟨_, rfl, _⟩ := ha; cases (show vb = .nilIface from hb)
      exact ⟨false, run_eqGuard_plain (by simp) (by simp), eqBoth (eqOf fun d => eqIn_iface hu _ _) (by rintro op (rfl | rfl) <;> rfl), h⟩
    · exact h.elim
  · rename_i fs zs hd
    obtain ⟨hg, hh, fields, hf, hpl⟩ := (hP t _ hd).cmp rfl
    split at h
    · rename_i as bs
      obtain ⟨xs, rfl, hx⟩ := ha
      obtain ⟨ys, rfl, hy⟩ := hb
      have hfo : P.underlying t = some (.struct (P.fieldsOf t)) := by simp [Program.fieldsOf, hf]
      have hfe : (P.fieldsOf t) = fields := by simp [Program.fieldsOf, hf]
      obtain ⟨r, hr, hk⟩ := eqInts_ok (P := P) (d := 9998) hpl (by simpa using hx) (by simpa using hy) h
      refine ⟨r, run_eqGuard_agg w _ _ _ _ _ _ hg, eqBoth ?_ (by rintro op (rfl | rfl) <;> rfl), hk⟩
      show (Op.equalIn (9999 + 1) t _ _).run P w = _
      rw [run_equalIn_struct w 9999 t _ _ hfo hh, hfe]
      exact hr
    · exact h.elim
  · exact h.elim
theorem bytes_beq (p q : ByteArray) : (p.toList == q.toList) = (p.data == q.data) := by
  rw [ByteArray.toList_eq, ByteArray.toList_eq]
  have : p.data = q.data ↔ p.data.toList = q.data.toList := ⟨fun h => by rw [h], fun h => Array.ext' h⟩
  rw [Bool.eq_iff_iff, beq_iff_eq, beq_iff_eq, this]
theorem binK_ok (hP : TyOK P tt) {op : BinOp} {t : Nat} {x y : Operand} {a b : AV} {va vb : Value} {k : AV → Prop} (hc : isNilC y = true → ∃ v, y = .const v ∧ (v = .slice none 0 0 ∨ v = .nilIface) ∧ vb = v)
    (ha : RelV Γ Pr w a va) (hb : RelV Γ Pr w b vb) (h : binK tt op t (isNilC y) a b k) :
    ∃ r v, (do eqGuard op t x y va vb; binOp op t va vb : Sem Value).run P w = .ok v w ∧ RelV Γ Pr w r v ∧ k r := by
  unfold binK at h
  split at h
  · rename_i ka p kb q
    cases getInt ha; cases getInt hb
    have hgu : (eqGuard op t x y (.int ka p) (.int kb q)).run P w = .ok () w := run_eqGuard_plain (by simp) (by simp)
    simp only [Sem.run_bind, hgu, Result.andThen_ok]
    split at h
    · exact shiftK_ok (.inl rfl) h
    · exact shiftK_ok (.inr rfl) h
    · obtain ⟨hk, h'⟩ := guardP_iff.1 h
      obtain rfl := kindEq_eq hk
      exact binIntK_ok h'
  · rename_i p q
    cases getStr ha; cases getStr hb
    have hgu : (eqGuard op t x y (.string p) (.string q)).run P w = .ok () w := run_eqGuard_plain (by simp) (by simp)
    simp only [Sem.run_bind, hgu, Result.andThen_ok]
    split at h
    · exact ⟨_, _, by simp [binOp, Op.stringOp]; exact bytes_beq p q, mkBool, h⟩
    · exact ⟨_, _, by simp [binOp, Op.stringOp]; exact bytes_beq p q, mkBool, h⟩
    · exact h.elim
  · split at h
    · obtain ⟨r, h1, ⟨h2, _⟩, h3⟩ := eqlK_ok hP (.inl rfl) (x := x) hc ha hb h
      exact ⟨_, _, by simp [h1, h2], mkBool, h3⟩
    · obtain ⟨r, h1, ⟨_, h2⟩, h3⟩ := eqlK_ok hP (.inr rfl) (x := x) hc ha hb h
      exact ⟨_, _, by simp [h1, h2], mkBool, h3⟩
    · exact h.elim
theorem unK_ok {op : UnOp} {a : AV} {va : Value} {k : AV → Prop} (ha : RelV Γ Pr w a va) (h : unK op a k) : ∃ r v, (Op.unary op va).run P w = .ok v w ∧ RelV Γ Pr w r v ∧ k r := by
  unfold unK at h
  split at h
  · cases getBool ha; exact ⟨_, _, rfl, mkBool, h⟩
  · cases getInt ha; exact ⟨_, _, rfl, mkInt, h⟩
  · cases getInt ha; exact ⟨_, _, rfl, mkInt, h⟩
  · exact h.elim
end
end Go.Ab
