/- The abstract layer, part 9: copy, lengths, conversions, maps, strings gone through; and an operation as a whole. -/
import Derived.Test.YtlpdflhpajhnoaaGreatAb8
import Derived.Laws.IdiomStrings
import Derived.Laws.BytesArg
namespace Go.Ab

section
variable {P : Program} {tt : TyT} {Γ : VL} {Pr : Nat → Prop} {H : Heap} {w : World} {T : Tm} {tmps : Array Value} {ds : List Deferred} {nt : Nat}

theorem copyK_ok (hP : TyOK P tt) (hs : Sim Γ Pr H w) {t t' rt : Nat} {d x : AV} {vd vx : Value} {k : AV → Heap → Prop} (hd : RelV Γ Pr w d vd) (hx : RelV Γ Pr w x vx) (h : copyK tt H t d x k) :
    Fin P Γ Pr H w (Builtin.copy_ #[t, t'] rt #[vd, vx]) k := by
  unfold copyK at h
  split at h
  · rename_i e esz eb ez ht
    obtain ⟨u, hu, _, rfl, ie, z, hie, hse, heb, hz, hzs, hel, hpos, hbpos⟩ := (hP t _ ht).und
    split at h
    · rename_i sz id off len cap
      have hg0 := guardP_iff.1 h
      clear h
      obtain ⟨hsz, h⟩ := hg0
      simp only [beq_iff_eq] at hsz
      subst hsz
      obtain ⟨b, N, c, hg, rfl, hlc, hroom, _⟩ := hd
      have hc0 := cellsFromK_ok (P := P) hs hpos hx h
      clear h
      obtain ⟨n, as, nvs, hn, hrel, hnl, hfc, h⟩ := hc0
      obtain ⟨hsc, h⟩ := guardP_iff.1 h
      obtain ⟨hl0, h⟩ := takeK_iff.1 h
      obtain ⟨T', cs, b', n', hH, hg', hr, h⟩ := sim_cells hs h
      rw [hg] at hg'
      simp only [Option.some.injEq, Prod.mk.injEq] at hg'
      obtain ⟨rfl, rfl⟩ := hg'
      obtain ⟨hl, h⟩ := storeK_of h
      obtain ⟨_, h⟩ := setNthK_iff.1 h
      have hsc' : allB AV.scal (as.take (min n len * sz)) = true := allB_iff.2 fun a ha => allB_iff.1 hsc a (List.mem_of_mem_take ha)
      obtain ⟨w', hst, s1, s2, _⟩ := sim_store (P := P) hs hH hg hr (relVs_take hrel (min n len * sz)) hsc' hl
      refine ⟨.int .i64 (min n len : Nat), w', _, _, _, _, ?_, s2, s1, mkInt, h⟩
      have hse' : (sizeOf e).run P w = .ok sz w := by simp [sizeOf, typeInfo, hie, hse]
      have hf := hfc w rfl (min n len) (Nat.min_le_left _ _)
      unfold Builtin.copy_
      simp only [List.getElem?_toArray, List.getElem?_cons_zero, List.getElem?_cons_succ]
      rw [Sem.run_bind, run_underlying' hu, Result.andThen_ok]
      dsimp only
      rw [Sem.run_bind, hn, Result.andThen_ok, Sem.run_bind, hse', Result.andThen_ok, Sem.run_bind]
      rw [show Nat.min n len = min n len from rfl, hf, Result.andThen_ok, Sem.run_bind]
      rw [show (List.take (min n len * sz) nvs).toArray.toList = List.take (min n len * sz) nvs from rfl, hst, Result.andThen_ok, Sem.run_pure]
      rfl
    · exact h.elim
  · exact h.elim

theorem lenK_ok {x : AV} {vx : Value} {k : AV → Prop} (hx : RelV Γ Pr w x vx) (h : lenK x k) {t e : Nat} (hu : P.underlying t = some (.slice e)) {rt : Nat} :
    ∃ y v, (Builtin.len_ #[t] rt #[vx]).run P w = .ok v w ∧ RelV Γ Pr w y v ∧ k y := by
  unfold lenK at h
  split at h
  · obtain ⟨b, n, c, _, rfl, _⟩ := hx
    exact ⟨_, _, by simp [Builtin.len_, run_underlying' hu, goInt], mkInt, h⟩
  · rename_i sz cs cap
    obtain ⟨hpos, h⟩ := guardP_iff.1 h
    simp only [decide_eq_true_eq] at hpos
    obtain ⟨A, n, c, rfl, hn, _⟩ := hx
    have hdiv : cs.length / sz = n := by rw [← hn]; exact Nat.mul_div_cancel _ hpos
    rw [hdiv] at h
    exact ⟨_, _, by simp [Builtin.len_, run_underlying' hu, goInt], mkInt, h⟩
  · exact h.elim
theorem lenStrK_ok {x : AV} {vx : Value} {k : AV → Prop} (hx : RelV Γ Pr w x vx) (h : lenStrK x k) {t : Nat} (hu : P.underlying t = some .string) {rt : Nat} :
    ∃ y v, (Builtin.len_ #[t] rt #[vx]).run P w = .ok v w ∧ RelV Γ Pr w y v ∧ k y := by
  unfold lenStrK at h
  split at h
  · cases getStr hx
    exact ⟨_, _, by simp [Builtin.len_, run_underlying' hu, goInt], mkInt, h⟩
  · exact h.elim
theorem min2K_ok {a b : AV} {va vb : Value} {k : AV → Prop} (ha : RelV Γ Pr w a va) (hb : RelV Γ Pr w b vb) (h : min2K a b k) : ∃ y v, (Builtin.min2 va vb).run P w = .ok v w ∧ RelV Γ Pr w y v ∧ k y := by
  unfold min2K at h
  split at h
  · cases getInt ha; cases getInt hb; exact ⟨_, _, rfl, mkInt, h⟩
  · exact h.elim
theorem max2K_ok {a b : AV} {va vb : Value} {k : AV → Prop} (ha : RelV Γ Pr w a va) (hb : RelV Γ Pr w b vb) (h : max2K a b k) : ∃ y v, (Builtin.max2 va vb).run P w = .ok v w ∧ RelV Γ Pr w y v ∧ k y := by
  unfold max2K at h
  split at h
  · cases getInt ha; cases getInt hb; exact ⟨_, _, rfl, mkInt, h⟩
  · exact h.elim

/-! ### Conversions -/
theorem bytes_rel {bs : List UInt8} {vs : List Value} (h : RelVs Γ Pr w (bs.map fun b => .ro (.int .u8 b.toNat)) vs) : ∀ j (hj : j < bs.length), vs[j]? = some (.int .u8 (bs[j].toNat : Int)) := by
  intro j hj
  obtain ⟨v, hv, hr⟩ := relVs_get h j (.ro (.int .u8 (bs[j].toNat : Int))) (by rw [List.getElem?_map, List.getElem?_eq_getElem hj]; rfl)
  rw [hv, getInt hr]
theorem convK_ok (hP : TyOK P tt) (hs : Sim Γ Pr H w) {src dst : Nat} {x : AV} {vx : Value} {k : AV → Prop} {us : TypeDesc} (hus : P.underlying src = some us) (hx : RelV Γ Pr w x vx) (h : convK tt src dst H x k) :
    ∃ y v, (convert src dst vx).run P w = .ok v w ∧ RelV Γ Pr w y v ∧ k y := by
  unfold convK at h
  split at h
  · rename_i kd ki n hd
    obtain ⟨u, hu, _, rfl⟩ := (hP dst _ hd).und
    cases getInt hx
    exact ⟨_, _, by simp [convert, run_underlying' hu, run_underlying' hus, Conv.intToInt], mkInt, h⟩
  · rename_i s hd
    obtain ⟨u, hu, _, rfl⟩ := (hP dst _ hd).und
    cases getStr hx
    refine ⟨_, .string s, ?_, mkStr, h⟩
    cases us <;> simp [convert, run_underlying' hu, run_underlying' hus]
  · rename_i hd hno
    obtain ⟨u, hu, _, rfl⟩ := (hP dst _ hd).und
    split at h
    · rename_i e esz eb ez hsrc
      obtain ⟨u', hu', _, rfl, _⟩ := (hP src _ hsrc).und
      split at h
      · rename_i he
        obtain ⟨u2, hu2, _, rfl⟩ := (hP e _ he).und
        unfold cellsFromK at h
        split at h
        · rename_i sz id off len cap
          obtain ⟨hsz, h⟩ := guardP_iff.1 h
          simp only [beq_iff_eq] at hsz
          subst hsz
          obtain ⟨b, N, c, hg, rfl, hlc, hroom, _⟩ := hx
          obtain ⟨T', cs, b', n', hH, hg', hr, h⟩ := sim_cells hs h
          rw [hg] at hg'
          simp only [Option.some.injEq, Prod.mk.injEq] at hg'
          obtain ⟨rfl, rfl⟩ := hg'
          obtain ⟨h1, h⟩ := dropK_iff.1 h
          obtain ⟨h2, h⟩ := takeK_iff.1 h
          simp only [List.length_drop, Nat.mul_one] at h2
          obtain ⟨bs, hbs, h⟩ := h
          obtain ⟨vs, g1, g2, g3⟩ := relObj_cells hr (off := off) (m := len * 1) (by omega)
          rw [hbs] at g3
          have hb := bytes_rel g3
          have hlen : bs.length = len := by have := relVs_length g3; simp at this; omega
          refine ⟨_, _, ?_, mkStr, h⟩
          rw [← hlen]
          exact run_convert_bytes_back w src dst e _ c bs hu' hu2 hu fun j hj => by rw [add_plain]; exact g2 j _ (hb j hj)
        · rename_i sz cs cap
          obtain ⟨hsz, h⟩ := guardP_iff.1 h
          have hx := relD_sz hsz hx
          clear hsz
          obtain ⟨A, n, c, rfl, hn, hnc, _, hA⟩ := hx
          obtain ⟨bs, hbs, h⟩ := mapK_iff.1 h
          have hlen : bs.length = n := by have := congrArg List.length hbs; simp at this; omega
          refine ⟨_, _, ?_, mkStr, h⟩
          rcases hA with rfl | ⟨b, off, rfl, hp, hr⟩
          · have hb0 : bs = [] := by cases bs with
              | nil => rfl
              | cons b bs => simp at hbs
            subst hb0
            simp only [List.length_nil] at hlen
            subst hlen
            cases A with
            | none => exact run_convert_bytes_nil w src e hu' hu2 0 c dst hu
            | some a => exact run_convert_bytes_back w src dst e a c [] hu' hu2 hu (fun j hj => by simp at hj)
          · obtain ⟨vs, g1, g2, g3⟩ := relVs_of_relDs (Γ := Γ) hr
            rw [hbs] at g3
            have hb := bytes_rel g3
            rw [← hlen]
            exact run_convert_bytes_back w src dst e _ c bs hu' hu2 hu fun j hj => by rw [add_plain]; exact g2 j _ (hb j hj)
        · rename_i s
          exact (hno s rfl).elim
        · exact h.elim
      · exact h.elim
    · exact h.elim
  · exact h.elim

/-! ### Maps -/
theorem sameNow_int {k : IntKind} {a b : Int} {ik : IntKind} : Instr.sameNow (.int ik) (.int k a) (.int k b) = some (a == b) := by simp [Instr.sameNow]
theorem sameNow_bool {a b : Bool} : Instr.sameNow .bool (.bool a) (.bool b) = some (a == b) := by simp [Instr.sameNow]
def KeyD (kb : Bool) (u : TypeDesc) : Prop := match kb with | true => u = .bool | false => ∃ ik, u = .int ik
theorem keyEqK_ok {kb : Bool} {u : TypeDesc} (hu : KeyD kb u) {a b : AV} {va vb : Value} {k : Bool → Prop} (ha : RelV Γ Pr w a va) (hb : RelV Γ Pr w b vb) (h : keyEqK kb a b k) :
    ∃ r, Instr.sameNow u va vb = some r ∧ (r = true → ∀ n, Instr.sameBits n vb va = true) ∧ k r := by
  unfold keyEqK at h
  split at h
  · rename_i ka x kc y
    obtain ⟨ik, rfl⟩ := hu
    obtain ⟨hk, h'⟩ := guardP_iff.1 h
    obtain rfl := kindEq_eq hk
    cases getInt ha; cases getInt hb
    refine ⟨_, sameNow_int, fun e n => ?_, h'⟩
    simp only [beq_iff_eq] at e
    subst e
    cases n <;> simp [Instr.sameBits]
  · rename_i x y
    cases (show u = .bool from hu)
    cases getBool ha; cases getBool hb
    refine ⟨_, sameNow_bool, fun e n => ?_, h⟩
    simp only [beq_iff_eq] at e
    subst e
    cases n <;> simp [Instr.sameBits]
  · exact h.elim
theorem findK_ok {kb : Bool} {u : TypeDesc} (hu : KeyD kb u) {x : AV} {vx : Value} (hx : RelV Γ Pr w x vx) : ∀ {es : List (AV × AV)} {l : List MapEntry} {k : Option AV → Prop}, RelEs Γ Pr w es l → findK kb x es k →
    (k none ∧ ∀ i, Instr.findNow u vx l i = some none) ∨ (∃ (j : Nat) (e : MapEntry) (a : AV), k (some a) ∧ (∀ i, Instr.findNow u vx l i = some (some (i + j, e.val))) ∧ RelV Γ Pr w a e.val)
  | [], l, k, he, h => by
    have : l = [] := he
    subst this
    exact .inl ⟨h, fun i => rfl⟩
  | (y, v) :: r, l, k, ⟨e, es', hl, hk, hv, hr⟩, h => by
    subst hl
    have h : keyEqK kb x y (fun b => condB b (k (some v)) (findK kb x r k)) := h
    obtain ⟨b, hs, _, h⟩ := keyEqK_ok hu hx hk h
    obtain ⟨ht, hf⟩ := condB_iff.1 h
    cases b with
    | true => exact .inr ⟨0, e, v, ht rfl, fun i => by simp [Instr.findNow, hs], hv⟩
    | false =>
      rcases findK_ok hu hx hr (hf rfl) with ⟨h1, h2⟩ | ⟨j, e', a, h1, h2, h3⟩
      · exact .inl ⟨h1, fun i => by simp [Instr.findNow, hs, h2]⟩
      · exact .inr ⟨j + 1, e', a, h1, fun i => by simp [Instr.findNow, hs, h2]; omega, h3⟩
theorem run_checkKey {kb : Bool} {u : TypeDesc} (hu : KeyD kb u) {t : Nat} (ht : P.underlying t = some u) (em : Bool) (v : Value) (n : Nat) : (Instr.checkKey em (n + 1) t v).run P w = .ok () w := by
  cases kb with
  | true => cases (show u = .bool from hu); simp [Instr.checkKey, run_underlying' ht]
  | false => obtain ⟨ik, rfl⟩ := (show ∃ ik, u = .int ik from hu); simp [Instr.checkKey, run_underlying' ht]
theorem run_findKey {u : TypeDesc} {t : Nat} (ht : P.underlying t = some u) {vx : Value} {l : List MapEntry} {r : Option (Nat × Value)} (h : Instr.findNow u vx l 0 = some r) : (Instr.findKey t vx l).run P w = .ok r w := by
  simp [Instr.findKey, run_underlying' ht, h]
theorem mkTup2 {a b : AV} {v u : Value} (ha : RelV Γ Pr w a v) (hb : RelV Γ Pr w b u) : RelV Γ Pr w (.tup [a, b]) (.tuple #[v, u]) := ⟨[v, u], rfl, ⟨_, _, rfl, ha, ⟨_, _, rfl, hb, rfl⟩⟩⟩
theorem foundK_some {agg ok : Bool} {ez : List RD} {a : AV} {v : Value} {k : AV → Prop} (hv : RelV Γ Pr w a v) (h : foundK agg ez ok (some a) k) :
    ∃ y, RelV Γ Pr w y (if ok then .tuple #[v, .bool true] else v) ∧ k y := by
  cases ok with
  | true => exact ⟨_, mkTup2 hv mkBool, h⟩
  | false => exact ⟨_, hv, h⟩
theorem foundK_none {agg ok : Bool} {ez : List RD} {z : Value} {k : AV → Prop} (hz : zsOK ez z.cells.toList = true) (h1 : agg = true → ∃ cs, z = .agg cs) (h2 : agg = false → ∀ cs, z ≠ .agg cs) (h : foundK agg ez ok none k) :
    ∃ y, RelV Γ Pr w y (if ok then .tuple #[z, .bool false] else z) ∧ k y := by
  unfold foundK at h
  split at h
  · rename_i e; cases e
  · rename_i e; cases e
  · split at h
    · obtain ⟨cs, rfl⟩ := h1 rfl
      have hr : RelV Γ Pr w (.agg (ez.map AV.ro)) (.agg cs) := ⟨cs.toList, by simp, zsOK_rel hz⟩
      exact ⟨_, mkTup2 hr mkBool, mapK_iff.1 h⟩
    · obtain ⟨cs, rfl⟩ := h1 rfl
      have hr : RelV Γ Pr w (.agg (ez.map AV.ro)) (.agg cs) := ⟨cs.toList, by simp, zsOK_rel hz⟩
      exact ⟨_, hr, mapK_iff.1 h⟩
    · rw [cells_of_oneCell (h2 rfl)] at hz
      obtain ⟨v, vs', e, hv, _⟩ := zsOK_rel (Γ := Γ) (Pr := Pr) (w := w) hz
      cases e
      exact ⟨_, mkTup2 hv mkBool, h⟩
    · rw [cells_of_oneCell (h2 rfl)] at hz
      obtain ⟨v, vs', e, hv, _⟩ := zsOK_rel (Γ := Γ) (Pr := Pr) (w := w) hz
      cases e
      exact ⟨_, hv, h⟩
    · exact h.elim
theorem run_getObj {r : Nat} {o : Obj} (h : w.heap[r]? = some o) (hc : ∀ c e f, o ≠ .cells c e f) : (getObj r).run P w = .ok o w := by
  simp only [getObj, Sem.run, h]
theorem lookupK_ok (hP : TyOK P tt) (hs : Sim Γ Pr H w) {t : Nat} {m x : AV} {vm vx : Value} {ok : Bool} {k : AV → Prop} (hm : RelV Γ Pr w m vm) (hx : RelV Γ Pr w x vx) (h : lookupK tt H t m x ok k) :
    ∃ y v, (Instr.lookup t vm vx ok).run P w = .ok v w ∧ RelV Γ Pr w y v ∧ k y := by
  unfold lookupK at h
  split at h
  · rename_i kt e kb agg ez hd
    obtain ⟨u, hu, _, rfl, ⟨ve, hve, _⟩, ⟨uk, huk, hkd⟩, ie, z, hie, hz, hzs, ha1, ha2⟩ := (hP t _ hd).und
    have hkd : KeyD kb uk := hkd
    obtain ⟨_, h⟩ := guardP_iff.1 h
    have hzr : (zeroValue e).run P w = .ok z w := by simp [zeroValue, typeInfo, hie, hz]
    split at h
    · rename_i id _
      obtain ⟨b, N, hg, rfl⟩ := hm
      obtain ⟨o, ho, h⟩ := nthK_iff.1 h
      split at h
      · rename_i es
        obtain ⟨b', N', hg', _, ents, clock, hb, hrel⟩ := hs.obj id _ ho rfl
        rw [hg] at hg'
        simp only [Option.some.injEq, Prod.mk.injEq] at hg'
        obtain ⟨rfl, rfl⟩ := hg'
        have hgo : (getObj b).run P w = .ok (.map ents clock) w := run_getObj hb (by simp)
        have hck := run_checkKey (w := w) hkd huk (ents.isEmpty) vx 9999
        rcases findK_ok hkd hx hrel h with ⟨h1, h2⟩ | ⟨j, en, a, h1, h2, h3⟩
        · obtain ⟨y, hy, hk⟩ := foundK_none (Γ := Γ) (Pr := Pr) (w := w) hzs ha1 ha2 h1
          refine ⟨y, _, ?_, hy, hk⟩
          simp [Instr.lookup, run_underlying' hu, hgo, hck, run_findKey huk (h2 0), hzr]
        · obtain ⟨y, hy, hk⟩ := foundK_some h3 h1
          refine ⟨y, _, ?_, hy, hk⟩
          simp [Instr.lookup, run_underlying' hu, hgo, hck, run_findKey huk (h2 0)]
      · exact h.elim
    · cases (show vm = .map none from hm)
      have hck := run_checkKey (w := w) hkd huk true vx 9999
      obtain ⟨y, hy, hk⟩ := foundK_none (Γ := Γ) (Pr := Pr) (w := w) hzs ha1 ha2 h
      refine ⟨y, _, ?_, hy, hk⟩
      simp [Instr.lookup, run_underlying' hu, hck, run_findKey huk (show Instr.findNow uk vx [] 0 = some none from rfl), hzr]
    · exact h.elim
  · exact h.elim
end
end Go.Ab
