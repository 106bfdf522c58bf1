/- The abstract layer, part 10: map stores, strings gone through; and any operation that calls no Go function. -/
import Derived.Test.YtlpdflhpajhnoaaGreatAb9
namespace Go.Ab

section
variable {P : Program} {tt : TyT} {Γ : VL} {Pr : Nat → Prop} {H : Heap} {w : World} {T : Tm} {tmps : Array Value} {ds : List Deferred} {nt : Nat}

/-! ### Map stores -/
def EsOut (Γ : VL) (Pr : Nat → Prop) (w : World) (u : TypeDesc) (vx vv : Value) (l : List MapEntry) (es' : List (AV × AV)) : Prop :=
  ((∀ i, Instr.findNow u vx l i = some none) ∧ ∀ born, RelEs Γ Pr w es' (l ++ [{ key := vx, val := vv, born }])) ∨
  (∃ (j : Nat) (e : MapEntry), (∀ i, Instr.findNow u vx l i = some (some (i + j, e.val))) ∧ l[j]? = some e ∧ (∀ n, Instr.sameBits n e.key vx = true) ∧ RelEs Γ Pr w es' (l.set j { e with key := vx, val := vv }))
theorem mapPutK_ok {kb : Bool} {u : TypeDesc} (hu : KeyD kb u) {x v : AV} {vx vv : Value} (hx : RelV Γ Pr w x vx) (hv : RelV Γ Pr w v vv) : ∀ {es : List (AV × AV)} {l : List MapEntry} {k : List (AV × AV) → Prop}, RelEs Γ Pr w es l → mapPutK kb x v es k →
    ∃ es', EsOut Γ Pr w u vx vv l es' ∧ k es'
  | [], l, k, he, h => by
    have : l = [] := he
    subst this
    exact ⟨[(x, v)], .inl ⟨fun i => rfl, fun born => ⟨_, _, rfl, hx, hv, rfl⟩⟩, h⟩
  | (y, z) :: r, l, k, ⟨e, es', hl, hk, hz, hr⟩, h => by
    subst hl
    have h : keyEqK kb x y (fun b => condB b (k ((x, v) :: r)) (mapPutK kb x v r (fun r' => k ((y, z) :: r')))) := h
    obtain ⟨b, hs, hsb, h⟩ := keyEqK_ok hu hx hk h
    obtain ⟨ht, hf⟩ := condB_iff.1 h
    cases b with
    | true => exact ⟨(x, v) :: r, .inr ⟨0, e, fun i => by simp [Instr.findNow, hs], rfl, hsb rfl, ⟨_, _, rfl, hx, hv, hr⟩⟩, ht rfl⟩
    | false =>
      obtain ⟨r', ho, hk'⟩ := mapPutK_ok hu hx hv hr (hf rfl)
      refine ⟨(y, z) :: r', ?_, hk'⟩
      rcases ho with ⟨h1, h2⟩ | ⟨j, e', h1, h2, h3, h4⟩
      · exact .inl ⟨fun i => by simp [Instr.findNow, hs, h1], fun born => ⟨_, _, rfl, hk, hz, h2 born⟩⟩
      · exact .inr ⟨j + 1, e', fun i => by simp [Instr.findNow, hs, h1]; omega, by simpa using h2, h3, ⟨_, _, rfl, hk, hz, h4⟩⟩
theorem run_setObj {r : Nat} {o o' : Obj} (h : w.heap[r]? = some o) (hc : ∀ c e f, o ≠ .cells c e f) : (setObj r o').run P w = .ok () (w.putObj r o') := by
  cases o <;> first
    | exact absurd rfl (hc _ _ _)
    | (simp only [setObj, Sem.run, h]; rfl)
theorem modify_toList {l : Array MapEntry} {j : Nat} {e : MapEntry} {f : MapEntry → MapEntry} (h : l.toList[j]? = some e) : (l.modify j f).toList = l.toList.set j (f e) := by
  apply List.ext_getElem?
  intro i
  rw [Array.getElem?_toList, Array.getElem?_modify, List.getElem?_set]
  split
  · rename_i e'
    subst e'
    rw [Array.getElem?_toList] at h
    have hlt := (Array.getElem?_eq_some_iff.1 h).1
    rw [h]
    simp [hlt]
  · simp
theorem mapUpdateK_ok (hP : TyOK P tt) (hs : Sim Γ Pr H w) {t : Nat} {m x v : AV} {vm vx vv : Value} {k : Heap → Prop} (hm : RelV Γ Pr w m vm) (hx : RelV Γ Pr w x vx) (hv : RelV Γ Pr w v vv) (h : mapUpdateK tt H t m x v k) :
    ∃ H' w', (Instr.mapUpdate t vm vx vv).run P w = .ok () w' ∧ Ext Γ Pr H w Γ Pr H' w' ∧ Sim Γ Pr H' w' ∧ k H' := by
  unfold mapUpdateK at h
  split at h
  · rename_i kt e kb agg ez hd
    obtain ⟨u, hu, _, rfl, _, ⟨uk, huk, hkd⟩, _⟩ := (hP t _ hd).und
    have hkd : KeyD kb uk := hkd
    have hg0 := guardP_iff.1 h
    clear h
    obtain ⟨_, h⟩ := hg0
    split at h
    · rename_i id
      obtain ⟨b, N, hg, rfl⟩ := hm
      obtain ⟨o, ho, h⟩ := nthK_iff.1 h
      split at h
      · rename_i es
        obtain ⟨b', N', hg', hnp, ents, clock, hb, hrel⟩ := hs.obj id _ ho rfl
        rw [hg] at hg'
        simp only [Option.some.injEq, Prod.mk.injEq] at hg'
        obtain ⟨rfl, rfl⟩ := hg'
        have hgo : (getObj b).run P w = .ok (.map ents clock) w := run_getObj hb (by simp)
        have hck := run_checkKey (w := w) hkd huk false vx 9999
        obtain ⟨es', hout, h⟩ := mapPutK_ok hkd hx hv hrel h
        obtain ⟨_, h⟩ := setNthK_iff.1 h
        have hblt : b < w.heap.size := (Array.getElem?_eq_some_iff.1 hb).1
        have fin : ∀ (ents' : Array MapEntry) (clock' : Nat), (Instr.mapUpdate t (.map (some b)) vx vv).run P w = .ok () (w.putObj b (.map ents' clock')) → RelEs Γ Pr w es' ents'.toList →
            ∃ H' w', (Instr.mapUpdate t (.map (some b)) vx vv).run P w = .ok () w' ∧ Ext Γ Pr H w Γ Pr H' w' ∧ Sim Γ Pr H' w' ∧ k H' := by
          intro ents' clock' hrun hr
          have hkp : ∀ c, Pr c → (w.putObj b (.map ents' clock')).heap[c]? = w.heap[c]? := fun c hc => World.putObj_heap_other (fun e => hnp (e ▸ hc))
          obtain ⟨s1, s2⟩ := Sim.set hs ho rfl hg (o' := .map es') (x := .map ents' clock') rfl ⟨ents', clock', World.putObj_heap_same hblt, hr.mono ⟨[], by simp⟩ (fun _ h => h) hkp⟩
          exact ⟨_, _, hrun, s2, s1, h⟩
        rcases hout with ⟨h1, h2⟩ | ⟨j, en, h1, h2, h3, h4⟩
        · refine fin (ents.push { key := vx, val := vv, born := clock }) (clock + 1) ?_ (by rw [Array.toList_push]; exact h2 clock)
          simp [Instr.mapUpdate, run_underlying' hu, hgo, hck, run_findKey huk (h1 0), run_setObj hb (by simp : ∀ c e f, Obj.map ents clock ≠ .cells c e f)]
        · have hj : ents[j]? = some en := by simpa using h2
          refine fin (ents.modify j fun e => { e with key := vx, val := vv }) clock ?_ (by rw [modify_toList h2]; exact h4)
          have hks : (Instr.keyThatStays (((ents[j]?).map (·.key)).getD vx) vx).run P w = .ok vx w := by simp [hj, Instr.keyThatStays, h3]
          have hf := run_findKey (w := w) (P := P) huk (h1 0)
          rw [Nat.zero_add] at hf
          simp only [Instr.mapUpdate, Sem.run_bind, run_underlying' hu, Result.andThen_ok, hgo, hck, hf, hks, run_setObj hb (by simp : ∀ c e f, Obj.map ents clock ≠ .cells c e f)]
      · exact h.elim
    · exact h.elim
  · exact h.elim

/-! ### Strings gone through -/
theorem nextK_ok (hs : Sim Γ Pr H w) {it : AV} {vit : Value} {rt : Nat} {k : AV → Heap → Prop} (hit : RelV Γ Pr w it vit) (h : nextK H it k) : Fin P Γ Pr H w (Instr.next vit true rt) k := by
  unfold nextK at h
  split at h
  · rename_i id
    obtain ⟨b, N, hg, rfl⟩ := hit
    obtain ⟨o, ho, h⟩ := nthK_iff.1 h
    split at h
    · rename_i s pos
      obtain ⟨b', N', hg', hnp, hb⟩ := hs.obj id _ ho rfl
      rw [hg] at hg'
      simp only [Option.some.injEq, Prod.mk.injEq] at hg'
      obtain ⟨rfl, rfl⟩ := hg'
      have hb : w.heap[b]? = some (.stringIter s pos) := hb
      have hgo : (getObj b).run P w = .ok (.stringIter s pos) w := run_getObj hb (by simp)
      have hblt : b < w.heap.size := (Array.getElem?_eq_some_iff.1 hb).1
      split at h
      · rename_i hd
        simp only [decide_eq_true_eq] at hd
        obtain ⟨_, h⟩ := setNthK_iff.1 h
        obtain ⟨s1, s2⟩ := Sim.set hs ho rfl hg (o' := .siter s (pos + (Utf8.decode s pos).2)) (x := .stringIter s (pos + (Utf8.decode s pos).2)) rfl (World.putObj_heap_same hblt)
        have hr : RelV Γ Pr (w.putObj b (.stringIter s (pos + (Utf8.decode s pos).2))) (.tup [.ro (.bool true), .ro (.int .i64 pos), .ro (.int .i32 (Utf8.decode s pos).1)]) (.tuple #[.bool true, goInt pos, .int .i32 (Utf8.decode s pos).1]) :=
          ⟨[.bool true, goInt pos, .int .i32 (Utf8.decode s pos).1], rfl, ⟨_, _, rfl, mkBool, ⟨_, _, rfl, mkInt, ⟨_, _, rfl, mkInt, rfl⟩⟩⟩⟩
        refine ⟨_, _, _, _, _, _, ?_, s2, s1, hr, h⟩
        simp [Instr.next, hgo, hd, run_setObj hb (by simp : ∀ c e f, Obj.stringIter s pos ≠ .cells c e f)]
      · rename_i hd
        simp only [decide_eq_false_iff_not] at hd
        have hr : RelV Γ Pr w (.tup [.ro (.bool false)]) (.tuple #[.bool false]) := ⟨[.bool false], rfl, ⟨_, _, rfl, mkBool, rfl⟩⟩
        exact Fin.same hs (by simp [Instr.next, hgo, hd]) hr h
    · exact h.elim
  · exact h.elim

/-! ### Any operation that calls no Go function -/
def OpFin (P : Program) (Γ : VL) (Pr : Nat → Prop) (H : Heap) (w : World) (s : Sem Next) (k : AV → Heap → Prop) : Prop :=
  ∃ v w' a H' Γ' Pr', (s.run P w = .ok (.value v) w' ∨ (s.run P w = .ok .skip w' ∧ v = undef)) ∧ Ext Γ Pr H w Γ' Pr' H' w' ∧ Sim Γ' Pr' H' w' ∧ RelV Γ' Pr' w' a v ∧ k a H'
theorem OpFin.value {s : Sem Value} {k : AV → Heap → Prop} (h : Fin P Γ Pr H w s k) : OpFin P Γ Pr H w (do pure (.value (← s))) k := by
  obtain ⟨v, w', a, H', Γ', Pr', h1, h2⟩ := h
  exact ⟨v, w', a, H', Γ', Pr', .inl (by simp [h1]), h2⟩
theorem OpFin.val (hs : Sim Γ Pr H w) {s : Sem Value} {k : AV → Heap → Prop} (h : ∃ x v, s.run P w = .ok v w ∧ RelV Γ Pr w x v ∧ k x H) : OpFin P Γ Pr H w (do pure (.value (← s))) k := by
  obtain ⟨x, v, h1, h2, h3⟩ := h
  exact OpFin.value (Fin.same hs h1 h2 h3)
/-- An operation that leaves the world alone. -/
def OpVal (P : Program) (Γ : VL) (Pr : Nat → Prop) (H : Heap) (w : World) (s : Sem Next) (k : AV → Heap → Prop) : Prop := ∃ v x, s.run P w = .ok (.value v) w ∧ RelV Γ Pr w x v ∧ k x H
theorem OpVal.val {s : Sem Value} {k : AV → Heap → Prop} (h : ∃ x v, s.run P w = .ok v w ∧ RelV Γ Pr w x v ∧ k x H) : OpVal P Γ Pr H w (do pure (.value (← s))) k := by
  obtain ⟨x, v, h1, h2, h3⟩ := h
  exact ⟨v, x, by simp [h1], h2, h3⟩
theorem OpVal.fin (hs : Sim Γ Pr H w) {s : Sem Next} {k : AV → Heap → Prop} (h : OpVal P Γ Pr H w s k) : OpFin P Γ Pr H w s k :=
  let ⟨v, x, h1, h2, h3⟩ := h
  ⟨v, w, x, H, Γ, Pr, .inl h1, Ext.refl _ _ _ _, hs, h2, h3⟩
theorem newObj_run (o : Obj) : (newObj o).run P w = .ok w.heap.size { w with heap := w.heap.push o } := rfl
theorem sim_newObj (hs : Sim Γ Pr H w) {x : Obj} {o : AObj} (hr : RelObj (Γ ++ [(w.heap.size, 0)]) Pr { w with heap := w.heap.push x } w.heap.size 0 o) :
    Sim (Γ ++ [(w.heap.size, 0)]) Pr (H ++ [o]) { w with heap := w.heap.push x } ∧ Ext Γ Pr H w (Γ ++ [(w.heap.size, 0)]) Pr (H ++ [o]) { w with heap := w.heap.push x } :=
  Sim.new hs 0 rfl rfl rfl rfl hr
theorem relVs_list2 {a b : AV} {vs : List Value} (h : RelVs Γ Pr w [a, b] vs) : ∃ v u, vs = [v, u] ∧ RelV Γ Pr w a v ∧ RelV Γ Pr w b u := by
  obtain ⟨v, vs', rfl, h1, u, vs'', rfl, h2, h3⟩ := h
  exact ⟨v, u, by rw [show vs'' = [] from h3], h1, h2⟩
theorem relVs_list1 {a : AV} {vs : List Value} (h : RelVs Γ Pr w [a] vs) : ∃ v, vs = [v] ∧ RelV Γ Pr w a v := by
  obtain ⟨v, vs', rfl, h1, h3⟩ := h
  exact ⟨v, by rw [show vs' = [] from h3], h1⟩
theorem arr_eq {α : Type} {a : Array α} {l : List α} (h : a.toList = l) : a = l.toArray := by apply Array.toList_inj.1; simpa using h
def isReadB : Builtin → Bool
  | .len | .cap | .min | .max => true
  | _ => false
theorem builtinR_ok (hP : TyOK P tt) {b : Builtin} {ts : Array TypeId} {rt : Nat} {cs : Array Bool} {as : List AV} {vs : Array Value} {k : AV → Heap → Prop} (hv : RelVs Γ Pr w as vs.toList) (hb : isReadB b = true) (h : builtinK tt H b ts.toList as k) :
    OpVal P Γ Pr H w (builtin b ts rt cs vs) k := by
  unfold builtinK at h
  split at h
  · split at h
    · rename_i x t hts
      obtain ⟨v, hvs, hx⟩ := relVs_list1 hv
      obtain rfl := arr_eq hts
      obtain rfl := arr_eq hvs
      split at h
      · rename_i hd
        obtain ⟨u, hu, _, rfl, _⟩ := (hP t _ hd).und
        exact OpVal.val (lenK_ok hx h hu)
      · rename_i hd
        obtain ⟨u, hu, _, rfl⟩ := (hP t _ hd).und
        exact OpVal.val (lenStrK_ok hx h hu)
      · rename_i hd
        obtain ⟨u, hu, _, rfl, _⟩ := (hP t _ hd).und
        exact OpVal.val ⟨_, _, by simp [Builtin.len_, run_underlying' hu, goInt], mkInt, h⟩
      · exact h.elim
    · exact h.elim
  · simp [isReadB] at hb
  · simp [isReadB] at hb
  · split at h
    · obtain ⟨v, u, hvs, hsv, hx⟩ := relVs_list2 hv
      obtain rfl := arr_eq hvs
      obtain ⟨y, r, h1, h2, h3⟩ := min2K_ok (P := P) hsv hx h
      exact OpVal.val ⟨y, r, by simp [Builtin.min_, h1], h2, h3⟩
    · exact h.elim
  · split at h
    · obtain ⟨v, u, hvs, hsv, hx⟩ := relVs_list2 hv
      obtain rfl := arr_eq hvs
      obtain ⟨y, r, h1, h2, h3⟩ := max2K_ok (P := P) hsv hx h
      exact OpVal.val ⟨y, r, by simp [Builtin.max_, h1], h2, h3⟩
    · exact h.elim
  · split at h
    · rename_i x t hts
      obtain ⟨v, hvs, hx⟩ := relVs_list1 hv
      obtain rfl := arr_eq hts
      obtain rfl := arr_eq hvs
      split at h
      · rename_i hd
        obtain ⟨u, hu, _, rfl, _⟩ := (hP t _ hd).und
        obtain ⟨b, n, c, _, rfl, _, _, hc⟩ := hx
        obtain rfl := hc _ rfl
        exact OpVal.val ⟨_, _, by simp [Builtin.cap_, run_underlying' hu, goInt], mkInt, h⟩
      · rename_i hd
        obtain ⟨u, hu, _, rfl, _⟩ := (hP t _ hd).und
        obtain ⟨A, n, c, rfl, _, _, hc, _⟩ := hx
        obtain rfl := hc _ rfl
        exact OpVal.val ⟨_, _, by simp [Builtin.cap_, run_underlying' hu, goInt], mkInt, h⟩
      · exact h.elim
    · exact h.elim
  · exact h.elim
theorem builtinK_ok (hP : TyOK P tt) (hs : Sim Γ Pr H w) {b : Builtin} {ts : Array TypeId} {rt : Nat} {cs : Array Bool} {as : List AV} {vs : Array Value} {k : AV → Heap → Prop} (hv : RelVs Γ Pr w as vs.toList) (h : builtinK tt H b ts.toList as k) :
    OpFin P Γ Pr H w (builtin b ts rt cs vs) k := by
  unfold builtinK at h
  split at h
  · split at h
    · rename_i x t hts
      obtain ⟨v, hvs, hx⟩ := relVs_list1 hv
      obtain rfl := arr_eq hts
      obtain rfl := arr_eq hvs
      split at h
      · rename_i hd
        obtain ⟨u, hu, _, rfl, _⟩ := (hP t _ hd).und
        exact OpFin.val hs (lenK_ok hx h hu)
      · rename_i hd
        obtain ⟨u, hu, _, rfl⟩ := (hP t _ hd).und
        exact OpFin.val hs (lenStrK_ok hx h hu)
      · rename_i hd
        obtain ⟨u, hu, _, rfl, _⟩ := (hP t _ hd).und
        exact OpFin.val hs ⟨_, _, by simp [Builtin.len_, run_underlying' hu, goInt], mkInt, h⟩
      · exact h.elim
    · exact h.elim
  · split at h
    · rename_i s x t t' hts
      obtain ⟨v, u, hvs, hsv, hx⟩ := relVs_list2 hv
      obtain rfl := arr_eq hts
      obtain rfl := arr_eq hvs
      split at h
      · rename_i hd
        obtain ⟨ud, hu, _, rfl, _⟩ := (hP t' _ hd).und
        exact OpFin.value (appendK_ok hP hs ⟨_, hu, by simp⟩ hsv hx h)
      · rename_i hd
        obtain ⟨ud, hu, _, rfl⟩ := (hP t' _ hd).und
        exact OpFin.value (appendK_ok hP hs ⟨_, hu, by simp⟩ hsv hx h)
      · exact h.elim
    · exact h.elim
  · split at h
    · rename_i s x t t' hts
      obtain ⟨v, u, hvs, hsv, hx⟩ := relVs_list2 hv
      obtain rfl := arr_eq hts
      obtain rfl := arr_eq hvs
      exact OpFin.value (copyK_ok hP hs hsv hx h)
    · exact h.elim
  · split at h
    · obtain ⟨v, u, hvs, hsv, hx⟩ := relVs_list2 hv
      obtain rfl := arr_eq hvs
      obtain ⟨y, r, h1, h2, h3⟩ := min2K_ok (P := P) hsv hx h
      exact OpFin.val hs ⟨y, r, by simp [Builtin.min_, h1], h2, h3⟩
    · exact h.elim
  · split at h
    · obtain ⟨v, u, hvs, hsv, hx⟩ := relVs_list2 hv
      obtain rfl := arr_eq hvs
      obtain ⟨y, r, h1, h2, h3⟩ := max2K_ok (P := P) hsv hx h
      exact OpFin.val hs ⟨y, r, by simp [Builtin.max_, h1], h2, h3⟩
    · exact h.elim
  · split at h
    · rename_i x t hts
      obtain ⟨v, hvs, hx⟩ := relVs_list1 hv
      obtain rfl := arr_eq hts
      obtain rfl := arr_eq hvs
      split at h
      · rename_i hd
        obtain ⟨u, hu, _, rfl, _⟩ := (hP t _ hd).und
        obtain ⟨b, n, c, _, rfl, _, _, hc⟩ := hx
        obtain rfl := hc _ rfl
        exact OpFin.val hs ⟨_, _, by simp [Builtin.cap_, run_underlying' hu, goInt], mkInt, h⟩
      · rename_i hd
        obtain ⟨u, hu, _, rfl, _⟩ := (hP t _ hd).und
        obtain ⟨A, n, c, rfl, _, _, hc, _⟩ := hx
        obtain rfl := hc _ rfl
        exact OpFin.val hs ⟨_, _, by simp [Builtin.cap_, run_underlying' hu, goInt], mkInt, h⟩
      · exact h.elim
    · exact h.elim
  · exact h.elim
theorem evalArr (f : Operand → Value) (a : Array Operand) : (a.map f).toList = a.toList.map f := by simp
theorem arr_of_list {α : Type} (a : Array α) : a.toList.toArray = a := by simp
theorem run_part_agg {t : Nat} {u : TypeDesc} {i : TypeInfo} (hu : P.underlying t = some u) (ha : aggD u = true) (hi : P.info? t = some i) (cs : Array Value) (off : Nat) : (part t cs off).run P w = .ok (.agg (cs.extract off (off + i.size))) w := by
  have h1 : (isAgg t).run P w = .ok true w := by rw [← ha]; cases u <;> simp [isAgg, underlying, hu, aggD]
  simp [part, h1, sizeOf, typeInfo, hi]
theorem run_part_sc {t : Nat} {u : TypeDesc} (hu : P.underlying t = some u) (ha : aggD u = false) {cs : Array Value} {off : Nat} {v : Value} (hv : cs[off]? = some v) : (part t cs off).run P w = .ok v w := by
  have h1 : (isAgg t).run P w = .ok false w := by rw [← ha]; cases u <;> simp [isAgg, underlying, hu, aggD]
  simp [part, h1, hv]
theorem relVs_drop {Γ : VL} {Pr : Nat → Prop} {w : World} : ∀ {cs : List AV} {vs : List Value}, RelVs Γ Pr w cs vs → ∀ n, RelVs Γ Pr w (cs.drop n) (vs.drop n)
  | cs, vs, h, 0 => by simpa using h
  | [], [], _, n + 1 => by simp [RelVs]
  | [], v :: vs, h, n + 1 => by cases h
  | c :: cs, vs, h, n + 1 => by
    obtain ⟨v, vs', rfl, _, h2⟩ := h
    simpa using relVs_drop h2 n
theorem fieldVK_ok (hP : TyOK P tt) {t f : Nat} {a : AV} {va : Value} {k : AV → Prop} (ha : RelV Γ Pr w a va) (h : fieldVK tt t a f k) :
    ∃ x v, (Instr.field t va f).run P w = .ok v w ∧ RelV Γ Pr w x v ∧ k x := by
  unfold fieldVK at h
  split at h
  · rename_i cs fs zs cm ag hd
    obtain ⟨vs, rfl, hr⟩ := ha
    obtain ⟨p, hp, h⟩ := nthK_iff.1 h
    obtain ⟨b, hb, h⟩ := nthK_iff.1 h
    obtain ⟨u, hu, _, fields, rfl, hf, hag⟩ := (hP t _ hd).und
    obtain ⟨fd, i, hfd, hi, ho, hsz, hne⟩ := fields_get hf hp
    obtain ⟨u', hu', hau⟩ := agsOK_get hag (by simpa using hfd) hb
    split at h
    · obtain ⟨_, h⟩ := dropK_iff.1 h
      obtain ⟨_, h⟩ := takeK_iff.1 h
      have hh := relVs_take (relVs_drop hr p.1) p.2
      have hr' : RelV Γ Pr w (.agg ((cs.drop p.1).take p.2)) (.agg (vs.toArray.extract fd.offset (fd.offset + i.size))) :=
        ⟨(vs.drop p.1).take p.2, by simp [ho, hsz, List.extract_eq_take_drop], hh⟩
      exact ⟨_, _, by simp [Instr.field, run_underlying' hu, hfd, asAgg, run_part_agg hu' hau hi], hr', h⟩
    · obtain ⟨x, hx, h⟩ := nthK_iff.1 h
      obtain ⟨v, hvi, hrv⟩ := relVs_get hr _ _ hx
      exact ⟨x, v, by simp [Instr.field, run_underlying' hu, hfd, asAgg, run_part_sc hu' hau (show (vs.toArray)[fd.offset]? = some v by simpa [ho] using hvi)], hrv, h⟩
  · exact h.elim
theorem indexVK_ok (hP : TyOK P tt) {t : Nat} {x i : AV} {vx vi : Value} {k : AV → Prop} (hx : RelV Γ Pr w x vx) (hi : RelV Γ Pr w i vi) (h : indexVK tt t x i k) :
    ∃ y v, (Instr.index t vx vi).run P w = .ok v w ∧ RelV Γ Pr w y v ∧ k y := by
  unfold indexVK at h
  split at h
  · rename_i s ki n hd
    obtain ⟨u, hu, _, rfl⟩ := (hP t _ hd).und
    cases getInt hi
    have hv := getStr hx
    obtain ⟨hg, h⟩ := guardP_iff.1 h
    simp only [decide_eq_true_eq] at hg
    have hlt : n.toNat < s.size := by omega
    refine ⟨_, _, ?_, mkInt, h⟩
    have h1 : s[n.toNat]? = some (s.data.toList.getD n.toNat 0) := by
      rw [getElem?_pos s n.toNat hlt]
      have : n.toNat < s.data.toList.length := by simpa using hlt
      rw [List.getD_eq_getElem?_getD, List.getElem?_eq_getElem this]
      rfl
    simp [Instr.index, asIntOf, run_underlying' hu, hg.1, h1, hv]
  · rename_i m e esz zs cs ki n hd
    split at h
    · rename_i d he
      obtain ⟨u, hu, _, rfl, ⟨ie, hie, hse⟩, _⟩ := (hP t _ hd).und
      obtain ⟨ue, hue, hae, _⟩ := (hP e _ he).und
      cases getInt hi
      obtain ⟨vs, rfl, hr⟩ := hx
      have hg := (guardP_iff.1 h).1
      have h1 := (guardP_iff.1 h).2
      clear h
      simp only [Bool.and_eq_true, beq_iff_eq, decide_eq_true_eq, Bool.not_eq_true'] at hg
      obtain ⟨⟨rfl, hag⟩, hb⟩ := hg
      have h := h1
      obtain ⟨y, hy, h⟩ := nthK_iff.1 h
      obtain ⟨v, hvi, hrv⟩ := relVs_get hr _ _ hy
      exact ⟨y, v, by simp [Instr.index, asIntOf, run_underlying' hu, hb, sizeOf, typeInfo, hie, hse, run_part_sc hue (hae.trans hag) (show (vs.toArray)[n.toNat]? = some v by simpa using hvi)], hrv, h⟩
    · exact h.elim
  · exact h.elim

theorem op_move (hP : TyOK P tt) (hs : Sim Γ Pr H w) (hT : RelT Γ Pr w nt T tmps) {dst : Option Nat} {rt : Nat} {pos : String} {after : Array Edge} {guard : Option (Nat × Bool)} {k : AV → Heap → Prop} {x} (h : opK tt ⟨dst, .move x, rt, pos, after, guard⟩ T H k) :
    OpVal P Γ Pr H w (execOp (Act.eval ⟨tmps, ds⟩) ⟨dst, .move x, rt, pos, after, guard⟩) k := by
  unfold opK at h
  simp only at h
  unfold execOp
  simp only
  obtain ⟨a, ha, h⟩ := evK_ok (ds := ds) hT h
  exact ⟨_, _, rfl, ha, h⟩
theorem op_assign (hP : TyOK P tt) (hs : Sim Γ Pr H w) (hT : RelT Γ Pr w nt T tmps) {dst : Option Nat} {rt : Nat} {pos : String} {after : Array Edge} {guard : Option (Nat × Bool)} {k : AV → Heap → Prop} {x} (h : opK tt ⟨dst, .assign x, rt, pos, after, guard⟩ T H k) :
    OpVal P Γ Pr H w (execOp (Act.eval ⟨tmps, ds⟩) ⟨dst, .assign x, rt, pos, after, guard⟩) k := by
  unfold opK at h
  simp only at h
  unfold execOp
  simp only
  obtain ⟨a, ha, h⟩ := evK_ok (ds := ds) hT h
  exact ⟨_, _, rfl, ha, h⟩
theorem op_pick (hP : TyOK P tt) (hs : Sim Γ Pr H w) (hT : RelT Γ Pr w nt T tmps) {dst : Option Nat} {rt : Nat} {pos : String} {after : Array Edge} {guard : Option (Nat × Bool)} {k : AV → Heap → Prop} {c a b} (h : opK tt ⟨dst, .pick c a b, rt, pos, after, guard⟩ T H k) :
    OpVal P Γ Pr H w (execOp (Act.eval ⟨tmps, ds⟩) ⟨dst, .pick c a b, rt, pos, after, guard⟩) k := by
  unfold opK at h
  simp only at h
  unfold execOp
  simp only
  obtain ⟨c, hc, h⟩ := evK_ok (ds := ds) hT h
  split at h
  · rename_i b
    have hcb := getBool hc
    obtain ⟨h1, h2⟩ := condB_iff.1 h
    cases b with
    | true =>
      obtain ⟨a, ha, h⟩ := evK_ok (ds := ds) hT (h1 rfl)
      exact ⟨_, _, (by simp [hcb, asBool]), ha, h⟩
    | false =>
      obtain ⟨a, ha, h⟩ := evK_ok (ds := ds) hT (h2 rfl)
      exact ⟨_, _, (by simp [hcb, asBool]), ha, h⟩
  · exact h.elim
theorem op_alloc (hP : TyOK P tt) (hs : Sim Γ Pr H w) (hT : RelT Γ Pr w nt T tmps) {dst : Option Nat} {rt : Nat} {pos : String} {after : Array Edge} {guard : Option (Nat × Bool)} {k : AV → Heap → Prop} {e} (h : opK tt ⟨dst, .alloc e, rt, pos, after, guard⟩ T H k) :
    OpFin P Γ Pr H w (execOp (Act.eval ⟨tmps, ds⟩) ⟨dst, .alloc e, rt, pos, after, guard⟩) k := by
  unfold opK at h
  simp only at h
  unfold execOp
  simp only
  obtain ⟨z, as, hz, hr, h⟩ := zerosK_ok (P := P) (Γ := Γ) (Pr := Pr) (w := w) hP h
  have h := newK_iff.1 h
  obtain ⟨s1, s2⟩ := pushed_ext hs (w' := { w with heap := w.heap.push (.cells z.cells e) }) (e := e) rfl rfl rfl rfl hr
  have hp : RelV (Γ ++ [(w.heap.size, z.cells.size)]) Pr { w with heap := w.heap.push (.cells z.cells e) } (.ptr H.length 0) (.pointer (some ⟨w.heap.size, 0, none⟩)) := mkPtr (vl_last hs _)
  exact OpFin.value ⟨_, _, _, _, _, _, by simp [Instr.alloc, hz, newVar, newRow_run], s2, s1, hp, h⟩
theorem op_box (hP : TyOK P tt) (hs : Sim Γ Pr H w) (hT : RelT Γ Pr w nt T tmps) {dst : Option Nat} {rt : Nat} {pos : String} {after : Array Edge} {guard : Option (Nat × Bool)} {k : AV → Heap → Prop} {e x} (h : opK tt ⟨dst, .box e x, rt, pos, after, guard⟩ T H k) :
    OpFin P Γ Pr H w (execOp (Act.eval ⟨tmps, ds⟩) ⟨dst, .box e x, rt, pos, after, guard⟩) k := by
  unfold opK at h
  simp only at h
  unfold execOp
  simp only
  obtain ⟨a, ha, h⟩ := evK_ok (ds := ds) hT h
  obtain ⟨hk, h⟩ := guardP_iff.1 h
  have h := newK_iff.1 h
  obtain ⟨s1, s2⟩ := pushed_ext hs (w' := { w with heap := w.heap.push (.cells (Act.eval ⟨tmps, ds⟩ x).cells e) }) (e := e) rfl rfl rfl rfl (relV_cells ha hk)
  have hp : RelV (Γ ++ [(w.heap.size, (Act.eval ⟨tmps, ds⟩ x).cells.size)]) Pr { w with heap := w.heap.push (.cells (Act.eval ⟨tmps, ds⟩ x).cells e) } (.ptr H.length 0) (.pointer (some ⟨w.heap.size, 0, none⟩)) := mkPtr (vl_last hs _)
  exact OpFin.value ⟨_, _, _, _, _, _, by simp [Instr.box, newVar, newRow_run], s2, s1, hp, h⟩
theorem op_build (hP : TyOK P tt) (hs : Sim Γ Pr H w) (hT : RelT Γ Pr w nt T tmps) {dst : Option Nat} {rt : Nat} {pos : String} {after : Array Edge} {guard : Option (Nat × Bool)} {k : AV → Heap → Prop} {t ps} (h : opK tt ⟨dst, .build t ps, rt, pos, after, guard⟩ T H k) :
    OpVal P Γ Pr H w (execOp (Act.eval ⟨tmps, ds⟩) ⟨dst, .build t ps, rt, pos, after, guard⟩) k := by
  unfold opK at h
  simp only at h
  unfold execOp
  simp only
  obtain ⟨as, has, h⟩ := evpK_ok (ds := ds) hT h
  have hb := buildK_ok hP (vs := ps.map fun p => (p.1, Act.eval ⟨tmps, ds⟩ p.2)) (by simpa using has) h
  exact OpVal.val hb
theorem op_buildSlice (hP : TyOK P tt) (hs : Sim Γ Pr H w) (hT : RelT Γ Pr w nt T tmps) {dst : Option Nat} {rt : Nat} {pos : String} {after : Array Edge} {guard : Option (Nat × Bool)} {k : AV → Heap → Prop} {t n ps} (h : opK tt ⟨dst, .buildSlice t n ps, rt, pos, after, guard⟩ T H k) :
    OpFin P Γ Pr H w (execOp (Act.eval ⟨tmps, ds⟩) ⟨dst, .buildSlice t n ps, rt, pos, after, guard⟩) k := by
  unfold opK at h
  simp only at h
  unfold execOp
  simp only
  obtain ⟨as, has, h⟩ := evpK_ok (ds := ds) hT h
  have hb := buildSliceK_ok hP hs (vs := ps.map fun p => (p.1, Act.eval ⟨tmps, ds⟩ p.2)) (by simpa using has) h
  exact OpFin.value hb
theorem op_load (hP : TyOK P tt) (hs : Sim Γ Pr H w) (hT : RelT Γ Pr w nt T tmps) {dst : Option Nat} {rt : Nat} {pos : String} {after : Array Edge} {guard : Option (Nat × Bool)} {k : AV → Heap → Prop} {t a} (h : opK tt ⟨dst, .load t a, rt, pos, after, guard⟩ T H k) :
    OpVal P Γ Pr H w (execOp (Act.eval ⟨tmps, ds⟩) ⟨dst, .load t a, rt, pos, after, guard⟩) k := by
  unfold opK at h
  simp only at h
  unfold execOp
  simp only
  obtain ⟨a, ha, h⟩ := evK_ok (ds := ds) hT h
  exact OpVal.val (loadK_ok hP hs ha h)
theorem op_store (hP : TyOK P tt) (hs : Sim Γ Pr H w) (hT : RelT Γ Pr w nt T tmps) {dst : Option Nat} {rt : Nat} {pos : String} {after : Array Edge} {guard : Option (Nat × Bool)} {k : AV → Heap → Prop} {t a x} (h : opK tt ⟨dst, .store t a x, rt, pos, after, guard⟩ T H k) :
    OpFin P Γ Pr H w (execOp (Act.eval ⟨tmps, ds⟩) ⟨dst, .store t a x, rt, pos, after, guard⟩) k := by
  unfold opK at h
  simp only at h
  unfold execOp
  simp only
  obtain ⟨a, ha, h⟩ := evK_ok (ds := ds) hT h
  obtain ⟨x, hx, h⟩ := evK_ok (ds := ds) hT h
  obtain ⟨H', w', h1, h2, h3, h4⟩ := storeAtK_ok hP hs ha hx h
  exact ⟨undef, w', .any, H', Γ, Pr, .inr ⟨by simp [h1], rfl⟩, h2, h3, trivial, h4⟩
theorem op_nilCheck (hP : TyOK P tt) (hs : Sim Γ Pr H w) (hT : RelT Γ Pr w nt T tmps) {dst : Option Nat} {rt : Nat} {pos : String} {after : Array Edge} {guard : Option (Nat × Bool)} {k : AV → Heap → Prop} {x} (h : opK tt ⟨dst, .nilCheck x, rt, pos, after, guard⟩ T H k) :
    OpVal P Γ Pr H w (execOp (Act.eval ⟨tmps, ds⟩) ⟨dst, .nilCheck x, rt, pos, after, guard⟩) k := by
  unfold opK at h
  simp only at h
  unfold execOp
  simp only
  obtain ⟨a, ha, h⟩ := evK_ok (ds := ds) hT h
  split at h
  · have ha' := ha
    obtain ⟨b, n, hg, hv⟩ := ha
    exact ⟨_, _, (by rw [hv]; rfl), hv ▸ ha', h⟩
  · have ha' := ha
    obtain ⟨b, n, hv, hg⟩ := ha
    exact ⟨_, _, (by rw [hv]; rfl), hv ▸ ha', h⟩
  · have ha' := ha
    obtain ⟨fs, cs, hv, hg⟩ := ha
    exact ⟨_, _, (by rw [hv]; rfl), hv ▸ ha', h⟩
  · have ha' := ha
    have hv := show _ = Value.func _ #[] #[] from ha
    exact ⟨_, _, (by rw [hv]; rfl), hv ▸ ha', h⟩
  · exact h.elim
theorem op_binOp (hP : TyOK P tt) (hs : Sim Γ Pr H w) (hT : RelT Γ Pr w nt T tmps) {dst : Option Nat} {rt : Nat} {pos : String} {after : Array Edge} {guard : Option (Nat × Bool)} {k : AV → Heap → Prop} {op t x y yt} (h : opK tt ⟨dst, .binOp op t x y yt, rt, pos, after, guard⟩ T H k) :
    OpVal P Γ Pr H w (execOp (Act.eval ⟨tmps, ds⟩) ⟨dst, .binOp op t x y yt, rt, pos, after, guard⟩) k := by
  unfold opK at h
  simp only at h
  unfold execOp
  simp only
  obtain ⟨a, ha, h⟩ := evK_ok (ds := ds) hT h
  obtain ⟨b, hb, h⟩ := evK_ok (ds := ds) hT h
  have hc : isNilC y = true → ∃ v, y = .const v ∧ (v = .slice none 0 0 ∨ v = .nilIface) ∧ Act.eval ⟨tmps, ds⟩ y = v := by
    intro hc
    unfold isNilC at hc
    split at hc
    · exact ⟨_, rfl, .inl rfl, rfl⟩
    · exact ⟨_, rfl, .inr rfl, rfl⟩
    · cases hc
  obtain ⟨x', v', h1, h2, h3⟩ := binK_ok (k := fun v => splitV v (fun v => k v H)) hP (x := x) (y := y) hc ha hb h
  exact OpVal.val ⟨x', v', h1, h2, splitV_iff.1 h3⟩
theorem op_unOp (hP : TyOK P tt) (hs : Sim Γ Pr H w) (hT : RelT Γ Pr w nt T tmps) {dst : Option Nat} {rt : Nat} {pos : String} {after : Array Edge} {guard : Option (Nat × Bool)} {k : AV → Heap → Prop} {op t x} (h : opK tt ⟨dst, .unOp op t x, rt, pos, after, guard⟩ T H k) :
    OpVal P Γ Pr H w (execOp (Act.eval ⟨tmps, ds⟩) ⟨dst, .unOp op t x, rt, pos, after, guard⟩) k := by
  unfold opK at h
  simp only at h
  unfold execOp
  simp only
  obtain ⟨a, ha, h⟩ := evK_ok (ds := ds) hT h
  exact OpVal.val (unK_ok ha h)
theorem op_convert (hP : TyOK P tt) (hs : Sim Γ Pr H w) (hT : RelT Γ Pr w nt T tmps) {dst : Option Nat} {rt : Nat} {pos : String} {after : Array Edge} {guard : Option (Nat × Bool)} {k : AV → Heap → Prop} {s d x} (h : opK tt ⟨dst, .convert s d x, rt, pos, after, guard⟩ T H k) :
    OpVal P Γ Pr H w (execOp (Act.eval ⟨tmps, ds⟩) ⟨dst, .convert s d x, rt, pos, after, guard⟩) k := by
  unfold opK at h
  simp only at h
  unfold execOp
  simp only
  obtain ⟨a, ha, h⟩ := evK_ok (ds := ds) hT h
  split at h
  · rename_i us hus
    obtain ⟨u, hu, _⟩ := (hP s _ hus).und
    exact OpVal.val (convK_ok hP hs hu ha h)
  · exact h.elim
theorem op_makeFunc (hP : TyOK P tt) (hs : Sim Γ Pr H w) (hT : RelT Γ Pr w nt T tmps) {dst : Option Nat} {rt : Nat} {pos : String} {after : Array Edge} {guard : Option (Nat × Bool)} {k : AV → Heap → Prop} {fn first cap} (h : opK tt ⟨dst, .makeFunc fn first cap, rt, pos, after, guard⟩ T H k) :
    OpVal P Γ Pr H w (execOp (Act.eval ⟨tmps, ds⟩) ⟨dst, .makeFunc fn first cap, rt, pos, after, guard⟩) k := by
  unfold opK at h
  simp only at h
  unfold execOp
  simp only
  obtain ⟨fs, hfs, h⟩ := evsK_ok (ds := ds) hT h
  obtain ⟨cs, hcs, h⟩ := evsK_ok (ds := ds) hT h
  have hr : RelV Γ Pr w (.fn fn fs cs) (.func fn (first.map (Act.eval ⟨tmps, ds⟩)) (cap.map (Act.eval ⟨tmps, ds⟩))) := ⟨first.toList.map (Act.eval ⟨tmps, ds⟩), cap.toList.map (Act.eval ⟨tmps, ds⟩), by rw [← Array.toList_map, ← Array.toList_map], hfs, hcs⟩
  exact OpVal.val ⟨_, _, by simp [Instr.makeFunc], hr, h⟩
theorem op_makeMap (hP : TyOK P tt) (hs : Sim Γ Pr H w) (hT : RelT Γ Pr w nt T tmps) {dst : Option Nat} {rt : Nat} {pos : String} {after : Array Edge} {guard : Option (Nat × Bool)} {k : AV → Heap → Prop} {t r} (h : opK tt ⟨dst, .makeMap t r, rt, pos, after, guard⟩ T H k) :
    OpFin P Γ Pr H w (execOp (Act.eval ⟨tmps, ds⟩) ⟨dst, .makeMap t r, rt, pos, after, guard⟩) k := by
  unfold opK at h
  simp only at h
  unfold execOp
  simp only
  split at h
  · have h := newK_iff.1 h
    obtain ⟨s1, s2⟩ := sim_newObj hs (x := .map #[] 0) (o := .map []) ⟨#[], 0, by simp, rfl⟩
    have hp : RelV (Γ ++ [(w.heap.size, 0)]) Pr { w with heap := w.heap.push (.map #[] 0) } (.mp H.length) (.map (some w.heap.size)) := ⟨_, _, vl_last hs _, rfl⟩
    exact OpFin.value ⟨_, _, _, _, _, _, by simp [Instr.makeMap, newObj_run], s2, s1, hp, h⟩
  · exact h.elim
theorem op_makeSlice (hP : TyOK P tt) (hs : Sim Γ Pr H w) (hT : RelT Γ Pr w nt T tmps) {dst : Option Nat} {rt : Nat} {pos : String} {after : Array Edge} {guard : Option (Nat × Bool)} {k : AV → Heap → Prop} {t l c} (h : opK tt ⟨dst, .makeSlice t l c, rt, pos, after, guard⟩ T H k) :
    OpFin P Γ Pr H w (execOp (Act.eval ⟨tmps, ds⟩) ⟨dst, .makeSlice t l c, rt, pos, after, guard⟩) k := by
  unfold opK at h
  simp only at h
  unfold execOp
  simp only
  obtain ⟨a, ha, h⟩ := evK_ok (ds := ds) hT h
  obtain ⟨b, hb, h⟩ := evK_ok (ds := ds) hT h
  exact OpFin.value (makeSliceK_ok hP hs ha hb h)
theorem op_slice (hP : TyOK P tt) (hs : Sim Γ Pr H w) (hT : RelT Γ Pr w nt T tmps) {dst : Option Nat} {rt : Nat} {pos : String} {after : Array Edge} {guard : Option (Nat × Bool)} {k : AV → Heap → Prop} {t x lo hi mx} (h : opK tt ⟨dst, .slice t x lo hi mx, rt, pos, after, guard⟩ T H k) :
    OpVal P Γ Pr H w (execOp (Act.eval ⟨tmps, ds⟩) ⟨dst, .slice t x lo hi mx, rt, pos, after, guard⟩) k := by
  unfold opK at h
  simp only at h
  unfold execOp
  simp only
  obtain ⟨a, ha, h⟩ := evK_ok (ds := ds) hT h
  obtain ⟨l, hl, h⟩ := optEvK_ok (ds := ds) hT h
  obtain ⟨hi, hhi, h⟩ := optEvK_ok (ds := ds) hT h
  obtain ⟨mx, hmx, h⟩ := optEvK_ok (ds := ds) hT h
  exact OpVal.val (sliceOpK_ok hP hs ha hl hhi hmx h)
theorem op_fieldAddr (hP : TyOK P tt) (hs : Sim Γ Pr H w) (hT : RelT Γ Pr w nt T tmps) {dst : Option Nat} {rt : Nat} {pos : String} {after : Array Edge} {guard : Option (Nat × Bool)} {k : AV → Heap → Prop} {s x f} (h : opK tt ⟨dst, .fieldAddr s x f, rt, pos, after, guard⟩ T H k) :
    OpVal P Γ Pr H w (execOp (Act.eval ⟨tmps, ds⟩) ⟨dst, .fieldAddr s x f, rt, pos, after, guard⟩) k := by
  unfold opK at h
  simp only at h
  unfold execOp
  simp only
  obtain ⟨a, ha, h⟩ := evK_ok (ds := ds) hT h
  exact OpVal.val (fieldK_ok hP ha h)
theorem op_field (hP : TyOK P tt) (hs : Sim Γ Pr H w) (hT : RelT Γ Pr w nt T tmps) {dst : Option Nat} {rt : Nat} {pos : String} {after : Array Edge} {guard : Option (Nat × Bool)} {k : AV → Heap → Prop} {t x f} (h : opK tt ⟨dst, .field t x f, rt, pos, after, guard⟩ T H k) :
    OpVal P Γ Pr H w (execOp (Act.eval ⟨tmps, ds⟩) ⟨dst, .field t x f, rt, pos, after, guard⟩) k := by
  unfold opK at h
  simp only at h
  unfold execOp
  simp only
  obtain ⟨a, ha, h⟩ := evK_ok (ds := ds) hT h
  exact OpVal.val (fieldVK_ok hP ha h)
theorem op_indexAddr (hP : TyOK P tt) (hs : Sim Γ Pr H w) (hT : RelT Γ Pr w nt T tmps) {dst : Option Nat} {rt : Nat} {pos : String} {after : Array Edge} {guard : Option (Nat × Bool)} {k : AV → Heap → Prop} {t x i} (h : opK tt ⟨dst, .indexAddr t x i, rt, pos, after, guard⟩ T H k) :
    OpVal P Γ Pr H w (execOp (Act.eval ⟨tmps, ds⟩) ⟨dst, .indexAddr t x i, rt, pos, after, guard⟩) k := by
  unfold opK at h
  simp only at h
  unfold execOp
  simp only
  obtain ⟨a, ha, h⟩ := evK_ok (ds := ds) hT h
  obtain ⟨b, hb, h⟩ := evK_ok (ds := ds) hT h
  exact OpVal.val (indexAddrK_ok hP ha hb h)
theorem op_index (hP : TyOK P tt) (hs : Sim Γ Pr H w) (hT : RelT Γ Pr w nt T tmps) {dst : Option Nat} {rt : Nat} {pos : String} {after : Array Edge} {guard : Option (Nat × Bool)} {k : AV → Heap → Prop} {t x i} (h : opK tt ⟨dst, .index t x i, rt, pos, after, guard⟩ T H k) :
    OpVal P Γ Pr H w (execOp (Act.eval ⟨tmps, ds⟩) ⟨dst, .index t x i, rt, pos, after, guard⟩) k := by
  unfold opK at h
  simp only at h
  unfold execOp
  simp only
  obtain ⟨a, ha, h⟩ := evK_ok (ds := ds) hT h
  obtain ⟨b, hb, h⟩ := evK_ok (ds := ds) hT h
  exact OpVal.val (indexVK_ok hP ha hb h)
theorem op_lookup (hP : TyOK P tt) (hs : Sim Γ Pr H w) (hT : RelT Γ Pr w nt T tmps) {dst : Option Nat} {rt : Nat} {pos : String} {after : Array Edge} {guard : Option (Nat × Bool)} {k : AV → Heap → Prop} {t m x ok} (h : opK tt ⟨dst, .lookup t m x ok, rt, pos, after, guard⟩ T H k) :
    OpVal P Γ Pr H w (execOp (Act.eval ⟨tmps, ds⟩) ⟨dst, .lookup t m x ok, rt, pos, after, guard⟩) k := by
  unfold opK at h
  simp only at h
  unfold execOp
  simp only
  obtain ⟨a, ha, h⟩ := evK_ok (ds := ds) hT h
  obtain ⟨b, hb, h⟩ := evK_ok (ds := ds) hT h
  exact OpVal.val (lookupK_ok hP hs ha hb h)
theorem op_mapUpdate (hP : TyOK P tt) (hs : Sim Γ Pr H w) (hT : RelT Γ Pr w nt T tmps) {dst : Option Nat} {rt : Nat} {pos : String} {after : Array Edge} {guard : Option (Nat × Bool)} {k : AV → Heap → Prop} {t m x v} (h : opK tt ⟨dst, .mapUpdate t m x v, rt, pos, after, guard⟩ T H k) :
    OpFin P Γ Pr H w (execOp (Act.eval ⟨tmps, ds⟩) ⟨dst, .mapUpdate t m x v, rt, pos, after, guard⟩) k := by
  unfold opK at h
  simp only at h
  unfold execOp
  simp only
  obtain ⟨a, ha, h⟩ := evK_ok (ds := ds) hT h
  obtain ⟨b, hb, h⟩ := evK_ok (ds := ds) hT h
  obtain ⟨c, hc, h⟩ := evK_ok (ds := ds) hT h
  obtain ⟨H', w', h1, h2, h3, h4⟩ := mapUpdateK_ok hP hs ha hb hc h
  exact ⟨undef, w', .any, H', Γ, Pr, .inr ⟨by simp [h1], rfl⟩, h2, h3, trivial, h4⟩
theorem op_insert (hP : TyOK P tt) (hs : Sim Γ Pr H w) (hT : RelT Γ Pr w nt T tmps) {dst : Option Nat} {rt : Nat} {pos : String} {after : Array Edge} {guard : Option (Nat × Bool)} {k : AV → Heap → Prop} {t m x v} (h : opK tt ⟨dst, .insert t m x v, rt, pos, after, guard⟩ T H k) :
    OpFin P Γ Pr H w (execOp (Act.eval ⟨tmps, ds⟩) ⟨dst, .insert t m x v, rt, pos, after, guard⟩) k := by
  unfold opK at h
  simp only at h
  unfold execOp
  simp only
  obtain ⟨a, ha, h⟩ := evK_ok (ds := ds) hT h
  obtain ⟨b, hb, h⟩ := evK_ok (ds := ds) hT h
  obtain ⟨c, hc, h⟩ := evK_ok (ds := ds) hT h
  obtain ⟨H', w', h1, h2, h3, h4⟩ := mapUpdateK_ok hP hs ha hb hc h
  exact ⟨undef, w', .any, H', Γ, Pr, .inr ⟨by simp [h1], rfl⟩, h2, h3, trivial, h4⟩
theorem op_range (hP : TyOK P tt) (hs : Sim Γ Pr H w) (hT : RelT Γ Pr w nt T tmps) {dst : Option Nat} {rt : Nat} {pos : String} {after : Array Edge} {guard : Option (Nat × Bool)} {k : AV → Heap → Prop} {t x} (h : opK tt ⟨dst, .range t x, rt, pos, after, guard⟩ T H k) :
    OpFin P Γ Pr H w (execOp (Act.eval ⟨tmps, ds⟩) ⟨dst, .range t x, rt, pos, after, guard⟩) k := by
  unfold opK at h
  simp only at h
  unfold execOp
  simp only
  obtain ⟨a, ha, h⟩ := evK_ok (ds := ds) hT h
  split at h
  · rename_i s hd
    obtain ⟨u, hu, _, rfl⟩ := (hP t _ hd).und
    have hv := getStr ha
    have h := newK_iff.1 h
    obtain ⟨s1, s2⟩ := sim_newObj hs (x := .stringIter s 0) (o := .siter s 0) (by simp [RelObj])
    have hp : RelV (Γ ++ [(w.heap.size, 0)]) Pr { w with heap := w.heap.push (.stringIter s 0) } (.ptr H.length 0) (.pointer (some ⟨w.heap.size, 0, none⟩)) := mkPtr (vl_last hs _)
    exact OpFin.value ⟨_, _, _, _, _, _, by simp [Instr.range, run_underlying' hu, hv, newObj_run], s2, s1, hp, h⟩
  · exact h.elim
theorem op_next (hP : TyOK P tt) (hs : Sim Γ Pr H w) (hT : RelT Γ Pr w nt T tmps) {dst : Option Nat} {rt : Nat} {pos : String} {after : Array Edge} {guard : Option (Nat × Bool)} {k : AV → Heap → Prop} {it str} (h : opK tt ⟨dst, .next it str, rt, pos, after, guard⟩ T H k) :
    OpFin P Γ Pr H w (execOp (Act.eval ⟨tmps, ds⟩) ⟨dst, .next it str, rt, pos, after, guard⟩) k := by
  unfold opK at h
  simp only at h
  unfold execOp
  simp only
  split at h
  · obtain ⟨a, ha, h⟩ := evK_ok (ds := ds) hT h
    exact OpFin.value (nextK_ok hs ha h)
  · exact h.elim
theorem op_extract (hP : TyOK P tt) (hs : Sim Γ Pr H w) (hT : RelT Γ Pr w nt T tmps) {dst : Option Nat} {rt : Nat} {pos : String} {after : Array Edge} {guard : Option (Nat × Bool)} {k : AV → Heap → Prop} {t i} (h : opK tt ⟨dst, .extract t i, rt, pos, after, guard⟩ T H k) :
    OpVal P Γ Pr H w (execOp (Act.eval ⟨tmps, ds⟩) ⟨dst, .extract t i, rt, pos, after, guard⟩) k := by
  unfold opK at h
  simp only at h
  unfold execOp
  simp only
  obtain ⟨a, ha, h⟩ := evK_ok (ds := ds) hT h
  split at h
  · obtain ⟨vs, hv, hr⟩ := ha
    obtain ⟨x, hx, h⟩ := nthK_iff.1 h
    obtain ⟨v, hvi, hrv⟩ := relVs_get hr _ _ hx
    exact OpVal.val ⟨x, v, by simp [Instr.extract, hv, hvi], hrv, h⟩
  · exact h.elim
theorem op_makeInterface (hP : TyOK P tt) (hs : Sim Γ Pr H w) (hT : RelT Γ Pr w nt T tmps) {dst : Option Nat} {rt : Nat} {pos : String} {after : Array Edge} {guard : Option (Nat × Bool)} {k : AV → Heap → Prop} {t x} (h : opK tt ⟨dst, .makeInterface t x, rt, pos, after, guard⟩ T H k) :
    OpVal P Γ Pr H w (execOp (Act.eval ⟨tmps, ds⟩) ⟨dst, .makeInterface t x, rt, pos, after, guard⟩) k := by
  unfold opK at h
  simp only at h
  unfold execOp
  simp only
  obtain ⟨a, ha, h⟩ := evK_ok (ds := ds) hT h
  split at h
  · rename_i cs fs zs cm ag hd
    obtain ⟨u, hu, _, fields, rfl, _⟩ := (hP t _ hd).und
    have hr : RelV Γ Pr w (.ifc t (.agg cs)) (.iface t (Act.eval ⟨tmps, ds⟩ x)) := ⟨_, rfl, ha⟩
    exact OpVal.val ⟨_, _, by simp [Instr.makeInterface, run_underlying' hu], hr, h⟩
  · exact h.elim
theorem op_call (hP : TyOK P tt) (hs : Sim Γ Pr H w) (hT : RelT Γ Pr w nt T tmps) {dst : Option Nat} {rt : Nat} {pos : String} {after : Array Edge} {guard : Option (Nat × Bool)} {k : AV → Heap → Prop} {c} (h : opK tt ⟨dst, .call c, rt, pos, after, guard⟩ T H k) :
    OpFin P Γ Pr H w (execOp (Act.eval ⟨tmps, ds⟩) ⟨dst, .call c, rt, pos, after, guard⟩) k := by
  unfold opK at h
  simp only at h
  unfold execOp
  simp only
  split at h
  · rename_i b hb
    obtain ⟨as, has, h⟩ := evsK_ok (ds := ds) hT h
    simp only [resolve, hb]
    exact builtinK_ok hP hs (vs := c.args.map (Act.eval ⟨tmps, ds⟩)) (by simpa using has) h
  · exact h.elim
def isRead : Op → Bool
  | .move _ | .assign _ | .pick .. | .build .. | .load .. | .nilCheck _ | .binOp .. | .unOp .. | .convert .. | .makeFunc .. | .slice .. | .fieldAddr .. | .field .. | .indexAddr .. | .index .. | .lookup .. | .extract .. | .makeInterface .. => true
  | .call ⟨.builtin b, _, _⟩ => isReadB b
  | _ => false
theorem op_callR (hP : TyOK P tt) (hs : Sim Γ Pr H w) (hT : RelT Γ Pr w nt T tmps) {dst : Option Nat} {rt : Nat} {pos : String} {after : Array Edge} {guard : Option (Nat × Bool)} {k : AV → Heap → Prop} {c} (hb : isRead (.call c) = true) (h : opK tt ⟨dst, .call c, rt, pos, after, guard⟩ T H k) :
    OpVal P Γ Pr H w (execOp (Act.eval ⟨tmps, ds⟩) ⟨dst, .call c, rt, pos, after, guard⟩) k := by
  obtain ⟨callee, args, tys⟩ := c
  cases callee with
  | builtin b =>
    unfold opK at h
    simp only at h
    unfold execOp
    simp only
    obtain ⟨as, has, h⟩ := evsK_ok (ds := ds) hT h
    simp only [resolve]
    exact builtinR_ok hP (vs := args.map (Act.eval ⟨tmps, ds⟩)) (by simpa using has) hb h
  | _ => simp [isRead] at hb
theorem opR_ok (hP : TyOK P tt) (hs : Sim Γ Pr H w) (hT : RelT Γ Pr w nt T tmps) {o : Oper} {k : AV → Heap → Prop} (hr : isRead o.op = true) (h : opK tt o T H k) : OpVal P Γ Pr H w (execOp (Act.eval ⟨tmps, ds⟩) o) k := by
  obtain ⟨dst, op, rt, pos, after, guard⟩ := o
  cases op with
  | move => exact op_move hP hs hT h
  | assign => exact op_assign hP hs hT h
  | pick => exact op_pick hP hs hT h
  | build => exact op_build hP hs hT h
  | load => exact op_load hP hs hT h
  | nilCheck => exact op_nilCheck hP hs hT h
  | binOp => exact op_binOp hP hs hT h
  | unOp => exact op_unOp hP hs hT h
  | convert => exact op_convert hP hs hT h
  | makeFunc => exact op_makeFunc hP hs hT h
  | slice => exact op_slice hP hs hT h
  | fieldAddr => exact op_fieldAddr hP hs hT h
  | field => exact op_field hP hs hT h
  | indexAddr => exact op_indexAddr hP hs hT h
  | index => exact op_index hP hs hT h
  | lookup => exact op_lookup hP hs hT h
  | extract => exact op_extract hP hs hT h
  | makeInterface => exact op_makeInterface hP hs hT h
  | call c => exact op_callR hP hs hT hr h
  | _ => simp [isRead] at hr
theorem opK_ok (hP : TyOK P tt) (hs : Sim Γ Pr H w) (hT : RelT Γ Pr w nt T tmps) {o : Oper} {k : AV → Heap → Prop} (h : opK tt o T H k) : OpFin P Γ Pr H w (execOp (Act.eval ⟨tmps, ds⟩) o) k := by
  obtain ⟨dst, op, rt, pos, after, guard⟩ := o
  cases op with
  | move => exact (op_move hP hs hT h).fin hs
  | assign => exact (op_assign hP hs hT h).fin hs
  | pick => exact (op_pick hP hs hT h).fin hs
  | alloc => exact op_alloc hP hs hT h
  | box => exact op_box hP hs hT h
  | build => exact (op_build hP hs hT h).fin hs
  | buildSlice => exact op_buildSlice hP hs hT h
  | load => exact (op_load hP hs hT h).fin hs
  | store => exact op_store hP hs hT h
  | nilCheck => exact (op_nilCheck hP hs hT h).fin hs
  | binOp => exact (op_binOp hP hs hT h).fin hs
  | unOp => exact (op_unOp hP hs hT h).fin hs
  | convert => exact (op_convert hP hs hT h).fin hs
  | makeFunc => exact (op_makeFunc hP hs hT h).fin hs
  | makeMap => exact op_makeMap hP hs hT h
  | makeSlice => exact op_makeSlice hP hs hT h
  | slice => exact (op_slice hP hs hT h).fin hs
  | fieldAddr => exact (op_fieldAddr hP hs hT h).fin hs
  | field => exact (op_field hP hs hT h).fin hs
  | indexAddr => exact (op_indexAddr hP hs hT h).fin hs
  | index => exact (op_index hP hs hT h).fin hs
  | lookup => exact (op_lookup hP hs hT h).fin hs
  | mapUpdate => exact op_mapUpdate hP hs hT h
  | insert => exact op_insert hP hs hT h
  | range => exact op_range hP hs hT h
  | next => exact op_next hP hs hT h
  | extract => exact (op_extract hP hs hT h).fin hs
  | makeInterface => exact (op_makeInterface hP hs hT h).fin hs
  | call => exact op_call hP hs hT h
  | _ => exact bad.elim h
end
end Go.Ab
