/- The abstract layer, part 18: loops over functions. -/
import Derived.Test.YtlpdflhpajhnoaaGreatAb17
namespace Go.Ab

def paramsK : List Tmp → List AV → Tm → Nat → (Tm → Prop) → Prop
  | [], [], T, _, k => k T
  | t :: ps, a :: as, T, nt, k => if t < nt then setK 40 T t a (fun T => paramsK ps as T nt k) else bad 60071
  | _, _, _, _, _ => bad 60081
theorem paramsK_ok {Γ : VL} {Pr : Nat → Prop} {w : World} {nt : Nat} : ∀ {ps : List Tmp} {as : List AV} {vs : List Value} {T : Tm} {tmps : Array Value} {k : Tm → Prop}, RelT Γ Pr w nt T tmps → RelVs Γ Pr w as vs → paramsK ps as T nt k →
    ps.length = vs.length ∧ ∃ T', k T' ∧ RelT Γ Pr w nt T' ((ps.zip vs).foldl (fun tmps (x : Tmp × Value) => tmps.setIfInBounds x.1 x.2) tmps)
  | [], [], vs, T, tmps, k, hT, hv, h => by
    have hv : vs = [] := hv
    subst hv
    exact ⟨rfl, T, h, hT⟩
  | t :: ps, a :: as, vs, T, tmps, k, hT, hv, h => by
    obtain ⟨v, vs', rfl, h1, h2⟩ := hv
    unfold paramsK at h
    split at h
    · rename_i ht
      obtain ⟨T1, h3, h⟩ := setK_iff.1 h
      have hT1 : RelT Γ Pr w nt T1 (tmps.setIfInBounds t v) := by
        refine ⟨by simp [hT.1], fun i => ?_⟩
        rw [Tm.get_set h3]
        by_cases e : i = t
        · subst e
          rw [if_pos rfl, Array.getD_eq_getD_getElem?, Array.getElem?_setIfInBounds]
          rw [← hT.1] at ht
          simp [ht, h1]
        · rw [if_neg e, Array.getD_eq_getD_getElem?, Array.getElem?_setIfInBounds, if_neg (fun e' => e e'.symm), ← Array.getD_eq_getD_getElem?]
          exact hT.2 i
      obtain ⟨hl, T', h4, h5⟩ := paramsK_ok hT1 h2 h
      exact ⟨by simp [hl], T', h4, h5⟩
    · exact h.elim
  | [], a :: as, vs, T, tmps, k, hT, hv, h => h.elim
  | t :: ps, [], vs, T, tmps, k, hT, hv, h => h.elim

def isReady : LoopState → Bool
  | .ready => true
  | _ => false
def isBusy : LoopState → Bool
  | .busy => true
  | _ => false
/-- The end of a round. -/
def roundK (l : Nat) (k : AV → Heap → Prop) : Kont := fun e _ H _ => nthK H l (fun o => match o with
  | .loop L => (match e with
    | .normal => setNthK H l (.loop { L with state := .ready, pending := none }) (fun H => k (.ro (.bool true)) H)
    | .ret => setNthK H l (.loop { L with state := .done, pending := some .ret }) (fun H => k (.ro (.bool false)) H)
    | .exit id => setNthK H l (.loop { L with state := .done, pending := some (.exit id) }) (fun H => k (.ro (.bool false)) H))
  | _ => bad 60491)
section
variable {P : Program} {F : Fence} {nt : Nat} {tt : TyT}

theorem RelObj.loop_get {Γ : VL} {Pr : Nat → Prop} {w : World} {b n : Nat} {L : ALoop} (h : RelObj Γ Pr w b n (.loop L)) : ∃ fn tmps d m, Γ[L.dl]? = some (d, m) ∧ RelT Γ Pr w L.nt L.T tmps ∧
      w.heap[b]? = some (.loop { state := L.state, pending := L.pending, fn, tmps, params := L.params, assign := L.assign, body := L.body, defers := d }) := h
/-- The record of a loop, its state turned. -/
theorem Sim.turn {Γ : VL} {Pr : Nat → Prop} {H : Heap} {w : World} (hs : Sim Γ Pr H w) {l b n : Nat} {L : ALoop} (hl : H[l]? = some (.loop L)) (hg : Γ[l]? = some (b, n)) (st : LoopState) (pe : Option Code) {r : Loop} (hb : w.heap[b]? = some (.loop r)) :
    Sim Γ Pr (H.set l (.loop { L with state := st, pending := pe })) (w.putObj b (.loop { r with state := st, pending := pe })) ∧ Ext Γ Pr H w Γ Pr (H.set l (.loop { L with state := st, pending := pe })) (w.putObj b (.loop { r with state := st, pending := pe })) := by
  obtain ⟨b', n', hg', hnp, hr⟩ := hs.obj l _ hl rfl
  rw [hg] at hg'
  simp only [Option.some.injEq, Prod.mk.injEq] at hg'
  obtain ⟨rfl, rfl⟩ := hg'
  obtain ⟨fn, tmps, d, m, h1, h2, h3⟩ := hr.loop_get
  rw [hb] at h3
  simp only [Option.some.injEq, Obj.loop.injEq] at h3
  subst h3
  have hlt : b < w.heap.size := (Array.getElem?_eq_some_iff.1 hb).1
  have hkp : ∀ c, Pr c → (w.putObj b (.loop { state := st, pending := pe, fn, tmps, params := L.params, assign := L.assign, body := L.body, defers := d })).heap[c]? = w.heap[c]? := fun c hc => World.putObj_heap_other (fun e => hnp (e ▸ hc))
  refine hs.set hl rfl hg rfl ⟨fn, tmps, d, m, h1, h2.mono ⟨[], by simp⟩ (fun _ h => h) hkp, ?_⟩
  simp [World.putObj, hlt]
theorem YieldP.round {l : Nat} {args : List AV} {H : Heap} {k : AV → Heap → Prop} {L : ALoop} (hP : TyOK P tt) (hl : H[l]? = some (.loop L)) (hrd : isReady L.state = true)
    (h : ∀ b, paramsK L.params.toList args L.T L.nt (fun T => codeK P (Fence.wide.inRound b) L.nt tt L.assign T H [] (fun e T H1 D1 => match e with
      | .normal => H1 = H ∧ D1 = [] ∧ codeK P (Fence.wide.inRound b) L.nt tt L.body T (H.set l (.loop { L with state := .busy, pending := L.pending })) [] (roundK l k)
      | _ => bad 60731))) : YieldP P l args H k := by
  constructor
  intro Γ Pr w vs b n hs hv hg
  obtain ⟨b', n', hg', hnp, hr⟩ := hs.obj l _ hl rfl
  rw [hg] at hg'
  simp only [Option.some.injEq, Prod.mk.injEq] at hg'
  obtain ⟨rfl, rfl⟩ := hg'
  obtain ⟨fn, tmps, d, m, h1, h2, h3⟩ := hr.loop_get
  obtain ⟨hlen, T, h, hT⟩ := paramsK_ok h2 hv (h b)
  have hst : L.state = .ready := by cases hs' : L.state <;> simp_all [isReady]
  refine ⟨fn, _, _, _, run_yield h3 (by simpa using hlen.symm), ?_⟩
  refine roundIn_of_wpIn trivial ?_
  have hF : Plain (Fence.wide.inRound b) := .inr ⟨b, rfl⟩
  have hz : ((L.params.zip vs.toArray).foldl (fun tmps (x : Tmp × Value) => tmps.setIfInBounds x.1 x.2) tmps) = ((L.params.toList.zip vs).foldl (fun tmps (x : Tmp × Value) => tmps.setIfInBounds x.1 x.2) tmps) := by
    rw [← Array.foldl_toList]
    simp
  refine wpIn_mono (codeK_run hF hP h Γ Pr w { tmps := _, defers := [] } hs (by rw [← hz] at hT; exact hT) rfl) ?_
  rintro e a' w' ⟨ae, T', H', D', Γ', Pr', rfl, g2, g3, g4, g5, g6⟩
  cases ae with
  | exit id => exact g6.elim
  | ret => exact g6.elim
  | normal =>
    obtain ⟨hH1, rfl, g6⟩ := g6
    have hH1 := hH1.symm
    subst hH1
    have hg' : Γ'[l]? = some (b, n) := vl_ext g2.vl hg
    obtain ⟨b2, n2, hg2, hnp2, hr2⟩ := g3.obj l _ hl rfl
    rw [hg'] at hg2
    simp only [Option.some.injEq, Prod.mk.injEq] at hg2
    obtain ⟨rfl, rfl⟩ := hg2
    obtain ⟨fn2, tmps2, d2, m2, q1, q2, q3⟩ := hr2.loop_get
    obtain ⟨s1, s2⟩ := g3.turn hl hg' .busy L.pending q3
    refine ⟨_, run_beginRound q3 hst, ?_⟩
    have hT' := g4.mono s2.vl s2.pr (g3.keeps s2)
    obtain ⟨tmps', ds'⟩ := a'
    refine wpIn_mono (codeK_run hF hP g6 Γ' Pr' _ ⟨tmps', ds'⟩ s1 hT' g5) ?_
    rintro e a3 w3 ⟨ae, T3, H3, D3, Γ3, Pr3, rfl, k2, k3, k4, k5, k6⟩
    obtain ⟨o, ho, k6⟩ := nthK_iff.1 k6
    have hg3 : Γ3[l]? = some (b, n) := vl_ext k2.vl hg'
    have eAll := (g2.trans s2).trans k2
    have fin : ∀ (L3 : ALoop) (st : LoopState) (pe : Option Code) (r : AV) (rv : Value), H3[l]? = some (.loop L3) → setNthK H3 l (.loop { L3 with state := st, pending := pe }) (fun H => k r H) → (∀ Γ Pr w, RelV Γ Pr w r rv) →
        ∃ rc, w3.heap[b]? = some (.loop rc) ∧ ∃ v, (Ending.returned rv : Ending) = .returned v ∧ ∃ r H' Γ' Pr', Ext Γ Pr H w Γ' Pr' H' (w3.putObj b (.loop { rc with state := st, pending := pe })) ∧ Sim Γ' Pr' H' (w3.putObj b (.loop { rc with state := st, pending := pe })) ∧ RelV Γ' Pr' (w3.putObj b (.loop { rc with state := st, pending := pe })) r v ∧ k r H' := by
      intro L3 st pe r rv ho3 h6 hrv
      obtain ⟨b3, n3, hg4, hnp4, hr4⟩ := k3.obj l _ ho3 rfl
      rw [hg3] at hg4
      simp only [Option.some.injEq, Prod.mk.injEq] at hg4
      obtain ⟨rfl, rfl⟩ := hg4
      obtain ⟨fn4, tmps4, d4, m4, p1, p2, p3⟩ := hr4.loop_get
      obtain ⟨t1, t2⟩ := k3.turn ho3 hg3 st pe p3
      obtain ⟨_, h6⟩ := setNthK_iff.1 h6
      exact ⟨_, p3, rv, rfl, r, _, Γ3, Pr3, eAll.trans t2, t1, hrv _ _ _, h6⟩
    split at k6
    · rename_i L3
      cases ae with
      | normal =>
        obtain ⟨rc, hrc, hfin⟩ := fin L3 .ready none (.ro (.bool true)) (.bool true) ho k6 (fun _ _ _ => rfl)
        exact ⟨_, _, run_endRound none hrc, hfin⟩
      | exit id =>
        obtain ⟨rc, hrc, hfin⟩ := fin L3 .done (some (.exit id)) (.ro (.bool false)) (.bool false) ho k6 (fun _ _ _ => rfl)
        exact ⟨_, _, run_endRound (some (.exit id)) hrc, hfin⟩
      | ret =>
        obtain ⟨rc, hrc, hfin⟩ := fin L3 .done (some .ret) (.ro (.bool false)) (.bool false) ho k6 (fun _ _ _ => rfl)
        exact ⟨_, _, run_endRound (some .ret) hrc, hfin⟩
    · exact k6.elim

/-- What is done when the function that is ranged over has come back. -/
def afterK (T : Tm) (D : List Nat) (l : Nat) (K : Kont) (H : Heap) : Prop := nthK H l (fun o => match o with
  | .loop L => (match isBusy L.state with
    | true => bad 61411
    | false => setNthK H l .dead (fun H => (match L.pending with
      | none => K .normal T H D
      | some .ret => K .ret T H D
      | some (.exit id) => K (.exit id) T H D
      | _ => bad 61461)))
  | _ => bad 61471)
/-- Is it a function with a body? -/
def bodied (P : Program) (g : FuncId) : Bool := match P.funcs[g]? with
  | some fn => fn.body.isSome && !(fn.name == "runtime.NumGoroutine")
  | none => false
theorem bodied_run {g : FuncId} {vs : Array Value} {w : World} (h : bodied P g = true) : (callFunc g vs).run P w = .ok (.enter g vs) w := by
  unfold bodied at h
  cases hf : P.funcs[g]? with
  | none => rw [hf] at h; cases h
  | some fn =>
    rw [hf] at h
    simp only [Bool.and_eq_true, Bool.not_eq_true'] at h
    obtain ⟨h1, h2⟩ := h
    cases hb : fn.body with
    | none => rw [hb] at h1; cases h1
    | some c =>
      simp only [callFunc]
      rw [Sem.run_bind]
      simp [hf, hb]
      simpa using h2
def callRK (P : Program) (fv : AV) (args : List AV) (H : Heap) (k : AV → Heap → Prop) : Prop :=
  match fv with
  | .ro (.fn (.func g)) => bodied P g = true ∧ CallP P g args H k
  | .fn (.func g) first cap => bodied P g = true ∧ appK args cap (fun l => appK first l (fun l => CallP P g l H k))
  | _ => bad 61711
/-- **A loop over a function** (an outermost one): the function is called with the loop's yield function. -/
theorem AWP.range {tag : Nat} {g : Operand} {ps : Array Tmp} {as bd : Code} {T : Tm} {H : Heap} {D : List Nat} {K : Kont} (h : evK T g (fun gv => callRK P gv [.yld (H.length + 1)] (H ++ [.dfr, .loop { state := .ready, pending := none, nt := nt, T := T, params := ps, assign := as, body := bd, dl := H.length, tag := tag }])
    (fun _ H' => afterK T (H.length :: D) (H.length + 1) K H'))) : AWP P Fence.wide nt (.rangeFunc g ps as bd) T H D K := by
  constructor
  intro Γ Pr w a hs hT hD
  obtain ⟨tmps, ds⟩ := a
  obtain ⟨gv, hgv, h⟩ := evK_ok (ds := ds) hT h
  refine wpIn_rangeFunc fun fn _ => ?_
  -- the two records
  have hlen : Γ.length = H.length := hs.len
  let w1 := w.alloc (.deferred (some []))
  have hw1 : w1.heap = w.heap.push (.deferred (some [])) := rfl
  have hsz1 : w1.heap.size = w.heap.size + 1 := by rw [hw1]; simp
  obtain ⟨s1, e1⟩ := Sim.new (x := .deferred (some [])) (o := .dfr) (w' := w1) hs 0 hw1 rfl rfl rfl (show w1.heap[w.heap.size]? = some (.deferred (some [])) by rw [hw1]; simp)
  have hT1 := hT.mono e1.vl e1.pr (hs.keeps e1)
  let r : Loop := { state := .ready, pending := none, fn, tmps, params := ps, assign := as, body := bd, defers := w.heap.size }
  let w2 := w1.alloc (.loop r)
  have hw2 : w2.heap = w1.heap.push (.loop r) := rfl
  have hd2 : (Γ ++ [(w.heap.size, 0)] ++ [(w1.heap.size, 0)])[H.length]? = some (w.heap.size, 0) := by
    rw [List.getElem?_append_left (by simp; omega), ← hlen]
    simp
  have hold : ∀ c, c < w1.heap.size → w2.heap[c]? = w1.heap[c]? := by
    intro c hc; rw [hw2, Array.getElem?_push, if_neg (by omega)]
  have hl2 : RelObj (Γ ++ [(w.heap.size, 0)] ++ [(w1.heap.size, 0)]) Pr w2 w1.heap.size 0 (.loop { state := .ready, pending := none, nt := nt, T := T, params := ps, assign := as, body := bd, dl := H.length, tag := tag }) :=
    ⟨fn, tmps, w.heap.size, 0, hd2, hT1.mono ⟨_, rfl⟩ (fun _ h => h) (fun c hc => hold c (s1.prlt c hc)), by rw [hw2]; simp [r]⟩
  obtain ⟨s2, e2⟩ := Sim.new (w' := w2) s1 0 hw2 rfl rfl rfl hl2
  have e12 := e1.trans e2
  have hgl : (Γ ++ [(w.heap.size, 0)] ++ [(w1.heap.size, 0)])[H.length + 1]? = some (w1.heap.size, 0) := by
    have : (Γ ++ [(w.heap.size, 0)]).length = H.length + 1 := by simp [hlen]
    rw [← this]
    simp
  have hH : H ++ [AObj.dfr] ++ [AObj.loop { state := .ready, pending := none, nt := nt, T := T, params := ps, assign := as, body := bd, dl := H.length, tag := tag }] = H ++ [.dfr, .loop { state := .ready, pending := none, nt := nt, T := T, params := ps, assign := as, body := bd, dl := H.length, tag := tag }] := by simp
  rw [hH] at s2 e12
  have hgv2 := hgv.mono e12.vl e12.pr (hs.keeps e12)
  have hT2 := hT.mono e12.vl e12.pr (hs.keeps e12)
  have hyl : RelV (Γ ++ [(w.heap.size, 0)] ++ [(w1.heap.size, 0)]) Pr w2 (.yld (H.length + 1)) (.func (.yield (w.heap.size + 1)) #[] #[]) := ⟨w1.heap.size, 0, hgl, by rw [hsz1]⟩
  have key : ∀ (f : FuncId) (first cap : List Value) (args : List AV), Act.eval ⟨tmps, ds⟩ g = .func (.func f) first.toArray cap.toArray → bodied P f = true → RelVs (Γ ++ [(w.heap.size, 0)] ++ [(w1.heap.size, 0)]) Pr w2 args (first ++ [.func (.yield (w.heap.size + 1)) #[] #[]] ++ cap) →
      CallP P f args (H ++ [.dfr, .loop { state := .ready, pending := none, nt := nt, T := T, params := ps, assign := as, body := bd, dl := H.length, tag := tag }]) (fun _ H' => afterK T (H.length :: D) (H.length + 1) K H') →
      ∃ (l : Nat) (mark : List Deferred) (w₁ : World) (d : Deferred) (w₁' : World) (f : FuncId) (args : Array Value) (w₂ : World),
      (Instr.enterLoop fn tmps ps as bd Fence.wide.round).run P w = .ok (l, mark) w₁ ∧
      (resolve (Act.eval ⟨tmps, ds⟩) (rangeCall g l) 0).run P w₁ = .ok d w₁' ∧
      (∀ f', Target.leads P w₁' d.target d.args = some f' → Fence.wide.fn f') ∧
      (invoke d.target d.args).run P w₁' = .ok (.enter f args) w₂ ∧
      (Fence.wide.depth.isSome = true → 1 ≤ 0) ∧
      CallsIn Fence.wide (0 - 1) P f args w₂ (rangePost Fence.wide 0 P l (Post nt Γ Pr H w K) { tmps := tmps, defers := mark ++ ds }) := by
    intro f first cap args he hb hr hc
    have hrun := bodied_run (P := P) (w := w2) (vs := (first ++ [Value.func (.yield (w.heap.size + 1)) #[] #[]] ++ cap).toArray) hb
    refine ⟨w.heap.size + 1, _, w2, { target := .fn (.func f) cap.toArray, args := first.toArray ++ #[Value.func (.yield (w.heap.size + 1)) #[] #[]] }, w2, f, (first ++ [Value.func (.yield (w.heap.size + 1)) #[] #[]] ++ cap).toArray, w2, run_enterLoop_outer fn tmps ps as bd, ?_, fun _ _ => trivial, ?_, fun h => (by cases h), ?_⟩
    · simp [resolve, he, Deferred.ofValue]
      rfl
    · have e1 : first.toArray ++ #[Value.func (.yield (w.heap.size + 1)) #[] #[]] ++ cap.toArray = (first ++ [Value.func (.yield (w.heap.size + 1)) #[] #[]] ++ cap).toArray := by apply Array.ext'; simp
      simp only [invoke]
      rw [e1]
      exact hrun
    · rcases hc.run _ Pr w2 _ s2 hr with ⟨_, h2⟩ | ⟨v, w', h1, _⟩
      · refine h2.mono ?_
        rintro e w3 ⟨v, rfl, r', H', Γ', Pr', g1, g2, g3, g4⟩
        obtain ⟨o, ho, g4⟩ := nthK_iff.1 g4
        split at g4
        · rename_i L
          split at g4
          · exact g4.elim
          · rename_i hbz
            have hg' : Γ'[H.length + 1]? = some (w1.heap.size, 0) := vl_ext g1.vl hgl
            obtain ⟨b', n', hg2, hnp, hr2⟩ := g2.obj _ _ ho rfl
            rw [hg'] at hg2
            simp only [Option.some.injEq, Prod.mk.injEq] at hg2
            obtain ⟨rfl, rfl⟩ := hg2
            obtain ⟨fn3, tmps3, d3, m3, p1, p2, p3⟩ := hr2.loop_get
            obtain ⟨_, g4⟩ := setNthK_iff.1 g4
            rw [hsz1] at p3 hg'
            have hne : L.state ≠ .busy := by intro e; rw [e] at hbz; cases hbz
            obtain ⟨t1, t2⟩ := g2.drop (x := .loop { state := .exhausted, pending := L.pending, fn := fn3, tmps := tmps3, params := L.params, assign := L.assign, body := L.body, defers := d3 }) ho rfl hg'
            have eAll := (e12.trans g1).trans t2
            have hTf := hT.mono eAll.vl eAll.pr (hs.keeps eAll)
            have hDf : RelDf Γ' (H.length :: D) ({ target := .collected w.heap.size, args := #[] } :: ds) := ⟨w.heap.size, 0, ds, vl_ext g1.vl hd2, rfl, hD.ext eAll.vl⟩
            refine ⟨_, _, run_endLoop p3 hne, ?_⟩
            split at g4
            · rename_i hp
              simp only [hp] at t1 t2 eAll hTf ⊢
              exact ⟨.normal, T, _, _, Γ', Pr', rfl, eAll, t1, hTf, hDf, g4⟩
            · rename_i hp
              simp only [hp] at t1 t2 eAll hTf ⊢
              exact wpIn_ret ⟨.ret, T, _, _, Γ', Pr', rfl, eAll, t1, hTf, hDf, g4⟩
            · rename_i id hp
              simp only [hp] at t1 t2 eAll hTf ⊢
              exact wpIn_exit ⟨.exit id, T, _, _, Γ', Pr', rfl, eAll, t1, hTf, hDf, g4⟩
            · exact g4.elim
        · exact g4.elim
      · rw [hrun] at h1
        cases h1
  unfold callRK at h
  split at h
  · obtain ⟨hb, h⟩ := h
    exact key _ [] [] _ hgv hb (show RelVs _ Pr w2 [.yld (H.length + 1)] [.func (.yield (w.heap.size + 1)) #[] #[]] from ⟨_, _, rfl, hyl, rfl⟩) h
  · obtain ⟨hb, h⟩ := h
    obtain ⟨fs, cs, he, hfs, hcs⟩ := hgv2
    have h := appK_iff.1 h
    have h := appK_iff.1 h
    refine key _ fs cs _ he hb ?_ h
    have := relVs_append hfs (relVs_append (show RelVs _ Pr w2 [.yld (H.length + 1)] [.func (.yield (w.heap.size + 1)) #[] #[]] from ⟨_, _, rfl, hyl, rfl⟩) hcs)
    simpa [List.append_assoc] using this
  · exact h.elim
end
end Go.Ab
