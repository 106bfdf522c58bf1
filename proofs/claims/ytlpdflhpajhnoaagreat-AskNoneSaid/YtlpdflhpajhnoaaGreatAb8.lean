/- The abstract layer, part 8: append and copy. -/
import Derived.Test.YtlpdflhpajhnoaaGreatAb7
namespace Go.Ab

section
variable {P : Program} {tt : TyT} {Γ : VL} {Pr : Nat → Prop} {H : Heap} {w : World} {T : Tm} {tmps : Array Value} {ds : List Deferred} {nt : Nat}

theorem Sim.sameHeap {w' : World} (hs : Sim Γ Pr H w) (h : w'.heap = w.heap) : Sim Γ Pr H w' :=
  ⟨hs.len, fun i o hi hd => let ⟨b, n, h1, h2, h3⟩ := hs.obj i o hi hd; ⟨b, n, h1, h2, h3.mono ⟨[], by simp⟩ (fun _ h => h) (fun _ _ => by rw [h]) (by rw [h])⟩, hs.inj, fun b hb => by rw [h]; exact hs.prlt b hb⟩
theorem RelV.sameHeap {w' : World} {a : AV} {v : Value} (hr : RelV Γ Pr w a v) (h : w'.heap = w.heap) : RelV Γ Pr w' a v := hr.mono ⟨[], by simp⟩ (fun _ h => h) (fun _ _ => by rw [h])

theorem growBy_le (n : Nat) : ∀ (r c : Nat), 256 ≤ n → c ≤ 2 * n → Builtin.growBy n r c ≤ 2 * n
  | 0, c, _, h => by simpa [Builtin.growBy] using h
  | r + 1, c, hn, h => by
    simp only [Builtin.growBy]
    split
    · exact h
    · exact growBy_le n r _ hn (by omega)
theorem nextslicecap_le {need old : Nat} (h : old < need) : Builtin.nextslicecap need old ≤ 2 * need := by
  unfold Builtin.nextslicecap
  split
  · omega
  · split
    · omega
    · exact growBy_le need 4 old (by omega) (by omega)

structure App (P : Program) (t e esz eb : Nat) (ez : List RD) (t' : Nat) : Prop where
  und : P.underlying t = some (.slice e)
  el : elemOK P e esz eb ez
  snd : ∃ u, P.underlying t' = some u ∧ ∀ k, u ≠ .int k
theorem zeroCells_size (z : Array Value) (n : Nat) : (Builtin.zeroCells z n).size = n * z.size := by simp [Builtin.zeroCells]
/-- An append beyond the room. -/
theorem run_append_grow {t e esz eb t' rt : Nat} {ez : List RD} (ha : App P t e esz eb ez t') {A : Option Addr} {len c n : Nat} {vx : Value} {old new : List Value} (hn : (Builtin.lenOf vx).run P w = .ok n w) (hc : c < len + n) (hb : (len + n) * eb ≤ 2 ^ 46)
    (ho : ∀ w', w'.heap = w.heap → (Builtin.firstCells esz len (.slice A len c)).run P w' = .ok old.toArray w') (hx : ∀ w', w'.heap = w.heap → (Builtin.firstCells esz n vx).run P w' = .ok new.toArray w') (hol : old.length = len * esz) (hnl : new.length = n * esz) :
    ∃ (nc : Nat) (rest : Array Value) (w' : World), (Builtin.append_ #[t, t'] rt #[.slice A len c, vx]).run P w = .ok (.slice (some ⟨w.heap.size, 0, none⟩) (len + n) nc) w' ∧ len + n ≤ nc ∧ w'.heap = w.heap.push (.cells (old.toArray ++ new.toArray ++ rest) e) ∧
      w'.os = w.os ∧ w'.tape = w.tape ∧ w'.output = w.output ∧ (old.toArray ++ new.toArray ++ rest).size = nc * esz := by
  obtain ⟨hu, ⟨ie, z, hie, hse, heb, hz, hzs, hel, hpos, hbpos⟩, u, hu', hni⟩ := ha
  let w1 : World := { w with drawn := w.drawn + 1 }
  let q : Question := .appendCap (len + n) c e
  let nc := q.cut (w.tape w.drawn q)
  have hnc : len + n ≤ nc := by show len + n ≤ len + n + _; omega
  have hse' : ∀ w, (sizeOf e).run P w = .ok esz w := fun w => by simp [sizeOf, typeInfo, hie, hse]
  have hti : ∀ w, (typeInfo e).run P w = .ok ie w := fun w => by simp [typeInfo, hie]
  have hzr : ∀ w, (zeroValue e).run P w = .ok z w := fun w => by simp [zeroValue, typeInfo, hie, hz]
  have hncap : ¬ Builtin.nextslicecap (len + n) c * eb > 2 ^ 48 := by
    have h1 := mulle (c := eb) (nextslicecap_le hc)
    rw [Nat.mul_assoc] at h1
    omega
  have hzl := zsOK_length hzs
  simp only [Array.length_toList] at hzl
  have hneed : ¬ len + n ≤ c := by omega
  have ho1 := ho w1 rfl
  have hx1 := hx w1 rfl
  refine ⟨nc, Builtin.zeroCells z.cells (nc - (len + n)), { w1 with heap := w1.heap.push (.cells (old.toArray ++ new.toArray ++ Builtin.zeroCells z.cells (nc - (len + n))) e) }, ?_, hnc, rfl, rfl, rfl, rfl, ?_⟩
  · have hch : (choose (.appendCap (len + n) c e)).run P w = .ok nc w1 := by simp [Question.forced, w1, nc, q]
    unfold Builtin.append_
    simp only [List.getElem?_toArray, List.getElem?_cons_zero, List.getElem?_cons_succ]
    rw [Sem.run_bind, run_underlying' hu, Result.andThen_ok]
    dsimp only
    rw [Sem.run_bind, hse', Result.andThen_ok, Sem.run_bind, run_underlying' hu', Result.andThen_ok, Sem.run_bind, Sem.run_pure, Result.andThen_ok]
    split
    · exact absurd rfl (hni _)
    · rw [if_neg (by simp), Sem.run_bind, hn, Result.andThen_ok, if_neg hneed, Sem.run_bind, hti, Result.andThen_ok, if_neg (by simp; omega)]
      rw [Sem.run_bind, hti, Result.andThen_ok, heb, if_neg hncap]
      rw [Sem.run_bind, hch, Result.andThen_ok, Sem.run_bind, hti, Result.andThen_ok, Sem.run_bind, run_askRoom, Result.andThen_ok, Sem.run_bind, ho1, Result.andThen_ok]
      rw [Sem.run_bind, if_pos (by rfl), hx1, Result.andThen_ok, Sem.run_bind, hzr, Result.andThen_ok, Sem.run_bind, newRow_run, Result.andThen_ok, Sem.run_pure]
  · simp [zeroCells_size, hol, hnl, hzl, ← hel]
    rw [← Nat.add_mul, ← Nat.add_mul]
    congr 1
    omega
/-- An append within the room. -/
theorem run_append_room {t e esz eb t' rt : Nat} {ez : List RD} (ha : App P t e esz eb ez t') {b off len c n : Nat} {vx : Value} {new : List Value} {w' : World} (hn : (Builtin.lenOf vx).run P w = .ok n w) (hc : len + n ≤ c)
    (hx : (Builtin.firstCells esz n vx).run P w = .ok new.toArray w) (hst : (storeCells ⟨b, off + len * esz, none⟩ new).run P w = .ok () w') :
    (Builtin.append_ #[t, t'] rt #[.slice (some ⟨b, off, none⟩) len c, vx]).run P w = .ok (.slice (some ⟨b, off, none⟩) (len + n) c) w' := by
  obtain ⟨hu, ⟨ie, z, hie, hse, heb, hz, hzs, hel, hpos, hbpos⟩, u, hu', hni⟩ := ha
  have hse' : ∀ w, (sizeOf e).run P w = .ok esz w := fun w => by simp [sizeOf, typeInfo, hie, hse]
  unfold Builtin.append_
  simp only [List.getElem?_toArray, List.getElem?_cons_zero, List.getElem?_cons_succ]
  rw [Sem.run_bind, run_underlying' hu, Result.andThen_ok]
  dsimp only
  rw [Sem.run_bind, hse', Result.andThen_ok, Sem.run_bind, run_underlying' hu', Result.andThen_ok, Sem.run_bind, Sem.run_pure, Result.andThen_ok]
  split
  · exact absurd rfl (hni _)
  · rw [if_neg (by simp), Sem.run_bind, hn, Result.andThen_ok, if_pos hc, Sem.run_bind, if_pos (by rfl), hx, Result.andThen_ok]
    dsimp only
    rw [add_plain, Sem.run_bind, hst, Result.andThen_ok, Sem.run_pure]
/-- An append of nothing to a slice whose room is used up. -/
theorem run_append_none {t e esz eb t' rt : Nat} {ez : List RD} (ha : App P t e esz eb ez t') {A : Option Addr} {len c : Nat} {vx : Value} (hn : (Builtin.lenOf vx).run P w = .ok 0 w) (hc : len ≤ c)
    (hx : (Builtin.firstCells esz 0 vx).run P w = .ok #[] w) :
    (Builtin.append_ #[t, t'] rt #[.slice A len c, vx]).run P w = .ok (.slice A len c) w := by
  obtain ⟨hu, ⟨ie, z, hie, hse, heb, hz, hzs, hel, hpos, hbpos⟩, u, hu', hni⟩ := ha
  have hse' : ∀ w, (sizeOf e).run P w = .ok esz w := fun w => by simp [sizeOf, typeInfo, hie, hse]
  unfold Builtin.append_
  simp only [List.getElem?_toArray, List.getElem?_cons_zero, List.getElem?_cons_succ]
  rw [Sem.run_bind, run_underlying' hu, Result.andThen_ok]
  dsimp only
  rw [Sem.run_bind, hse', Result.andThen_ok, Sem.run_bind, run_underlying' hu', Result.andThen_ok, Sem.run_bind, Sem.run_pure, Result.andThen_ok]
  split
  · exact absurd rfl (hni _)
  · rw [if_neg (by simp), Sem.run_bind, hn, Result.andThen_ok, if_pos (by omega), Sem.run_bind, if_pos (by rfl), hx, Result.andThen_ok]
    cases A <;> simp [storeCells]

theorem relVs_take {as : List AV} {vs : List Value} (h : RelVs Γ Pr w as vs) (n : Nat) : RelVs Γ Pr w (as.take n) (vs.take n) := by
  have hl := relVs_length h
  refine relVs_of_get (by simp [hl]) fun i a hi => ?_
  rw [List.getElem?_take] at hi ⊢
  split at hi
  · rename_i h1; rw [if_pos h1]; exact relVs_get h i a hi
  · cases hi
/-- A row that has grown into new memory. -/
theorem fin_grow (hs : Sim Γ Pr H w) {e esz L nc : Nat} {old new : List Value} {rest : Array Value} {w' : World} {as : List AV} {s : Sem Value} {k : AV → Heap → Prop} (hrun : s.run P w = .ok (.slice (some ⟨w.heap.size, 0, none⟩) L nc) w') (hL : L ≤ nc)
    (hw : w'.heap = w.heap.push (.cells (old.toArray ++ new.toArray ++ rest) e)) (hos : w'.os = w.os) (hta : w'.tape = w.tape) (hou : w'.output = w.output) (hsz : (old.toArray ++ new.toArray ++ rest).size = nc * esz)
    (hr : RelVs Γ Pr w as (old ++ new)) (hk : k (.sl esz H.length 0 L none) (H ++ [.cells e as])) : Fin P Γ Pr H w s k := by
  have hl := relVs_length hr
  obtain ⟨s1, s2⟩ := sim_new hs hw hos hta hou (as := as) (by simp only [Array.size_append, List.size_toArray]; simp at hl; omega) (fun j a hj => by
    obtain ⟨v, hv, hrv⟩ := relVs_get hr j a hj
    refine ⟨v, ?_, hrv⟩
    have hlt := (List.getElem?_eq_some_iff.1 hv).1
    rw [Array.getElem?_append_left (by simpa using hlt)]
    have e : old.toArray ++ new.toArray = (old ++ new).toArray := by simp
    rw [e]; simpa using hv)
  exact ⟨_, w', _, _, _, _, hrun, s2, s1, mkSlice hs hL (by omega) (fun c0 hc => by cases hc), hk⟩
theorem appendK_ok (hP : TyOK P tt) (hs : Sim Γ Pr H w) {t t' rt : Nat} (ht' : ∃ u, P.underlying t' = some u ∧ ∀ k, u ≠ .int k) {s x : AV} {vs vx : Value} {k : AV → Heap → Prop} (hsv : RelV Γ Pr w s vs) (hx : RelV Γ Pr w x vx) (h : appendK tt H t s x k) :
    Fin P Γ Pr H w (Builtin.append_ #[t, t'] rt #[vs, vx]) k := by
  unfold appendK at h
  split at h
  · rename_i e esz eb ez hd
    obtain ⟨u, hu, _, rfl, he⟩ := (hP t _ hd).und
    have hpos : 0 < esz := by obtain ⟨_, _, _, _, _, _, _, _, hp, _⟩ := he; exact hp
    have hA : App P t e esz eb ez t' := ⟨hu, he, ht'⟩
    have hc0 := cellsFromK_ok (P := P) hs hpos hx h
    clear h
    obtain ⟨n, as, nvs, hn, hrel, hnl, hfc, h⟩ := hc0
    have hfc' : ∀ w', w'.heap = w.heap → (Builtin.firstCells esz n vx).run P w' = .ok nvs.toArray w' := by
      intro w' hw'
      have := hfc w' hw' n (Nat.le_refl _)
      rwa [← hnl, List.take_length] at this
    have hfcn : (Builtin.firstCells esz n vx).run P w = .ok nvs.toArray w := hfc' w rfl
    have hal := relVs_length hrel
    split at h
    · rename_i sz cs c
      obtain ⟨hg, hh⟩ := guardP_iff.1 h
      clear h
      simp only [Bool.and_eq_true, beq_iff_eq, decide_eq_true_eq] at hg
      obtain ⟨⟨hsz, hcl⟩, hb⟩ := hg
      have hsv0 := hsv
      have hsv := relD_sz hsz hsv
      have hsv' := hsv
      obtain ⟨A, m, c', rfl, hm, hmc, hcc, hAd⟩ := hsv
      obtain rfl : c' = c := hcc c rfl
      obtain rfl : m = c' := Nat.eq_of_mul_eq_mul_right hpos (hm.trans hcl.symm)
      split at hh
      · rename_i hd0
        simp only [decide_eq_true_eq] at hd0
        subst hd0
        exact Fin.same hs (run_append_none hA hn (Nat.le_refl _) (by simpa using hfc w rfl 0 (Nat.le_refl _))) hsv0 hh
      · rename_i hd0
        simp only [decide_eq_false_iff_not] at hd0
        have hh := newK_iff.1 (appK_iff.1 (mapK_iff.1 hh))
        obtain ⟨n2, as2, ovs, hn2, hrel2, hol, hfo, e1, e2⟩ := cellsFromK_ok (P := P) hs hpos (k := fun n2 as2 => n2 = m ∧ as2 = cs.map AV.ro) hsv' (by
          unfold cellsFromK
          refine guardP_iff.2 ⟨szOK_self, mapK_iff.2 ⟨?_, rfl⟩⟩
          rw [← hcl]; exact Nat.mul_div_cancel _ hpos)
        subst e1 e2
        have hfo' : ∀ w', w'.heap = w.heap → (Builtin.firstCells esz n2 (.slice A n2 n2)).run P w' = .ok ovs.toArray w' := by
          intro w' hw'
          have := hfo w' hw' n2 (Nat.le_refl _)
          rwa [← hol, List.take_length] at this
        obtain ⟨nc, rest, w', hrun, hnc, hw, h1, h2, h3, h4⟩ := run_append_grow (rt := rt) hA hn (by omega) hb hfo' hfc' hol hnl
        exact fin_grow hs hrun hnc hw h1 h2 h3 h4 (relVs_append hrel2 hrel) hh
    · rename_i sz id off len c
      have hg0 := guardP_iff.1 h
      clear h
      obtain ⟨hg, h⟩ := hg0
      simp only [Bool.and_eq_true, beq_iff_eq, decide_eq_true_eq] at hg
      obtain ⟨rfl, hb⟩ := hg
      have hsv' := hsv
      obtain ⟨b, N, c', hg, rfl, hlc, hroom, hcc⟩ := hsv
      obtain rfl : c' = c := hcc c rfl
      split at h
      · rename_i hd0
        simp only [decide_eq_true_eq] at hd0
        obtain ⟨hsc, h⟩ := guardP_iff.1 h
        obtain ⟨T', cs, b', n', hH, hg', hr, h⟩ := sim_cells hs h
        rw [hg] at hg'
        simp only [Option.some.injEq, Prod.mk.injEq] at hg'
        obtain ⟨rfl, rfl⟩ := hg'
        obtain ⟨hl, h⟩ := storeK_of h
        obtain ⟨_, h⟩ := setNthK_iff.1 h
        obtain ⟨w', hst, s1, s2, _⟩ := sim_store (P := P) hs hH hg hr hrel hsc hl
        have hv : RelV Γ Pr w' (.sl sz id off (len + n) (some c')) (.slice (some ⟨b, off, none⟩) (len + n) c') := ⟨b, N, c', hg, rfl, hd0, hroom, hcc⟩
        exact ⟨_, w', _, _, _, _, run_append_room (rt := rt) hA hn hd0 hfcn hst, s2, s1, hv, h⟩
      · rename_i hd0
        simp only [decide_eq_false_iff_not] at hd0
        obtain ⟨T', cs, b', n', hH, hg', hr, h⟩ := sim_cells hs h
        obtain ⟨hl1, h⟩ := dropK_iff.1 h
        obtain ⟨hl2, h⟩ := takeK_iff.1 h
        have h := newK_iff.1 (appK_iff.1 h)
        obtain ⟨n2, as2, ovs, hn2, hrel2, hol, hfo, e1, e2⟩ := cellsFromK_ok (P := P) hs hpos (k := fun n2 as2 => n2 = len ∧ as2 = (cs.drop off).take (len * sz)) hsv' (by
          unfold cellsFromK
          exact guardP_iff.2 ⟨by simp, nthK_iff.2 ⟨_, hH, dropK_iff.2 ⟨hl1, takeK_iff.2 ⟨hl2, rfl, rfl⟩⟩⟩⟩)
        subst e1 e2
        have hfo' : ∀ w', w'.heap = w.heap → (Builtin.firstCells sz n2 (.slice (some ⟨b, off, none⟩) n2 c')).run P w' = .ok ovs.toArray w' := by
          intro w' hw'
          have := hfo w' hw' n2 (Nat.le_refl _)
          rwa [← hol, List.take_length] at this
        obtain ⟨nc, rest, w', hrun, hnc, hw, h1, h2, h3, h4⟩ := run_append_grow (rt := rt) hA hn (by omega) hb hfo' hfc' hol hnl
        exact fin_grow hs hrun hnc hw h1 h2 h3 h4 (relVs_append hrel2 hrel) h
    · rename_i sz id off len
      have hg0 := guardP_iff.1 h
      clear h
      obtain ⟨hg, h⟩ := hg0
      simp only [Bool.and_eq_true, beq_iff_eq, decide_eq_true_eq] at hg
      obtain ⟨⟨⟨rfl, rfl⟩, hb⟩, hsc⟩ := hg
      have hsv' := hsv
      obtain ⟨b, N, c, hg, rfl, hlc, hroom, _⟩ := hsv
      obtain ⟨T', cs, b', n', hH, hg', hr, h⟩ := sim_cells hs h
      rw [hg] at hg'
      simp only [Option.some.injEq, Prod.mk.injEq] at hg'
      obtain ⟨rfl, rfl⟩ := hg'
      have hg0 := guardP_iff.1 h
      clear h
      obtain ⟨hgd, h⟩ := hg0
      simp only [Bool.and_eq_true, beq_iff_eq, decide_eq_true_eq] at hgd
      obtain ⟨rfl, hcl⟩ := hgd
      obtain ⟨_, h⟩ := setNthK_iff.1 h
      have h := newK_iff.1 (appK_iff.1 h)
      by_cases hd0 : len + n ≤ c
      · have hr' := hr
        obtain ⟨ca, hbk, hcs, hcln, hrr⟩ := hr
        have hlen := relVs_length hrel
        have hroom' : len * sz + n * sz ≤ ca.size := by
          have := mulle (c := sz) hd0
          rw [Nat.add_mul] at this
          omega
        have hrun := run_storeCells' (P := P) (b := b) nvs w ca (len * sz) 0 hbk (by omega) (relVs_scal hrel hsc)
        have hblt : b < w.heap.size := (Array.getElem?_eq_some_iff.1 hbk).1
        let w' := w.putObj b (.cells (putA ca (len * sz) nvs) T' (0, 0))
        have hw' : (if nvs = [] then w else w.putObj b (.cells (putA ca (len * sz + 0) nvs) T' (0, 0))) = w' := by
          split
          · rename_i e; subst e; exact (putObj_eq_self hbk).symm
          · rfl
        rw [hw'] at hrun
        have hnp : ¬ Pr b := by
          obtain ⟨b', n', hg', hp, _⟩ := hs.obj id _ hH rfl
          rw [hg] at hg'
          simp only [Option.some.injEq, Prod.mk.injEq] at hg'
          exact hg'.1 ▸ hp
        have hkp : ∀ b', Pr b' → w'.heap[b']? = w.heap[b']? := fun b' hb' => World.putObj_heap_other (fun e => hnp (e ▸ hb'))
        have hobj : RelObj (Γ ++ [(b, N)]) Pr w' b N (.cells T' (cs ++ as)) := by
          refine ⟨_, World.putObj_heap_same hblt, by rw [putA_size]; exact hcs, by simp; omega, fun j a hj => ?_⟩
          rw [putA_get _ _ _ _ (by omega)]
          rcases Nat.lt_or_ge j cs.length with h1 | h1
          · rw [List.getElem?_append_left h1] at hj
            rw [if_pos (by omega)]
            obtain ⟨v, hv, hrv⟩ := hrr j a hj
            exact ⟨v, hv, hrv.mono ⟨_, rfl⟩ (fun _ h => h) hkp⟩
          · rw [List.getElem?_append_right h1] at hj
            rw [if_neg (by omega)]
            obtain ⟨v, hv, hrv⟩ := relVs_get hrel _ a hj
            have hlt := (List.getElem?_eq_some_iff.1 hv).1
            rw [if_pos (by omega)]
            exact ⟨v, by rw [← hcl]; exact hv, hrv.mono ⟨_, rfl⟩ (fun _ h => h) hkp⟩
        obtain ⟨s1, s2⟩ := Sim.again hs hH rfl hg (o' := .cells T' (cs ++ as)) rfl hobj
        have hst : (storeCells ⟨b, 0 + len * sz, none⟩ nvs).run P w = .ok () w' := by rw [Nat.zero_add]; exact hrun
        have hv : RelV (Γ ++ [(b, N)]) Pr w' (.sl sz (H.set id .dead).length 0 (len + n) none) (.slice (some ⟨b, 0, none⟩) (len + n) c) := ⟨b, N, c, by rw [List.length_set]; exact vl_last hs _, rfl, hd0, hroom, fun c0 hc => by cases hc⟩
        exact ⟨_, w', _, _, _, _, run_append_room (rt := rt) hA hn hd0 hfcn hst, s2, s1, hv, h⟩
      · obtain ⟨n2, as2, ovs, hn2, hrel2, hol, hfo, e1, e2⟩ := cellsFromK_ok (P := P) hs hpos (k := fun n2 as2 => n2 = len ∧ as2 = cs) hsv' (by
          unfold cellsFromK
          refine guardP_iff.2 ⟨by simp, nthK_iff.2 ⟨_, hH, dropK_iff.2 ⟨Nat.zero_le _, takeK_iff.2 ⟨by simp; omega, rfl, ?_⟩⟩⟩⟩
          rw [List.drop_zero, ← hcl, List.take_length])
        subst e1 e2
        have hfo' : ∀ w', w'.heap = w.heap → (Builtin.firstCells sz n2 (.slice (some ⟨b, 0, none⟩) n2 c)).run P w' = .ok ovs.toArray w' := by
          intro w' hw'
          have := hfo w' hw' n2 (Nat.le_refl _)
          rwa [← hol, List.take_length] at this
        obtain ⟨nc, rest, w', hrun, hnc, hw, h1, h2, h3, h4⟩ := run_append_grow (rt := rt) hA hn (by omega) hb hfo' hfc' hol hnl
        obtain ⟨k1, k2⟩ := hs.kill id
        obtain ⟨v, w'', a, H', Γ', Pr', r1, r2, r3, r4, r5⟩ := fin_grow k1 hrun hnc hw h1 h2 h3 h4 (relVs_append hrel2 hrel) h
        exact ⟨v, w'', a, H', Γ', Pr', r1, k2.trans r2, r3, r4, r5⟩
    · exact h.elim
  · exact h.elim
end
end Go.Ab
