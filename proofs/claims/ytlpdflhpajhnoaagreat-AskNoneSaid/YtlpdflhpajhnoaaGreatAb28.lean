/- The abstract layer, part 28: a region that draws its order, by a plan: every order. -/
import Derived.Test.YtlpdflhpajhnoaaGreatAb27
namespace Go.Ab

section
variable {P : Program} {F : Fence} {nt : Nat} {tt : TyT} {conc : Bool} {rec : Rec} {L : List Oper} {B : List Nat} {lz : Nat} {ops : Array Oper} {Q : Exit → Act → World → Prop} {k : Tm → Heap → Prop}

theorem findPend {H : Heap} {k : Prop} {L : List Oper} {i : Nat} : ∀ {pend : PendA},
    (@List.rec (Nat × Oper × Tm × AV) (fun _ => Prop) False (fun x _ ih2 => if x.1 = i then wantedK L x.2.1 x.2.2.1 (opA tt conc x.2.1 x.2.2.1 H (fun v' _ => sameK conc x.2.2.2 v' k)) k else ih2) pend) →
    ∃ x ∈ pend, x.1 = i ∧ wantedK L x.2.1 x.2.2.1 (opA tt conc x.2.1 x.2.2.1 H (fun v' _ => sameK conc x.2.2.2 v' k)) k
  | [], h => h.elim
  | x :: r, h => by
    by_cases e : x.1 = i
    · have h : (if x.1 = i then wantedK L x.2.1 x.2.2.1 (opA tt conc x.2.1 x.2.2.1 H (fun v' _ => sameK conc x.2.2.2 v' k)) k else _) := h
      rw [if_pos e] at h
      exact ⟨x, by simp, e, h⟩
    · have h : (if x.1 = i then wantedK L x.2.1 x.2.2.1 (opA tt conc x.2.1 x.2.2.1 H (fun v' _ => sameK conc x.2.2.2 v' k)) k else _) := h
      rw [if_neg e] at h
      obtain ⟨y, h1, h2, h3⟩ := findPend h
      exact ⟨y, by simp [h1], h2, h3⟩
theorem sameK_mk {v v' : AV} {k k' : Prop} (h : sameK conc v v' k) (hk : k → k') : sameK conc v v' k' := by
  unfold sameK at h ⊢
  cases conc with
  | true => obtain ⟨h1, h2⟩ := guardP_iff.1 h; exact guardP_iff.2 ⟨h1, hk h2⟩
  | false => exact ⟨h.1, hk h.2⟩
theorem recheckA_of {H Hr : Heap} {pend : PendA} (hnd : (pend.map (·.1)).Nodup) (hgood : ∀ x ∈ pend, isRead x.2.1.op = true ∧ detOp tt x.2.1.op = true) : ∀ {rs : List Nat} {k : Prop}, recheckA tt conc L rs pend H k →
    k ∧ ∀ x ∈ pend, x.1 ∈ rs → readK L tt x.2.1 x.2.2.1 Hr (fun v' => v' = x.2.2.2) → readK L tt x.2.1 x.2.2.1 H (fun v' => v' = x.2.2.2)
  | [], k, h => ⟨h, fun x _ hx => by simp at hx⟩
  | i :: rs, k, h => by
    obtain ⟨x, hx, rfl, hw⟩ := findPend (show (@List.rec (Nat × Oper × Tm × AV) (fun _ => Prop) False (fun x _ ih2 => if x.1 = i then wantedK L x.2.1 x.2.2.1 (opA tt conc x.2.1 x.2.2.1 H (fun v' _ => sameK conc x.2.2.2 v' (recheckA tt conc L rs pend H k))) (recheckA tt conc L rs pend H k) else ih2) pend) from h)
    have huniq : ∀ y ∈ pend, y.1 = x.1 → y = x := by
      intro y hy e
      obtain ⟨a, ha, rfl⟩ := List.getElem_of_mem hy
      obtain ⟨b, hb, rfl⟩ := List.getElem_of_mem hx
      have : a = b := by
        exact nodup_inj hnd (i := a) (j := b) (x := pend[b].1) (by simp [ha, e]) (by simp [hb])
      subst this
      rfl
    have hg := hgood x hx
    have hstep : recheckA tt conc L rs pend H k ∧ (readK L tt x.2.1 x.2.2.1 Hr (fun v' => v' = x.2.2.2) → readK L tt x.2.1 x.2.2.1 H (fun v' => v' = x.2.2.2)) := by
      rcases wantedK_cases L x.2.1 x.2.2.1 with e | e | e
      · have h := opA_opK ((e _ _).1 hw)
        obtain ⟨v', h1, h2⟩ := opK_dm hg.1 hg.2 _ h
        obtain ⟨e1, h3⟩ := sameK_of h1
        exact ⟨h3, fun _ => (e _ _).2 (h2 (fun v' => v' = x.2.2.2) e1)⟩
      · exact ⟨(e _ _).1 hw, fun h => (e _ _).2 ((e _ _).1 h)⟩
      · exact (e _ _ hw).elim
    obtain ⟨h1, h2⟩ := recheckA_of hnd hgood hstep.1
    refine ⟨h1, fun y hy hyr => ?_⟩
    rcases List.mem_cons.1 hyr with e | hr
    · rw [huniq y hy e]; exact hstep.2
    · exact h2 y hy hr

/-- What is known in whatever order. -/
structure KnowP (L : List Oper) (B : List Nat) (lz : Nat) (nt : Nat) (tt : TyT) (conc : Bool) (rec : Rec) (k : Tm → Heap → Prop) (Γ₀ : VL) (Pr₀ : Nat → Prop) (H₀ : Heap) (w₀ : World) (T₀ : Tm) (ds : List Deferred) (S : Nat → Bool) (a : Act) (w : World) : Prop where
  can : ∃ p D T H pend pl vs g Γ Pr hb, CanP L B lz nt tt conc rec k T₀ p (opts p) D T H H pend pl vs S ∧ isWait p = true ∧ Ext Γ₀ Pr₀ H₀ w₀ Γ Pr H w ∧ Sim Γ Pr H w ∧ RelT Γ Pr w nt T (Act.tmps g) ∧ (∀ t, RelV Γ Pr w (valN L vs S T₀ t L.length) (a.tmps.getD t undef)) ∧ HidP L lz nt tt Γ Pr H w w₀.heap.size D S hb a.tmps
  closed : Closed B S
  size : a.tmps.size = nt
  defers : a.defers = ds

/-- What may be done next. -/
theorem waits_of {p : Pl} {os : List Nat} : ∀ {D : Nat} {pl : List Nat}, isWait p = true → okPl tt L B lz L.length p D pl os = true → ∀ j, j < L.length → D.testBit j = false → lz.testBit j = false → (∀ i, bef B i j = true → D.testBit i = true ∨ lz.testBit i = true) → j ∈ os := by
  have key : ∀ {D D' : Nat}, (∀ i, D'.testBit i = true → D.testBit i = true ∨ lz.testBit i = true) → allI (waitI B lz D' os) L.length = true → ∀ j, j < L.length → D'.testBit j = false → lz.testBit j = false → (∀ i, bef B i j = true → D.testBit i = true ∨ lz.testBit i = true) → (∀ i, D.testBit i = true → D'.testBit i = true) → j ∈ os := by
    intro D D' _ h j hj h1 h2 h3 h4
    have := allI_iff.1 h j hj
    unfold waitI at this
    simp only [h1, h2, Bool.false_or, Bool.or_false, Bool.or_eq_true, Bool.not_eq_true'] at this
    rcases this with h | h
    · simpa using h
    · exfalso
      have : subM (B.getD j 0) (Nat.lor D' lz) = true := subM_iff.2 fun i hi => by
        rw [testBit_lor']
        rcases h3 i hi with h | h
        · rw [h4 i h]; rfl
        · rw [h]; simp
      rw [this] at h
      cases h
  -- the mask may have grown by allocations
  have gen : ∀ {q : Pl} {D₀ D : Nat} {pl : List Nat}, isWait q = true → (∀ i, D₀.testBit i = true → D.testBit i = true) → (∀ i, D.testBit i = true → D₀.testBit i = true ∨ lz.testBit i = true) → okPl tt L B lz L.length q D pl os = true → ∀ j, j < L.length → D₀.testBit j = false → lz.testBit j = false → (∀ i, bef B i j = true → D₀.testBit i = true ∨ lz.testBit i = true) → j ∈ os := by
    intro q
    induction q with
    | done =>
      intro D₀ D pl _ h1 h2 ok j hj h3 h4 h5
      simp only [okPl] at ok
      rcases h2 j (allI_iff.1 ok j hj) with h | h <;> simp_all
    | rd => intro _ _ _ h; cases h
    | rp => intro _ _ _ h; cases h
    | ef i rs q _ =>
      intro D₀ D pl _ h1 h2 ok j hj h3 h4 h5
      simp only [okPl, Bool.and_eq_true] at ok
      obtain ⟨⟨⟨⟨_, h6⟩, _⟩, _⟩, _⟩ := ok
      have hDj : D.testBit j = false := by
        cases h : D.testBit j with
        | false => rfl
        | true => rcases h2 j h with h | h <;> simp_all
      exact key h2 h6 j hj hDj h4 h5 h1
    | br a b iha ihb =>
      intro D₀ D pl hw h1 h2 ok j hj h3 h4 h5
      simp only [okPl, Bool.and_eq_true] at ok
      exact iha ok.1.1.1 h1 h2 ok.1.2 j hj h3 h4 h5
    | al i q ih =>
      intro D₀ D pl hw h1 h2 ok j hj h3 h4 h5
      simp only [okPl, Bool.and_eq_true, Bool.not_eq_true'] at ok
      obtain ⟨⟨⟨⟨_, g2⟩, g3⟩, g4⟩, g5⟩ := ok
      have hwq : isWait q = true := by cases q <;> first | rfl | simp [tgt] at g4
      refine ih hwq (fun i h => ?_) (fun x h => ?_) g5 j hj h3 h4 h5
      · rw [bit_add, h1 i h]; rfl
      · rw [bit_add] at h
        rcases Bool.or_eq_true_iff.1 h with h | h
        · exact h2 x h
        · have : i = x := by simpa using h
          exact .inr (this ▸ g2)
  intro D pl hw ok
  exact gen hw (fun _ h => h) (fun _ h => .inl h) ok
theorem opts_eff {p : Pl} : ∀ {D : Nat} {pl os : List Nat}, okPl tt L B lz L.length p D pl os = true → ∀ i ∈ opts p, readAt L i = false := by
  induction p with
  | done => intro _ _ _ _ i h; simp [opts] at h
  | rd => intro _ _ _ _ i h; simp [opts] at h
  | rp => intro _ _ _ _ i h; simp [opts] at h
  | ef j rs q _ =>
    intro D pl os ok i h
    simp only [okPl, Bool.and_eq_true, Bool.not_eq_true'] at ok
    have : i = j := by simpa [opts] using h
    subst this
    exact ok.1.1.1.1.1.2
  | br a b iha ihb =>
    intro D pl os ok i h
    simp only [okPl, Bool.and_eq_true] at ok
    simp only [opts, List.mem_append] at h
    rcases h with h | h
    · exact iha ok.1.2 i h
    · exact ihb ok.2 i h
  | al j q ih =>
    intro D pl os ok i h
    simp only [okPl, Bool.and_eq_true] at ok
    exact ih ok.2 i (by simpa [opts] using h)
theorem Sim.grow {Γ : VL} {Pr : Nat → Prop} {H : Heap} {w : World} {x : Obj} (hs : Sim Γ Pr H w) : Sim Γ Pr H { w with heap := w.heap.push x } ∧ Ext Γ Pr H w Γ Pr H { w with heap := w.heap.push x } := by
  have hold : ∀ b, b < w.heap.size → ({ w with heap := w.heap.push x } : World).heap[b]? = w.heap[b]? := by
    intro b hb
    show (w.heap.push x)[b]? = w.heap[b]?
    rw [Array.getElem?_push, if_neg (by omega)]
  refine ⟨⟨hs.len, fun i o ho hd => ?_, hs.inj, fun b hb => ?_⟩, ⟨rfl, rfl, rfl, ?_, ⟨[], by simp⟩, fun _ h => h, fun _ h => .inl h, fun j b n hl hg => .inr ⟨j, n, hl, hg⟩, fun b hb _ => hold b hb⟩⟩
  · obtain ⟨b, n, h1, h2, h3⟩ := hs.obj i o ho hd
    exact ⟨b, n, h1, h2, h3.mono ⟨[], by simp⟩ (fun _ h => h) (fun c hc => hold c (hs.prlt c hc)) (hold b (hs.blk ⟨o, ho, hd⟩ h1).1)⟩
  · have := hs.prlt b hb
    show b < (w.heap.push x).size
    simp; omega
  · show w.heap.size ≤ (w.heap.push x).size
    simp
theorem alloc_run (hP : TyOK P tt) {Γ : VL} {Pr : Nat → Prop} {H : Heap} {w : World} (hs : Sim Γ Pr H w) {o : Oper} {e : TypeId} {d : Ty} (ho : o.op = .alloc e) (hd : tt.find e = some d) (ρ : Operand → Value) :
    ∃ x n, (execOp ρ o).run P w = .ok (.value (.pointer (some ⟨w.heap.size, 0, none⟩))) { w with heap := w.heap.push x } ∧ RelObj Γ Pr { w with heap := w.heap.push x } w.heap.size n (.cells e (zsOf tt e)) := by
  obtain ⟨z, as, hz, hr, rfl⟩ := zerosK_ok (P := P) (Γ := Γ) (Pr := Pr) (w := w) hP (zerosK_mk (k := fun cs => cs = zsOf tt e) hd rfl)
  obtain ⟨s1, s2⟩ := pushed_ext hs (w' := { w with heap := w.heap.push (.cells z.cells e) }) (e := e) rfl rfl rfl rfl hr
  obtain ⟨b, n, h1, h2, h3⟩ := s1.obj H.length (.cells e (zsOf tt e)) (by simp) rfl
  rw [← hs.len] at h1
  simp at h1
  obtain ⟨rfl, rfl⟩ := h1
  obtain ⟨ds, hds⟩ := zsOf_ro (tt := tt) (e := e)
  refine ⟨_, _, ?_, by rw [hds] at h3 ⊢; exact relObj_ro h3⟩
  unfold execOp
  simp [ho, Instr.alloc, hz, newVar, newRow_run]
theorem planA_ef {i : Nat} {rs : List Nat} {q : Pl} {T : Tm} {H : Heap} {pend : PendA} (h : planA tt conc rec nt L (.ef i rs q) T H pend k) : ∃ o, L[i]? = some o ∧ wantedK L o T (stepA tt conc rec o T H (fun v H' => recheckA tt conc L rs pend H' (putK nt T o.dst v (fun T' => planA tt conc rec nt L q T' H' pend k)))) (recheckA tt conc L rs pend H (putK nt T o.dst (.tup []) (fun T' => planA tt conc rec nt L q T' H pend k))) :=
  nthK_iff.1 h

theorem anyP_ok (hF : Plain F) (hO : Ordered L B) (hP : TyOK P tt) (hR : RecOK P rec) (hops : ops.toList = L) (hlzy : ∀ i, lz.testBit i = true → (∀ j, bef B j i = false) ∧ ∃ o e d t, L[i]? = some o ∧ o.op = .alloc e ∧ o.guard = none ∧ o.dst = some d ∧ tt.find e = some t)
    {Γ₀ : VL} {Pr₀ : Nat → Prop} {H₀ : Heap} {w₀ : World} {T₀ : Tm} {ds : List Deferred}
    (hQ : ∀ Γ' Pr' H' w' T' tmps', Ext Γ₀ Pr₀ H₀ w₀ Γ' Pr' H' w' → Sim Γ' Pr' H' w' → RelT Γ' Pr' w' nt T' tmps' → k T' H' → Q .normal ⟨tmps', ds⟩ w') :
    ∀ (fuel : Nat) (listed : Array Bool) (a : Act) (w : World), listed.size = ops.size → cnt (setOf listed) L.length ≤ fuel → KnowP L B lz nt tt conc rec k Γ₀ Pr₀ H₀ w₀ T₀ ds (setOf listed) a w → wpAnyIn F 0 P .any ops Q fuel listed a w := by
  have hN : L.length = ops.size := by rw [← hops]; simp
  have hget : ∀ i : Nat, L[i]? = ops[i]? := fun i => by rw [← hops]; simp
  have hlz : ∀ i, lz.testBit i = true → ∀ j, bef B j i = false := fun i h => (hlzy i h).1
  have fin : ∀ (listed : Array Bool) (a : Act) (w : World), (∀ i, i < L.length → setOf listed i = true) → KnowP L B lz nt tt conc rec k Γ₀ Pr₀ H₀ w₀ T₀ ds (setOf listed) a w → Q .normal a w := by
    intro listed a w hall hK
    obtain ⟨p, D, T, H, pend, pl, vs, g, Γ, Pr, hb, hC, hwt, he, hs, hg, hv, hH⟩ := hK.can
    obtain ⟨T', H', Γ', q1, q2, q3, q4⟩ := finishP hO hlz hall hs he hC hg hv hH
    have := hQ Γ' Pr H' w T' a.tmps q3 q2 ⟨hK.size, q4⟩ q1
    rw [← hK.defers] at this
    exact this
  have ready_of : ∀ (listed : Array Bool), listed.size = ops.size → Region.ready .any ops listed = [] → ∀ i, i < L.length → setOf listed i = true := by
    intro listed hsz hr i
    induction i using Nat.strongRecOn with
    | _ i ih =>
      intro hi
      cases hS : setOf listed i with
      | true => rfl
      | false =>
        exfalso
        have hm : i ∈ Region.ready .any ops listed := by
          refine mem_ready.2 ⟨?_, L[i], by rw [← hget]; exact List.getElem?_eq_getElem hi, fun e he hb => ?_⟩
          · have hlt : i < listed.size := by omega
            simp only [setOf, Array.getD_eq_getD_getElem?, Array.getElem?_eq_getElem hlt, Option.getD_some] at hS ⊢
            exact hS
          · have hlt := (hO.edge i _ (List.getElem?_eq_getElem hi) e he hb).1
            exact ih e.on hlt (by omega)
        rw [hr] at hm
        cases hm
  intro fuel
  induction fuel with
  | zero =>
    intro listed a w hsz hc hK
    have hall : ∀ i, i < L.length → setOf listed i = true := cnt_zero (by omega)
    refine ⟨?_, fin listed a w hall hK⟩
    apply List.eq_nil_iff_forall_not_mem.2
    intro j hj
    obtain ⟨h1, o, h2, _⟩ := mem_ready.1 hj
    have hjl : j < L.length := by rw [hN]; exact (Array.getElem?_eq_some_iff.1 h2).1
    have := hall j hjl
    have hlt : j < listed.size := by omega
    simp only [setOf, Array.getD_eq_getD_getElem?, Array.getElem?_eq_getElem hlt, Option.getD_some] at this h1
    rw [this] at h1; cases h1
  | succ fuel ih =>
    intro listed a w hsz hc hK
    refine ⟨fun hr => fin listed a w (ready_of listed hsz hr) hK, fun i hi => ?_⟩
    obtain ⟨h1, o, h2, h3⟩ := mem_ready.1 hi
    have hLi : L[i]? = some o := by rw [hget]; exact h2
    have hil : i < L.length := (List.getElem?_eq_some_iff.1 hLi).1
    have hilt : i < listed.size := by omega
    have hSi : setOf listed i = false := by
      simp only [setOf, Array.getD_eq_getD_getElem?, Array.getElem?_eq_getElem hilt, Option.getD_some] at h1 ⊢
      exact h1
    have hanc : ∀ j, bef B j i = true → setOf listed j = true := by
      intro j hj
      obtain ⟨e, he, hb, h⟩ := hO.gen i j o hLi hj
      have hS := h3 e he hb
      rcases h with h | h
      · exact h ▸ hS
      · exact hK.closed e.on hS j h
    have hset := setOf_set hilt
    have hcl : Closed B (setOf (listed.setIfInBounds i true)) := by
      rw [hset]
      intro j hj l hl
      rcases Bool.or_eq_true_iff.1 hj with h | h
      · simp [hK.closed j h l hl]
      · have : i = j := by simpa using h
        subst this
        simp [hanc l hl]
    have hcnt : cnt (setOf (listed.setIfInBounds i true)) L.length ≤ fuel := by
      rw [hset]
      have := cnt_less hSi hil
      omega
    have hsz' : (listed.setIfInBounds i true).size = ops.size := by simpa using hsz
    obtain ⟨p, D, T, H, pend, pl, vs, g, Γ, Pr, hb, hC, hwt, he, hs, hg, hv, hH⟩ := hK.can
    unfold wpOpIn
    rw [h2]
    simp only
    cases hzi : lz.testBit i with
    | true =>
      obtain ⟨_, o', e, d, t, g1, hop, hgu, hdst, hfind⟩ := hlzy i hzi
      rw [hLi] at g1
      cases g1
      have hr : isRead o.op = false := by rw [hop]; rfl
      have hDi : D.testBit i = false := by
        cases hd : D.testBit i with
        | false => rfl
        | true => rw [hC.effs i o hLi hr hd] at hSi; cases hSi
      have hw : Region.wanted o (yielded ops a.tmps) = true := by simp [Region.wanted, hgu]
      rw [if_pos hw]
      refine ⟨fun f _ => hF.fn f, ?_⟩
      obtain ⟨x, n, hrun, hro⟩ := alloc_run hP hs hop hfind a.eval
      obtain ⟨s1, s2⟩ := hs.grow (x := x)
      rw [hF.sem _ _ (by intro c hc; rw [hc] at hop; cases hop), hrun, Oper.uponIn_value]
      have hvs : ∀ t, valN L (upd vs i .any) (setOf listed) T₀ t L.length = valN L vs (setOf listed) T₀ t L.length := fun t => valN_upd hSi _
      refine ih _ _ _ hsz' hcnt ⟨⟨p, D, T, H, pend, pl, upd vs i .any, g, Γ, Pr, fun j => if j = i then w.heap.size else hb j, ⟨hC.form, hC.ok, hC.closed, fun t => ?_, ?_, ?_, hC.nodup, hC.pendD, ?_⟩, hwt, he.trans s2, s1, hg.mono s2.vl s2.pr (hs.keeps s2), fun t => ?_, ⟨?_, ?_⟩⟩, hcl, by rw [put_size]; exact hK.size, by rw [put_defers]; exact hK.defers⟩
      · rw [hC.tms t, valN_upd hDi]
      · intro j hj
        rw [hset] at hj
        rcases Bool.or_eq_true_iff.1 hj with h | h
        · exact hC.sub j h
        · have : i = j := by simpa using h
          subst this
          exact ⟨hil, .inr hzi⟩
      · intro j oj hj hrj hd
        rw [hset]
        simp [hC.effs j oj hj hrj hd]
      · intro j oj hj hrj hd hSj
        rw [hset] at hSj
        obtain ⟨hSj, hne⟩ := Bool.or_eq_false_iff.1 hSj
        have hne : i ≠ j := by simpa using hne
        obtain ⟨Tj, vj, g1, g2, g3, g4, g5, g6⟩ := hC.reads j oj hj hrj hd hSj
        refine ⟨Tj, vj, by rw [g1]; simp only [upd]; rw [if_neg (fun e' => hne e'.symm)], g2, g3, g4, fun t ht => ?_, g6⟩
        rw [g5 t ht, valN_upd (S := fun l => bef B l j)]
        cases hbb : bef B i j with
        | false => rfl
        | true => rw [hC.closed j hd i hbb] at hDi; cases hDi
      · rw [hset, val_put hO hLi hK.closed hSi]
        split
        · trivial
        · rename_i hne
          have : (a.put o.dst (.pointer (some ⟨w.heap.size, 0, none⟩))).tmps.getD t undef = a.tmps.getD t undef := by
            rw [hdst]
            have hne : d ≠ t := by
              intro e'
              apply hne
              simp [dstAt, hLi, hdst, e']
            simp only [Act.put, Array.getD_eq_getD_getElem?, Array.getElem?_setIfInBounds]
            rw [if_neg hne]
          rw [this]
          exact (hv t).mono s2.vl s2.pr (hs.keeps s2)
      · intro j hzj hSj hDj
        rw [hset] at hSj
        by_cases e' : j = i
        · subst e'
          refine ⟨o, e, d, n, hLi, hop, hgu, hdst, by rw [if_pos rfl]; exact hro, by rw [if_pos rfl]; exact he.size, by rw [if_pos rfl]; show w.heap.size < (w.heap.push x).size; simp, by rw [if_pos rfl]; exact fun hp => absurd (hs.prlt _ hp) (Nat.lt_irrefl _), fun l m hl hgl => ?_, fun hdn _ => ?_⟩
          · rw [if_pos rfl] at hgl
            exact absurd (hs.blk hl hgl).1 (Nat.lt_irrefl _)
          · rw [hdst, if_pos rfl]
            have : d < a.tmps.size := by rw [hK.size]; exact hdn
            simp only [Act.put, Array.getD_eq_getD_getElem?, Array.getElem?_setIfInBounds]
            simp [this]
        · have hSj : setOf listed j = true := by
            have hne : ¬ i = j := fun h => e' h.symm
            simpa [hne] using hSj
          obtain ⟨oj, ej, dj, nj, g1, g2, g3, g4, g5, g6, g7, g8, g9, g10⟩ := hH.one j hzj hSj hDj
          have hkeep : ({ w with heap := w.heap.push x } : World).heap[hb j]? = w.heap[hb j]? := by
            show (w.heap.push x)[hb j]? = w.heap[hb j]?
            rw [Array.getElem?_push, if_neg (by omega)]
          refine ⟨oj, ej, dj, nj, g1, g2, g3, g4, by rw [if_neg e']; exact g5.mono s2.vl s2.pr (hs.keeps s2) hkeep, by rw [if_neg e']; exact g6, by rw [if_neg e']; show hb j < (w.heap.push x).size; simp; omega, by rw [if_neg e']; exact g8, by rw [if_neg e']; exact g9, fun hdn hu => ?_⟩
          rw [if_neg e', hdst]
          have hne : d ≠ dj := by
            intro e''
            have := hu i (by rw [hset]; simp) (by simp [dstAt, hLi, hdst, e''])
            exact e' this.symm
          have : (a.put (some d) (.pointer (some ⟨w.heap.size, 0, none⟩))).tmps.getD dj undef = a.tmps.getD dj undef := by
            simp only [Act.put, Array.getD_eq_getD_getElem?, Array.getElem?_setIfInBounds]
            rw [if_neg hne]
          rw [this]
          exact g10 hdn fun l hl hdl => hu l (by rw [hset]; simp [hl]) hdl
      · intro x y hzx hSx hDx hzy hSy hDy hne
        have up : ∀ j, lz.testBit j = true → setOf (listed.setIfInBounds i true) j = true → j ≠ i → setOf listed j = true := by
          intro j _ hSj e'
          rw [hset] at hSj
          have hne : ¬ i = j := fun h => e' h.symm
          simpa [hne] using hSj
        by_cases ex : x = i
        · subst ex
          have hyx : y ≠ x := fun h => hne h.symm
          rw [if_pos rfl, if_neg hyx]
          obtain ⟨_, _, _, _, _, _, _, _, _, _, g7, _⟩ := hH.one y hzy (up y hzy hSy hyx) hDy
          omega
        · by_cases ey : y = i
          · subst ey
            rw [if_neg ex, if_pos rfl]
            obtain ⟨_, _, _, _, _, _, _, _, _, _, g7, _⟩ := hH.one x hzx (up x hzx hSx ex) hDx
            omega
          · rw [if_neg ex, if_neg ey]
            exact hH.two x y hzx (up x hzx hSx ex) hDx hzy (up y hzy hSy ey) hDy hne
    | false =>
      have hopts : D.testBit i = false → i ∈ opts p := fun hDi => waits_of hwt hC.ok i hil hDi hzi fun j hj => (hC.sub j (hanc j hj)).2
      cases hr : isRead o.op with
      | true =>
        have hDi : D.testBit i = true := by
          cases hd : D.testBit i with
          | true => rfl
          | false =>
            have := opts_eff hC.ok i (hopts hd)
            simp [readAt, hLi, hr] at this
        obtain ⟨Ti, v, hp2, hpd, hdet, hp3, hp4, hp5⟩ := hC.reads i o hLi hr hDi hSi
        obtain ⟨m, hm1, hm2⟩ := mask_ex Ti (looks L o)
        have hTm : RelT Γ Pr w nt m a.tmps := by
          refine ⟨hK.size, fun t => ?_⟩
          rcases hm2 t with h | ⟨h5, h6⟩
          · rw [h]; trivial
          · rw [h6, hp4 t h5, val_looks hO hLi h5 (closed_anc hO hil) hK.closed (fun _ h => h) hanc (anc_self hO hil) hSi]
            exact hv t
        obtain ⟨v', x, rfl, hvx, hrun⟩ := readK_ok (ops := ops) hP hops hs hTm hr ((readK_congr hm1).2 hp3)
        have hgo : wpAnyIn F 0 P .any ops Q fuel (listed.setIfInBounds i true) (a.put o.dst x) w := by
          refine ih _ _ _ hsz' hcnt ⟨⟨p, D, T, H, pend, pl, vs, g, Γ, Pr, hb, ?_, hwt, he, hs, hg, fun t => ?_, ⟨?_, ?_⟩⟩, hcl, by rw [put_size]; exact hK.size, by rw [put_defers]; exact hK.defers⟩
          · refine ⟨hC.form, hC.ok, hC.closed, hC.tms, ?_, ?_, hC.nodup, hC.pendD, ?_⟩
            · intro j hj
              rw [hset] at hj
              rcases Bool.or_eq_true_iff.1 hj with h | h
              · exact hC.sub j h
              · have : i = j := by simpa using h
                subst this
                exact ⟨hil, .inl hDi⟩
            · intro j oj hj hrj hd
              rw [hset]
              simp [hC.effs j oj hj hrj hd]
            · intro j oj hj hrj hd hSj
              rw [hset] at hSj
              exact hC.reads j oj hj hrj hd (Bool.or_eq_false_iff.1 hSj).1
          · have hu : upd vs i (vs i) = vs := by
              funext j
              simp only [upd]
              split
              · rename_i e; rw [e]
              · rfl
            have := val_put hO (vs := vs) (T₀ := T₀) (t := t) (v := vs i) hLi hK.closed hSi
            rw [hu] at this
            rw [hset, this, put_getD hK.size hpd]
            simp only [dstAt, hLi, Option.bind_some]
            split
            · rw [← hp2]; exact hvx
            · exact hv t
          · intro j hzj hSj hDj
            rw [hset] at hSj
            have hne : i ≠ j := by rintro rfl; rw [hDi] at hDj; cases hDj
            have hSj : setOf listed j = true := by simpa [hne] using hSj
            obtain ⟨oj, ej, dj, nj, g1, g2, g3, g4, g5, g6, g7, g8, g9, g10⟩ := hH.one j hzj hSj hDj
            refine ⟨oj, ej, dj, nj, g1, g2, g3, g4, g5, g6, g7, g8, g9, fun hdn hu => ?_⟩
            have hnd : ¬ o.dst = some dj := fun h => hne (hu i (by rw [hset]; simp) (by simp [dstAt, hLi, h]))
            rw [put_getD hK.size hpd, if_neg hnd]
            exact g10 hdn fun l hl hdl => hu l (by rw [hset]; simp [hl]) hdl
          · intro x y hzx hSx hDx hzy hSy hDy hne
            have up : ∀ j, D.testBit j = false → setOf (listed.setIfInBounds i true) j = true → setOf listed j = true := by
              intro j hDj hSj
              rw [hset] at hSj
              have hne : i ≠ j := by rintro rfl; rw [hDi] at hDj; cases hDj
              simpa [hne] using hSj
            exact hH.two x y hzx (up x hDx hSx) hDx hzy (up y hDy hSy) hDy hne
        rcases hrun with ⟨hw, hrun⟩ | ⟨hw, rfl⟩
        · rw [if_pos hw]
          refine ⟨fun f _ => hF.fn f, ?_⟩
          rw [hF.sem _ _ (by intro c hc; rw [hc] at hr; simp [isRead] at hr), hrun, Oper.uponIn_value]
          exact hgo
        · rw [if_neg (by simp [hw])]
          exact ⟨fun f _ => hF.fn f, hgo⟩
      | false =>
        have hDi0 : D.testBit i = false := by
          cases hd : D.testBit i with
          | false => rfl
          | true => rw [hC.effs i o hLi hr hd] at hSi; cases hSi
        obtain ⟨rs, q, D, T, H₁, Γ, vs, g, hC, hs, he, hg, hv, hH⟩ := descend hO hlz hanc hs he hC hg hv hH (hopts hDi0)
        have ok := hC.ok
        simp only [okPl, Bool.and_eq_true, Bool.not_eq_true'] at ok
        obtain ⟨⟨⟨⟨⟨⟨⟨⟨_, hDi⟩, _⟩, _⟩, hancD⟩, _⟩, hpall⟩, hrsall⟩, hokq⟩ := ok
        have hancD : ∀ j, bef B j i = true → D.testBit j = true := subM_iff.1 hancD
        obtain ⟨o', hLi', form⟩ := planA_ef hC.form
        rw [hLi] at hLi'
        cases hLi'
        obtain ⟨m, hm1, hm2⟩ := mask_ex T (looks L o)
        have hTm : RelT Γ Pr w nt m a.tmps := by
          refine ⟨hK.size, fun t => ?_⟩
          rcases hm2 t with h | ⟨h5, h6⟩
          · rw [h]; trivial
          · rw [h6, hC.tms t, val_looks hO hLi h5 hC.closed hK.closed hancD hanc hDi hSi]
            exact hv t
        rw [← wantedK_congr hm1, ← stepA_congr (agree_sub hm1 looks_ops)] at form
        have hgood : ∀ x ∈ pend, isRead x.2.1.op = true ∧ detOp tt x.2.1.op = true := fun x hx => (hC.pendD x hx).2.2
        -- one more of the others is done
        have next : ∀ (Γ' : VL) (Pr' : Nat → Prop) (H' : Heap) (w' : World) (x : AV) (xv : Value), Ext Γ Pr H₁ w Γ' Pr' H' w' → Sim Γ' Pr' H' w' → RelV Γ' Pr' w' x xv →
            recheckA tt conc L rs pend H' (putK nt T o.dst x (fun T' => planA tt conc rec nt L q T' H' pend k)) → wpAnyIn F 0 P .any ops Q fuel (listed.setIfInBounds i true) (a.put o.dst xv) w' := by
          intro Γ' Pr' H' w' x xv he' hs' hx hre
          obtain ⟨hput, hre⟩ := recheckA_of (Hr := H) hC.nodup hgood hre
          obtain ⟨T', hform, hT'1, hT'2⟩ := putK_ok hput
          have hbits : ∀ j, (Nat.lor D (2 ^ i)).testBit j = (D.testBit j || decide (i = j)) := bit_add D i
          have hC' : CanP L B lz nt tt conc rec k T₀ q (opts q) (Nat.lor D (2 ^ i)) T' H' H' pend (pl.filter (fun r => !bef B r i)) (upd vs i x) (setOf (listed.setIfInBounds i true)) := by
            refine ⟨hform, hokq, ?_, ?_, ?_, ?_, hC.nodup, ?_, ?_⟩
            · intro j hj l hl
              rw [hbits] at hj ⊢
              rcases Bool.or_eq_true_iff.1 hj with h | h
              · rw [hC.closed j h l hl]; rfl
              · have : i = j := by simpa using h
                subst this
                rw [hancD l hl]; rfl
            · intro t
              rw [hT'1]
              have e : (Nat.lor D (2 ^ i)).testBit = fun j => D.testBit j || decide (i = j) := funext hbits
              rw [e, val_put hO hLi hC.closed hDi]
              simp only [dstAt, hLi, Option.bind_some, hC.tms t]
            · intro j hj
              rw [hset] at hj
              rw [hbits]
              rcases Bool.or_eq_true_iff.1 hj with h | h
              · obtain ⟨h1, h2⟩ := hC.sub j h
                refine ⟨h1, ?_⟩
                rcases h2 with h2 | h2
                · rw [h2]; exact .inl rfl
                · exact .inr h2
              · have : i = j := by simpa using h
                subst this
                exact ⟨hil, .inl (by simp)⟩
            · intro j oj hj hrj hd
              rw [hbits] at hd
              rw [hset]
              rcases Bool.or_eq_true_iff.1 hd with h | h
              · simp [hC.effs j oj hj hrj h]
              · show (setOf listed j || decide (i = j)) = true
                rw [h]; simp
            · intro y hy
              obtain ⟨g1, g2⟩ := hC.pendD y hy
              exact ⟨by rw [hbits, g1]; rfl, g2⟩
            · intro j oj hj hrj hd hSj
              rw [hset] at hSj
              obtain ⟨hSj, hne⟩ := Bool.or_eq_false_iff.1 hSj
              have hne : i ≠ j := by simpa using hne
              rw [hbits] at hd
              have hd : D.testBit j = true := by simpa [hne] using hd
              obtain ⟨Tj, vj, g1, g2, g3, g4, g5, g6⟩ := hC.reads j oj hj hrj hd hSj
              have hb : bef B j i = false := by
                cases h : bef B j i with
                | false => rfl
                | true => rw [hanc j h] at hSj; cases hSj
              have hlk : ∀ t ∈ looks L oj, Tj.get t = valN L (upd vs i x) (fun l => bef B l j) T₀ t L.length := by
                intro t ht
                rw [g5 t ht, valN_upd (S := fun l => bef B l j)]
                cases hbb : bef B i j with
                | false => rfl
                | true => rw [hC.closed j hd i hbb] at hDi; cases hDi
              have hvj : vj = upd vs i x j := by rw [g1]; simp only [upd]; rw [if_neg (fun e' => hne e'.symm)]
              rcases g6 with h | ⟨h, h'⟩ | h
              · exact ⟨Tj, vj, hvj, g2, g3, by rw [readK_pure h (H' := H)]; exact g4, hlk, .inl h⟩
              · have hjrs : j ∈ rs := by
                  have := List.all_eq_true.1 hpall j h
                  rw [hb] at this
                  simpa using this
                refine ⟨Tj, vj, hvj, g2, g3, hre _ h' hjrs g4, hlk, .inr (.inl ⟨?_, h'⟩)⟩
                simp [h, hb]
              · have := h i o hLi hr hDi hzi
                rw [hb] at this
                cases this
          have hg' : RelT Γ' Pr' w' nt T' (g.put o.dst xv).tmps := relT_putK (hg.mono he'.vl he'.pr (hs.keeps he')) hT'1 hT'2 hx
          obtain ⟨p', D', T'', pend', pl', vs', g', q1, q2, q3, q4, q5⟩ := saturateP (ops := ops) hO hP hops hs' hcl hC' hg'
          have up : ∀ j, lz.testBit j = true → setOf (listed.setIfInBounds i true) j = true → D'.testBit j = false → setOf listed j = true ∧ D.testBit j = false ∧ i ≠ j := by
            intro j hzj hSj hDj
            have hne : i ≠ j := by rintro rfl; rw [hzi] at hzj; cases hzj
            rw [q5 j hzj, hbits] at hDj
            rw [hset] at hSj
            exact ⟨by simpa [hne] using hSj, (Bool.or_eq_false_iff.1 hDj).1, hne⟩
          refine ih _ _ _ hsz' hcnt ⟨⟨p', D', T'', H', pend', pl', vs', g', Γ', Pr', hb, q1, q2, he.trans he', hs', q3, fun t => ?_, ⟨fun j hzj hSj hDj => ?_, fun x y hzx hSx hDx hzy hSy hDy hne => ?_⟩⟩, hcl, by rw [put_size]; exact hK.size, by rw [put_defers]; exact hK.defers⟩
          · rw [q4 t, hset, val_put hO hLi hK.closed hSi, put_getD hK.size hT'2]
            simp only [dstAt, hLi, Option.bind_some]
            split
            · exact hx
            · exact (hv t).mono he'.vl he'.pr (hs.keeps he')
          · obtain ⟨hSj0, hDj0, hne⟩ := up j hzj hSj hDj
            obtain ⟨oj, ej, dj, nj, g1, g2, g3, g4, g5, g6, g7, g8, g9, g10⟩ := hH.one j hzj hSj0 hDj0
            have hkeep : w'.heap[hb j]? = w.heap[hb j]? := he'.frame (hb j) g7 fun l m hl hgl => g9 l m hl hgl
            refine ⟨oj, ej, dj, nj, g1, g2, g3, g4, g5.mono he'.vl he'.pr (hs.keeps he') hkeep, g6, Nat.lt_of_lt_of_le g7 he'.size, fun hp => ?_, fun l m hl hgl => ?_, fun hdn hu => ?_⟩
            · rcases he'.prNew _ hp with h | h
              · exact g8 h
              · omega
            · rcases he'.own l _ m hl hgl with h | ⟨l', m', hl', hgl'⟩
              · omega
              · obtain ⟨δ, hδ⟩ := he'.vl
                exact g9 l' m' hl' hgl'
            · have hnd : ¬ o.dst = some dj := fun h => hne (hu i (by rw [hset]; simp) (by simp [dstAt, hLi, h]))
              rw [put_getD hK.size hT'2, if_neg hnd]
              exact g10 hdn fun l hl hdl => hu l (by rw [hset]; simp [hl]) hdl
          · obtain ⟨a1, a2, _⟩ := up x hzx hSx hDx
            obtain ⟨b1, b2, _⟩ := up y hzy hSy hDy
            exact hH.two x y hzx a1 a2 hzy b1 b2 hne
        rcases getLoc (ops := ops) hops hTm form with ⟨hw, form⟩ | ⟨hw, form⟩
        · rw [if_pos hw]
          refine stepK_ok hF hP hs hTm (stepA_of hR hP form) ?_
          intro Γ' Pr' H' w' x v he' hs' hx hre
          exact next Γ' Pr' H' w' x v he' hs' hx hre
        · rw [if_neg (by simp [hw])]
          exact ⟨fun f _ => hF.fn f, next Γ Pr H₁ w (.tup []) undef (Ext.refl _ _ _ _) hs ⟨[], rfl, rfl⟩ form⟩

/-- **A region that draws its order, by a plan.** -/
theorem AWP.plan (hF : Plain F) (hP : TyOK P tt) (hR : RecOK P rec) (hm : P.follows .mixedOrders = true) {id : Nat} {T : Tm} {H : Heap} {D : List Nat} {K : Kont} {p : Pl} (hok : okPlan tt ops.toList p = true)
    (h : planA tt conc rec nt ops.toList p T H [] (fun T H => K .normal T H D)) : AWP P F nt (.region id ops true) T H D K := by
  unfold okPlan at hok
  simp only [Bool.and_eq_true] at hok
  obtain ⟨⟨⟨⟨ho, _⟩, hlz⟩, hlb⟩, hpl⟩ := hok
  have hO := ordI_ok ho
  have hlzy : ∀ i, (lzOf p).testBit i = true → (∀ j, bef (ancs ops.toList) j i = false) ∧ ∃ o e d t, ops.toList[i]? = some o ∧ o.op = .alloc e ∧ o.guard = none ∧ o.dst = some d ∧ tt.find e = some t := by
    intro i hi
    have hil : i < ops.toList.length := by
      have := subM_iff.1 hlb i hi
      rw [Nat.testBit_two_pow_sub_one] at this
      simpa using this
    have := allI_iff.1 hlz i hil
    rw [hi] at this
    dsimp only at this
    unfold lazyI at this
    cases ho : ops.toList[i]? with
    | none => rw [ho] at this; cases this
    | some o =>
      rw [ho] at this
      simp only [Bool.and_eq_true] at this
      obtain ⟨⟨⟨h1, h2⟩, h3⟩, h4⟩ := this
      refine ⟨fun j => ?_, ?_⟩
      · unfold bef
        rw [Nat.eq_of_beq_eq_true h3]
        exact Nat.zero_testBit j
      · cases hop : o.op with
        | alloc e =>
          rw [hop] at h1
          unfold isAlloc at h1
          dsimp only at h1
          cases hf : tt.find e with
          | none => rw [hf] at h1; cases h1
          | some t =>
            cases hd : o.dst with
            | none => rw [hd] at h4; cases h4
            | some d =>
              cases hg : o.guard with
              | none => exact ⟨o, e, d, t, rfl, hop, hg, hd, hf⟩
              | some _ => rw [hg] at h2; cases h2
        | _ => rw [hop] at h1; cases h1
  constructor
  intro Γ Pr w a hs hT hD
  refine wpIn_region_any hm ?_
  have hw : ∀ b : Nat, ({ w with drawn := w.drawn + 1 } : World).heap[b]? = w.heap[b]? := fun _ => rfl
  have he : Ext Γ Pr H w Γ Pr H { w with drawn := w.drawn + 1 } := ⟨rfl, rfl, rfl, Nat.le_refl _, ⟨[], by simp⟩, fun _ h => h, fun _ h => .inl h, fun j b n hl hg => .inr ⟨j, n, hl, hg⟩, fun _ _ _ => rfl⟩
  have hs' : Sim Γ Pr H { w with drawn := w.drawn + 1 } := ⟨hs.len, fun i o ho hd => let ⟨b, n, h1, h2, h3⟩ := hs.obj i o ho hd; ⟨b, n, h1, h2, h3.mono ⟨[], by simp⟩ (fun _ h => h) (fun b _ => hw b) (hw b)⟩, hs.inj, hs.prlt⟩
  have hT' := hT.mono he.vl he.pr (hs.keeps he)
  have hnil : ∀ i, setOf (Array.replicate ops.size false) i = false := by
    intro i
    simp only [setOf, Array.getD_eq_getD_getElem?, Array.getElem?_replicate]
    split <;> rfl
  have hv0 : ∀ t (vs : Nat → AV) (S : Nat → Bool), (∀ i, S i = false) → ∀ n, valN ops.toList vs S T t n = T.get t := by
    intro t vs S hS n
    induction n with
    | zero => rfl
    | succ n ihn => simp [valN, hS n, ihn]
  have hcl : Closed (ancs ops.toList) (setOf (Array.replicate ops.size false)) := fun i hi => by rw [hnil i] at hi; cases hi
  have hz : ∀ i, Nat.testBit 0 i = false := fun i => Nat.zero_testBit i
  have hC : CanP ops.toList (ancs ops.toList) (lzOf p) nt tt conc rec (fun T H => K .normal T H D) T p (opts p) 0 T H H [] [] (fun _ => .any) (setOf (Array.replicate ops.size false)) :=
    ⟨h, hpl, fun i hi => (by rw [hz] at hi; cases hi), fun t => (hv0 t _ _ hz _).symm, fun i hi => (by rw [hnil i] at hi; cases hi), fun i o _ _ hd => (by rw [hz] at hd; cases hd), by simp, fun x hx => by simp at hx, fun i o _ _ hd => (by rw [hz] at hd; cases hd)⟩
  obtain ⟨p', D', T', pend', pl', vs', g', q1, q2, q3, q4, q5⟩ := saturateP (ops := ops) (g := a) hO hP rfl hs' hcl hC hT'
  refine anyP_ok (k := fun T H => K .normal T H D) (Γ₀ := Γ) (Pr₀ := Pr) (H₀ := H) (w₀ := w) (T₀ := T) (ds := a.defers) hF hO hP hR rfl hlzy ?_ ops.size _ a _ (by simp) ?_ ⟨⟨p', D', T', H, pend', pl', vs', g', Γ, Pr, fun _ => 0, q1, q2, he, hs', q3, fun t => ?_, ⟨fun i _ hS => (by rw [hnil i] at hS; cases hS), fun i j _ hS => (by rw [hnil i] at hS; cases hS)⟩⟩, hcl, hT.1, rfl⟩
  · intro Γ' Pr' H' w' T' tmps' he' hs2 hT2 hk
    exact ⟨.normal, T', H', D, Γ', Pr', rfl, he', hs2, hT2, hD.ext he'.vl, hk⟩
  · have : ∀ n, cnt (setOf (Array.replicate ops.size false)) n ≤ n := by
      intro n
      induction n with
      | zero => simp [cnt]
      | succ n ihn => simp only [cnt]; split <;> omega
    have := this ops.toList.length
    simpa using this
  · rw [q4 t, hv0 t _ _ hnil]
    exact hT'.2 t
end
end Go.Ab
