/- The abstract layer, part 24: one step of the evaluator that enters calls is sound; rounds. -/
import Derived.Test.YtlpdflhpajhnoaaGreatAb23
namespace Go.Ab

theorem fnBeq_eq {f g : Fn} (h : fnBeq f g = true) : f = g := by
  unfold fnBeq at h
  split at h
  · rw [Nat.eq_of_beq_eq_true h]
  · cases h
mutual
theorem RD.beq_eq : ∀ {a b : RD}, RD.beq a b = true → a = b
  | .int k n, b, h => by
    cases b <;> simp only [RD.beq, Bool.false_eq_true] at h
    simp only [Bool.and_eq_true, decide_eq_true_eq] at h
    rw [kindEq_eq h.1, h.2]
  | .bool x, b, h => by
    cases b <;> simp only [RD.beq, Bool.false_eq_true] at h
    rw [eq_of_beq h]
  | .str s, b, h => by
    cases b <;> simp only [RD.beq, Bool.false_eq_true] at h
    rename_i t
    have h := eq_of_beq h
    obtain ⟨s⟩ := s; obtain ⟨t⟩ := t
    have h : s.toList = t.toList := h
    rw [Array.ext' h]
  | .nilp, b, h => by cases b <;> first | rfl | simp [RD.beq] at h
  | .nilfn, b, h => by cases b <;> first | rfl | simp [RD.beq] at h
  | .nilmap, b, h => by cases b <;> first | rfl | simp [RD.beq] at h
  | .niface, b, h => by cases b <;> first | rfl | simp [RD.beq] at h
  | .fn f, b, h => by
    cases b <;> first | (simp [RD.beq] at h; done) | skip
    simp only [RD.beq] at h
    rw [fnBeq_eq h]
  | .slice sz cs cap, b, h => by
    cases b <;> first | (simp [RD.beq] at h; done) | skip
    rename_i sz' cs' cap'
    simp only [RD.beq, Bool.and_eq_true] at h
    obtain ⟨⟨h1, h2⟩, h3⟩ := h
    rw [Nat.eq_of_beq_eq_true h1, RD.beqs_eq h2]
    cases cap <;> cases cap' <;> first | rfl | (simp at h3; done) | skip
    rw [Nat.eq_of_beq_eq_true h3]
  | .ptr cs, b, h => by
    cases b <;> first | (simp [RD.beq] at h; done) | skip
    simp only [RD.beq] at h
    rw [RD.beqs_eq h]
  | .ifc t cs, b, h => by
    cases b <;> first | (simp [RD.beq] at h; done) | skip
    simp only [RD.beq, Bool.and_eq_true] at h
    rw [Nat.eq_of_beq_eq_true h.1, RD.beqs_eq h.2]
theorem RD.beqs_eq : ∀ {a b : List RD}, RD.beqs a b = true → a = b
  | [], b, h => by cases b <;> first | rfl | simp [RD.beqs] at h
  | x :: l, b, h => by
    cases b <;> first | (simp [RD.beqs] at h; done) | skip
    simp only [RD.beqs, Bool.and_eq_true] at h
    rw [RD.beq_eq h.1, RD.beqs_eq h.2]
end
mutual
theorem AV.beq_eq : ∀ {a b : AV}, AV.beq a b = true → a = b
  | .any, b, h => by cases b <;> first | rfl | simp [AV.beq] at h
  | .ro d, b, h => by
    cases b <;> first | (simp [AV.beq] at h; done) | skip
    simp only [AV.beq] at h
    rw [RD.beq_eq h]
  | .ptr x y, b, h => by
    cases b <;> first | (simp [AV.beq] at h; done) | skip
    simp only [AV.beq, Bool.and_eq_true] at h
    rw [Nat.eq_of_beq_eq_true h.1, Nat.eq_of_beq_eq_true h.2]
  | .sl sz id off len cap, b, h => by
    cases b <;> first | (simp [AV.beq] at h; done) | skip
    rename_i sz' id' off' len' cap'
    simp only [AV.beq, Bool.and_eq_true] at h
    obtain ⟨⟨⟨⟨h1, h2⟩, h3⟩, h4⟩, h5⟩ := h
    rw [Nat.eq_of_beq_eq_true h1, Nat.eq_of_beq_eq_true h2, Nat.eq_of_beq_eq_true h3, Nat.eq_of_beq_eq_true h4]
    cases cap <;> cases cap' <;> first | rfl | (simp at h5; done) | skip
    rw [Nat.eq_of_beq_eq_true h5]
  | .fn f x y, b, h => by
    cases b <;> first | (simp [AV.beq] at h; done) | skip
    simp only [AV.beq, Bool.and_eq_true] at h
    rw [fnBeq_eq h.1.1, AV.beqs_eq h.1.2, AV.beqs_eq h.2]
  | .agg cs, b, h => by
    cases b <;> first | (simp [AV.beq] at h; done) | skip
    simp only [AV.beq] at h
    rw [AV.beqs_eq h]
  | .tup cs, b, h => by
    cases b <;> first | (simp [AV.beq] at h; done) | skip
    simp only [AV.beq] at h
    rw [AV.beqs_eq h]
  | .mp x, b, h => by
    cases b <;> first | (simp [AV.beq] at h; done) | skip
    simp only [AV.beq] at h
    rw [Nat.eq_of_beq_eq_true h]
  | .yld x, b, h => by
    cases b <;> first | (simp [AV.beq] at h; done) | skip
    simp only [AV.beq] at h
    rw [Nat.eq_of_beq_eq_true h]
  | .ifc t x, b, h => by
    cases b <;> first | (simp [AV.beq] at h; done) | skip
    simp only [AV.beq, Bool.and_eq_true] at h
    rw [Nat.eq_of_beq_eq_true h.1, AV.beq_eq h.2]
theorem AV.beqs_eq : ∀ {a b : List AV}, AV.beqs a b = true → a = b
  | [], b, h => by cases b <;> first | rfl | simp [AV.beqs] at h
  | x :: l, b, h => by
    cases b <;> first | (simp [AV.beqs] at h; done) | skip
    simp only [AV.beqs, Bool.and_eq_true] at h
    rw [AV.beq_eq h.1, AV.beqs_eq h.2]
end
theorem sameK_of {conc : Bool} {v v' : AV} {k : Prop} (h : sameK conc v v' k) : v' = v ∧ k := by
  unfold sameK at h
  cases conc with
  | true => exact ⟨AV.beq_eq (guardP_iff.1 h).1, (guardP_iff.1 h).2⟩
  | false => exact h

section
variable {tt : TyT} {conc : Bool} {H : Heap} {T : Tm}
theorem bytesC_of : ∀ {cs : List AV} {k : List UInt8 → Prop}, bytesC cs k → bytesK cs k
  | [], k, h => ⟨[], rfl, h⟩
  | a :: cs, k, h => by
    cases a with
    | ro d =>
      cases d with
      | int kd n =>
        cases kd <;> first | exact bad.elim h | skip
        obtain ⟨hn, h⟩ := guardP_iff.1 (show guardP (decide (0 ≤ n ∧ n < 256)) (bytesC cs (fun l => k (UInt8.ofNat n.toNat :: l))) from h)
        obtain ⟨bs, hbs, h⟩ := bytesC_of h
        refine ⟨UInt8.ofNat n.toNat :: bs, ?_, h⟩
        simp only [decide_eq_true_eq] at hn
        simp only [List.map_cons, ← hbs]
        have : ((UInt8.ofNat n.toNat).toNat : Int) = n := by
          simp
          omega
        rw [this]
      | _ => exact bad.elim h
    | _ => exact bad.elim h
theorem convC_of {s d : Nat} {x : AV} {k : AV → Prop} (h : convC tt s d H x k) : convK tt s d H x k := by
  unfold convC at h
  cases hd : tt.find d with
  | none => rw [hd] at h; exact h
  | some dd =>
    rw [hd] at h
    cases dd with
    | str =>
      unfold convK
      rw [hd]
      cases x with
      | ro e =>
        cases e with
        | str s => exact h
        | _ =>
          dsimp only at h ⊢
          split at h
          · split at h
            · obtain ⟨n, cs, h, f⟩ := cellsFromK_dm _ h
              simp only [*]
              exact f (fun _ cs => bytesK cs (fun bs => k (.ro (.str ⟨bs.toArray⟩)))) (bytesC_of h)
            · exact h.elim
          · exact h.elim
      | _ =>
        dsimp only at h ⊢
        split at h
        · split at h
          · obtain ⟨n, cs, h, f⟩ := cellsFromK_dm _ h
            simp only [*]
            exact f (fun _ cs => bytesK cs (fun bs => k (.ro (.str ⟨bs.toArray⟩)))) (bytesC_of h)
          · exact h.elim
        · exact h.elim
    | _ => exact h
theorem frc_eq {k : AV → Heap → Prop} : (fun v H => fAV v (fun v => k v H)) = k := by
  funext v H
  exact propext fAV_iff
theorem opA_opK {o : Oper} {k : AV → Heap → Prop} (h : opA tt conc o T H k) : opK tt o T H k := by
  unfold opA at h
  cases conc with
  | false => exact h
  | true =>
    obtain ⟨dst, op, rt, pos, after, guard⟩ := o
    cases op with
    | convert s d x =>
      obtain ⟨a, h, f⟩ := evK_dm _ h
      refine f (fun a => match tt.find s with | some _ => convK tt s d H a (fun v => k v H) | none => bad 26361) ?_
      cases hs : tt.find s with
      | none => rw [hs] at h; exact h.elim
      | some u =>
        rw [hs] at h
        have h := convC_of h
        have e : (fun v => fAV v (fun v => k v H)) = (fun v => k v H) := funext fun v => propext fAV_iff
        rw [e] at h
        exact h
    | makeSlice t l c =>
      obtain ⟨a, h, f⟩ := evK_dm _ h
      obtain ⟨b, h, g⟩ := evK_dm _ h
      refine f (fun l => evK T c (fun c => makeSliceK tt H t l c k)) (g (fun c => makeSliceK tt H t a c k) ?_)
      unfold makeSliceC at h
      rw [frc_eq] at h
      unfold makeSliceK
      split at h
      · obtain ⟨h1, h⟩ := guardP_iff.1 h
        rw [show tt.find t = some (.sl _ _ _ _) from by assumption]
        exact guardP_iff.2 ⟨h1, fList_iff.1 h⟩
      · exact h.elim
    | _ =>
      rw [frc_eq] at h
      exact h
variable {P : Program}
theorem opK_stepK {o : Oper} {k : AV → Heap → Prop} (h : opK tt o T H k) : stepK P tt o T H k := by
  unfold stepK
  split
  · rename_i f args tys ho
    unfold opK at h
    rw [ho] at h
    exact h.elim
  · exact h

/-- What is one step below is sound. -/
structure RecOK (P : Program) (rec : Rec) : Prop where
  bod : ∀ f k, rec.bod f k → bodied P f = true ∧ k
  call : ∀ g args H k, rec.call g args H k → CallP P g args H k
  code : ∀ nt tag c T H K b, rec.code nt tag c T H K → AWP P (Fence.wide.inRound b) nt c T H [] K

/-- Operations in turn, where a step is sound. -/
theorem opsG_ok {F : Fence} {nt : Nat} {S : Oper → Tm → Heap → (AV → Heap → Prop) → Prop} (hS : ∀ o T H k, S o T H k → stepK P tt o T H k) (hF : Plain F) (hP : TyOK P tt) {all : List Oper} {ops : Array Oper} (ha : ops.toList = all) {Q : Exit → Act → World → Prop} {k : Tm → Heap → Prop} :
    ∀ {l : List Oper} {Γ : VL} {Pr : Nat → Prop} {H : Heap} {w : World} {T : Tm} {a : Act},
    Sim Γ Pr H w → RelT Γ Pr w nt T a.tmps → opsG S nt all l T H k →
    (∀ Γ' Pr' H' w' T' tmps', Ext Γ Pr H w Γ' Pr' H' w' → Sim Γ' Pr' H' w' → RelT Γ' Pr' w' nt T' tmps' → k T' H' → Q .normal ⟨tmps', a.defers⟩ w') → wpListIn F 0 P ops Q l a w
  | [], Γ, Pr, H, w, T, a, hs, hT, h, hk => hk _ _ _ _ _ _ (Ext.refl _ _ _ _) hs hT h
  | o :: l, Γ, Pr, H, w, T, a, hs, hT, h, hk => by
    have h : wantedK all o T (S o T H (fun v H => putK nt T o.dst v (fun T => opsG S nt all l T H k))) (putK nt T o.dst (.tup []) (fun T => opsG S nt all l T H k)) := h
    unfold wpListIn
    rcases getLoc ha hT h with ⟨h1, h⟩ | ⟨h1, h⟩
    · rw [if_pos h1]
      refine stepK_ok hF hP hs hT (hS _ _ _ _ h) ?_
      intro Γ' Pr' H' w' x v he hs' hv h
      have hT' := hT.mono he.vl he.pr (hs.keeps he)
      obtain ⟨T', hT'', h⟩ := relT_put hT' hv h
      refine opsG_ok hS hF hP ha hs' hT'' h ?_
      intro Γ2 Pr2 H2 w2 T2 tmps2 he2 hs2 hT2 h2
      rw [put_defers]
      exact hk _ _ _ _ _ _ (he.trans he2) hs2 hT2 h2
    · rw [if_neg (by simp [h1])]
      refine ⟨fun f _ => hF.fn f, ?_⟩
      obtain ⟨T', hT'', h⟩ := relT_put (v := undef) (x := .tup []) hT ⟨[], rfl, rfl⟩ h
      refine opsG_ok hS hF hP ha hs hT'' h ?_
      intro Γ2 Pr2 H2 w2 T2 tmps2 he2 hs2 hT2 h2
      rw [put_defers]
      exact hk _ _ _ _ _ _ he2 hs2 hT2 h2
def asgPost (k : Tm → Heap → Prop) (D : List Nat) : Kont := fun e T H D' => match e with
  | .normal => D' = D ∧ k T H
  | _ => False
/-- What is done ahead of a round. -/
theorem asgA_ok {F : Fence} {nt : Nat} (hF : Plain F) (hP : TyOK P tt) : ∀ {c : Code} {T : Tm} {H : Heap} {D : List Nat} {k : Tm → Heap → Prop}, asgA tt conc nt c T H k → AWP P F nt c T H D (asgPost k D) := by
  intro c
  induction c with
  | skip => intro T H D k h; exact ⟨fun Γ Pr w a hs hT hD => wpIn_skip ⟨.normal, T, H, D, Γ, Pr, rfl, Ext.refl _ _ _ _, hs, hT, hD, rfl, h⟩⟩
  | region id ops draw =>
    intro T H D k h
    cases draw with
    | true => exact bad.elim h
    | false =>
      constructor
      intro Γ Pr w a hs hT hD
      refine wpIn_region_list (opsG_ok (S := opA tt conc) (fun o T H k h => opK_stepK (opA_opK h)) hF hP rfl hs hT h ?_)
      intro Γ' Pr' H' w' T' tmps' he hs' hT' h'
      exact ⟨.normal, T', H', D, Γ', Pr', rfl, he, hs', hT', hD.ext he.vl, rfl, h'⟩
  | seq x y ihx ihy =>
    intro T H D k h
    have h : asgA tt conc nt x T H (fun T H => asgA tt conc nt y T H k) := h
    refine AWP.seq ((ihx (D := D) h).mono ?_)
    intro e T' H' D' hp
    cases e with
    | normal =>
      obtain ⟨rfl, hp⟩ := hp
      exact ihy hp
    | exit id => exact hp.elim
    | ret => exact hp.elim
  | _ => intros; rename_i h; exact bad.elim h

theorem YieldP.of {rec : Rec} {l : Nat} {args : List AV} {H : Heap} {k : AV → Heap → Prop} (hR : RecOK P rec) (hP : TyOK P tt) (h : yieldA tt conc rec l args H k) : YieldP P l args H k := by
  constructor
  intro Γ Pr w vs b n hs hv hg
  obtain ⟨o, hl, h⟩ := nthK_iff.1 h
  cases o with
  | loop L =>
    cases hst0 : isReady L.state with
    | false => simp only [hst0] at h; exact h.elim
    | true =>
    simp only [hst0] at h
    obtain ⟨b', n', hg', hnp, hr⟩ := hs.obj l _ hl rfl
    rw [hg] at hg'
    simp only [Option.some.injEq, Prod.mk.injEq] at hg'
    obtain ⟨rfl, rfl⟩ := hg'
    obtain ⟨fn, tmps, d, m, h1, h2, h3⟩ := hr.loop_get
    obtain ⟨hlen, T, h, hT⟩ := paramsK_ok h2 hv h
    have ready : ∀ {s : LoopState}, isReady s = true → s = .ready := by intro s hs; cases s <;> simp_all [isReady]
    have hst : L.state = .ready := ready hst0
    refine ⟨fn, _, _, _, run_yield h3 (by simpa using hlen.symm), ?_⟩
    refine roundIn_of_wpIn trivial ?_
    have hF : Plain (Fence.wide.inRound b) := .inr ⟨b, rfl⟩
    have hz : ((L.params.zip vs.toArray).foldl (fun tmps (x : Tmp × Value) => tmps.setIfInBounds x.1 x.2) tmps) = ((L.params.toList.zip vs).foldl (fun tmps (x : Tmp × Value) => tmps.setIfInBounds x.1 x.2) tmps) := by
      rw [← Array.foldl_toList]
      simp
    refine wpIn_mono ((asgA_ok (D := []) hF hP h).run Γ Pr w { tmps := _, defers := [] } hs (by rw [← hz] at hT; exact hT) rfl) ?_
    rintro e a' w' ⟨ae, T', H', D', Γ', Pr', rfl, g2, g3, g4, g5, g6⟩
    cases ae with
    | exit id => exact g6.elim
    | ret => exact g6.elim
    | normal =>
      obtain ⟨rfl, g6⟩ := g6
      obtain ⟨o1, hl1, g6⟩ := nthK_iff.1 g6
      cases o1 with
      | loop L1 =>
        cases hst1 : isReady L1.state with
        | false => simp only [hst1] at g6; exact g6.elim
        | true =>
        simp only [hst1] at g6
        obtain ⟨_, g6⟩ := setNthK_iff.1 g6
        have hg' : Γ'[l]? = some (b, n) := vl_ext g2.vl hg
        obtain ⟨b2, n2, hg2, hnp2, hr2⟩ := g3.obj l _ hl1 rfl
        rw [hg'] at hg2
        simp only [Option.some.injEq, Prod.mk.injEq] at hg2
        obtain ⟨rfl, rfl⟩ := hg2
        obtain ⟨fn2, tmps2, d2, m2, q1, q2, q3⟩ := hr2.loop_get
        obtain ⟨s1, s2⟩ := g3.turn hl1 hg' .busy L1.pending q3
        refine ⟨_, run_beginRound q3 (ready hst1), ?_⟩
        have hT' := g4.mono s2.vl s2.pr (g3.keeps s2)
        obtain ⟨tmps', ds'⟩ := a'
        refine wpIn_mono ((hR.code _ _ _ _ _ _ b g6).run Γ' Pr' _ ⟨tmps', ds'⟩ s1 hT' g5) ?_
        rintro e a3 w3 ⟨ae, T3, H3, D3, Γ3, Pr3, rfl, k2, k3, k4, k5, k6⟩
        obtain ⟨o, ho, k6⟩ := nthK_iff.1 k6
        have hg3 : Γ3[l]? = some (b, n) := vl_ext k2.vl hg'
        have eAll := (g2.trans s2).trans k2
        have fin : ∀ (L3 : ALoop) (st : LoopState) (pe : Option Code) (r : AV) (rv : Value), H3[l]? = some (.loop L3) → setNthK H3 l (.loop { L3 with state := st, pending := pe }) (fun H => k r H) → (∀ Γ Pr w, RelV Γ Pr w r rv) →
            ∃ rc, w3.heap[b]? = some (.loop rc) ∧ ∃ v, (Ending.returned rv : Ending) = .returned v ∧ ∃ r H' Γ' Pr', Ext Γ Pr H w Γ' Pr' H' (w3.putObj b (.loop { rc with state := st, pending := pe })) ∧ Sim Γ' Pr' H' (w3.putObj b (.loop { rc with state := st, pending := pe })) ∧ RelV Γ' Pr' (w3.putObj b (.loop { rc with state := st, pending := pe })) r v ∧ k r H' := by
          intro L3 st pe r rv ho3 h6 hrv
          obtain ⟨b3, n3, hg4, hnp4, hr4⟩ := k3.obj l _ ho3 rfl
          rw [hg3] at hg4
          simp only [Option.some.injEq, Prod.mk.injEq] at hg4
          obtain ⟨rfl, rfl⟩ := hg4
          obtain ⟨fn4, tmps4, d4, m4, p1, p2, p3⟩ := hr4.loop_get
          obtain ⟨t1, t2⟩ := k3.turn ho3 hg3 st pe p3
          obtain ⟨_, h6⟩ := setNthK_iff.1 h6
          exact ⟨_, p3, rv, rfl, r, _, Γ3, Pr3, eAll.trans t2, t1, hrv _ _ _, h6⟩
        cases o with
        | loop L3 =>
          cases ae with
          | normal =>
            obtain ⟨rc, hrc, hfin⟩ := fin L3 .ready none (.ro (.bool true)) (.bool true) ho k6 (fun _ _ _ => rfl)
            exact ⟨_, _, run_endRound none hrc, hfin⟩
          | exit id =>
            obtain ⟨rc, hrc, hfin⟩ := fin L3 .done (some (.exit id)) (.ro (.bool false)) (.bool false) ho k6 (fun _ _ _ => rfl)
            exact ⟨_, _, run_endRound (some (.exit id)) hrc, hfin⟩
          | ret =>
            obtain ⟨rc, hrc, hfin⟩ := fin L3 .done (some .ret) (.ro (.bool false)) (.bool false) ho k6 (fun _ _ _ => rfl)
            exact ⟨_, _, run_endRound (some .ret) hrc, hfin⟩
        | _ => exact bad.elim k6
      | _ => exact bad.elim g6
  | _ => exact bad.elim h
theorem callVA_of {rec : Rec} {fv : AV} {args : List AV} {k : AV → Heap → Prop} (hR : RecOK P rec) (hP : TyOK P tt) (h : callVA tt conc rec fv args H k) : callK P fv args H k := by
  unfold callVA at h
  split at h
  · exact hR.call _ _ _ _ h
  · exact appK_iff.2 (appK_iff.2 (hR.call _ _ _ _ (appK_iff.1 (appK_iff.1 h))))
  · exact YieldP.of hR hP h
  · exact h.elim
theorem stepA_of {rec : Rec} {o : Oper} {k : AV → Heap → Prop} (hR : RecOK P rec) (hP : TyOK P tt) (h : stepA tt conc rec o T H k) : stepK P tt o T H k := by
  obtain ⟨dst, op, rt, pos, after, guard⟩ := o
  cases op with
  | call c =>
    obtain ⟨callee, args, tys⟩ := c
    cases callee with
    | value f =>
      obtain ⟨fv, h, g1⟩ := evK_dm _ (show evK T f (fun fv => evsK T args.toList (fun vs => callVA tt conc rec fv vs H k)) from h)
      obtain ⟨vs, h, g2⟩ := evsK_dm _ h
      exact g1 (fun fv => evsK T args.toList (fun vs => callK P fv vs H k)) (g2 (fun vs => callK P fv vs H k) (callVA_of hR hP h))
    | _ => exact opK_stepK (opA_opK h)
  | _ => exact opK_stepK (opA_opK h)
end
end Go.Ab
