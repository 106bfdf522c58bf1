/- The abstract layer, part 11: code. What code achieves from an abstract state (AWP), what a call achieves (CallP), and the evaluator of code. -/
import Derived.Test.YtlpdflhpajhnoaaGreatAb10
import Derived.TacticsIn
import Derived.RangeFuncCalls
namespace Go.Ab

inductive AE where
  | normal
  | exit (id : Nat)
  | ret
def AE.toExit : AE → Exit
  | .normal => .normal
  | .exit id => .exit id
  | .ret => .ret
/-- What is kept of the loops over functions: their records' labels. -/
def RelDf (Γ : VL) : List Nat → List Deferred → Prop
  | [], ds => ds = []
  | l :: D, ds => ∃ b n ds', Γ[l]? = some (b, n) ∧ ds = { target := .collected b, args := #[] } :: ds' ∧ RelDf Γ D ds'
theorem RelDf.mono {Γ δ : VL} : ∀ {D : List Nat} {ds : List Deferred}, RelDf Γ D ds → RelDf (Γ ++ δ) D ds
  | [], _, h => h
  | l :: D, ds, ⟨b, n, ds', h1, h2, h3⟩ => ⟨b, n, ds', by rw [List.getElem?_append_left (List.getElem?_eq_some_iff.1 h1).1]; exact h1, h2, h3.mono⟩

abbrev Kont := AE → Tm → Heap → List Nat → Prop

section
variable (P : Program) (F : Fence) (nt : Nat)
def Post (Γ : VL) (Pr : Nat → Prop) (H : Heap) (w : World) (K : Kont) : Exit → Act → World → Prop := fun e a' w' =>
  ∃ ae T' H' D' Γ' Pr', e = AE.toExit ae ∧ Ext Γ Pr H w Γ' Pr' H' w' ∧ Sim Γ' Pr' H' w' ∧ RelT Γ' Pr' w' nt T' a'.tmps ∧ RelDf Γ' D' a'.defers ∧ K ae T' H' D'
/-- Code, from an abstract state. -/
structure AWP (c : Code) (T : Tm) (H : Heap) (D : List Nat) (K : Kont) : Prop where
  run : ∀ Γ Pr w a, Sim Γ Pr H w → RelT Γ Pr w nt T a.tmps → RelDf Γ D a.defers → c.wpIn F 0 P (Post nt Γ Pr H w K) a w
/-- What a function answers at these values: with a body, or of the model's own. -/
def FnRun (f : FuncId) (vs : Array Value) (w : World) (R : Value → World → Prop) : Prop :=
  ((callFunc f vs).run P w = .ok (.enter f vs) w ∧ CallsIn Fence.wide 0 P f vs w (fun e w' => ∃ v, e = .returned v ∧ R v w')) ∨
  ∃ v w', (callFunc f vs).run P w = .ok (.value v) w' ∧ R v w'
/-- A call, from an abstract heap. -/
structure CallP (f : FuncId) (args : List AV) (H : Heap) (k : AV → Heap → Prop) : Prop where
  run : ∀ Γ Pr w vs, Sim Γ Pr H w → RelVs Γ Pr w args vs →
    FnRun P f vs.toArray w (fun v w' => ∃ r H' Γ' Pr', Ext Γ Pr H w Γ' Pr' H' w' ∧ Sim Γ' Pr' H' w' ∧ RelV Γ' Pr' w' r v ∧ k r H')
end

theorem AWP.mono {P : Program} {F : Fence} {nt : Nat} {c : Code} {T : Tm} {H : Heap} {D : List Nat} {K K' : Kont} (h : AWP P F nt c T H D K) (hk : ∀ e T H D, K e T H D → K' e T H D) : AWP P F nt c T H D K' := by
  constructor
  intro Γ Pr w a hs hT hD
  refine wpIn_mono (h.run Γ Pr w a hs hT hD) ?_
  rintro e a' w' ⟨ae, T', H', D', Γ', Pr', h1, h2, h3, h4, h5, h6⟩
  exact ⟨ae, T', H', D', Γ', Pr', h1, h2, h3, h4, h5, hk _ _ _ _ h6⟩
theorem FnRun.mono {P : Program} {f : FuncId} {vs : Array Value} {w : World} {R R' : Value → World → Prop} (h : FnRun P f vs w R) (hr : ∀ v w', R v w' → R' v w') : FnRun P f vs w R' := by
  rcases h with ⟨h1, h2⟩ | ⟨v, w', h1, h2⟩
  · exact .inl ⟨h1, h2.mono fun e w' ⟨v, he, hv⟩ => ⟨v, he, hr _ _ hv⟩⟩
  · exact .inr ⟨v, w', h1, hr _ _ h2⟩
theorem CallP.mono {P : Program} {f : FuncId} {args : List AV} {H : Heap} {k k' : AV → Heap → Prop} (h : CallP P f args H k) (hk : ∀ r H', k r H' → k' r H') : CallP P f args H k' :=
  ⟨fun Γ Pr w vs hs hv => (h.run Γ Pr w vs hs hv).mono fun _ _ ⟨r, H', Γ', Pr', h1, h2, h3, h4⟩ => ⟨r, H', Γ', Pr', h1, h2, h3, hk _ _ h4⟩⟩

section
variable (P : Program) (F : Fence) (nt : Nat) (tt : TyT)
def putK (T : Tm) (dst : Option Nat) (v : AV) (k : Tm → Prop) : Prop :=
  match dst with
  | none => k T
  | some d => if d < nt then setK 40 T d v k else bad 30601
/-- A round of a loop over a function, asked for by its yield function. -/
structure YieldP (l : Nat) (args : List AV) (H : Heap) (k : AV → Heap → Prop) : Prop where
  run : ∀ Γ Pr w vs b n, Sim Γ Pr H w → RelVs Γ Pr w args vs → Γ[l]? = some (b, n) → ∃ f tmps as bd, (Instr.yield b vs.toArray).run P w = .ok (.round b f tmps as bd) w ∧
    RoundIn Fence.wide 0 P b f tmps as bd w (fun e w' => ∃ v, e = .returned v ∧ ∃ r H' Γ' Pr', Ext Γ Pr H w Γ' Pr' H' w' ∧ Sim Γ' Pr' H' w' ∧ RelV Γ' Pr' w' r v ∧ k r H')
def callK (fv : AV) (args : List AV) (H : Heap) (k : AV → Heap → Prop) : Prop :=
  match fv with
  | .ro (.fn (.func g)) => CallP P g args H k
  | .fn (.func g) first cap => appK args cap (fun l => appK first l (fun l => CallP P g l H k))
  | .yld l => YieldP P l args H k
  | _ => bad 30701
def stepK (o : Oper) (T : Tm) (H : Heap) (k : AV → Heap → Prop) : Prop :=
  match o.op with
  | .call ⟨.value f, args, _⟩ => evK T f (fun fv => evsK T args.toList (fun vs => callK P fv vs H k))
  | _ => opK tt o T H k
def wantedK (all : List Oper) (o : Oper) (T : Tm) (y n : Prop) : Prop :=
  match o.guard with
  | none => y
  | some (g, want) => nthK all g (fun og => match og.dst with
    | some d => getK T d (fun v => match v with
      | .ro (.bool b) => (match want with | true => condB b y n | false => condB b n y)
      | .tup [] => n
      | _ => bad 30811)
    | none => bad 30821)
/-- Operations in turn (by the recursor itself: so that the elaborator and the kernel keep what is left of them alike). -/
noncomputable def opsK (all : List Oper) (l : List Oper) : Tm → Heap → (Tm → Heap → Prop) → Prop :=
  @List.rec Oper (fun _ => Tm → Heap → (Tm → Heap → Prop) → Prop) (fun T H k => k T H)
    (fun o _ ih T H k => wantedK all o T (stepK P tt o T H (fun v H => putK nt T o.dst v (fun T => ih T H k))) (putK nt T o.dst (.tup []) (fun T => ih T H k))) l
/-- What comes behind the first half of a sequence. -/
def seqK (y : Tm → Heap → List Nat → Kont → Prop) (K : Kont) : Kont := fun e T H D => match e with
  | .normal => y T H D K
  | .exit id => K (.exit id) T H D
  | .ret => K .ret T H D
def blockK (id : Nat) (K : Kont) : Kont := fun e T H D => match e with
  | .normal => K .normal T H D
  | .exit i => if i = id then K .normal T H D else K (.exit i) T H D
  | .ret => K .ret T H D
def ifK (v : AV) (x y : Prop) : Prop := match v with
  | .ro (.bool b) => condB b x y
  | _ => bad 30981
def regionK (id : Nat) (ops : Array Oper) (draw : Bool) (T : Tm) (H : Heap) (D : List Nat) (K : Kont) : Prop := match draw with
  | false => opsK P nt tt ops.toList ops.toList T H (fun T H => K .normal T H D)
  | true => AWP P F nt (.region id ops true) T H D K
noncomputable def codeK (c : Code) : Tm → Heap → List Nat → Kont → Prop :=
  @Code.rec (fun _ => Tm → Heap → List Nat → Kont → Prop)
    (skip := fun T H D K => K .normal T H D)
    (region := fun id ops draw T H D K => regionK P F nt tt id ops draw T H D K)
    (seq := fun _ _ ihx ihy T H D K => ihx T H D (seqK ihy K))
    (cond := fun c _ _ ihx ihy T H D K => evK T c (fun v => ifK v (ihx T H D K) (ihy T H D K)))
    (block := fun id _ ih T H D K => ih T H D (blockK id K))
    (loop := fun c _ T H D K => AWP P F nt (.loop c) T H D K)
    (rangeFunc := fun g ps as bd _ _ T H D K => AWP P F nt (.rangeFunc g ps as bd) T H D K)
    (exit := fun id T H D K => K (.exit id) T H D)
    (scope := fun _ _ _ _ _ _ => bad 31121)
    (label := fun _ T H D K => K .normal T H D)
    (goto := fun _ _ _ _ _ => bad 31141)
    (ret := fun T H D K => K .ret T H D)
    (refuse := fun _ _ _ _ _ => bad 31161) c
end

section sound
variable {P : Program} {F : Fence} {nt : Nat} {tt : TyT}
/-- The fences that this layer walks in: none, or none in a round. -/
def Plain (F : Fence) : Prop := F = Fence.wide ∨ ∃ l, F = Fence.wide.inRound l
theorem Plain.fn (h : Plain F) (f : FuncId) : F.fn f := by rcases h with rfl | ⟨l, rfl⟩ <;> trivial
theorem Plain.depth (h : Plain F) : F.depth.isSome = false := by rcases h with rfl | ⟨l, rfl⟩ <;> rfl
theorem Plain.calls (h : Plain F) {n : Nat} {f : FuncId} {args : Array Value} {w : World} {R : Ending → World → Prop} (hc : CallsIn Fence.wide n P f args w R) : CallsIn F n P f args w R := by
  rcases h with rfl | ⟨l, rfl⟩
  · exact hc
  · exact hc.inRound l
theorem Plain.rounds (h : Plain F) {n l : Nat} {f : FuncId} {tmps : Array Value} {as bd : Code} {w : World} {R : Ending → World → Prop} (hc : RoundIn Fence.wide n P l f tmps as bd w R) : RoundIn F n P l f tmps as bd w R := by
  rcases h with rfl | ⟨l, rfl⟩
  · exact hc
  · exact hc
theorem Plain.sem (h : Plain F) (ρ : Operand → Value) (o : Oper) (hd : ∀ c, o.op ≠ .defer c) : o.semAt F.round ρ = execOp ρ o := by
  rcases h with rfl | ⟨l, rfl⟩
  · exact Oper.semAt_none ρ o
  · exact Oper.semAt_some _ ρ o hd

theorem relT_put {Γ : VL} {Pr : Nat → Prop} {w : World} {T : Tm} {a : Act} {dst : Option Nat} {x : AV} {v : Value} {k : Tm → Prop} (hT : RelT Γ Pr w nt T a.tmps) (hx : RelV Γ Pr w x v) (h : putK nt T dst x k) :
    ∃ T', RelT Γ Pr w nt T' (a.put dst v).tmps ∧ k T' := by
  unfold putK at h
  split at h
  · exact ⟨T, hT, h⟩
  · rename_i d
    split at h
    · rename_i hd
      obtain ⟨T', h1, h2⟩ := setK_iff.1 h
      refine ⟨T', ⟨by simp [Act.put, hT.1], fun i => ?_⟩, h2⟩
      rw [Tm.get_set h1]
      simp only [Act.put]
      by_cases hi : i = d
      · subst hi
        rw [if_pos rfl, Array.getD_eq_getD_getElem?, Array.getElem?_setIfInBounds]
        rw [← hT.1] at hd
        simp [hd, hx]
      · rw [if_neg hi]
        have := hT.2 i
        rw [Array.getD_eq_getD_getElem?] at this ⊢
        rw [Array.getElem?_setIfInBounds]
        rw [if_neg (fun e => hi e.symm)]
        exact this
    · exact h.elim
theorem put_defers (a : Act) (dst : Option Nat) (v : Value) : (a.put dst v).defers = a.defers := by cases dst <;> rfl
theorem getLoc {o : Oper} {T : Tm} {all : List Oper} {y n : Prop} {ops : Array Oper} (ha : ops.toList = all) {Γ : VL} {Pr : Nat → Prop} {w : World} {tmps : Array Value} (hT : RelT Γ Pr w nt T tmps) (h : wantedK all o T y n) :
    (Region.wanted o (yielded ops tmps) = true ∧ y) ∨ (Region.wanted o (yielded ops tmps) = false ∧ n) := by
  unfold wantedK at h
  unfold Region.wanted
  split at h
  · rename_i hg; rw [hg]; exact .inl ⟨rfl, h⟩
  · rename_i g want hg
    rw [hg]
    obtain ⟨og, hog, h⟩ := nthK_iff.1 h
    split at h
    · rename_i d hd
      have h := getK_iff.1 h
      have hv := hT.2 d
      split at h
      · rename_i b hb
        rw [hb] at hv
        have hv : tmps.getD d undef = .bool b := hv
        have hy : yielded ops tmps g = some b := by
          have h0 : ops[g]? = some og := by rw [← Array.getElem?_toList, ha]; exact hog
          have h1 : tmps[d]? = some (.bool b) := by
            rw [Array.getD_eq_getD_getElem?] at hv
            cases hc : tmps[d]? with
            | none => rw [hc] at hv; simp [undef] at hv
            | some x => rw [hc] at hv; simpa using hv
          simp [yielded, h0, hd, h1]
        simp only [hy]
        cases want <;> cases b <;> simp only [condB] at h <;> first | exact .inl ⟨rfl, h⟩ | exact .inr ⟨rfl, h⟩
      · rename_i hb
        rw [hb] at hv
        obtain ⟨us, hv, hus⟩ := hv
        have hus : us = [] := hus
        subst hus
        have hy : yielded ops tmps g = none := by
          have h0 : ops[g]? = some og := by rw [← Array.getElem?_toList, ha]; exact hog
          rw [Array.getD_eq_getD_getElem?] at hv
          cases hc : tmps[d]? with
          | none => simp [yielded, h0, hd, hc]
          | some x =>
            rw [hc] at hv
            have hx : x = .tuple #[] := by simpa using hv
            simp [yielded, h0, hd, hc, hx]
        refine .inr ⟨?_, h⟩
        simp [hy]
      · exact h.elim
    · exact h.elim

/-- One operation, a call of a function among them. -/
theorem stepK_ok (hF : Plain F) (hP : TyOK P tt) {Γ : VL} {Pr : Nat → Prop} {H : Heap} {w : World} {T : Tm} {a : Act} {o : Oper} {k : AV → Heap → Prop} (hs : Sim Γ Pr H w) (hT : RelT Γ Pr w nt T a.tmps)
    {next : Act → World → Prop} {Q : Exit → Act → World → Prop} (h : stepK P tt o T H k)
    (hk : ∀ Γ' Pr' H' w' x v, Ext Γ Pr H w Γ' Pr' H' w' → Sim Γ' Pr' H' w' → RelV Γ' Pr' w' x v → k x H' → next (a.put o.dst v) w') : o.wpIn F 0 P a w next Q := by
  refine ⟨fun f _ => hF.fn f, ?_⟩
  obtain ⟨tmps, ds⟩ := a
  unfold stepK at h
  split at h
  · rename_i f args tys ho
    have hd : ∀ c, o.op ≠ .defer c := by rw [ho]; simp
    rw [hF.sem _ _ hd]
    obtain ⟨fv, hfv, h⟩ := evK_ok (ds := ds) hT h
    obtain ⟨vs, hvs, h⟩ := evsK_ok (ds := ds) hT h
    have key : ∀ (g : FuncId) (first cap : List Value) (as : List AV), Act.eval ⟨tmps, ds⟩ f = .func (.func g) first.toArray cap.toArray → RelVs Γ Pr w as (first ++ (args.toList.map (Act.eval ⟨tmps, ds⟩)) ++ cap) → CallP P g as H k →
        Oper.uponIn F 0 P o ⟨tmps, ds⟩ next Q (Sem.run P (execOp (Act.eval ⟨tmps, ds⟩) o) w) := by
      intro g first cap as he hr hc
      have hrun : (execOp (Act.eval ⟨tmps, ds⟩) o).run P w = (callFunc g (first ++ (args.toList.map (Act.eval ⟨tmps, ds⟩)) ++ cap).toArray).run P w := by
        unfold execOp
        simp only [ho]
        have e1 : first.toArray ++ args.map (Act.eval ⟨tmps, ds⟩) ++ cap.toArray = (first ++ (args.toList.map (Act.eval ⟨tmps, ds⟩)) ++ cap).toArray := by
          apply Array.ext'; simp
        rw [← e1]
        simp [resolve, he, Deferred.ofValue, invoke]
      rw [hrun]
      rcases hc.run Γ Pr w _ hs hr with ⟨h1, h2⟩ | ⟨v, w', h1, r, H', Γ', Pr', g1, g2, g3, g4⟩
      · rw [h1, Oper.uponIn_enter]
        refine ⟨fun hdep => (by rw [hF.depth] at hdep; cases hdep), (hF.calls h2).mono ?_⟩
        rintro e w' ⟨v, rfl, r, H', Γ', Pr', g1, g2, g3, g4⟩
        exact hk _ _ _ _ _ _ g1 g2 g3 g4
      · rw [h1, Oper.uponIn_value]
        exact hk _ _ _ _ _ _ g1 g2 g3 g4
    unfold callK at h
    split at h
    · exact key _ [] [] vs hfv (by simpa using hvs) h
    · obtain ⟨fs, cs, he, hfs, hcs⟩ := hfv
      have h := appK_iff.1 h
      have h := appK_iff.1 h
      exact key _ fs cs _ he (by simpa [List.append_assoc] using relVs_append hfs (relVs_append hvs hcs)) h
    · rename_i l
      obtain ⟨b, n, hg, he⟩ := hfv
      obtain ⟨f', tmps', as, bd, h1, h2⟩ := h.run Γ Pr w _ b n hs hvs hg
      have hrun : (execOp (Act.eval ⟨tmps, ds⟩) o).run P w = (Instr.yield b (args.toList.map (Act.eval ⟨tmps, ds⟩)).toArray).run P w := by
        unfold execOp
        simp only [ho]
        have e1 : args.map (Act.eval ⟨tmps, ds⟩) = (args.toList.map (Act.eval ⟨tmps, ds⟩)).toArray := by apply Array.ext'; simp
        rw [← e1]
        simp [resolve, he, Deferred.ofValue, invoke]
      rw [hrun, h1, Oper.uponIn_round]
      refine ⟨fun hdep => (by rw [hF.depth] at hdep; cases hdep), (hF.rounds h2).mono ?_⟩
      rintro e w' ⟨v, rfl, r, H', Γ', Pr', g1, g2, g3, g4⟩
      exact hk _ _ _ _ _ _ g1 g2 g3 g4
    · exact h.elim
  · have hd : ∀ c, o.op ≠ .defer c := by
      intro c hc
      obtain ⟨dst, op, rt, pos, after, guard⟩ := o
      simp only at hc
      subst hc
      exact (bad.no h)
    rw [hF.sem _ _ hd]
    obtain ⟨v, w', x, H', Γ', Pr', hrun, g1, g2, g3, g4⟩ := opK_ok (ds := ds) hP hs hT h
    rcases hrun with hrun | ⟨hrun, rfl⟩
    · rw [hrun, Oper.uponIn_value]
      exact hk _ _ _ _ _ _ g1 g2 g3 g4
    · rw [hrun, Oper.uponIn_skip]
      exact hk _ _ _ _ _ _ g1 g2 g3 g4

theorem opsK_ok (hF : Plain F) (hP : TyOK P tt) {all : List Oper} {ops : Array Oper} (ha : ops.toList = all) {Q : Exit → Act → World → Prop} {k : Tm → Heap → Prop} : ∀ {l : List Oper} {Γ : VL} {Pr : Nat → Prop} {H : Heap} {w : World} {T : Tm} {a : Act},
    Sim Γ Pr H w → RelT Γ Pr w nt T a.tmps → opsK P nt tt all l T H k →
    (∀ Γ' Pr' H' w' T' tmps', Ext Γ Pr H w Γ' Pr' H' w' → Sim Γ' Pr' H' w' → RelT Γ' Pr' w' nt T' tmps' → k T' H' → Q .normal ⟨tmps', a.defers⟩ w') → wpListIn F 0 P ops Q l a w
  | [], Γ, Pr, H, w, T, a, hs, hT, h, hk => hk _ _ _ _ _ _ (Ext.refl _ _ _ _) hs hT h
  | o :: l, Γ, Pr, H, w, T, a, hs, hT, h, hk => by
    have h : wantedK all o T (stepK P tt o T H (fun v H => putK nt T o.dst v (fun T => opsK P nt tt all l T H k))) (putK nt T o.dst (.tup []) (fun T => opsK P nt tt all l T H k)) := h
    unfold wpListIn
    rcases getLoc ha hT h with ⟨h1, h⟩ | ⟨h1, h⟩
    · rw [if_pos h1]
      refine stepK_ok hF hP hs hT h ?_
      intro Γ' Pr' H' w' x v he hs' hv h
      have hT' := hT.mono he.vl he.pr (hs.keeps he)
      obtain ⟨T', hT'', h⟩ := relT_put hT' hv h
      refine opsK_ok hF hP ha hs' hT'' h ?_
      intro Γ2 Pr2 H2 w2 T2 tmps2 he2 hs2 hT2 h2
      rw [put_defers]
      exact hk _ _ _ _ _ _ (he.trans he2) hs2 hT2 h2
    · rw [if_neg (by simp [h1])]
      refine ⟨fun f _ => hF.fn f, ?_⟩
      obtain ⟨T', hT'', h⟩ := relT_put (v := undef) (x := .tup []) hT ⟨[], rfl, rfl⟩ h
      refine opsK_ok hF hP ha hs hT'' h ?_
      intro Γ2 Pr2 H2 w2 T2 tmps2 he2 hs2 hT2 h2
      rw [put_defers]
      exact hk _ _ _ _ _ _ he2 hs2 hT2 h2

theorem Post.trans {Γ Γ' : VL} {Pr Pr' : Nat → Prop} {H H' : Heap} {w w' : World} {K : Kont} {e : Exit} {a : Act} {w2 : World} (he : Ext Γ Pr H w Γ' Pr' H' w') (h : Post nt Γ' Pr' H' w' K e a w2) : Post nt Γ Pr H w K e a w2 := by
  obtain ⟨ae, T', H', D', Γ', Pr', h1, h2, h3, h4, h5, h6⟩ := h
  exact ⟨ae, T', H', D', Γ', Pr', h1, he.trans h2, h3, h4, h5, h6⟩
theorem RelDf.ext {Γ Γ' : VL} {D : List Nat} {ds : List Deferred} (h : ∃ δ, Γ' = Γ ++ δ) (hd : RelDf Γ D ds) : RelDf Γ' D ds := by
  obtain ⟨δ, rfl⟩ := h; exact hd.mono

/-- **The evaluator is sound.** -/
theorem codeK_run (hF : Plain F) (hP : TyOK P tt) : ∀ {c : Code} {T : Tm} {H : Heap} {D : List Nat} {K : Kont}, codeK P F nt tt c T H D K → ∀ Γ Pr w a, Sim Γ Pr H w → RelT Γ Pr w nt T a.tmps → RelDf Γ D a.defers → c.wpIn F 0 P (Post nt Γ Pr H w K) a w := by
  intro c
  induction c with
  | skip => intro T H D K h Γ Pr w a hs hT hD; exact wpIn_skip ⟨.normal, T, H, D, Γ, Pr, rfl, Ext.refl _ _ _ _, hs, hT, hD, h⟩
  | label l => intro T H D K h Γ Pr w a hs hT hD; exact wpIn_label ⟨.normal, T, H, D, Γ, Pr, rfl, Ext.refl _ _ _ _, hs, hT, hD, h⟩
  | exit id => intro T H D K h Γ Pr w a hs hT hD; exact wpIn_exit ⟨.exit id, T, H, D, Γ, Pr, rfl, Ext.refl _ _ _ _, hs, hT, hD, h⟩
  | ret => intro T H D K h Γ Pr w a hs hT hD; exact wpIn_ret ⟨.ret, T, H, D, Γ, Pr, rfl, Ext.refl _ _ _ _, hs, hT, hD, h⟩
  | seq x y ihx ihy =>
    intro T H D K h Γ Pr w a hs hT hD
    refine wpIn_seq (wpIn_mono (ihx h Γ Pr w a hs hT hD) ?_)
    rintro e a' w' ⟨ae, T', H', D', Γ', Pr', rfl, h2, h3, h4, h5, h6⟩
    cases ae with
    | normal => exact wpIn_mono (ihy h6 Γ' Pr' w' a' h3 h4 h5) fun e a w hp => Post.trans h2 hp
    | exit id => exact ⟨_, T', H', D', Γ', Pr', rfl, h2, h3, h4, h5, h6⟩
    | ret => exact ⟨_, T', H', D', Γ', Pr', rfl, h2, h3, h4, h5, h6⟩
  | cond c x y ihx ihy =>
    intro T H D K h Γ Pr w a hs hT hD
    obtain ⟨tmps, ds⟩ := a
    have h : evK T c (fun v => ifK v (codeK P F nt tt x T H D K) (codeK P F nt tt y T H D K)) := h
    obtain ⟨v, hv, h⟩ := evK_ok (ds := ds) hT h
    unfold ifK at h
    split at h
    · rename_i b
      obtain ⟨h1, h2⟩ := condB_iff.1 h
      exact wpIn_cond_split (t := b) hv (fun hb => ihx (h1 hb) Γ Pr w _ hs hT hD) (fun hb => ihy (h2 hb) Γ Pr w _ hs hT hD)
    · exact h.elim
  | block id c ih =>
    intro T H D K h Γ Pr w a hs hT hD
    refine wpIn_block (wpIn_mono (ih h Γ Pr w a hs hT hD) ?_)
    rintro e a' w' ⟨ae, T', H', D', Γ', Pr', rfl, h2, h3, h4, h5, h6⟩
    cases ae with
    | normal => exact ⟨.normal, T', H', D', Γ', Pr', rfl, h2, h3, h4, h5, h6⟩
    | exit i =>
      simp only [AE.toExit, Exit.inBlock, blockK] at *
      split
      · rename_i hi; rw [if_pos hi] at h6; exact ⟨.normal, T', H', D', Γ', Pr', rfl, h2, h3, h4, h5, h6⟩
      · rename_i hi; rw [if_neg hi] at h6; exact ⟨.exit i, T', H', D', Γ', Pr', rfl, h2, h3, h4, h5, h6⟩
    | ret => exact ⟨.ret, T', H', D', Γ', Pr', rfl, h2, h3, h4, h5, h6⟩
  | region id ops draw =>
    intro T H D K h
    cases draw with
    | true => exact h.run
    | false =>
      intro Γ Pr w a hs hT hD
      refine wpIn_region_list (opsK_ok hF hP rfl hs hT h ?_)
      intro Γ' Pr' H' w' T' tmps' he hs' hT' h'
      exact ⟨.normal, T', H', D, Γ', Pr', rfl, he, hs', hT', hD.ext he.vl, h'⟩
  | loop c _ => intro T H D K h; exact h.run
  | rangeFunc g ps as bd _ _ => intro T H D K h; exact h.run
  | goto l => intro T H D K h; exact h.elim
  | scope c _ => intro T H D K h; exact h.elim
  | refuse w => intro T H D K h; exact h.elim
theorem codeK_ok (hF : Plain F) (hP : TyOK P tt) {c : Code} {T : Tm} {H : Heap} {D : List Nat} {K : Kont} (h : codeK P F nt tt c T H D K) : AWP P F nt c T H D K := ⟨codeK_run hF hP h⟩
end sound
end Go.Ab
