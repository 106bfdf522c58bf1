/- The abstract layer, part 12: a function of the program, entered: its body is run by the evaluator. -/
import Derived.Test.YtlpdflhpajhnoaaGreatAb11
namespace Go.Ab

def argsK : List AV → Nat → Tm → (Tm → Prop) → Prop
  | [], _, T, k => k T
  | a :: as, i, T, k => setK 40 T i a (fun T => argsK as (i + 1) T k)
def closeK : List Nat → Heap → (Heap → Prop) → Prop
  | [], H, k => k H
  | l :: D, H, k => nthK H l (fun o => match o with
    | .dfr => setNthK H l .dead (fun H => closeK D H k)
    | _ => bad 40121)
section
variable (tt : TyT)
def resK (T : Tm) (H : Heap) : List ResultVar → (List AV → Prop) → Prop
  | [], k => k []
  | .tmp t :: r, k => getK T t (fun v => resK T H r (fun vs => k (v :: vs)))
  | .cell a t :: r, k => getK T a (fun a => loadK tt H t a (fun v => resK T H r (fun vs => k (v :: vs))))
def resultK (T : Tm) (H : Heap) (rs : List ResultVar) (k : AV → Prop) : Prop :=
  resK tt T H rs (fun vs => match vs with
    | [v] => k v
    | vs => k (.tup vs))
/-- What is asked at the end of a function's body. -/
def endK (rs : List ResultVar) (k : AV → Heap → Prop) : Kont := fun e T H D => match e with
  | .exit _ => bad 40251
  | .normal => closeK D H (fun H => resultK tt T H rs (fun r => k r H))
  | .ret => closeK D H (fun H => resultK tt T H rs (fun r => k r H))
def enterK (P : Program) (fn : Func) (c : Code) (args : List AV) (H : Heap) (k : AV → Heap → Prop) : Prop :=
  guardP (Nat.ble args.length fn.ntmps) (argsK args 0 .leaf (fun T => codeK P Fence.wide fn.ntmps tt c T H [] (endK tt fn.results.toList k)))
end

section
variable {P : Program} {tt : TyT} {Γ : VL} {Pr : Nat → Prop} {H : Heap} {w : World} {nt : Nat} {T : Tm}
theorem argsK_ok : ∀ {as : List AV} {i : Nat} {T : Tm} {k : Tm → Prop} , argsK as i T k → ∃ T', k T' ∧ ∀ j, T'.get j = if i ≤ j then (match as[j - i]? with | some a => a | none => T.get j) else T.get j
  | [], i, T, k, h => ⟨T, h, fun j => by simp⟩
  | a :: as, i, T, k, h => by
    obtain ⟨T1, h1, h⟩ := setK_iff.1 h
    obtain ⟨T2, h2, h3⟩ := argsK_ok h
    refine ⟨T2, h2, fun j => ?_⟩
    rw [h3, Tm.get_set h1]
    by_cases hj : i = j
    · subst hj; simp; omega
    · by_cases hl : i ≤ j
      · have e : j - i = (j - (i + 1)) + 1 := by omega
        rw [if_pos (by omega : i + 1 ≤ j), if_pos hl, e, List.getElem?_cons_succ, if_neg (fun e => hj e.symm)]
      · rw [if_neg (by omega), if_neg hl, if_neg (fun e => hj e.symm)]
theorem run_asAddr {t : Nat} {v x : Value} {w' : World} (h : (Instr.loadAt t v).run P w = .ok x w') : (do loadVar t (← asAddr v) : Sem Value).run P w = .ok x w' := by
  cases v with
  | pointer p =>
    cases p with
    | none => simp [Instr.loadAt, Instr.sureAddr, stuck] at h
    | some a => simpa [Instr.loadAt, Instr.sureAddr, asAddr] using h
  | _ => simp [Instr.loadAt, Instr.sureAddr, stuck] at h
def resV (tmps : Array Value) : ResultVar → Sem Value
  | .tmp t => pure (tmps.getD t undef)
  | .cell a t => do loadVar t (← asAddr (tmps.getD a undef))
theorem resK_ok (hP : TyOK P tt) (hs : Sim Γ Pr H w) {tmps : Array Value} (hT : RelT Γ Pr w nt T tmps) : ∀ {rs : List ResultVar} {k : List AV → Prop}, resK tt T H rs k →
    ∃ as vs, (rs.mapM (resV tmps)).run P w = .ok vs w ∧ RelVs Γ Pr w as vs ∧ k as
  | [], k, h => ⟨[], [], by simp, rfl, h⟩
  | .tmp t :: r, k, h => by
    have h := getK_iff.1 h
    obtain ⟨as, vs, h1, h2, h3⟩ := resK_ok hP hs hT h
    refine ⟨T.get t :: as, tmps.getD t undef :: vs, ?_, ⟨_, _, rfl, hT.2 t, h2⟩, h3⟩
    simp [List.mapM_cons, h1, resV]
  | .cell a t :: r, k, h => by
    have h := getK_iff.1 h
    obtain ⟨x, v, h1, h2, h⟩ := loadK_ok hP hs (hT.2 a) h
    obtain ⟨as, vs, h4, h5, h6⟩ := resK_ok hP hs hT h
    refine ⟨x :: as, v :: vs, ?_, ⟨_, _, rfl, h2, h5⟩, h6⟩
    have h1 : (resV tmps (.cell a t)).run P w = .ok v w := run_asAddr h1
    simp [List.mapM_cons, h1, h4]
theorem resultK_ok (hP : TyOK P tt) (hs : Sim Γ Pr H w) {tmps : Array Value} (hT : RelT Γ Pr w nt T tmps) {fn : Func} {k : AV → Prop} (h : resultK tt T H fn.results.toList k) :
    ∃ a v, (results fn tmps).run P w = .ok v w ∧ RelV Γ Pr w a v ∧ k a := by
  obtain ⟨as, vs, h1, h2, h3⟩ := resK_ok hP hs hT h
  have hr : (results fn tmps).run P w = .ok (if h : vs.toArray.size = 1 then vs.toArray[0] else .tuple vs.toArray) w := by
    have hres : results fn tmps = (do let vs ← fn.results.mapM (resV tmps); pure (if h : vs.size = 1 then vs[0] else .tuple vs) : Sem Value) := by
      unfold results
      congr 1
    rw [hres, Array.mapM_eq_mapM_toList]
    simp [h1]
  split at h3
  · rename_i a
    obtain ⟨v, vs', rfl, h4, rfl⟩ := h2
    exact ⟨a, v, by rw [hr]; simp, h4, h3⟩
  · rename_i hne
    refine ⟨.tup as, .tuple vs.toArray, ?_, ⟨vs, rfl, h2⟩, h3⟩
    rw [hr, dif_neg]
    intro hl
    have := relVs_length h2
    simp at hl
    rw [hl] at this
    cases as with
    | nil => simp at this
    | cons a as => cases as with
      | nil => exact hne a rfl
      | cons b as => simp at this

theorem closeK_ok {fn : Func} {tmps : Array Value} {R : Ending → World → Prop} : ∀ {D : List Nat} {H : Heap} {w : World} {ds : List Deferred} {Pr : Nat → Prop} {k : Heap → Prop}, Sim Γ Pr H w → RelDf Γ D ds → closeK D H k →
    (∀ H' w', Ext Γ Pr H w Γ Pr H' w' → Sim Γ Pr H' w' → k H' → ∃ v, (results fn tmps).run P w' = .ok v w' ∧ R (.returned v) w') → LeavesInM Fence.wide 0 P fn tmps R ds .returning w
  | [], H, w, ds, Pr, k, hs, hD, h, hk => by
    have hD : ds = [] := hD
    subst hD
    exact hk H w (Ext.refl _ _ _ _) hs h
  | l :: D, H, w, ds, Pr, k, hs, hD, h, hk => by
    obtain ⟨b, n, ds', hg, rfl, hD⟩ := hD
    obtain ⟨o, ho, h⟩ := nthK_iff.1 h
    split at h
    · obtain ⟨hl, h⟩ := setNthK_iff.1 h
      obtain ⟨b', n', hg', hnp, hr⟩ := hs.obj l _ ho rfl
      rw [hg] at hg'
      simp only [Option.some.injEq, Prod.mk.injEq] at hg'
      obtain ⟨rfl, rfl⟩ := hg'
      refine ⟨by simp, .inl ⟨b, _, rfl, run_takeDeferred hr, ?_⟩⟩
      obtain ⟨s1, s2⟩ := hs.drop (x := .deferred none) ho rfl hg
      refine closeK_ok s1 hD h fun H' w' he hs' hk' => hk H' w' (s2.trans he) hs' hk'
    · exact h.elim

/-- **A function of the program, from its body.** -/
theorem CallP.enter (hP : TyOK P tt) {f : FuncId} {fn : Func} {c : Code} {args : List AV} {H : Heap} {k : AV → Heap → Prop} (hf : P.funcs[f]? = some fn) (hb : fn.body = some c) (hn : (fn.name == "runtime.NumGoroutine") = false)
    (h : enterK tt P fn c args H k) : CallP P f args H k := by
  constructor
  intro Γ Pr w vs hs hv
  obtain ⟨hlen, h⟩ := guardP_iff.1 h
  have hlen := Nat.le_of_ble_eq_true hlen
  have hlv := relVs_length hv
  refine .inl ⟨by simp only [callFunc]; rw [Sem.run_bind]; simp [hf, hb]; simpa using hn, ?_⟩
  refine callsIn_of_wp_marks hf hb trivial ?_
  obtain ⟨T, h, hT⟩ := argsK_ok h
  have hT0 : RelT Γ Pr w fn.ntmps T (vs.toArray ++ Array.replicate (fn.ntmps - vs.toArray.size) undef) := by
    refine ⟨by simp; omega, fun i => ?_⟩
    rw [hT]
    simp only [Nat.zero_le, if_true, Nat.sub_zero]
    cases ha : args[i]? with
    | some a =>
      obtain ⟨v, hvi, hr⟩ := relVs_get hv _ _ ha
      have hlt : i < vs.length := (List.getElem?_eq_some_iff.1 hvi).1
      have : (vs.toArray ++ Array.replicate (fn.ntmps - vs.toArray.size) undef).getD i undef = v := by
        rw [Array.getD_eq_getD_getElem?, Array.getElem?_append_left (by simpa using hlt)]
        simp [hvi]
      rw [this]
      exact hr
    | none => exact trivial
  refine wpIn_mono (codeK_run (.inl rfl) hP h Γ Pr w _ hs hT0 rfl) ?_
  rintro e a' w' ⟨ae, T', H', D', Γ', Pr', rfl, h2, h3, h4, h5, h6⟩
  have fin : ∀ {H'}, Sim Γ' Pr' H' w' → Ext Γ Pr H w Γ' Pr' H' w' → closeK D' H' (fun H => resultK tt T' H fn.results.toList (fun r => k r H)) → LeavesInM Fence.wide 0 P fn a'.tmps (fun e w' => ∃ v, e = .returned v ∧ ∃ r H' Γ' Pr', Ext Γ Pr H w Γ' Pr' H' w' ∧ Sim Γ' Pr' H' w' ∧ RelV Γ' Pr' w' r v ∧ k r H') a'.defers .returning w' := by
    intro H' h3 h2 h6
    refine closeK_ok h3 h5 h6 ?_
    intro H2 w2 he2 hs2 h6
    have h4' := h4.mono he2.vl he2.pr (h3.keeps he2)
    obtain ⟨r, v, g1, g2, g3⟩ := resultK_ok hP hs2 h4' h6
    exact ⟨v, g1, v, rfl, r, H2, Γ', Pr', h2.trans he2, hs2, g2, g3⟩
  cases ae with
  | normal => exact fin h3 h2 h6
  | exit id => exact h6.elim
  | ret => exact fin h3 h2 h6
end
end Go.Ab
