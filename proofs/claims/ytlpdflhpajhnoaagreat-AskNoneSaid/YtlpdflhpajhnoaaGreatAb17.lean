/- The abstract layer, part 17: loops; code in steps. -/
import Derived.Test.YtlpdflhpajhnoaaGreatAb16
import Derived.Sort.LoopGhostIn
import Derived.LoopNIn
namespace Go.Ab

/-- Temporaries hold these values. -/
def hasK (T : Tm) : List (Nat × AV) → Prop → Prop
  | [], k => k
  | (t, v) :: r, k => getK T t (fun u => u = v ∧ hasK T r k)
/-- Only these temporaries are known. -/
def onlyK : List (Nat × AV) → Tm → (Tm → Prop) → Prop
  | [], T, k => k T
  | (t, v) :: r, T, k => setK 40 T t v (fun T => onlyK r T k)
theorem hasK_iff {T : Tm} {k : Prop} : ∀ {l : List (Nat × AV)}, hasK T l k ↔ (∀ p ∈ l, T.get p.1 = p.2) ∧ k
  | [] => by simp [hasK]
  | (t, v) :: r => by
    simp only [hasK, getK_iff, hasK_iff (l := r), List.forall_mem_cons, and_assoc]
theorem onlyK_iff : ∀ {l : List (Nat × AV)} {T : Tm} {k : Tm → Prop}, onlyK l T k → ∃ T', k T' ∧ ∀ t, T'.get t = T.get t ∨ ∃ v, (t, v) ∈ l ∧ T'.get t = v
  | [], T, k, h => ⟨T, h, fun t => .inl rfl⟩
  | (t, v) :: r, T, k, h => by
    obtain ⟨T1, h1, h⟩ := setK_iff.1 h
    obtain ⟨T2, h2, h3⟩ := onlyK_iff h
    refine ⟨T2, h2, fun u => ?_⟩
    rcases h3 u with h | ⟨v', h4, h5⟩
    · rw [h, Tm.get_set h1]
      by_cases e : u = t
      · subst e; rw [if_pos rfl]; exact .inr ⟨v, by simp, rfl⟩
      · rw [if_neg e]; exact .inl rfl
    · exact .inr ⟨v', by simp [h4], h5⟩
theorem relT_only {Γ : VL} {Pr : Nat → Prop} {w : World} {nt : Nat} {T T' : Tm} {tmps : Array Value} {l : List (Nat × AV)} (hT : RelT Γ Pr w nt T tmps) (hl : ∀ p ∈ l, T.get p.1 = p.2) (h : ∀ t, T'.get t = Tm.leaf.get t ∨ ∃ v, (t, v) ∈ l ∧ T'.get t = v) : RelT Γ Pr w nt T' tmps := by
  refine ⟨hT.1, fun t => ?_⟩
  rcases h t with h | ⟨v, h1, h2⟩
  · rw [h]; trivial
  · rw [h2]
    have := hl (t, v) h1
    simp only at this
    rw [← this]
    exact hT.2 t

section
variable {P : Program} {F : Fence} {nt : Nat} {tt : TyT}
/-- Only part of the temporaries is kept. -/
theorem AWP.only {c : Code} {T : Tm} {H : Heap} {D : List Nat} {K : Kont} (l : List (Nat × AV)) (h0 : hasK T l True) (h : onlyK l .leaf (fun T => AWP P F nt c T H D K)) : AWP P F nt c T H D K := by
  constructor
  intro Γ Pr w a hs hT hD
  obtain ⟨T', h, hT'⟩ := onlyK_iff h
  exact h.run Γ Pr w a hs (relT_only hT (hasK_iff.1 h0).1 hT') hD
theorem AWP.seq {x y : Code} {T : Tm} {H : Heap} {D : List Nat} {K : Kont} (h : AWP P F nt x T H D (fun e T H D => match e with
    | .normal => AWP P F nt y T H D K
    | .exit id => K (.exit id) T H D
    | .ret => K .ret T H D)) : AWP P F nt (.seq x y) T H D K := by
  constructor
  intro Γ Pr w a hs hT hD
  refine wpIn_seq (wpIn_mono (h.run Γ Pr w a hs hT hD) ?_)
  rintro e a' w' ⟨ae, T', H', D', Γ', Pr', rfl, h2, h3, h4, h5, h6⟩
  cases ae with
  | normal => exact wpIn_mono (h6.run Γ' Pr' w' a' h3 h4 h5) fun e a w hp => Post.trans h2 hp
  | exit id => exact ⟨_, T', H', D', Γ', Pr', rfl, h2, h3, h4, h5, h6⟩
  | ret => exact ⟨_, T', H', D', Γ', Pr', rfl, h2, h3, h4, h5, h6⟩
/-- What comes behind, from a state told beforehand. -/
theorem AWP.cut {α : Type} {c : Code} {T : Tm} {H : Heap} {D : List Nat} {K : Kont} (inv : α → Prop) (l : α → List (Nat × AV)) (hh : α → Heap)
    (h : AWP P F nt c T H D (fun e T' H' D' => match e with
      | .normal => ∃ x, inv x ∧ D' = D ∧ H' = hh x ∧ hasK T' (l x) True
      | .exit id => K (.exit id) T' H' D'
      | .ret => K .ret T' H' D'))
    (h2 : ∀ x, inv x → onlyK (l x) .leaf (fun T' => K .normal T' (hh x) D)) : AWP P F nt c T H D K := by
  constructor
  intro Γ Pr w a hs hT hD
  refine wpIn_mono (h.run Γ Pr w a hs hT hD) ?_
  rintro e a' w' ⟨ae, T', H', D', Γ', Pr', rfl, g2, g3, g4, g5, g6⟩
  cases ae with
  | normal =>
    obtain ⟨x, hx, rfl, rfl, hT'⟩ := g6
    obtain ⟨T2, h3, h4⟩ := onlyK_iff (h2 x hx)
    exact ⟨.normal, T2, hh x, D', Γ', Pr', rfl, g2, g3, relT_only g4 (hasK_iff.1 hT').1 h4, g5, h3⟩
  | exit id => exact ⟨_, T', H', D', Γ', Pr', rfl, g2, g3, g4, g5, g6⟩
  | ret => exact ⟨_, T', H', D', Γ', Pr', rfl, g2, g3, g4, g5, g6⟩
/-- A loop: a family of states, a number that falls. -/
theorem AWP.loop {α : Type} {c : Code} {T : Tm} {H : Heap} {D : List Nat} {K : Kont} (hF : Plain F) (hP : TyOK P tt) (inv : α → Prop) (μ : α → Nat) (l : α → List (Nat × AV)) (hh : α → Heap) (x₀ : α) (h0 : inv x₀) (hH : H = hh x₀) (hT0 : hasK T (l x₀) True)
    (round : ∀ x, inv x → onlyK (l x) .leaf (fun T => codeK P F nt tt c T (hh x) D (fun e T' H' D' => match e with
      | .normal => ∃ y, inv y ∧ μ y < μ x ∧ D' = D ∧ H' = hh y ∧ hasK T' (l y) True
      | .exit id => K (.exit id) T' H' D'
      | .ret => K .ret T' H' D'))) : AWP P F nt (.loop c) T H D K := by
  constructor
  intro Γ Pr w a hs hT hD
  subst hH
  obtain ⟨T1, _, hT1⟩ := onlyK_iff (round x₀ h0)
  refine wpIn_loop_ghost (fun n a' w' => ∃ x Γ' Pr' T', inv x ∧ μ x = n ∧ Ext Γ Pr (hh x₀) w Γ' Pr' (hh x) w' ∧ Sim Γ' Pr' (hh x) w' ∧ RelT Γ' Pr' w' nt T' a'.tmps ∧ (∀ p ∈ l x, T'.get p.1 = p.2) ∧ RelDf Γ' D a'.defers) (μ x₀)
    ⟨x₀, Γ, Pr, T, h0, rfl, Ext.refl _ _ _ _, hs, hT, (hasK_iff.1 hT0).1, hD⟩ ?_
  rintro n a' w' ⟨x, Γ', Pr', T', hx, rfl, he, hs', hT', hl, hD'⟩
  obtain ⟨T2, hc, hT2⟩ := onlyK_iff (round x hx)
  refine wpIn_mono (codeK_run hF hP hc Γ' Pr' w' a' hs' (relT_only hT' hl hT2) hD') ?_
  rintro e a2 w2 ⟨ae, T3, H3, D3, Γ3, Pr3, rfl, g2, g3, g4, g5, g6⟩
  cases ae with
  | normal =>
    obtain ⟨y, hy, hlt, rfl, rfl, hh3⟩ := g6
    exact ⟨μ y, hlt, y, Γ3, Pr3, T3, hy, rfl, he.trans g2, g3, g4, (hasK_iff.1 hh3).1, g5⟩
  | exit id => exact ⟨_, T3, H3, D3, Γ3, Pr3, rfl, he.trans g2, g3, g4, g5, g6⟩
  | ret => exact ⟨_, T3, H3, D3, Γ3, Pr3, rfl, he.trans g2, g3, g4, g5, g6⟩
/-- A loop of at most m rounds, walked round by round. -/
noncomputable def roundsK (P : Program) (F : Fence) (nt : Nat) (tt : TyT) (c : Code) (K : Kont) (m : Nat) : Tm → Heap → List Nat → Prop :=
  @Nat.rec (fun _ => Tm → Heap → List Nat → Prop) (fun _ _ _ => bad 51031)
    (fun _ ih T H D => codeK P F nt tt c T H D (seqK (fun T H D _ => ih T H D) K)) m
theorem roundsK_run (hF : Plain F) (hP : TyOK P tt) {c : Code} {K : Kont} {Γ₀ : VL} {Pr₀ : Nat → Prop} {H₀ : Heap} {w₀ : World} : ∀ {m : Nat} {T : Tm} {H : Heap} {D : List Nat} {Γ : VL} {Pr : Nat → Prop} {w : World} {a : Act}, roundsK P F nt tt c K m T H D →
    Ext Γ₀ Pr₀ H₀ w₀ Γ Pr H w → Sim Γ Pr H w → RelT Γ Pr w nt T a.tmps → RelDf Γ D a.defers → Code.roundsIn F 0 P c (Post nt Γ₀ Pr₀ H₀ w₀ K) m a w
  | 0, T, H, D, Γ, Pr, w, a, h, _, _, _, _ => h.elim
  | m + 1, T, H, D, Γ, Pr, w, a, h, he, hs, hT, hD => by
    rw [roundsIn_succ]
    refine wpIn_mono (codeK_run hF hP h Γ Pr w a hs hT hD) ?_
    rintro e a' w' ⟨ae, T', H', D', Γ', Pr', rfl, g2, g3, g4, g5, g6⟩
    cases ae with
    | normal => exact roundsK_run hF hP g6 (he.trans g2) g3 g4 g5
    | exit id => exact ⟨_, T', H', D', Γ', Pr', rfl, he.trans g2, g3, g4, g5, g6⟩
    | ret => exact ⟨_, T', H', D', Γ', Pr', rfl, he.trans g2, g3, g4, g5, g6⟩
theorem AWP.rounds (hF : Plain F) (hP : TyOK P tt) {c : Code} {T : Tm} {H : Heap} {D : List Nat} {K : Kont} (m : Nat) (h : roundsK P F nt tt c K m T H D) : AWP P F nt (.loop c) T H D K :=
  ⟨fun Γ Pr w _ hs hT hD => wpIn_loop_rounds m (roundsK_run hF hP h (Ext.refl Γ Pr H w) hs hT hD)⟩
end
end Go.Ab
