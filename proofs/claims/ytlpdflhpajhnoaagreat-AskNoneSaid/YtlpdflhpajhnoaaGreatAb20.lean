/- The abstract layer, part 20: a loop whose rounds leave memory behind that nobody knows any more. -/
import Derived.Test.YtlpdflhpajhnoaaGreatAb19
namespace Go.Ab

section
variable {P : Program} {F : Fence} {nt : Nat} {tt : TyT}
/-- Temporaries hold these values, labels renamed. -/
def hasRK (φ : Nat → Nat) (T : Tm) : List (Nat × AV) → Prop
  | [] => True
  | (t, v) :: r => getK T t (fun u => u = ren φ v ∧ hasRK φ T r)
theorem hasRK_iff {φ : Nat → Nat} {T : Tm} : ∀ {l : List (Nat × AV)}, hasRK φ T l ↔ ∀ p ∈ l, T.get p.1 = ren φ p.2
  | [] => by simp [hasRK]
  | (t, v) :: r => by simp only [hasRK, getK_iff, hasRK_iff (l := r), List.forall_mem_cons]
theorem small_prefix {Γ δ : VL} {σ : List Nat} {n : Nat} (hn : Γ.length = n) : small (Γ ++ δ) (List.range n ++ σ) = Γ ++ small (Γ ++ δ) σ := by
  unfold small
  rw [List.map_append]
  congr 1
  apply List.ext_getElem?
  intro i
  rw [List.getElem?_map]
  by_cases hi : i < n
  · rw [List.getElem?_range hi, List.getElem?_eq_getElem (by omega : i < Γ.length)]
    simp [List.getD_eq_getElem?_getD, List.getElem?_append_left (by omega : i < Γ.length), List.getElem?_eq_getElem (by omega : i < Γ.length)]
  · rw [List.getElem?_eq_none (by simpa using hi), List.getElem?_eq_none (by omega)]
    rfl
/-- Labels behind the first n are let go or given new numbers. -/
theorem Ext.select {Γ : VL} {Pr : Nat → Prop} {H : Heap} {w : World} {Γ' : VL} {Pr' : Nat → Prop} {H' : Heap} {w' : World} {σ : List Nat} {h₀ : Heap} {n : Nat} (hn : Γ.length = n) (hs : Sim Γ' Pr' H' w') (he : Ext Γ Pr H w Γ' Pr' H' w') (hnd : (List.range n ++ σ).Nodup) (hp : Picks H' (List.range n ++ σ) h₀) :
    Ext Γ Pr H w (small Γ' (List.range n ++ σ)) Pr' h₀ w' ∧ Sim (small Γ' (List.range n ++ σ)) Pr' h₀ w' ∧ VEq (phi (List.range n ++ σ) H'.length) (small Γ' (List.range n ++ σ)) Γ' := by
  obtain ⟨s1, s2⟩ := hs.select hnd hp
  refine ⟨?_, s1, s2⟩
  obtain ⟨δ, rfl⟩ := he.vl
  refine ⟨he.os, he.tape, he.output, he.size, ⟨small (Γ ++ δ) σ, small_prefix hn⟩, he.pr, he.prNew, ?_, he.frame⟩
  rintro j b m ⟨o, ho, hd⟩ hg
  obtain ⟨j', hj', he'⟩ := hp.get ho
  rw [s2 j] at hg
  simp only [phi, hj'] at hg
  exact he.own j' b m ⟨_, he', by rw [renO_isDead]; exact hd⟩ hg
theorem relDf_small {Γ δ : VL} {σ : List Nat} {n : Nat} (hn : Γ.length = n) {D : List Nat} {ds : List Deferred} (h : RelDf Γ D ds) : RelDf (small (Γ ++ δ) (List.range n ++ σ)) D ds := by
  rw [small_prefix hn]; exact h.mono
/-- A loop: a family of states; behind each round only what is told is kept. -/
theorem AWP.loopG {α : Type} {c : Code} {T : Tm} {H : Heap} {D : List Nat} {K : Kont} (hF : Plain F) (hP : TyOK P tt) (inv : α → Prop) (μ : α → Nat) (l : α → List (Nat × AV)) (hh : α → Heap) (x₀ : α) (h0 : inv x₀) (hH : H = hh x₀) (hT0 : hasK T (l x₀) True)
    (round : ∀ x, inv x → onlyK (l x) .leaf (fun T => codeK P F nt tt c T (hh x) D (fun e T' H' D' => match e with
      | .normal => ∃ y σ, inv y ∧ μ y < μ x ∧ D' = D ∧ (List.range H.length ++ σ).Nodup ∧ Picks H' (List.range H.length ++ σ) (hh y) ∧ hasRK (phi (List.range H.length ++ σ) H'.length) T' (l y)
      | .exit id => K (.exit id) T' H' D'
      | .ret => K .ret T' H' D'))) : AWP P F nt (.loop c) T H D K := by
  constructor
  intro Γ Pr w a hs hT hD
  have hlen := hs.len
  have uniq : ∀ {Γ : VL} {D : List Nat} {d1 d2 : List Deferred}, RelDf Γ D d1 → RelDf Γ D d2 → d1 = d2 := by
    intro Γ D
    induction D with
    | nil => intro d1 d2 h1 h2; rw [show d1 = [] from h1, show d2 = [] from h2]
    | cons x D ihD =>
      rintro d1 d2 ⟨b, n, e1, g1, rfl, k1⟩ ⟨b', n', e2, g2, rfl, k2⟩
      rw [g1] at g2
      simp only [Option.some.injEq, Prod.mk.injEq] at g2
      rw [g2.1, ihD k1 k2]
  refine wpIn_loop_ghost (fun n a' w' => ∃ x Γ' Pr', inv x ∧ μ x = n ∧ Ext Γ Pr H w Γ' Pr' (hh x) w' ∧ Sim Γ' Pr' (hh x) w' ∧ (∀ T', (∀ t, T'.get t = Tm.leaf.get t ∨ ∃ v, (t, v) ∈ l x ∧ T'.get t = v) → RelT Γ' Pr' w' nt T' a'.tmps) ∧ RelDf Γ D a'.defers) (μ x₀)
    ⟨x₀, Γ, Pr, h0, rfl, hH ▸ Ext.refl _ _ _ _, hH ▸ hs, fun T' h => relT_only hT (hasK_iff.1 hT0).1 h, hD⟩ ?_
  rintro n a' w' ⟨x, Γ', Pr', hx, rfl, he, hs', hT', hD'⟩
  obtain ⟨T2, hc, hT2⟩ := onlyK_iff (round x hx)
  refine wpIn_mono (codeK_run hF hP hc Γ' Pr' w' a' hs' (hT' T2 hT2) (hD'.ext he.vl)) ?_
  rintro e a2 w2 ⟨ae, T3, H3, D3, Γ3, Pr3, rfl, g2, g3, g4, g5, g6⟩
  cases ae with
  | normal =>
    obtain ⟨y, σ, hy, hlt, rfl, hnd, hp, hh3⟩ := g6
    obtain ⟨q1, q2, q3⟩ := Ext.select hlen g3 (he.trans g2) hnd hp
    have hD3 : RelDf Γ D3 a2.defers := by
      rw [uniq g5 (hD'.ext (he.trans g2).vl)]
      exact hD'
    refine ⟨μ y, hlt, y, _, Pr3, hy, rfl, q1, q2, fun T4 hT4 => ⟨g4.1, fun t => ?_⟩, hD3⟩
    rcases hT4 t with h | ⟨v, h1, h2⟩
    · rw [h]; trivial
    · rw [h2]
      refine (relV_ren q3).2 ?_
      have := hasRK_iff.1 hh3 (t, v) h1
      simp only at this
      rw [← this]
      exact g4.2 t
  | exit id => exact ⟨_, T3, H3, D3, Γ3, Pr3, rfl, he.trans g2, g3, g4, g5, g6⟩
  | ret => exact ⟨_, T3, H3, D3, Γ3, Pr3, rfl, he.trans g2, g3, g4, g5, g6⟩
end
/-- A contract that asks less of its arguments. -/
theorem CallP.weaken {P : Program} {f : FuncId} {args args' : List AV} {H : Heap} {k : AV → Heap → Prop} (h : CallP P f args' H k) (ha : ∀ Γ Pr w vs, RelVs Γ Pr w args vs → RelVs Γ Pr w args' vs) : CallP P f args H k :=
  ⟨fun Γ Pr w vs hs hv => h.run Γ Pr w vs hs (ha Γ Pr w vs hv)⟩
theorem relV_forget {Γ : VL} {Pr : Nat → Prop} {w : World} {sz : Nat} {cs : List RD} {cap : Option Nat} {v : Value} (h : RelV Γ Pr w (.ro (.slice sz cs cap)) v) : RelV Γ Pr w (.ro (.slice sz cs none)) v := by
  obtain ⟨A, n, c, h1, h2, h3, _, h5⟩ := h
  exact ⟨A, n, c, h1, h2, h3, fun _ h => (by cases h), h5⟩
/-- The room behind the first argument is forgotten. -/
theorem CallP.forget {P : Program} {f : FuncId} {args : List AV} {H : Heap} {k : AV → Heap → Prop} {sz : Nat} {cs : List RD} {cap : Option Nat} (h : CallP P f (.ro (.slice sz cs none) :: args) H k) : CallP P f (.ro (.slice sz cs cap) :: args) H k :=
  h.weaken fun _ _ _ _ ⟨v, vs, h1, h2, h3⟩ => ⟨v, vs, h1, relV_forget h2, h3⟩
end Go.Ab
