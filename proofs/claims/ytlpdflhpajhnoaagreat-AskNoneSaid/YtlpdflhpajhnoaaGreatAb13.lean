/- The abstract layer, part 13: labels renamed; a call's contract on a small heap, used on a great one; labels let go at a call's end. -/
import Derived.Test.YtlpdflhpajhnoaaGreatAb12
namespace Go.Ab

/-- Where a label of a small heap lies in a great one: by a list; what is new, behind. -/
def phi (θ : List Nat) (N i : Nat) : Nat := match θ[i]? with | some j => j | none => N + (i - θ.length)
section
variable (φ : Nat → Nat)
mutual
def ren : AV → AV
  | .any => .any
  | .ro d => .ro d
  | .ptr id off => .ptr (φ id) off
  | .sl sz id off len cap => .sl sz (φ id) off len cap
  | .fn f first cap => .fn f (rens first) (rens cap)
  | .agg cs => .agg (rens cs)
  | .tup cs => .tup (rens cs)
  | .mp id => .mp (φ id)
  | .yld id => .yld (φ id)
  | .ifc t a => .ifc t (ren a)
def rens : List AV → List AV
  | [] => []
  | a :: as => ren a :: rens as
end
def renT : Tm → Tm
  | .leaf => .leaf
  | .node l v r => .node (renT l) (ren φ v) (renT r)
def renEs : List (AV × AV) → List (AV × AV)
  | [] => []
  | (a, b) :: r => (ren φ a, ren φ b) :: renEs r
def renO : AObj → AObj
  | .cells T cs => .cells T (rens φ cs)
  | .map es => .map (renEs φ es)
  | .siter s pos => .siter s pos
  | .loop l => .loop { l with T := renT φ l.T, dl := φ l.dl }
  | .dfr => .dfr
  | .dead => .dead
theorem rens_eq : ∀ as : List AV, rens φ as = as.map (ren φ)
  | [] => rfl
  | a :: as => by simp [rens, rens_eq as]
theorem renT_get : ∀ (T : Tm) (i : Nat), (renT φ T).get i = ren φ (T.get i)
  | .leaf, i => by simp [renT, Tm.get, ren]
  | .node l v r, i => by
    simp only [renT, Tm.get]
    split
    · rfl
    · split
      · exact renT_get l _
      · exact renT_get r _
theorem renO_isDead (o : AObj) : (renO φ o).isDead = o.isDead := by cases o <;> rfl
end

/-- The same blocks under labels renamed. -/
def VEq (φ : Nat → Nat) (Γ₀ Γ : VL) : Prop := ∀ i, Γ₀[i]? = Γ[φ i]?

section
variable {φ : Nat → Nat} {Γ₀ Γ : VL} {Pr : Nat → Prop} {w : World}
mutual
theorem relV_ren (h : VEq φ Γ₀ Γ) : ∀ {a : AV} {v : Value}, RelV Γ₀ Pr w a v ↔ RelV Γ Pr w (ren φ a) v
  | .any, _ => Iff.rfl
  | .ro _, _ => Iff.rfl
  | .ptr id off, v => by simp only [RelV, ren, h id]
  | .sl sz id off len cap, v => by simp only [RelV, ren, h id]
  | .fn f first cap, v => by simp only [RelV, ren, relVs_ren h (as := first), relVs_ren h (as := cap)]
  | .agg cs, v => by simp only [RelV, ren, relVs_ren h (as := cs)]
  | .tup cs, v => by simp only [RelV, ren, relVs_ren h (as := cs)]
  | .mp id, v => by simp only [RelV, ren, h id]
  | .yld id, v => by simp only [RelV, ren, h id]
  | .ifc t a, v => by simp only [RelV, ren, relV_ren h (a := a)]
theorem relVs_ren (h : VEq φ Γ₀ Γ) : ∀ {as : List AV} {vs : List Value}, RelVs Γ₀ Pr w as vs ↔ RelVs Γ Pr w (rens φ as) vs
  | [], _ => Iff.rfl
  | a :: as, vs => by simp only [RelVs, rens, relV_ren h (a := a), relVs_ren h (as := as)]
end
theorem relT_ren (h : VEq φ Γ₀ Γ) {nt : Nat} {T : Tm} {tmps : Array Value} : RelT Γ₀ Pr w nt T tmps ↔ RelT Γ Pr w nt (renT φ T) tmps := by
  unfold RelT
  simp only [renT_get, ← relV_ren h]
theorem relEs_ren (h : VEq φ Γ₀ Γ) : ∀ {es : List (AV × AV)} {l : List MapEntry}, RelEs Γ₀ Pr w es l ↔ RelEs Γ Pr w (renEs φ es) l
  | [], _ => Iff.rfl
  | (a, b) :: r, l => by simp only [RelEs, renEs, ← relV_ren h, relEs_ren h (es := r)]
theorem relObj_ren (h : VEq φ Γ₀ Γ) {b n : Nat} : ∀ {o : AObj}, RelObj Γ₀ Pr w b n o ↔ RelObj Γ Pr w b n (renO φ o)
  | .cells T cs => by
    simp only [RelObj, renO, rens_eq, List.length_map, List.getElem?_map]
    constructor
    · rintro ⟨c, h1, h2, h3, h4⟩
      refine ⟨c, h1, h2, h3, fun j a ha => ?_⟩
      obtain ⟨a0, ha0, rfl⟩ := Option.map_eq_some_iff.1 ha
      obtain ⟨v, hv, hr⟩ := h4 j a0 ha0
      exact ⟨v, hv, (relV_ren h).1 hr⟩
    · rintro ⟨c, h1, h2, h3, h4⟩
      refine ⟨c, h1, h2, h3, fun j a ha => ?_⟩
      obtain ⟨v, hv, hr⟩ := h4 j (ren φ a) (by simp [ha])
      exact ⟨v, hv, (relV_ren h).2 hr⟩
  | .map es => by simp only [RelObj, renO, relEs_ren h]
  | .siter .. => Iff.rfl
  | .loop l => by simp only [RelObj, renO, ← relT_ren h, h l.dl]
  | .dfr => Iff.rfl
  | .dead => Iff.rfl
theorem relDf_ren (h : VEq φ Γ₀ Γ) : ∀ {D : List Nat} {ds : List Deferred}, RelDf Γ₀ D ds ↔ RelDf Γ (D.map φ) ds
  | [], _ => Iff.rfl
  | l :: D, ds => by simp only [RelDf, List.map_cons, h l, relDf_ren h (D := D)]
end

/-- The small view of a great heap. -/
def small (Γ : VL) (θ : List Nat) : VL := θ.map (fun j => Γ.getD j (0, 0))
theorem small_veq {Γ : VL} {θ : List Nat} {N : Nat} (hN : Γ.length ≤ N) (hθ : ∀ j ∈ θ, j < Γ.length) : VEq (phi θ N) (small Γ θ) Γ := by
  intro i
  unfold phi small
  rw [List.getElem?_map]
  cases h : θ[i]? with
  | some j =>
    have hj := hθ j (List.mem_of_getElem? h)
    simp [List.getD_eq_getElem?_getD, List.getElem?_eq_getElem hj]
  | none =>
    simp only [Option.map_none]
    rw [List.getElem?_eq_none (by omega)]
theorem nodup_inj {θ : List Nat} (h : θ.Nodup) {i j x : Nat} (hi : θ[i]? = some x) (hj : θ[j]? = some x) : i = j := by
  obtain ⟨h1, h2⟩ := List.getElem?_eq_some_iff.1 hi
  obtain ⟨h3, h4⟩ := List.getElem?_eq_some_iff.1 hj
  have hp := List.pairwise_iff_getElem.1 h
  rcases Nat.lt_trichotomy i j with hl | hl | hl
  · exact absurd (h2.trans h4.symm) (hp i j h1 h3 hl)
  · exact hl
  · exact absurd (h4.trans h2.symm) (hp j i h3 h1 hl)
def Picks (H : Heap) (θ : List Nat) (h₀ : Heap) : Prop := θ.map (fun j => H[j]?) = h₀.map (fun o => some (renO (phi θ H.length) o))
theorem Picks.len {H : Heap} {θ : List Nat} {h₀ : Heap} (h : Picks H θ h₀) : θ.length = h₀.length := by
  have := congrArg List.length h
  simpa using this
theorem Picks.get {H : Heap} {θ : List Nat} {h₀ : Heap} (h : Picks H θ h₀) {i : Nat} {o : AObj} (ho : h₀[i]? = some o) : ∃ j, θ[i]? = some j ∧ H[j]? = some (renO (phi θ H.length) o) := by
  have e := congrArg (fun l => l[i]?) h
  simp only [List.getElem?_map, ho, Option.map_some] at e
  obtain ⟨j, hj, he⟩ := Option.map_eq_some_iff.1 e
  exact ⟨j, hj, he⟩
theorem Picks.mem {H : Heap} {θ : List Nat} {h₀ : Heap} (h : Picks H θ h₀) {j : Nat} (hj : j ∈ θ) : j < H.length := by
  obtain ⟨i, hi, rfl⟩ := List.getElem_of_mem hj
  have hi' : i < h₀.length := h.len ▸ hi
  obtain ⟨j', hj', he⟩ := h.get (List.getElem?_eq_getElem hi')
  rw [List.getElem?_eq_getElem hi] at hj'
  simp only [Option.some.injEq] at hj'
  subst hj'
  exact (List.getElem?_eq_some_iff.1 he).1
theorem Sim.select {Γ : VL} {Pr : Nat → Prop} {H : Heap} {w : World} {θ : List Nat} {h₀ : Heap} (hs : Sim Γ Pr H w) (hn : θ.Nodup) (hp : Picks H θ h₀) :
    Sim (small Γ θ) Pr h₀ w ∧ VEq (phi θ H.length) (small Γ θ) Γ := by
  have hv : VEq (phi θ H.length) (small Γ θ) Γ := small_veq (by rw [hs.len]; exact Nat.le_refl _) (fun j hj => by rw [hs.len]; exact hp.mem hj)
  have hlab : ∀ i, live h₀ i → ∃ j, θ[i]? = some j ∧ live H j ∧ (small Γ θ)[i]? = Γ[j]? := by
    rintro i ⟨o, ho, hd⟩
    obtain ⟨j, hj, he⟩ := hp.get ho
    refine ⟨j, hj, ⟨_, he, by rw [renO_isDead]; exact hd⟩, ?_⟩
    rw [hv i]
    simp [phi, hj]
  refine ⟨⟨by simp [small, hp.len], fun i o ho hd => ?_, fun i j b n m hi hj h1 h2 => ?_, hs.prlt⟩, hv⟩
  · obtain ⟨j, hj, he⟩ := hp.get ho
    obtain ⟨b, n, hg, hnp, hr⟩ := hs.obj j _ he (by rw [renO_isDead]; exact hd)
    refine ⟨b, n, ?_, hnp, (relObj_ren hv).2 hr⟩
    rw [hv i]
    simpa [phi, hj] using hg
  · obtain ⟨j1, e1, l1, g1⟩ := hlab i hi
    obtain ⟨j2, e2, l2, g2⟩ := hlab j hj
    have := hs.inj j1 j2 b n m l1 l2 (g1 ▸ h1) (g2 ▸ h2)
    subst this
    exact nodup_inj hn e1 e2

def setAll : Heap → List Nat → Heap → Heap
  | H, j :: θ, o :: os => setAll (H.set j o) θ os
  | H, _, os => H ++ os
/-- A great heap behind a call on its small view. -/
def merge (H : Heap) (θ : List Nat) (h₁ : Heap) : Heap := setAll H θ (h₁.map (renO (phi θ H.length)))
theorem setAll_length : ∀ {θ : List Nat} {H os : Heap}, θ.length ≤ os.length → (setAll H θ os).length = H.length + (os.length - θ.length)
  | [], H, os, _ => by cases os <;> simp [setAll]
  | j :: θ, H, [], h => by simp at h
  | j :: θ, H, o :: os, h => by
    simp only [setAll]
    rw [setAll_length (by simpa using h)]
    simp
theorem setAll_old : ∀ {θ : List Nat} {H os : Heap} {j : Nat}, j < H.length → j ∉ θ → θ.length ≤ os.length → (setAll H θ os)[j]? = H[j]?
  | [], H, os, j, hj, _, _ => by cases os <;> simp [setAll, List.getElem?_append_left hj]
  | i :: θ, H, [], j, _, _, h => by simp at h
  | i :: θ, H, o :: os, j, hj, hn, h => by
    simp only [List.mem_cons, not_or] at hn
    simp only [setAll]
    rw [setAll_old (by simpa using hj) hn.2 (by simpa using h), List.getElem?_set_ne (fun e => hn.1 e.symm)]
theorem setAll_at : ∀ {θ : List Nat} {H os : Heap} {i j : Nat}, θ.Nodup → (∀ j ∈ θ, j < H.length) → θ[i]? = some j → θ.length ≤ os.length → (setAll H θ os)[j]? = os[i]?
  | [], H, os, i, j, _, _, h, _ => by simp at h
  | k :: θ, H, [], i, j, _, _, _, h => by simp at h
  | k :: θ, H, o :: os, 0, j, hn, hb, h, hl => by
    simp only [List.getElem?_cons_zero, Option.some.injEq] at h
    subst h
    simp only [List.nodup_cons] at hn
    have hk := hb k (by simp)
    simp only [setAll]
    rw [setAll_old (by simpa using hk) hn.1 (by simpa using hl)]
    simp [hk]
  | k :: θ, H, o :: os, i + 1, j, hn, hb, h, hl => by
    simp only [List.nodup_cons] at hn
    simp only [List.getElem?_cons_succ] at h ⊢
    simp only [setAll]
    exact setAll_at hn.2 (fun x hx => by simpa using hb x (by simp [hx])) h (by simpa using hl)
theorem setAll_new : ∀ {θ : List Nat} {H os : Heap} {i : Nat}, θ.length ≤ os.length → (setAll H θ os)[H.length + i]? = os[θ.length + i]?
  | [], H, os, i, _ => by
    have : setAll H [] os = H ++ os := by cases os <;> rfl
    rw [this, List.getElem?_append_right (by omega)]
    simp
  | k :: θ, H, [], i, h => by simp at h
  | k :: θ, H, o :: os, i, h => by
    simp only [setAll, List.length_cons]
    have e : θ.length + 1 + i = (θ.length + i) + 1 := by omega
    rw [e, List.getElem?_cons_succ]
    have := setAll_new (θ := θ) (H := H.set k o) (os := os) (i := i) (by simpa using h)
    simpa using this

theorem live_lt {H : Heap} {i : Nat} (h : live H i) : i < H.length := let ⟨_, ho, _⟩ := h; (List.getElem?_eq_some_iff.1 ho).1
theorem Sim.blk {Γ : VL} {Pr : Nat → Prop} {H : Heap} {w : World} (hs : Sim Γ Pr H w) {i b n : Nat} (hl : live H i) (hg : Γ[i]? = some (b, n)) : b < w.heap.size ∧ ¬ Pr b := by
  obtain ⟨p, hp, hpd⟩ := hl
  obtain ⟨c, m', hgc, hnp, hrc⟩ := hs.obj i p hp hpd
  rw [hg] at hgc
  simp only [Option.some.injEq, Prod.mk.injEq] at hgc
  obtain ⟨rfl, rfl⟩ := hgc
  refine ⟨?_, hnp⟩
  cases p with
  | cells T cs => obtain ⟨c, hc, _⟩ := hrc; exact (Array.getElem?_eq_some_iff.1 hc).1
  | map es => obtain ⟨c, k, hc, _⟩ := hrc; exact (Array.getElem?_eq_some_iff.1 hc).1
  | siter s k => exact (Array.getElem?_eq_some_iff.1 hrc).1
  | loop l => obtain ⟨_, _, _, _, _, _, hc⟩ := hrc; exact (Array.getElem?_eq_some_iff.1 hc).1
  | dfr => exact (Array.getElem?_eq_some_iff.1 hrc).1
  | dead => exact hrc.elim

/-- What happened to a small view happened to the great heap. -/
theorem Sim.framed {Γ : VL} {Pr : Nat → Prop} {H : Heap} {w : World} {θ : List Nat} {h₀ : Heap} (hs : Sim Γ Pr H w) (hn : θ.Nodup) (hp : Picks H θ h₀)
    {Γ₁ : VL} {Pr' : Nat → Prop} {h₁ : Heap} {w' : World} (he : Ext (small Γ θ) Pr h₀ w Γ₁ Pr' h₁ w') (hs1 : Sim Γ₁ Pr' h₁ w') :
    ∃ Γ', Ext Γ Pr H w Γ' Pr' (merge H θ h₁) w' ∧ Sim Γ' Pr' (merge H θ h₁) w' ∧ VEq (phi θ H.length) Γ₁ Γ' := by
  obtain ⟨hs0, hv0⟩ := hs.select hn hp
  obtain ⟨δ, rfl⟩ := he.vl
  have hsl : (small Γ θ).length = θ.length := by simp [small]
  have hl1 : θ.length ≤ h₁.length := by rw [← hs1.len]; simp [hsl]
  have hl1' : θ.length ≤ (h₁.map (renO (phi θ H.length))).length := by simpa using hl1
  have hlen : Γ.length = H.length := hs.len
  have hv : VEq (phi θ H.length) (small Γ θ ++ δ) (Γ ++ δ) := by
    intro i
    unfold phi
    cases hi : θ[i]? with
    | some j =>
      have hlt : i < θ.length := (List.getElem?_eq_some_iff.1 hi).1
      have hj : j < Γ.length := by rw [hlen]; exact hp.mem (List.mem_of_getElem? hi)
      rw [List.getElem?_append_left (by rw [hsl]; exact hlt), List.getElem?_append_left hj, hv0 i]
      simp [phi, hi]
    | none =>
      have hge : θ.length ≤ i := List.getElem?_eq_none_iff.1 hi
      simp only
      rw [List.getElem?_append_right (by rw [hsl]; exact hge), List.getElem?_append_right (by omega), hsl, ← hlen]
      congr 1
      omega
  -- labels of the merged heap
  have hcase : ∀ j o, (merge H θ h₁)[j]? = some o → (∃ i o1, h₁[i]? = some o1 ∧ phi θ H.length i = j ∧ o = renO (phi θ H.length) o1) ∨ (j < H.length ∧ j ∉ θ ∧ H[j]? = some o) := by
    intro j o ho
    by_cases hj : j < H.length
    · by_cases hm : j ∈ θ
      · obtain ⟨i, hi, rfl⟩ := List.getElem_of_mem hm
        have hi' : θ[i]? = some θ[i] := List.getElem?_eq_getElem hi
        unfold merge at ho
        rw [setAll_at hn (fun x hx => hp.mem hx) hi' hl1', List.getElem?_map] at ho
        obtain ⟨o1, h1, rfl⟩ := Option.map_eq_some_iff.1 ho
        exact .inl ⟨i, o1, h1, by simp [phi, hi'], rfl⟩
      · unfold merge at ho
        rw [setAll_old hj hm hl1'] at ho
        exact .inr ⟨hj, hm, ho⟩
    · have e : j = H.length + (j - H.length) := by omega
      unfold merge at ho
      rw [e, setAll_new hl1', List.getElem?_map] at ho
      obtain ⟨o1, h1, rfl⟩ := Option.map_eq_some_iff.1 ho
      refine .inl ⟨_, o1, h1, ?_, rfl⟩
      unfold phi
      rw [List.getElem?_eq_none (by omega)]
      simp only
      omega
  have hlive : ∀ j, live (merge H θ h₁) j → (∃ i, live h₁ i ∧ phi θ H.length i = j) ∨ (j ∉ θ ∧ live H j) := by
    rintro j ⟨o, ho, hd⟩
    rcases hcase j o ho with ⟨i, o1, h1, h2, rfl⟩ | ⟨h1, h2, h3⟩
    · exact .inl ⟨i, ⟨o1, h1, by rw [← renO_isDead]; exact hd⟩, h2⟩
    · exact .inr ⟨h2, o, h3, hd⟩
  have hsmall : ∀ i b n, live h₀ i → (small Γ θ)[i]? = some (b, n) → ∃ j, j ∈ θ ∧ live H j ∧ Γ[j]? = some (b, n) := by
    rintro i b n ⟨o, ho, hd⟩ hg
    obtain ⟨j, hj, hh⟩ := hp.get ho
    refine ⟨j, List.mem_of_getElem? hj, ⟨_, hh, by rw [renO_isDead]; exact hd⟩, ?_⟩
    rw [hv0 i] at hg
    simpa [phi, hj] using hg
  -- blocks of labels outside are left alone
  have hout : ∀ j b n, j ∉ θ → live H j → Γ[j]? = some (b, n) → ∀ i m, live h₁ i → (small Γ θ ++ δ)[i]? = some (b, m) → False := by
    intro j b n hj hl hg i m hi hgi
    rcases he.own i b m hi hgi with h | ⟨i0, n0, h0, hg0⟩
    · have := (hs.blk hl hg).1; omega
    · obtain ⟨j', hm, hl', hg'⟩ := hsmall i0 b n0 h0 hg0
      have := hs.inj j j' b n n0 hl hl' hg hg'
      subst this
      exact hj hm
  have hsame : ∀ j b n, j ∉ θ → live H j → Γ[j]? = some (b, n) → w'.heap[b]? = w.heap[b]? := by
    intro j b n hj hl hg
    refine he.frame b (hs.blk hl hg).1 fun i m hi hgi => ?_
    obtain ⟨j', hm, hl', hg'⟩ := hsmall i b m hi hgi
    have := hs.inj j j' b n m hl hl' hg hg'
    subst this
    exact hj hm
  have hkp : ∀ b, Pr b → w'.heap[b]? = w.heap[b]? := hs0.keeps he
  have hleft : ∀ {j : Nat} {x : Nat × Nat}, j < H.length → (Γ ++ δ)[j]? = Γ[j]? := fun hj => List.getElem?_append_left (by rw [hlen]; exact hj)
  refine ⟨Γ ++ δ, ?_, ⟨?_, ?_, ?_, hs1.prlt⟩, hv⟩
  · refine ⟨he.os, he.tape, he.output, he.size, ⟨δ, rfl⟩, he.pr, he.prNew, ?_, ?_⟩
    · intro j b n hl hg
      rcases hlive j hl with ⟨i, hi, rfl⟩ | ⟨hj, hl⟩
      · rw [← hv i] at hg
        rcases he.own i b n hi hg with h | ⟨i0, n0, h0, hg0⟩
        · exact .inl h
        · obtain ⟨j', _, hl', hg'⟩ := hsmall i0 b n0 h0 hg0
          exact .inr ⟨j', n0, hl', hg'⟩
      · rw [List.getElem?_append_left (by rw [hlen]; exact live_lt hl)] at hg
        exact .inr ⟨j, n, hl, hg⟩
    · intro b hb hno
      refine he.frame b hb fun i n hi hg => ?_
      obtain ⟨j', _, hl', hg'⟩ := hsmall i b n hi hg
      exact hno j' n hl' hg'
  · rw [merge, setAll_length hl1', List.length_append, hlen, List.length_map]
    have := hs1.len
    simp only [List.length_append, hsl] at this
    omega
  · intro j o ho hd
    rcases hcase j o ho with ⟨i, o1, h1, rfl, rfl⟩ | ⟨h1, h2, h3⟩
    · obtain ⟨b, n, hg, hnp, hr⟩ := hs1.obj i o1 h1 (by rw [← renO_isDead]; exact hd)
      exact ⟨b, n, by rw [← hv i]; exact hg, hnp, (relObj_ren hv).1 hr⟩
    · obtain ⟨b, n, hg, hnp, hr⟩ := hs.obj j o h3 hd
      have hl : live H j := ⟨o, h3, hd⟩
      refine ⟨b, n, by rw [List.getElem?_append_left (by rw [hlen]; exact h1)]; exact hg, fun hp' => ?_, hr.mono ⟨δ, rfl⟩ he.pr hkp (hsame j b n h2 hl hg)⟩
      rcases he.prNew b hp' with h | h
      · exact hnp h
      · have := (hs.blk hl hg).1; omega
  · intro i j b n m hi hj hgi hgj
    rcases hlive i hi with ⟨i1, li1, rfl⟩ | ⟨hni, hli⟩
    · rcases hlive j hj with ⟨j1, lj1, rfl⟩ | ⟨hnj, hlj⟩
      · rw [← hv i1] at hgi
        rw [← hv j1] at hgj
        rw [hs1.inj i1 j1 b n m li1 lj1 hgi hgj]
      · rw [← hv i1] at hgi
        rw [List.getElem?_append_left (by rw [hlen]; exact live_lt hlj)] at hgj
        exact (hout j b m hnj hlj hgj i1 n li1 hgi).elim
    · rw [List.getElem?_append_left (by rw [hlen]; exact live_lt hli)] at hgi
      rcases hlive j hj with ⟨j1, lj1, rfl⟩ | ⟨hnj, hlj⟩
      · rw [← hv j1] at hgj
        exact (hout i b n hni hli hgi j1 m lj1 hgj).elim
      · rw [List.getElem?_append_left (by rw [hlen]; exact live_lt hlj)] at hgj
        exact hs.inj i j b n m hli hlj hgi hgj

/-- **A contract on a small heap, used on a great one.** -/
theorem CallP.use {P : Program} {f : FuncId} {args₀ args : List AV} {h₀ H : Heap} {k₀ k : AV → Heap → Prop} (θ : List Nat) (h : CallP P f args₀ h₀ k₀) (hn : θ.Nodup) (hp : Picks H θ h₀)
    (ha : args = rens (phi θ H.length) args₀) (hk : ∀ r h₁, k₀ r h₁ → k (ren (phi θ H.length) r) (merge H θ h₁)) : CallP P f args H k := by
  constructor
  intro Γ Pr w vs hs hv
  obtain ⟨hs0, hv0⟩ := hs.select hn hp
  subst ha
  refine (h.run (small Γ θ) Pr w vs hs0 ((relVs_ren hv0).2 hv)).mono ?_
  rintro v w' ⟨r, h₁, Γ₁, Pr', he, hs1, hr, hk0⟩
  obtain ⟨Γ', g1, g2, g3⟩ := hs.framed hn hp he hs1
  exact ⟨_, _, Γ', Pr', g1, g2, (relV_ren g3).1 hr, hk r h₁ hk0⟩
end Go.Ab
