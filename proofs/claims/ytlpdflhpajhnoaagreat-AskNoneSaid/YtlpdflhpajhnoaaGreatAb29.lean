/- The abstract layer, part 29: the evaluator that enters calls is sound. -/
import Derived.Test.YtlpdflhpajhnoaaGreatAb28
namespace Go.Ab

/-! ### What is let go -/
section
variable {n N : Nat} {σ : List Nat}
theorem phi_old {i : Nat} (hi : i < n) : phi (List.range n ++ σ) N i = i := by
  unfold phi
  rw [List.getElem?_append_left (by simpa using hi), List.getElem?_range hi]
theorem phi_new {x i : Nat} (hx : σ[x]? = some i) : phi (List.range n ++ σ) N (n + x) = i := by
  unfold phi
  rw [List.getElem?_append_right (by simp)]
  simp [hx]
theorem newLab_of {i : Nat} {k : Nat → Prop} (h : newLab n σ i k) : ∃ j, k j ∧ phi (List.range n ++ σ) N j = i := by
  unfold newLab at h
  split at h
  · rename_i hb
    exact ⟨i, h, phi_old (lt_of_bit hb)⟩
  · have key : ∀ {τ : List Nat} {j : Nat}, (@List.rec Nat (fun _ => Nat → Prop) (fun _ => bad 1) (fun s _ ih j => @Bool.rec (fun _ => Prop) (ih (Nat.succ j)) (fNat j k) (Nat.beq s i)) τ j) → ∃ x, k (j + x) ∧ τ[x]? = some i := by
      intro τ
      induction τ with
      | nil => intro j h; exact bad.elim h
      | cons s τ ih =>
        intro j h
        cases hb : Nat.beq s i with
        | true =>
          have h : (@Bool.rec (fun _ => Prop) _ (fNat j k) (Nat.beq s i)) := h
          rw [hb] at h
          have h := fNat_iff.1 h
          exact ⟨0, h, by rw [Nat.eq_of_beq_eq_true hb]; rfl⟩
        | false =>
          have h : (@Bool.rec (fun _ => Prop) (@List.rec Nat (fun _ => Nat → Prop) (fun _ => bad 1) (fun s _ ih j => @Bool.rec (fun _ => Prop) (ih (Nat.succ j)) (fNat j k) (Nat.beq s i)) τ (Nat.succ j)) (fNat j k) (Nat.beq s i)) := h
          rw [hb] at h
          obtain ⟨x, h1, h2⟩ := ih h
          exact ⟨x + 1, by rw [show j + (x + 1) = Nat.succ j + x from by omega]; exact h1, by simpa using h2⟩
    obtain ⟨x, h1, h2⟩ := key h
    exact ⟨n + x, h1, phi_new h2⟩
mutual
theorem reK_of : ∀ {v : AV} {k : AV → Prop}, reK n σ v k → ∃ u, k u ∧ ren (phi (List.range n ++ σ) N) u = v
  | .any, k, h => ⟨_, h, rfl⟩
  | .ro d, k, h => ⟨_, h, rfl⟩
  | .ptr id off, k, h => by
    obtain ⟨j, h1, h2⟩ := newLab_of (N := N) (show newLab n σ id (fun id => k (.ptr id off)) from h)
    exact ⟨_, h1, by simp only [ren, h2]⟩
  | .sl sz id off len cap, k, h => by
    obtain ⟨j, h1, h2⟩ := newLab_of (N := N) (show newLab n σ id (fun id => k (.sl sz id off len cap)) from h)
    exact ⟨_, h1, by simp only [ren, h2]⟩
  | .fn f a b, k, h => by
    obtain ⟨a', h, e1⟩ := reLK_of (show reLK n σ a (fun a => reLK n σ b (fun b => k (.fn f a b))) from h)
    obtain ⟨b', h, e2⟩ := reLK_of h
    exact ⟨_, h, by simp only [ren, e1, e2]⟩
  | .agg l, k, h => by
    obtain ⟨a', h, e1⟩ := reLK_of (show reLK n σ l (fun a => k (.agg a)) from h)
    exact ⟨_, h, by simp only [ren, e1]⟩
  | .tup l, k, h => by
    obtain ⟨a', h, e1⟩ := reLK_of (show reLK n σ l (fun a => k (.tup a)) from h)
    exact ⟨_, h, by simp only [ren, e1]⟩
  | .mp id, k, h => by
    obtain ⟨j, h1, h2⟩ := newLab_of (N := N) (show newLab n σ id (fun id => k (.mp id)) from h)
    exact ⟨_, h1, by simp only [ren, h2]⟩
  | .yld id, k, h => by
    obtain ⟨j, h1, h2⟩ := newLab_of (N := N) (show newLab n σ id (fun id => k (.yld id)) from h)
    exact ⟨_, h1, by simp only [ren, h2]⟩
  | .ifc t a, k, h => by
    obtain ⟨a', h, e1⟩ := reK_of (show reK n σ a (fun a => k (.ifc t a)) from h)
    exact ⟨_, h, by simp only [ren, e1]⟩
theorem reLK_of : ∀ {l : List AV} {k : List AV → Prop}, reLK n σ l k → ∃ u, k u ∧ rens (phi (List.range n ++ σ) N) u = l
  | [], k, h => ⟨[], h, rfl⟩
  | a :: l, k, h => by
    obtain ⟨a', h, e1⟩ := reK_of (show reK n σ a (fun a => reLK n σ l (fun l => k (a :: l))) from h)
    obtain ⟨l', h, e2⟩ := reLK_of h
    exact ⟨_, h, by simp only [rens, e1, e2]⟩
end
theorem reTK_of : ∀ {T : Tm} {k : Tm → Prop}, reTK n σ T k → ∃ u, k u ∧ renT (phi (List.range n ++ σ) N) u = T
  | .leaf, k, h => ⟨_, h, rfl⟩
  | .node l v r, k, h => by
    obtain ⟨l', h, e1⟩ := reTK_of (show reTK n σ l (fun l => reK n σ v (fun v => reTK n σ r (fun r => k (.node l v r)))) from h)
    obtain ⟨v', h, e2⟩ := reK_of (N := N) h
    obtain ⟨r', h, e3⟩ := reTK_of h
    exact ⟨_, h, by simp only [renT, e1, e2, e3]⟩
theorem reEK_of : ∀ {es : List (AV × AV)} {k : List (AV × AV) → Prop}, reEK n σ es k → ∃ u, k u ∧ renEs (phi (List.range n ++ σ) N) u = es
  | [], k, h => ⟨[], h, rfl⟩
  | (a, b) :: es, k, h => by
    obtain ⟨a', h, e1⟩ := reK_of (N := N) (show reK n σ a (fun a => reK n σ b (fun b => reEK n σ es (fun l => k ((a, b) :: l)))) from h)
    obtain ⟨b', h, e2⟩ := reK_of (N := N) h
    obtain ⟨l', h, e3⟩ := reEK_of h
    exact ⟨_, h, by simp only [renEs, e1, e2, e3]⟩
theorem reOK_of {o : AObj} {k : AObj → Prop} (h : reOK n σ o k) : ∃ u, k u ∧ renO (phi (List.range n ++ σ) N) u = o := by
  cases o with
  | cells T cs =>
    obtain ⟨l, h, e⟩ := reLK_of (N := N) (show reLK n σ cs (fun cs => k (.cells T cs)) from h)
    exact ⟨_, h, by simp only [renO, e]⟩
  | map es =>
    obtain ⟨l, h, e⟩ := reEK_of (N := N) (show reEK n σ es (fun es => k (.map es)) from h)
    exact ⟨_, h, by simp only [renO, e]⟩
  | siter s p => exact ⟨_, h, rfl⟩
  | loop L =>
    obtain ⟨T, h, e1⟩ := reTK_of (N := N) (show reTK n σ L.T (fun T => newLab n σ L.dl (fun d => k (.loop { L with T := T, dl := d }))) from h)
    obtain ⟨d, h, e2⟩ := newLab_of (N := N) h
    exact ⟨_, h, by simp only [renO, e1, e2]⟩
  | dfr => exact ⟨_, h, rfl⟩
  | dead => exact ⟨_, h, rfl⟩
theorem keptL_of {m : Nat} {H : Heap} : ∀ {R : Heap} {i : Nat} {k : List Nat → Prop}, (@List.rec AObj (fun _ => Nat → (List Nat → Prop) → Prop) (fun _ k => k []) (fun _ _ ih i k => fNat i (fun i => match Nat.blt i n with
    | true => ih (Nat.succ i) k
    | false => (match bitOf m i with | true => ih (Nat.succ i) (fun l => k (i :: l)) | false => ih (Nat.succ i) k))) R i k) → ∃ τ, k τ ∧ τ.Pairwise (· < ·) ∧ ∀ s ∈ τ, i ≤ s ∧ n ≤ s ∧ s < i + R.length
  | [], i, k, h => ⟨[], h, List.Pairwise.nil, fun s hs => by simp at hs⟩
  | o :: R, i, k, h => by
    have h := fNat_iff.1 h
    split at h
    · obtain ⟨τ, h1, h2, h3⟩ := keptL_of (H := H) (R := R) h
      exact ⟨τ, h1, h2, fun s hs => by have := h3 s hs; simp; omega⟩
    · rename_i hb
      have hni : n ≤ i := by
        cases Nat.lt_or_ge i n with
        | inl hl => have : Nat.blt i n = true := by simpa [Nat.blt, Nat.lt_iff_add_one_le] using hl
                    rw [this] at hb; cases hb
        | inr hg => exact hg
      split at h
      · obtain ⟨τ, h1, h2, h3⟩ := keptL_of (H := H) (R := R) h
        refine ⟨i :: τ, h1, List.pairwise_cons.2 ⟨fun s hs => by have := h3 s hs; omega, h2⟩, fun s hs => ?_⟩
        rcases List.mem_cons.1 hs with rfl | hs
        · simp; omega
        · have := h3 s hs; simp; omega
      · obtain ⟨τ, h1, h2, h3⟩ := keptL_of (H := H) (R := R) h
        exact ⟨τ, h1, h2, fun s hs => by have := h3 s hs; simp; omega⟩
theorem pickK_cons {o : AObj} {R : Heap} {i : Nat} {τ : List Nat} {k : Heap → Prop} : pickK n σ (o :: R) i τ k = (match Nat.blt i n with
      | true => reOK n σ o (fun o => pickK n σ R (Nat.succ i) τ (fun h => k (o :: h)))
      | false => (match τ with
        | [] => k []
        | s :: τ' => (match Nat.beq s i with
          | true => reOK n σ o (fun o => pickK n σ R (Nat.succ i) τ' (fun h => k (o :: h)))
          | false => pickK n σ R (Nat.succ i) (s :: τ') k))) := rfl
theorem pickK_of {H' : Heap} (hn : n ≤ H'.length) : ∀ {R : Heap} {i : Nat} {τ : List Nat} {k : Heap → Prop}, pickK n σ R i τ k → R = H'.drop i → τ.Pairwise (· < ·) → (∀ s ∈ τ, i ≤ s ∧ n ≤ s ∧ s < H'.length) →
    ∃ h₀, k h₀ ∧ (List.range' i (n - i) ++ τ).map (fun j => H'[j]?) = h₀.map (fun o => some (renO (phi (List.range n ++ σ) N) o))
  | [], i, τ, k, h, hR, hp, hs => by
    have hl : H'.length ≤ i := by simpa using hR.symm
    have : τ = [] := by
      cases τ with
      | nil => rfl
      | cons s τ => have := hs s (by simp); omega
    subst this
    exact ⟨[], h, by rw [show n - i = 0 from by omega]; rfl⟩
  | o :: R, i, τ, k, h, hR, hp, hs => by
    have hi : H'[i]? = some o := by
      have := congrArg (fun l => l[0]?) hR
      simpa using this.symm
    have hR' : R = H'.drop (i + 1) := by
      have := congrArg (fun l => l.drop 1) hR
      simpa [List.drop_drop] using this
    rw [pickK_cons] at h
    cases hb : Nat.blt i n with
    | true =>
      rw [hb] at h
      have hlt := lt_of_bit hb
      obtain ⟨o', h, e⟩ := reOK_of (N := N) h
      obtain ⟨h₀, h1, h2⟩ := pickK_of hn h hR' hp (fun s hs' => by have := hs s hs'; omega)
      refine ⟨o' :: h₀, h1, ?_⟩
      rw [show n - i = (n - (i + 1)) + 1 from by omega, List.range'_succ, List.cons_append, List.map_cons, List.map_cons, hi, e]
      exact congrArg _ h2
    | false =>
      rw [hb] at h
      have hge : n ≤ i := by
        cases Nat.lt_or_ge i n with
        | inl hl => have : Nat.blt i n = true := by simpa [Nat.blt, Nat.lt_iff_add_one_le] using hl
                    rw [this] at hb; cases hb
        | inr hg => exact hg
      have e0 : n - i = 0 := by omega
      have e1 : n - (i + 1) = 0 := by omega
      cases τ with
      | nil => exact ⟨[], h, by rw [e0]; rfl⟩
      | cons s τ' =>
        dsimp only at h
        have hp' := List.pairwise_cons.1 hp
        cases hsi : Nat.beq s i with
        | true =>
          rw [hsi] at h
          have e := Nat.eq_of_beq_eq_true hsi
          subst e
          obtain ⟨o', h, e⟩ := reOK_of (N := N) h
          obtain ⟨h₀, h1, h2⟩ := pickK_of hn h hR' hp'.2 (fun x hx => by have := hs x (by simp [hx]); have := hp'.1 x hx; omega)
          refine ⟨o' :: h₀, h1, ?_⟩
          rw [e1] at h2
          rw [e0, List.map_cons, e]
          simp only [List.range'_zero, List.nil_append, List.map_cons, hi] at h2 ⊢
          rw [h2]
        | false =>
          rw [hsi] at h
          have hne : s ≠ i := by rintro rfl; simp at hsi
          obtain ⟨h₀, h1, h2⟩ := pickK_of hn h hR' hp (fun x hx => by
            have h0 := hs x hx
            rcases List.mem_cons.1 hx with rfl | hx'
            · omega
            · have := hp'.1 x hx'; have := hs s (by simp); omega)
          refine ⟨h₀, h1, ?_⟩
          rw [e1] at h2
          rw [e0]
          exact h2
end
theorem lenN_eq (H : Heap) : lenN H = H.length := by
  have key : ∀ (H : Heap) (n : Nat), (@List.rec AObj (fun _ => Nat → Nat) (fun n => n) (fun _ _ ih n => ih (Nat.succ n)) H n : Nat) = n + H.length := by
    intro H
    induction H with
    | nil => intro n; rfl
    | cons o H ih => intro n; exact (ih (Nat.succ n)).trans (by simp; omega)
  exact (key H 0).trans (by simp)
theorem CallP.gc {P : Program} {f : FuncId} {args : List AV} {H : Heap} {k : AV → Heap → Prop} (h : CallP P f args H (fun r H' => fNat (lenN H) (fun n => gcK n r H' k))) : CallP P f args H k := by
  constructor
  intro Γ Pr w vs hs hv
  refine (h.run Γ Pr w vs hs hv).mono ?_
  rintro v w' ⟨r, H', Γ', Pr', he, hs', hr, hk⟩
  have hk := fNat_iff.1 hk
  rw [lenN_eq] at hk
  unfold gcK at hk
  split at hk
  · exact ⟨r, H', Γ', Pr', he, hs', hr, hk⟩
  · have hk := fNat_iff.1 hk
    obtain ⟨σ, hk, hpw, hb⟩ := keptL_of (H := H') hk
    obtain ⟨r₀, hk1, rfl⟩ := reK_of (N := H'.length) hk
    clear hk
    have hlen : H.length ≤ H'.length := by
      have h1 := hs.len
      have h2 := hs'.len
      obtain ⟨δ, rfl⟩ := he.vl
      simp at h2
      omega
    obtain ⟨h₀, hk, hp⟩ := pickK_of (N := H'.length) hlen hk1 rfl hpw (fun s hs => by have := hb s hs; omega)
    have hnd : (List.range H.length ++ σ).Nodup := by
      rw [List.nodup_append]
      refine ⟨List.nodup_range, hpw.imp (fun h => Nat.ne_of_lt h), fun a ha b hb' => ?_⟩
      have h1 := List.mem_range.1 ha
      have h2 := hb b hb'
      omega
    have hpicks : Picks H' (List.range H.length ++ σ) h₀ := by
      unfold Picks
      rw [← hp, Nat.sub_zero, List.range_eq_range']
    obtain ⟨q1, q2, q3⟩ := Ext.select hs.len hs' he hnd hpicks
    exact ⟨r₀, h₀, _, Pr', q1, q2, (relV_ren q3).2 hr, hk⟩
end Go.Ab
