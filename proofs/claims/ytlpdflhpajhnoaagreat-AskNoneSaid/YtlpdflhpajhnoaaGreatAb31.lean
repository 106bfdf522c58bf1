/- The abstract layer, part 31: small rules on a call's end: labels that die, values that tell less. -/
import Derived.Test.YtlpdflhpajhnoaaGreatAb30
namespace Go.Ab

theorem CallP.res {P : Program} {f : FuncId} {args : List AV} {H : Heap} {k k' : AV → Heap → Prop} (h : CallP P f args H k) (hk : ∀ r H', k r H' → ∃ r', (∀ Γ Pr w v, RelV Γ Pr w r v → RelV Γ Pr w r' v) ∧ k' r' H') : CallP P f args H k' :=
  ⟨fun Γ Pr w vs hs hv => (h.run Γ Pr w vs hs hv).mono fun _ _ ⟨r, H', Γ', Pr', h1, h2, h3, h4⟩ => let ⟨r', g1, g2⟩ := hk r H' h4; ⟨r', H', Γ', Pr', h1, h2, g1 _ _ _ _ h3, g2⟩⟩
/-- One more label, that holds nothing. -/
theorem CallP.pad {P : Program} {f : FuncId} {args : List AV} {H : Heap} {k k' : AV → Heap → Prop} (h : CallP P f args H k) (hk : ∀ r H', k r H' → k' r H' ∨ k' r (H' ++ [.dead])) : CallP P f args H k' := by
  constructor
  intro Γ Pr w vs hs hv
  refine (h.run Γ Pr w vs hs hv).mono ?_
  rintro v w' ⟨r, H', Γ', Pr', he, hs', hr, hk0⟩
  rcases hk r H' hk0 with hk' | hk'
  · exact ⟨r, H', Γ', Pr', he, hs', hr, hk'⟩
  have hl : ∀ j, live (H' ++ [.dead]) j → live H' j := by
    rintro j ⟨p, hp, hpd⟩
    by_cases hj : j < H'.length
    · exact ⟨p, by rwa [List.getElem?_append_left hj] at hp, hpd⟩
    · have hlt := (List.getElem?_eq_some_iff.1 hp).1
      simp at hlt
      have : j = H'.length := by omega
      subst this
      simp at hp
      subst hp
      simp [AObj.isDead] at hpd
  have hg : ∀ j b n, live H' j → (Γ' ++ [(0, 0)])[j]? = some (b, n) → Γ'[j]? = some (b, n) := by
    intro j b n hj hh
    rwa [List.getElem?_append_left (by rw [hs'.len]; exact live_lt hj)] at hh
  refine ⟨r, H' ++ [.dead], Γ' ++ [(0, 0)], Pr', ?_, ?_, hr.mono ⟨_, rfl⟩ (fun _ h => h) (fun _ _ => rfl), hk'⟩
  · obtain ⟨δ, hδ⟩ := he.vl
    exact ⟨he.os, he.tape, he.output, he.size, ⟨δ ++ [(0, 0)], by rw [hδ]; simp⟩, he.pr, he.prNew, fun j b n hj hh => he.own j b n (hl j hj) (hg j b n (hl j hj) hh), he.frame⟩
  · refine ⟨by simp [hs'.len], fun i o ho hd => ?_, fun i j b n m hi hj h1 h2 => hs'.inj i j b n m (hl i hi) (hl j hj) (hg i b n (hl i hi) h1) (hg j b m (hl j hj) h2), hs'.prlt⟩
    have hi := hl i ⟨o, ho, hd⟩
    have hlt := live_lt hi
    rw [List.getElem?_append_left hlt] at ho
    obtain ⟨b, n, h1, h2, h3⟩ := hs'.obj i o ho hd
    exact ⟨b, n, by rw [List.getElem?_append_left (by rw [hs'.len]; exact hlt)]; exact h1, h2, h3.mono ⟨_, rfl⟩ (fun _ h => h) (fun _ _ => rfl) rfl⟩
/-- A new label that is let go. -/
theorem CallP.kill {P : Program} {f : FuncId} {args : List AV} {H : Heap} {k k' : AV → Heap → Prop} (h : CallP P f args H k) (hk : ∀ r H', k r H' → k' r H' ∨ ∃ l, H.length ≤ l ∧ k' r (H'.set l .dead)) : CallP P f args H k' := by
  constructor
  intro Γ Pr w vs hs hv
  refine (h.run Γ Pr w vs hs hv).mono ?_
  rintro v w' ⟨r, H', Γ', Pr', he, hs', hr, hk0⟩
  rcases hk r H' hk0 with hk' | ⟨l, hll, hk'⟩
  · exact ⟨r, H', Γ', Pr', he, hs', hr, hk'⟩
  have hj' : ∀ j, live (H'.set l .dead) j → live H' j := by
    rintro j ⟨p, hp, hpd⟩
    rw [List.getElem?_set] at hp
    split at hp
    · split at hp
      · simp only [Option.some.injEq] at hp; subst hp; simp [AObj.isDead] at hpd
      · cases hp
    · exact ⟨p, hp, hpd⟩
  refine ⟨r, H'.set l .dead, Γ', Pr', ⟨he.os, he.tape, he.output, he.size, he.vl, he.pr, he.prNew, fun j b n hj hh => he.own j b n (hj' j hj) hh, he.frame⟩, ?_, hr, hk'⟩
  refine ⟨by simp [hs'.len], fun i o ho hd => ?_, fun i j b n m hi hj => hs'.inj i j b n m (hj' i hi) (hj' j hj), hs'.prlt⟩
  rw [List.getElem?_set] at ho
  split at ho
  · split at ho
    · simp only [Option.some.injEq] at ho; subst ho; simp [AObj.isDead] at hd
    · cases ho
  · exact hs'.obj i o ho hd
theorem relV_nil {Γ : VL} {Pr : Nat → Prop} {w : World} {sz id off : Nat} {v : Value} (h : RelV Γ Pr w (.sl sz id off 0 (some 0)) v) : RelV Γ Pr w (.ro nilSl) v := by
  obtain ⟨b, n, c, _, rfl, h1, _, h2⟩ := h
  obtain rfl := h2 0 rfl
  exact ⟨_, 0, 0, rfl, rfl, Nat.le_refl _, fun c0 hc => by cases hc; rfl, .inl rfl⟩
/-- A clone's end: nil, nothing, or fresh memory. -/
theorem CallP.cloned {P : Program} {f : FuncId} {args : List AV} {H : Heap} {k : AV → Heap → Prop} {e esz n : Nat} {l : List AV} {em : Prop}
    (key : CallP P f args H (fun r H' => (em ∧ r = .ro nilSl ∧ H' = H) ∨ (em ∧ r = .sl esz H.length 0 0 (some 0) ∧ H' = H ++ [.cells e []]) ∨ (¬ em ∧ r = .sl esz (H.length + 1) 0 n none ∧ H' = H ++ [.cells e []] ++ [.cells e l])))
    (h1 : em → k (.ro nilSl) (H ++ [.dead])) (h2 : ¬ em → k (.sl esz (H.length + 1) 0 n none) (H ++ [.dead] ++ [.cells e l])) : CallP P f args H k := by
  have s1 := key.res (k' := fun r H' => (em ∧ r = .ro nilSl ∧ H' = H) ∨ (em ∧ r = .ro nilSl ∧ H' = H ++ [.cells e []]) ∨ (¬ em ∧ r = .sl esz (H.length + 1) 0 n none ∧ H' = H ++ [.cells e []] ++ [.cells e l])) (by
    rintro r H' (⟨h, rfl, rfl⟩ | ⟨h, rfl, rfl⟩ | ⟨h, rfl, rfl⟩)
    · exact ⟨_, fun _ _ _ _ h => h, .inl ⟨h, rfl, rfl⟩⟩
    · exact ⟨_, fun _ _ _ _ h => relV_nil h, .inr (.inl ⟨h, rfl, rfl⟩)⟩
    · exact ⟨_, fun _ _ _ _ h => h, .inr (.inr ⟨h, rfl, rfl⟩)⟩)
  have s2 := s1.kill (k' := fun r H' => (em ∧ r = .ro nilSl ∧ (H' = H ∨ H' = H ++ [.dead])) ∨ (¬ em ∧ r = .sl esz (H.length + 1) 0 n none ∧ H' = H ++ [.dead] ++ [.cells e l])) (by
    rintro r H' (⟨h, rfl, rfl⟩ | ⟨h, rfl, rfl⟩ | ⟨h, rfl, rfl⟩)
    · exact .inl (.inl ⟨h, rfl, .inl rfl⟩)
    · exact .inr ⟨H.length, Nat.le_refl _, .inl ⟨h, rfl, .inr (by rw [List.set_append_right _ _ (Nat.le_refl _)]; simp)⟩⟩
    · exact .inr ⟨H.length, Nat.le_refl _, .inr ⟨h, rfl, by rw [List.append_assoc, List.set_append_right _ _ (Nat.le_refl _)]; simp⟩⟩)
  refine s2.pad ?_
  rintro r H' (⟨h, rfl, rfl | rfl⟩ | ⟨h, rfl, rfl⟩)
  · exact .inr (h1 h)
  · exact .inl (h1 h)
  · exact .inl (h2 h)
noncomputable def cloneS (e esz eb : Nat) : Kr := fun args H k => match args with
  | [.ro (.slice sz cs _)] => guardP (szOK sz esz cs && Nat.beq (Nat.mod cs.length esz) 0 && Nat.ble (cs.length * eb) (2 ^ 46)) (condB cs.isEmpty (newK H .dead (fun _ H' => k (.ro nilSl) H'))
    (mapK AV.ro cs (fun l => newK H .dead (fun _ H1 => newK H1 (.cells e l) (fun i H' => fNat i fun i => fNat (cs.length / esz) fun n => k (.sl esz i 0 n none) H')))))
  | [.sl sz id off len cap] => guardP (Nat.beq sz esz && Nat.ble (len * eb) (2 ^ 46)) (cellsFromK H sz (.sl sz id off len cap) (fun _ l => condB (Nat.beq len 0) (newK H .dead (fun _ H' => k (.ro nilSl) H'))
    (newK H .dead (fun _ H1 => newK H1 (.cells e l) (fun i H' => fNat i fun i => k (.sl esz i 0 len none) H')))))
  | _ => bad 9001
theorem frz_len {α : Type} {cs : List α} {off n : Nat} (h : n ≤ (cs.drop off).length) : ((cs.drop off).take n).length = n := by
  rw [List.length_take]; omega
end Go.Ab
