/- The abstract layer, part 25: a region that draws its order, walked by a plan. -/
import Derived.Test.YtlpdflhpajhnoaaGreatAb24
namespace Go.Ab

/-! ### Orders -/
theorem testBit_lor' (a b j : Nat) : (Nat.lor a b).testBit j = (a.testBit j || b.testBit j) := Nat.testBit_or a b j
theorem subM_iff {a b : Nat} : subM a b = true ↔ ∀ j, a.testBit j = true → b.testBit j = true := by
  unfold subM
  constructor
  · intro h j hj
    have h := Nat.eq_of_beq_eq_true h
    have := congrArg (fun n => n.testBit j) h
    rw [show Nat.land a b = a &&& b from rfl, Nat.testBit_and, hj] at this
    simpa using this
  · intro h
    have : Nat.land a b = a := by
      apply Nat.eq_of_testBit_eq
      intro j
      rw [show Nat.land a b = a &&& b from rfl, Nat.testBit_and]
      cases hj : a.testBit j with
      | false => rfl
      | true => simp [h j hj]
    rw [this]
    simp
theorem edgeM_bit {B : List Nat} {o : Oper} {j : Nat} : (edgeM B o).testBit j = true ↔ ∃ e ∈ o.after, Region.binds .any e = true ∧ (e.on = j ∨ bef B j e.on = true) := by
  have key : ∀ (l : List Edge) (s : Nat), (l.foldl (edgeS B) s).testBit j = true ↔ s.testBit j = true ∨ ∃ e ∈ l, Region.binds .any e = true ∧ (e.on = j ∨ bef B j e.on = true) := by
    intro l
    induction l with
    | nil => intro s; simp
    | cons e l ih =>
      intro s
      rw [List.foldl_cons, ih]
      unfold edgeS
      cases hb : Region.binds .any e with
      | false => simp [hb]
      | true =>
        simp only [testBit_lor', Nat.testBit_two_pow, Bool.or_eq_true, decide_eq_true_eq, List.mem_cons, exists_eq_or_imp, hb, true_and]
        unfold bef
        constructor
        · rintro ((h | h | h) | h)
          · exact .inl h
          · exact .inr (.inl (.inl h))
          · exact .inr (.inl (.inr h))
          · exact .inr (.inr h)
        · rintro (h | (h | h) | h)
          · exact .inl (.inl h)
          · exact .inl (.inr (.inl h))
          · exact .inl (.inr (.inr h))
          · exact .inr h
  unfold edgeM
  rw [key]
  simp
theorem ordI_ok {L : List Oper} {B : List Nat} (h : allI (ordI L B L.length) L.length = true) : Ordered L B := by
  have key : ∀ (i : Nat) (o : Oper), L[i]? = some o → B.getD i 0 = edgeM B o ∧ (∀ e ∈ o.after, Region.binds .any e = true → e.on < i ∧ bef B e.on i = true ∧ ∀ j, bef B j e.on = true → bef B j i = true) ∧
      ∀ j, j < L.length → i ≠ j → ∀ t, dstAt L j = some t → (t ∈ looks L o ∨ dstAt L i = some t) → bef B i j = true ∨ bef B j i = true := by
    intro i o ho
    have hi : i < L.length := (List.getElem?_eq_some_iff.1 ho).1
    have h := allI_iff.1 h i hi
    unfold ordI at h
    rw [ho] at h
    simp only [Bool.and_eq_true, List.all_eq_true] at h
    obtain ⟨⟨h1, h2⟩, h3⟩ := h
    refine ⟨Nat.eq_of_beq_eq_true h1, fun e he hb => ?_, fun j hj hne t ht hl => ?_⟩
    · have := h2 e (by simpa using he)
      rw [hb] at this
      simp only [Bool.and_eq_true, subM_iff, testBit_lor', Nat.testBit_two_pow, Bool.or_eq_true, decide_eq_true_eq] at this
      refine ⟨by simpa [Nat.blt, Nat.lt_iff_add_one_le] using this.1, this.2 e.on (.inl rfl), fun j hj => this.2 j (.inr hj)⟩
    · have := allI_iff.1 h3 j hj
      have hnb : Nat.beq i j = false := by
        cases hb : Nat.beq i j with
        | false => rfl
        | true => exact (hne (Nat.eq_of_beq_eq_true hb)).elim
      rw [hnb, ht] at this
      dsimp only at this
      cases hij : bef B i j with
      | true => exact .inl rfl
      | false =>
        cases hji : bef B j i with
        | true => exact .inr rfl
        | false =>
          rw [hij, hji] at this
          simp only [Bool.and_eq_true, Bool.not_eq_true'] at this
          rcases hl with hl | hl
          · have hc : (looks L o).contains t = true := by simpa using hl
            rw [hc] at this
            cases this.1
          · simp only [dstAt, ho, Option.bind_some] at hl
            rw [hl] at this
            simp at this
  have lt : ∀ i, i < L.length → ∀ j, bef B j i = true → j < i := by
    intro i
    induction i using Nat.strongRecOn with
    | _ i ih =>
      intro hi j hj
      obtain ⟨h1, h2, _⟩ := key i _ (List.getElem?_eq_getElem hi)
      have hj' := hj
      unfold bef at hj'
      rw [h1] at hj'
      obtain ⟨e, he, hb, h⟩ := edgeM_bit.1 hj'
      have hlt := (h2 e he hb).1
      rcases h with h | h
      · omega
      · have := ih e.on hlt (by omega) j h
        omega
  have gen : ∀ (i j : Nat) (o : Oper), L[i]? = some o → bef B j i = true → ∃ e ∈ o.after, Region.binds .any e = true ∧ (e.on = j ∨ bef B j e.on = true) := by
    intro i j o ho hj
    have hj' := hj
    unfold bef at hj'
    rw [(key i o ho).1] at hj'
    exact edgeM_bit.1 hj'
  refine ⟨fun i o ho e he hb => let h := (key i o ho).2.1 e he hb; ⟨h.1, h.2.1⟩, fun i j hi hj => lt i hi j hj, ?_, gen, fun i j t o ho hj hne ht hl => (key i o ho).2.2 j hj hne t ht hl⟩
  intro i
  induction i using Nat.strongRecOn with
  | _ i ih =>
    intro j k hi hji hkj
    obtain ⟨e, he, hb, h⟩ := gen i j _ (List.getElem?_eq_getElem hi) hji
    have h2 := (key i _ (List.getElem?_eq_getElem hi)).2.1 e he hb
    rcases h with rfl | h
    · exact h2.2.2 k hkj
    · exact h2.2.2 k (ih e.on h2.1 j k (by omega) h hkj)

/-! ### Masks -/
theorem Tm.set_ex : ∀ (f n : Nat) (T : Tm) (u : AV), n < f → ∃ T', Tm.set? f T n u = some T'
  | 0, n, T, u, h => by omega
  | f + 1, n, T, u, h => by
    cases T with
    | leaf =>
      simp only [Tm.set?]
      split
      · exact ⟨_, rfl⟩
      · split
        · obtain ⟨l, hl⟩ := Tm.set_ex f (n / 2) .leaf u (by omega)
          rw [hl]; exact ⟨_, rfl⟩
        · obtain ⟨l, hl⟩ := Tm.set_ex f ((n - 1) / 2) .leaf u (by omega)
          rw [hl]; exact ⟨_, rfl⟩
    | node l v r =>
      simp only [Tm.set?]
      split
      · exact ⟨_, rfl⟩
      · split
        · obtain ⟨l, hl⟩ := Tm.set_ex f (n / 2) l u (by omega)
          rw [hl]; exact ⟨_, rfl⟩
        · obtain ⟨l, hl⟩ := Tm.set_ex f ((n - 1) / 2) r u (by omega)
          rw [hl]; exact ⟨_, rfl⟩
theorem mask_ex (T : Tm) : ∀ l : List Nat, ∃ m : Tm, agree l m T ∧ ∀ t, m.get t = .any ∨ (t ∈ l ∧ m.get t = T.get t)
  | [] => ⟨.leaf, fun t ht => by simp at ht, fun t => .inl rfl⟩
  | t :: r => by
    obtain ⟨m, h1, h2⟩ := mask_ex T r
    obtain ⟨m', hm⟩ := Tm.set_ex (t + 1) t m (T.get t) (by omega)
    refine ⟨m', fun u hu => ?_, fun u => ?_⟩
    · rw [Tm.get_set hm]
      by_cases e : u = t
      · subst e; rw [if_pos rfl]
      · rw [if_neg e]; exact h1 u (by simpa [e] using hu)
    · rw [Tm.get_set hm]
      by_cases e : u = t
      · subst e; rw [if_pos rfl]; exact .inr ⟨by simp, rfl⟩
      · rw [if_neg e]
        rcases h2 u with h | ⟨h, h'⟩
        · exact .inl h
        · exact .inr ⟨by simp [h], h'⟩
theorem wantedK_imp {L : List Oper} {o : Oper} {T : Tm} {y y' n n' : Prop} (h : wantedK L o T y n) (hy : y → y') (hn : n → n') : wantedK L o T y' n' := by
  rcases wantedK_cases L o T with e | e | e
  · exact (e _ _).2 (hy ((e _ _).1 h))
  · exact (e _ _).2 (hn ((e _ _).1 h))
  · exact (e _ _ h).elim
section
variable {tt : TyT} {conc : Bool} {rec : Rec} {H : Heap} {m T : Tm}
theorem stepA_congr {o : Oper} (h0 : agree (tmpsOf o.op.operands.toList) m T) : stepA tt conc rec o m H = stepA tt conc rec o T H := by
  have h := ofOperands h0
  funext k
  have hA : opA tt conc o m H k = opA tt conc o T H k := by
    obtain ⟨dst, op, rt, pos, after, guard⟩ := o
    unfold opA
    cases conc with
    | false => dsimp only; rw [opK_congr h0]
    | true =>
      dsimp only
      cases op with
      | convert s d x => dsimp only at h ⊢; rw [evK_congr (T := T) (fun t ht => h t (by simp [Op.operands, ht]))]
      | makeSlice t l c => dsimp only at h ⊢; rw [evK_congr (x := l) (T := T) (fun t ht => h t (by simp [Op.operands, ht])), evK_congr (x := c) (T := T) (fun t ht => h t (by simp [Op.operands, ht]))]
      | _ => dsimp only; rw [opK_congr h0]
  obtain ⟨dst, op, rt, pos, after, guard⟩ := o
  unfold stepA
  cases op with
  | call c =>
    obtain ⟨callee, args, tys⟩ := c
    cases callee with
    | value f =>
      dsimp only at h ⊢
      rw [evK_congr (x := f) (T := T) (fun t ht => h t (by simp [Op.operands, Call.operands, ht])), evsK_congr (l := args.toList) (T := T) (fun t ht => h t (by simp [Op.operands, Call.operands] at ht ⊢; exact .inr ht))]
    | _ => exact hA
  | _ => exact hA
end
end Go.Ab
