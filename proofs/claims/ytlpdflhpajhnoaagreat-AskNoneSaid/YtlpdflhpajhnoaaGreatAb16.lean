/- The abstract layer, part 16: the walk of all orders is sound. -/
import Derived.Test.YtlpdflhpajhnoaaGreatAb15
namespace Go.Ab

structure Ordered (L : List Oper) (B : List Nat) : Prop where
  edge : ∀ (i : Nat) (o : Oper), L[i]? = some o → ∀ e ∈ o.after, Region.binds .any e = true → e.on < i ∧ bef B e.on i = true
  lt : ∀ i j, i < L.length → bef B j i = true → j < i
  tr : ∀ i j k, i < L.length → bef B j i = true → bef B k j = true → bef B k i = true
  gen : ∀ (i j : Nat) (o : Oper), L[i]? = some o → bef B j i = true → ∃ e ∈ o.after, Region.binds .any e = true ∧ (e.on = j ∨ bef B j e.on = true)
  dst : ∀ (i j t : Nat) (o : Oper), L[i]? = some o → j < L.length → i ≠ j → dstAt L j = some t → (t ∈ looks L o ∨ dstAt L i = some t) → bef B i j = true ∨ bef B j i = true
theorem bef_lt_of {L : List Oper} {B : List Nat} : True := trivial
theorem orderOK_ok {L : List Oper} {B : List Nat} (hB : B.length = L.length) (hb : ∀ x ∈ B, x < 2 ^ L.length) (h : orderOK L B = true) : Ordered L B := by
  have key : ∀ (i : Nat) (o : Oper), L[i]? = some o → (∀ e ∈ o.after, Region.binds .any e = true → e.on < i ∧ bef B e.on i = true) ∧
      ∀ j, j < L.length → (bef B j i = true → j < i ∧ ∃ e ∈ o.after, Region.binds .any e = true ∧ (e.on = j ∨ bef B j e.on = true)) ∧
        (bef B j i = true → ∀ k, k < L.length → bef B k j = true → bef B k i = true) ∧
        (i ≠ j → ∀ t, dstAt L j = some t → (t ∈ looks L o ∨ dstAt L i = some t) → bef B i j = true ∨ bef B j i = true) := by
    intro i o ho
    have hi : i < L.length := (List.getElem?_eq_some_iff.1 ho).1
    unfold orderOK at h
    rw [List.all_eq_true] at h
    have h := h i (List.mem_range.2 hi)
    rw [ho] at h
    simp only [Bool.and_eq_true, List.all_eq_true, List.mem_range] at h
    obtain ⟨h1, h2⟩ := h
    refine ⟨fun e he hbd => ?_, fun j hj => ?_⟩
    · have := h1 e (by simpa using he)
      simp only [hbd, Bool.not_true, Bool.false_or, Bool.and_eq_true, decide_eq_true_eq] at this
      exact this
    · obtain ⟨⟨h3, h4⟩, h5⟩ := h2 j hj
      refine ⟨fun hb => ?_, fun hb k hk hkj => ?_, fun hne t ht hl => ?_⟩
      · simp only [hb, Bool.not_true, Bool.false_or, Bool.and_eq_true, decide_eq_true_eq, List.any_eq_true, Bool.or_eq_true, beq_iff_eq] at h3
        obtain ⟨h6, e, he, h7, h8⟩ := h3
        exact ⟨h6, e, by simpa using he, h7, h8⟩
      · simp only [hb, Bool.not_true, Bool.false_or, List.all_eq_true, List.mem_range] at h4
        have := h4 k hk
        simpa [hkj] using this
      · rw [ht] at h5
        have hij : (i == j) = false := by simpa using hne
        simp only [hij, Bool.false_or, Bool.or_eq_true, Bool.not_eq_true', Bool.or_eq_false_iff] at h5
        rcases h5 with (h5 | h5) | h5
        · rcases hl with hl | hl
          · have : (looks L o).contains t = true := by simpa using hl
            rw [this] at h5; simp at h5
          · rw [hl] at h5; simp at h5
        · exact .inl h5
        · exact .inr h5
  have hsmall : ∀ i j, bef B j i = true → j < L.length := by
    intro i j hb'
    unfold bef at hb'
    rcases Nat.lt_or_ge j L.length with h' | h'
    · exact h'
    · exfalso
      have hlt : B.getD i 0 < 2 ^ L.length := by
        rw [List.getD_eq_getElem?_getD]
        cases hx : B[i]? with
        | none => simp; exact Nat.two_pow_pos _
        | some x => exact hb x (List.mem_of_getElem? hx)
      have : (B.getD i 0).testBit j = false := Nat.testBit_lt_two_pow (Nat.lt_of_lt_of_le hlt (Nat.pow_le_pow_right (by omega) h'))
      rw [this] at hb'
      cases hb'
  refine ⟨fun i o ho => (key i o ho).1, fun i j hi hb' => ?_, fun i j k hi h1 h2 => ?_, fun i j o ho hb' => ?_, fun i j t o ho hj hne ht hl => ?_⟩
  · exact (((key i _ (List.getElem?_eq_getElem hi)).2 j (hsmall i j hb')).1 hb').1
  · exact ((key i _ (List.getElem?_eq_getElem hi)).2 j (hsmall i j h1)).2.1 h1 k (hsmall j k h2) h2
  · exact (((key i o ho).2 j (hsmall i j hb')).1 hb').2
  · exact ((key i o ho).2 j hj).2.2 hne t ht hl

section
variable {P : Program} {F : Fence} {nt : Nat} {tt : TyT} {L : List Oper} {B : List Nat} {ops : Array Oper} {Q : Exit → Act → World → Prop} {k : Tm → Heap → Prop}

def Closed (B : List Nat) (S : Nat → Bool) : Prop := ∀ i, S i = true → ∀ j, bef B j i = true → S j = true
def upd (vs : Nat → AV) (i : Nat) (v : AV) : Nat → AV := fun j => if j = i then v else vs j
/-- What an operation looks at lies fast as soon as what comes before it is done. -/
theorem val_looks (hO : Ordered L B) {vs : Nat → AV} {S S' : Nat → Bool} {T₀ : Tm} {i t : Nat} {o : Oper} (ho : L[i]? = some o) (ht : t ∈ looks L o) (hS : Closed B S) (hS' : Closed B S') (h1 : ∀ j, bef B j i = true → S j = true) (h2 : ∀ j, bef B j i = true → S' j = true) (h3 : S i = false) (h4 : S' i = false) :
    valN L vs S T₀ t L.length = valN L vs S' T₀ t L.length := by
  refine valN_congr fun j hj hd => ⟨?_, fun _ => rfl⟩
  by_cases e : i = j
  · subst e; rw [h3, h4]
  · rcases hO.dst i j t o ho hj e hd (.inl ht) with h | h
    · have a1 : S j = false := by
        cases hs : S j with
        | false => rfl
        | true => rw [hS j hs i h] at h3; cases h3
      have a2 : S' j = false := by
        cases hs : S' j with
        | false => rfl
        | true => rw [hS' j hs i h] at h4; cases h4
      rw [a1, a2]
    · rw [h1 j h, h2 j h]
theorem val_put (hO : Ordered L B) {vs : Nat → AV} {S : Nat → Bool} {T₀ : Tm} {i t : Nat} {o : Oper} {v : AV} (ho : L[i]? = some o) (hS : Closed B S) (h3 : S i = false) :
    valN L (upd vs i v) (fun j => S j || decide (i = j)) T₀ t L.length = if dstAt L i = some t then v else valN L vs S T₀ t L.length := by
  have hi : i < L.length := (List.getElem?_eq_some_iff.1 ho).1
  split
  · rename_i hd
    rw [valN_last (i := i) (by simp) hd hi]
    · simp [upd]
    · intro j h1 h2 hdj
      have hne : i ≠ j := by omega
      have : S j = false := by
        rcases hO.dst i j t o ho h2 hne hdj (.inr hd) with h | h
        · cases hs : S j with
          | false => rfl
          | true => rw [hS j hs i h] at h3; cases h3
        · exact absurd (hO.lt i j hi h) (by omega)
      simp [this, hne]
  · rename_i hd
    refine valN_congr fun j hj hdj => ?_
    have hne : i ≠ j := fun e => hd (e ▸ hdj)
    refine ⟨by simp [hne], fun _ => ?_⟩
    simp only [upd]
    rw [if_neg (fun e => hne e.symm)]

/-- What the walk knows: C: what it has taken; vs: the values. -/
structure Can (L : List Oper) (B : List Nat) (P : Program) (nt : Nat) (tt : TyT) (k : Tm → Heap → Prop) (T₀ : Tm) (f D : Nat) (T : Tm) (H : Heap) (pend : Pend) (vs : Nat → AV) (S : Nat → Bool) : Prop where
  form : drawK L B P nt tt k f D T H pend
  closed : Closed B D.testBit
  size : ∀ i, D.testBit i = true → i < L.length
  tms : ∀ t, T.get t = valN L vs D.testBit T₀ t L.length
  sub : ∀ i, S i = true → D.testBit i = true
  effs : ∀ (i : Nat) (o : Oper), L[i]? = some o → isRead o.op = false → D.testBit i = true → S i = true
  pend : ∀ (i : Nat) (o : Oper), L[i]? = some o → isRead o.op = true → D.testBit i = true → S i = false → ∃ m v, (i, o, m, v) ∈ pend ∧ v = vs i ∧ (∀ d, o.dst = some d → d < nt) ∧ readK L tt o m H (fun v' => v' = v) ∧
    ∀ t, m.get t = .any ∨ (t ∈ looks L o ∧ m.get t = valN L vs (fun j => bef B j i) T₀ t L.length)

theorem putK_ok {T : Tm} {dst : Option Nat} {v : AV} {k : Tm → Prop} (h : putK nt T dst v k) : ∃ T', k T' ∧ (∀ t, T'.get t = if dst = some t then v else T.get t) ∧ ∀ d, dst = some d → d < nt := by
  unfold putK at h
  split at h
  · exact ⟨T, h, fun t => by simp, fun d hd => by cases hd⟩
  · rename_i d
    split at h
    · rename_i hd
      obtain ⟨T', h1, h2⟩ := setK_iff.1 h
      refine ⟨T', h2, fun t => ?_, fun d' hd' => by cases hd'; exact hd⟩
      rw [Tm.get_set h1]
      by_cases e : t = d
      · subst e; simp
      · rw [if_neg e, if_neg (fun h => e (by simpa using h.symm))]
    · exact h.elim
theorem put_getD {a : Act} {dst : Option Nat} {x : Value} {nt : Nat} (hsz : a.tmps.size = nt) (hd : ∀ d, dst = some d → d < nt) (t : Nat) : (a.put dst x).tmps.getD t undef = if dst = some t then x else a.tmps.getD t undef := by
  cases dst with
  | none => simp [Act.put]
  | some d =>
    have hd := hd d rfl
    simp only [Act.put, Array.getD_eq_getD_getElem?, Array.getElem?_setIfInBounds]
    by_cases e : d = t
    · subst e; rw [← hsz] at hd; simp [hd]
    · rw [if_neg e, if_neg (by simpa using e)]
theorem put_size (a : Act) (dst : Option Nat) (x : Value) : (a.put dst x).tmps.size = a.tmps.size := by cases dst <;> simp [Act.put]
theorem relT_putK {Γ : VL} {Pr : Nat → Prop} {w : World} {T T' : Tm} {g : Act} {dst : Option Nat} {v : AV} {x : Value} (hT : RelT Γ Pr w nt T g.tmps) (h1 : ∀ t, T'.get t = if dst = some t then v else T.get t) (h2 : ∀ d, dst = some d → d < nt) (hx : RelV Γ Pr w v x) : RelT Γ Pr w nt T' (g.put dst x).tmps := by
  refine ⟨by rw [put_size]; exact hT.1, fun t => ?_⟩
  rw [h1, put_getD hT.1 h2]
  split
  · exact hx
  · exact hT.2 t
theorem relT_mask {Γ : VL} {Pr : Nat → Prop} {w : World} {T m : Tm} {g : Array Value} {l : List Nat} (hT : RelT Γ Pr w nt T g) (hm : ∀ t, m.get t = .any ∨ (t ∈ l ∧ m.get t = T.get t)) : RelT Γ Pr w nt m g := by
  refine ⟨hT.1, fun t => ?_⟩
  rcases hm t with h | ⟨_, h⟩
  · rw [h]; trivial
  · rw [h]; exact hT.2 t
theorem readK_ok (hP : TyOK P tt) (hops : ops.toList = L) {Γ : VL} {Pr : Nat → Prop} {H : Heap} {w : World} {m : Tm} {a : Act} {o : Oper} {k : AV → Prop} (hs : Sim Γ Pr H w) (hT : RelT Γ Pr w nt m a.tmps) (hr : isRead o.op = true) (h : readK L tt o m H k) :
    ∃ v x, k v ∧ RelV Γ Pr w v x ∧ ((Region.wanted o (yielded ops a.tmps) = true ∧ (execOp a.eval o).run P w = .ok (.value x) w) ∨ (Region.wanted o (yielded ops a.tmps) = false ∧ x = undef)) := by
  obtain ⟨tmps, ds⟩ := a
  rcases getLoc hops hT h with ⟨h1, h⟩ | ⟨h1, h⟩
  · obtain ⟨x, v, h2, h3, h4⟩ := opR_ok (ds := ds) hP hs hT hr h
    exact ⟨v, x, h4, h3, .inl ⟨h1, h2⟩⟩
  · exact ⟨.tup [], undef, h, ⟨[], rfl, rfl⟩, .inr ⟨h1, rfl⟩⟩

theorem closed_anc (hO : Ordered L B) {i : Nat} (hi : i < L.length) : Closed B (fun j => bef B j i) := fun j hj k hk => hO.tr i j k hi hj hk
theorem anc_self (hO : Ordered L B) {i : Nat} (hi : i < L.length) : bef B i i = false := by
  cases h : bef B i i with
  | false => rfl
  | true => exact absurd (hO.lt i i hi h) (Nat.lt_irrefl _)
theorem valN_upd {vs : Nat → AV} {S : Nat → Bool} {T₀ : Tm} {i t : Nat} {v : AV} (h : S i = false) : ∀ n, valN L (upd vs i v) S T₀ t n = valN L vs S T₀ t n := fun n => valN_congr fun j _ _ => ⟨rfl, fun hS => by
  simp only [upd]; rw [if_neg]; intro e; subst e; rw [h] at hS; cases hS⟩

/-- Reads are taken until none is left. -/
theorem saturate (hO : Ordered L B) (hP : TyOK P tt) (hops : ops.toList = L) {T₀ : Tm} {H : Heap} {S : Nat → Bool} {Γ : VL} {Pr : Nat → Prop} {w : World} (hs : Sim Γ Pr H w) (hSc : Closed B S) : ∀ {f D : Nat} {T : Tm} {pend : Pend} {vs : Nat → AV} {g : Act},
    Can L B P nt tt k T₀ f D T H pend vs S → RelT Γ Pr w nt T g.tmps → ∃ f' D' T' pend' vs' g', Can L B P nt tt k T₀ f' D' T' H pend' vs' S ∧ nextRead B D' L 0 = none ∧ RelT Γ Pr w nt T' (Act.tmps g') ∧ ∀ t, valN L vs' S T₀ t L.length = valN L vs S T₀ t L.length
  | 0, D, T, pend, vs, g, hC, _ => hC.form.elim
  | f + 1, D, T, pend, vs, g, hC, hT => by
    cases hn : nextRead B D L 0 with
    | none => exact ⟨f + 1, D, T, pend, vs, g, hC, hn, hT, fun _ => rfl⟩
    | some x =>
      obtain ⟨i, o⟩ := x
      obtain ⟨_, hLi, hr, hDi, ha⟩ := nextRead_some hn
      rw [Nat.sub_zero] at hLi
      have hi : i < L.length := (List.getElem?_eq_some_iff.1 hLi).1
      have form := hC.form
      unfold drawK at form
      rw [hn] at form
      simp only at form
      obtain ⟨m, form, hm⟩ := maskK_ok form
      obtain ⟨v, x, ⟨hread, form⟩, hvx, _⟩ := readK_ok (ops := ops) hP hops hs (relT_mask hT hm) hr form
      obtain ⟨T', form, hT'1, hT'2⟩ := putK_ok form
      have hanc := ancOK_iff.1 ha
      have hSi : S i = false := by
        cases h : S i with
        | false => rfl
        | true => rw [hC.sub i h] at hDi; cases hDi
      have hbits : ∀ j, (D ||| 2 ^ i).testBit j = (D.testBit j || decide (i = j)) := testBit_add D i
      have hmv : ∀ t, m.get t = .any ∨ (t ∈ looks L o ∧ m.get t = valN L vs (fun j => bef B j i) T₀ t L.length) := by
        intro t
        rcases hm t with h | ⟨h1, h2⟩
        · exact .inl h
        · refine .inr ⟨h1, ?_⟩
          rw [h2, hC.tms t]
          exact val_looks hO hLi h1 hC.closed (closed_anc hO hi) hanc (fun _ h => h) hDi (anc_self hO hi)
      have hC' : Can L B P nt tt k T₀ f (D ||| 2 ^ i) T' H ((i, o, m, v) :: pend) (upd vs i v) S := by
        refine ⟨form, ?_, ?_, ?_, ?_, ?_, ?_⟩
        · intro j hj l hl
          rw [hbits] at hj ⊢
          rcases Bool.or_eq_true_iff.1 hj with h | h
          · rw [hC.closed j h l hl]; rfl
          · have : i = j := by simpa using h
            subst this
            rw [hanc l hl]; rfl
        · intro j hj
          rw [hbits] at hj
          rcases Bool.or_eq_true_iff.1 hj with h | h
          · exact hC.size j h
          · have : i = j := by simpa using h
            exact this ▸ hi
        · intro t
          rw [hT'1]
          have e : (D ||| 2 ^ i).testBit = fun j => D.testBit j || decide (i = j) := funext hbits
          rw [e, val_put hO hLi hC.closed hDi]
          simp only [dstAt, hLi, Option.bind_some, hC.tms t]
        · intro j hj
          rw [hbits, hC.sub j hj]; rfl
        · intro j oj hj hrj hd
          rw [hbits] at hd
          rcases Bool.or_eq_true_iff.1 hd with h | h
          · exact hC.effs j oj hj hrj h
          · have : i = j := by simpa using h
            subst this
            rw [hLi] at hj
            cases hj
            rw [hr] at hrj; cases hrj
        · intro j oj hj hrj hd hSj
          rw [hbits] at hd
          by_cases e : i = j
          · subst e
            rw [hLi] at hj
            cases hj
            refine ⟨m, v, by simp, by simp [upd], hT'2, hread, fun t => ?_⟩
            rcases hmv t with h | ⟨h1, h2⟩
            · exact .inl h
            · exact .inr ⟨h1, by rw [h2, valN_upd (S := fun j => bef B j i) (anc_self hO hi)]⟩
          · have hd : D.testBit j = true := by simpa [e] using hd
            obtain ⟨m', v', h1, h2, h2', h3, h4⟩ := hC.pend j oj hj hrj hd hSj
            refine ⟨m', v', by simp [h1], by rw [h2]; simp only [upd]; rw [if_neg (fun e' => e e'.symm)], h2', h3, fun t => ?_⟩
            rcases h4 t with h | ⟨h5, h6⟩
            · exact .inl h
            · refine .inr ⟨h5, ?_⟩
              rw [h6, valN_upd (S := fun l => bef B l j)]
              cases hb : bef B i j with
              | false => rfl
              | true => rw [hC.closed j hd i hb] at hDi; cases hDi
      obtain ⟨f', D', T'', pend', vs', g', q1, q2, q3, q4⟩ := saturate hO hP hops hs hSc hC' (relT_putK hT hT'1 hT'2 hvx)
      exact ⟨f', D', T'', pend', vs', g', q1, q2, q3, fun t => by rw [q4 t, valN_upd hSi]⟩

theorem brK_mem {rec : Nat → Tm → Heap → Pend → Prop} {D : Nat} {T : Tm} {H : Heap} {pend : Pend} {x : Nat × Oper} : ∀ {l : List (Nat × Oper)}, brK L B P nt tt rec D T H pend l → x ∈ l → effK L B P nt tt rec D T H pend x.1 x.2
  | [], _, hx => by cases hx
  | [y], h, hx => by
    have : x = y := by simpa using hx
    exact this ▸ h
  | y :: z :: r, h, hx => by
    rcases List.mem_cons.1 hx with rfl | hx
    · exact h.1
    · exact brK_mem h.2 hx
theorem recheck_mem {e : Nat} {H : Heap} {i : Nat} {o : Oper} {m : Tm} {v : AV} : ∀ {l : Pend}, recheck L B tt e H l → (i, o, m, v) ∈ l → bef B i e = false → readK L tt o m H (fun v' => v' = v)
  | [], _, hx, _ => by cases hx
  | (j, p, n, u) :: r, h, hx, hb => by
    unfold recheck at h
    rcases List.mem_cons.1 hx with hx | hx
    · cases hx
      rw [hb] at h
      exact h.1
    · split at h
      · exact recheck_mem h hx hb
      · exact recheck_mem h.2 hx hb
theorem pendOf_mem {e : Nat} {x : Nat × Oper × Tm × AV} : ∀ {l : Pend}, x ∈ l → bef B x.1 e = false → x ∈ pendOf B e l
  | [], hx, _ => by cases hx
  | y :: r, hx, hb => by
    unfold pendOf
    rcases List.mem_cons.1 hx with rfl | hx
    · rw [if_neg (by simp [hb])]; simp
    · split
      · exact pendOf_mem hx hb
      · exact List.mem_cons_of_mem _ (pendOf_mem hx hb)
def cnt (S : Nat → Bool) : Nat → Nat
  | 0 => 0
  | n + 1 => cnt S n + (if S n then 0 else 1)
theorem cnt_zero {S : Nat → Bool} : ∀ {n : Nat}, cnt S n = 0 → ∀ i, i < n → S i = true
  | 0, _, i, hi => by omega
  | n + 1, h, i, hi => by
    simp only [cnt] at h
    by_cases e : i = n
    · subst e
      cases hS : S i with
      | true => rfl
      | false => rw [hS] at h; simp at h
    · exact cnt_zero (n := n) (by omega) i (by omega)
theorem cnt_same {S S' : Nat → Bool} : ∀ {n : Nat}, (∀ i, i < n → S i = S' i) → cnt S n = cnt S' n
  | 0, _ => rfl
  | n + 1, h => by simp only [cnt]; rw [cnt_same (n := n) (fun i hi => h i (by omega)), h n (by omega)]
theorem cnt_less {S : Nat → Bool} {i : Nat} (hi : S i = false) : ∀ {n : Nat}, i < n → cnt (fun j => S j || decide (i = j)) n + 1 = cnt S n
  | 0, h => by omega
  | n + 1, h => by
    simp only [cnt]
    by_cases e : i = n
    · subst e
      rw [cnt_same (S' := S) (n := i) (fun j hj => by simp [show ¬ i = j by omega])]
      simp [hi]
    · have := cnt_less hi (n := n) (by omega)
      have e' : (decide (i = n)) = false := by simpa using e
      simp only [e', Bool.or_false]
      omega

def setOf (listed : Array Bool) : Nat → Bool := fun i => listed.getD i false
theorem setOf_set {listed : Array Bool} {i : Nat} (hi : i < listed.size) : setOf (listed.setIfInBounds i true) = fun j => setOf listed j || decide (i = j) := by
  funext j
  simp only [setOf, Array.getD_eq_getD_getElem?, Array.getElem?_setIfInBounds]
  by_cases e : i = j
  · subst e; simp [hi]
  · rw [if_neg e, decide_eq_false e, Bool.or_false]

/-- What is known in whatever order. -/
structure Know (L : List Oper) (B : List Nat) (P : Program) (nt : Nat) (tt : TyT) (k : Tm → Heap → Prop) (Γ₀ : VL) (Pr₀ : Nat → Prop) (H₀ : Heap) (w₀ : World) (T₀ : Tm) (ds : List Deferred) (S : Nat → Bool) (a : Act) (w : World) : Prop where
  can : ∃ f D T H pend vs g Γ Pr, Can L B P nt tt k T₀ f D T H pend vs S ∧ nextRead B D L 0 = none ∧ Ext Γ₀ Pr₀ H₀ w₀ Γ Pr H w ∧ Sim Γ Pr H w ∧ RelT Γ Pr w nt T (Act.tmps g) ∧ ∀ t, RelV Γ Pr w (valN L vs S T₀ t L.length) (a.tmps.getD t undef)
  closed : Closed B S
  size : a.tmps.size = nt
  defers : a.defers = ds

theorem anyK_ok (hF : Plain F) (hO : Ordered L B) (hP : TyOK P tt) (hops : ops.toList = L) {Γ₀ : VL} {Pr₀ : Nat → Prop} {H₀ : Heap} {w₀ : World} {T₀ : Tm} {ds : List Deferred}
    (hQ : ∀ Γ' Pr' H' w' T' tmps', Ext Γ₀ Pr₀ H₀ w₀ Γ' Pr' H' w' → Sim Γ' Pr' H' w' → RelT Γ' Pr' w' nt T' tmps' → k T' H' → Q .normal ⟨tmps', ds⟩ w') :
    ∀ (fuel : Nat) (listed : Array Bool) (a : Act) (w : World), listed.size = ops.size → cnt (setOf listed) L.length ≤ fuel → Know L B P nt tt k Γ₀ Pr₀ H₀ w₀ T₀ ds (setOf listed) a w → wpAnyIn F 0 P .any ops Q fuel listed a w := by
  have hN : L.length = ops.size := by rw [← hops]; simp
  have hget : ∀ i : Nat, L[i]? = ops[i]? := fun i => by rw [← hops]; simp
  -- everything done
  have fin : ∀ (listed : Array Bool) (a : Act) (w : World), (∀ i, i < L.length → setOf listed i = true) → Know L B P nt tt k Γ₀ Pr₀ H₀ w₀ T₀ ds (setOf listed) a w → Q .normal a w := by
    intro listed a w hall hK
    obtain ⟨f, D, T, H, pend, vs, g, Γ, Pr, hC, hn, he, hs, hg, hv⟩ := hK.can
    have form := hC.form
    cases f with
    | zero => exact form.elim
    | succ f =>
      unfold drawK at form
      rw [hn] at form
      simp only at form
      have hd : allDone D L 0 = true := allDone_iff.2 fun i hi => by rw [Nat.zero_add]; exact hC.sub i (hall i hi)
      rw [hd] at form
      have hT : RelT Γ Pr w nt T a.tmps := by
        refine ⟨hK.size, fun t => ?_⟩
        have e : valN L vs D.testBit T₀ t L.length = valN L vs (setOf listed) T₀ t L.length := valN_congr fun j hj _ => ⟨by rw [hall j hj, hC.sub j (hall j hj)], fun _ => rfl⟩
        rw [hC.tms t, e]
        exact hv t
      have := hQ Γ Pr H w T a.tmps he hs hT form
      rw [← hK.defers] at this
      exact this
  have ready_of : ∀ (listed : Array Bool), listed.size = ops.size → Region.ready .any ops listed = [] → ∀ i, i < L.length → setOf listed i = true := by
    intro listed hsz hr i
    induction i using Nat.strongRecOn with
    | _ i ih =>
      intro hi
      cases hS : setOf listed i with
      | true => rfl
      | false =>
        exfalso
        have hm : i ∈ Region.ready .any ops listed := by
          refine mem_ready.2 ⟨?_, L[i], by rw [← hget]; exact List.getElem?_eq_getElem hi, fun e he hb => ?_⟩
          · have hlt : i < listed.size := by omega
            simp only [setOf, Array.getD_eq_getD_getElem?, Array.getElem?_eq_getElem hlt, Option.getD_some] at hS ⊢
            exact hS
          · have hlt := (hO.edge i _ (List.getElem?_eq_getElem hi) e he hb).1
            exact ih e.on hlt (by omega)
        rw [hr] at hm
        cases hm
  intro fuel
  induction fuel with
  | zero =>
    intro listed a w hsz hc hK
    have hall : ∀ i, i < L.length → setOf listed i = true := cnt_zero (by omega)
    refine ⟨?_, fin listed a w hall hK⟩
    apply List.eq_nil_iff_forall_not_mem.2
    intro j hj
    obtain ⟨h1, o, h2, _⟩ := mem_ready.1 hj
    have hjl : j < L.length := by rw [hN]; exact (Array.getElem?_eq_some_iff.1 h2).1
    have := hall j hjl
    have hlt : j < listed.size := by omega
    simp only [setOf, Array.getD_eq_getD_getElem?, Array.getElem?_eq_getElem hlt, Option.getD_some] at this h1
    rw [this] at h1; cases h1
  | succ fuel ih =>
    intro listed a w hsz hc hK
    refine ⟨fun hr => fin listed a w (ready_of listed hsz hr) hK, fun i hi => ?_⟩
    obtain ⟨h1, o, h2, h3⟩ := mem_ready.1 hi
    have hLi : L[i]? = some o := by rw [hget]; exact h2
    have hil : i < L.length := (List.getElem?_eq_some_iff.1 hLi).1
    have hilt : i < listed.size := by omega
    have hSi : setOf listed i = false := by
      simp only [setOf, Array.getD_eq_getD_getElem?, Array.getElem?_eq_getElem hilt, Option.getD_some] at h1 ⊢
      exact h1
    have hanc : ∀ j, bef B j i = true → setOf listed j = true := by
      intro j hj
      obtain ⟨e, he, hb, h⟩ := hO.gen i j o hLi hj
      have hS := h3 e he hb
      rcases h with h | h
      · exact h ▸ hS
      · exact hK.closed e.on hS j h
    have hset := setOf_set hilt
    have hcl : Closed B (setOf (listed.setIfInBounds i true)) := by
      rw [hset]
      intro j hj l hl
      rcases Bool.or_eq_true_iff.1 hj with h | h
      · simp [hK.closed j h l hl]
      · have : i = j := by simpa using h
        subst this
        simp [hanc l hl]
    have hcnt : cnt (setOf (listed.setIfInBounds i true)) L.length ≤ fuel := by
      rw [hset]
      have := cnt_less hSi hil
      omega
    have hsz' : (listed.setIfInBounds i true).size = ops.size := by simpa using hsz
    obtain ⟨f, D, T, H, pend, vs, g, Γ, Pr, hC, hn, he, hs, hg, hv⟩ := hK.can
    have hancD : ancOK B D i = true := ancOK_iff.2 fun j hj => hC.sub j (hanc j hj)
    unfold wpOpIn
    rw [h2]
    simp only
    cases hr : isRead o.op with
    | true =>
      have hDi : D.testBit i = true := by
        cases hd : D.testBit i with
        | true => rfl
        | false =>
          have := nextRead_none hn i o hLi hr (by rw [Nat.zero_add]; exact hd)
          rw [Nat.zero_add, hancD] at this
          cases this
      obtain ⟨m, v, hp1, hp2, hpd, hp3, hp4⟩ := hC.pend i o hLi hr hDi hSi
      have hTm : RelT Γ Pr w nt m a.tmps := by
        refine ⟨hK.size, fun t => ?_⟩
        rcases hp4 t with h | ⟨h5, h6⟩
        · rw [h]; trivial
        · rw [h6, val_looks hO hLi h5 (closed_anc hO hil) hK.closed (fun _ h => h) hanc (anc_self hO hil) hSi]
          exact hv t
      obtain ⟨v', x, rfl, hvx, hrun⟩ := readK_ok (ops := ops) hP hops hs hTm hr hp3
      have hgo : wpAnyIn F 0 P .any ops Q fuel (listed.setIfInBounds i true) (a.put o.dst x) w := by
        refine ih _ _ _ hsz' hcnt ⟨⟨f, D, T, H, pend, vs, g, Γ, Pr, ?_, hn, he, hs, hg, fun t => ?_⟩, hcl, by rw [put_size]; exact hK.size, by rw [put_defers]; exact hK.defers⟩
        · refine ⟨hC.form, hC.closed, hC.size, hC.tms, ?_, ?_, ?_⟩
          · intro j hj
            rw [hset] at hj
            rcases Bool.or_eq_true_iff.1 hj with h | h
            · exact hC.sub j h
            · have : i = j := by simpa using h
              exact this ▸ hDi
          · intro j oj hj hrj hd
            rw [hset]
            simp [hC.effs j oj hj hrj hd]
          · intro j oj hj hrj hd hSj
            rw [hset] at hSj
            exact hC.pend j oj hj hrj hd (Bool.or_eq_false_iff.1 hSj).1
        · have hu : upd vs i (vs i) = vs := by
            funext j
            simp only [upd]
            split
            · rename_i e; rw [e]
            · rfl
          have := val_put hO (vs := vs) (T₀ := T₀) (t := t) (v := vs i) hLi hK.closed hSi
          rw [hu] at this
          rw [hset, this, put_getD hK.size hpd]
          simp only [dstAt, hLi, Option.bind_some]
          split
          · rw [← hp2]; exact hvx
          · exact hv t
      rcases hrun with ⟨hw, hrun⟩ | ⟨hw, rfl⟩
      · rw [if_pos hw]
        refine ⟨fun f _ => hF.fn f, ?_⟩
        rw [hF.sem _ _ (by intro c hc; rw [hc] at hr; simp [isRead] at hr), hrun, Oper.uponIn_value]
        exact hgo
      · rw [if_neg (by simp [hw])]
        exact ⟨fun f _ => hF.fn f, hgo⟩
    | false =>
      have hDi : D.testBit i = false := by
        cases hd : D.testBit i with
        | false => rfl
        | true => rw [hC.effs i o hLi hr hd] at hSi; cases hSi
      have form := hC.form
      cases f with
      | zero => exact form.elim
      | succ f =>
        unfold drawK at form
        rw [hn] at form
        simp only at form
        have hnd : allDone D L 0 = false := by
          cases hd : allDone D L 0 with
          | false => rfl
          | true =>
            have := allDone_iff.1 hd i hil
            rw [Nat.zero_add, hDi] at this
            cases this
        rw [hnd] at form
        have hmem : (i, o) ∈ nextEffs B D L 0 := by
          have := nextEffs_mem (B := B) (D := D) (s := 0) hLi hr (by rw [Nat.zero_add]; exact hDi) (by rw [Nat.zero_add]; exact hancD)
          rwa [Nat.zero_add] at this
        have form := brK_mem form hmem
        obtain ⟨m, form, hm⟩ := maskK_ok form
        have hTm : RelT Γ Pr w nt m a.tmps := by
          refine ⟨hK.size, fun t => ?_⟩
          rcases hm t with h | ⟨h5, h6⟩
          · rw [h]; trivial
          · rw [h6, hC.tms t, val_looks hO hLi h5 hC.closed hK.closed (ancOK_iff.1 hancD) hanc hDi hSi]
            exact hv t
        -- one more of the others is done
        have next : ∀ (Γ' : VL) (Pr' : Nat → Prop) (H' : Heap) (w' : World) (x : AV) (xv : Value) (pend' : Pend), Ext Γ Pr H w Γ' Pr' H' w' → Sim Γ' Pr' H' w' → RelV Γ' Pr' w' x xv →
            (∀ (j : Nat) (oj : Oper), L[j]? = some oj → isRead oj.op = true → D.testBit j = true → bef B j i = false → ∀ m v, (j, oj, m, v) ∈ pend → readK L tt oj m H (fun v' => v' = v) → (j, oj, m, v) ∈ pend' ∧ readK L tt oj m H' (fun v' => v' = v)) →
            putK nt T o.dst x (fun T' => drawK L B P nt tt k f (D ||| 2 ^ i) T' H' pend') → wpAnyIn F 0 P .any ops Q fuel (listed.setIfInBounds i true) (a.put o.dst xv) w' := by
          intro Γ' Pr' H' w' x xv pend' he' hs' hx hpend hform
          obtain ⟨T', hform, hT'1, hT'2⟩ := putK_ok hform
          have hbits : ∀ j, (D ||| 2 ^ i).testBit j = (D.testBit j || decide (i = j)) := testBit_add D i
          have hC' : Can L B P nt tt k T₀ f (D ||| 2 ^ i) T' H' pend' (upd vs i x) (setOf (listed.setIfInBounds i true)) := by
            refine ⟨hform, ?_, ?_, ?_, ?_, ?_, ?_⟩
            · intro j hj l hl
              rw [hbits] at hj ⊢
              rcases Bool.or_eq_true_iff.1 hj with h | h
              · rw [hC.closed j h l hl]; rfl
              · have : i = j := by simpa using h
                subst this
                rw [ancOK_iff.1 hancD l hl]; rfl
            · intro j hj
              rw [hbits] at hj
              rcases Bool.or_eq_true_iff.1 hj with h | h
              · exact hC.size j h
              · have : i = j := by simpa using h
                exact this ▸ hil
            · intro t
              rw [hT'1]
              have e : (D ||| 2 ^ i).testBit = fun j => D.testBit j || decide (i = j) := funext hbits
              rw [e, val_put hO hLi hC.closed hDi]
              simp only [dstAt, hLi, Option.bind_some, hC.tms t]
            · intro j hj
              rw [hset] at hj
              rw [hbits]
              rcases Bool.or_eq_true_iff.1 hj with h | h
              · rw [hC.sub j h]; rfl
              · rw [h]; simp
            · intro j oj hj hrj hd
              rw [hbits] at hd
              rw [hset]
              rcases Bool.or_eq_true_iff.1 hd with h | h
              · simp [hC.effs j oj hj hrj h]
              · show (setOf listed j || decide (i = j)) = true
                rw [h]; simp
            · intro j oj hj hrj hd hSj
              rw [hset] at hSj
              obtain ⟨hSj, hne⟩ := Bool.or_eq_false_iff.1 hSj
              have hne : i ≠ j := by simpa using hne
              rw [hbits] at hd
              have hd : D.testBit j = true := by simpa [hne] using hd
              obtain ⟨m', v', g1, g2, g2', g3, g4⟩ := hC.pend j oj hj hrj hd hSj
              have hb : bef B j i = false := by
                cases h : bef B j i with
                | false => rfl
                | true => rw [hanc j h] at hSj; cases hSj
              obtain ⟨g5, g6⟩ := hpend j oj hj hrj hd hb m' v' g1 g3
              refine ⟨m', v', g5, by rw [g2]; simp only [upd]; rw [if_neg (fun e' => hne e'.symm)], g2', g6, fun t => ?_⟩
              rcases g4 t with h | ⟨h5, h6⟩
              · exact .inl h
              · refine .inr ⟨h5, ?_⟩
                rw [h6, valN_upd (S := fun l => bef B l j)]
                cases hb : bef B i j with
                | false => rfl
                | true => rw [hC.closed j hd i hb] at hDi; cases hDi
          have hg' : RelT Γ' Pr' w' nt T' (g.put o.dst xv).tmps := relT_putK (hg.mono he'.vl he'.pr (hs.keeps he')) hT'1 hT'2 hx
          obtain ⟨f', D', T'', pend'', vs', g', q1, q2, q3, q4⟩ := saturate (ops := ops) hO hP hops hs' hcl hC' hg'
          refine ih _ _ _ hsz' hcnt ⟨⟨f', D', T'', H', pend'', vs', g', Γ', Pr', q1, q2, he.trans he', hs', q3, fun t => ?_⟩, hcl, by rw [put_size]; exact hK.size, by rw [put_defers]; exact hK.defers⟩
          rw [q4 t, hset, val_put hO hLi hK.closed hSi, put_getD hK.size hT'2]
          simp only [dstAt, hLi, Option.bind_some]
          split
          · exact hx
          · exact (hv t).mono he'.vl he'.pr (hs.keeps he')
        rcases getLoc (ops := ops) hops hTm form with ⟨hw, form⟩ | ⟨hw, form⟩
        · rw [if_pos hw]
          refine stepK_ok hF hP hs hTm form ?_
          intro Γ' Pr' H' w' x v he' hs' hx ⟨hre, hput⟩
          exact next Γ' Pr' H' w' x v _ he' hs' hx (fun j oj hj hrj hd hb m v hmem _ => ⟨pendOf_mem hmem hb, recheck_mem hre hmem hb⟩) hput
        · rw [if_neg (by simp [hw])]
          exact ⟨fun f _ => hF.fn f, next Γ Pr H w (.tup []) undef pend (Ext.refl _ _ _ _) hs ⟨[], rfl, rfl⟩ (fun j oj hj hrj hd hb m v hmem hread => ⟨hmem, hread⟩) form⟩

/-- **A region that draws its order, in every order.** -/
theorem AWP.draw (hF : Plain F) (hP : TyOK P tt) (hm : P.follows .mixedOrders = true) {id : Nat} {T : Tm} {H : Heap} {D : List Nat} {K : Kont} (B : List Nat) (f : Nat) (hO : orderOK ops.toList B = true) (hB : B.length = ops.toList.length) (hb : (B.all fun x => decide (x < 2 ^ ops.toList.length)) = true)
    (h : drawK ops.toList B P nt tt (fun T H => K .normal T H D) f 0 T H []) : AWP P F nt (.region id ops true) T H D K := by
  constructor
  intro Γ Pr w a hs hT hD
  have hO := orderOK_ok hB (fun x hx => by simpa using List.all_eq_true.1 hb x hx) hO
  refine wpIn_region_any hm ?_
  have hw : ∀ b : Nat, ({ w with drawn := w.drawn + 1 } : World).heap[b]? = w.heap[b]? := fun _ => rfl
  have he : Ext Γ Pr H w Γ Pr H { w with drawn := w.drawn + 1 } := ⟨rfl, rfl, rfl, Nat.le_refl _, ⟨[], by simp⟩, fun _ h => h, fun _ h => .inl h, fun j b n hl hg => .inr ⟨j, n, hl, hg⟩, fun _ _ _ => rfl⟩
  have hs' : Sim Γ Pr H { w with drawn := w.drawn + 1 } := ⟨hs.len, fun i o ho hd => let ⟨b, n, h1, h2, h3⟩ := hs.obj i o ho hd; ⟨b, n, h1, h2, h3.mono ⟨[], by simp⟩ (fun _ h => h) (fun b _ => hw b) (hw b)⟩, hs.inj, hs.prlt⟩
  have hT' := hT.mono he.vl he.pr (hs.keeps he)
  have hnil : ∀ i, setOf (Array.replicate ops.size false) i = false := by
    intro i
    simp only [setOf, Array.getD_eq_getD_getElem?, Array.getElem?_replicate]
    split <;> rfl
  have hv0 : ∀ t (vs : Nat → AV) (S : Nat → Bool), (∀ i, S i = false) → ∀ n, valN ops.toList vs S T t n = T.get t := by
    intro t vs S hS n
    induction n with
    | zero => rfl
    | succ n ihn => simp [valN, hS n, ihn]
  have hcl : Closed B (setOf (Array.replicate ops.size false)) := fun i hi => by rw [hnil i] at hi; cases hi
  have hC : Can ops.toList B P nt tt (fun T H => K .normal T H D) T f 0 T H [] (fun _ => .any) (setOf (Array.replicate ops.size false)) := by
    have hz : ∀ i, Nat.testBit 0 i = false := fun i => Nat.zero_testBit i
    refine ⟨h, fun i hi => (by rw [hz] at hi; cases hi), fun i hi => (by rw [hz] at hi; cases hi), fun t => (hv0 t _ _ hz _).symm, fun i hi => (by rw [hnil i] at hi; cases hi), fun i o _ _ hd => (by rw [hz] at hd; cases hd), fun i o _ _ hd => (by rw [hz] at hd; cases hd)⟩
  obtain ⟨f', D', T', pend', vs', g', q1, q2, q3, q4⟩ := saturate (ops := ops) (g := a) hO hP rfl hs' hcl hC hT'
  refine anyK_ok (k := fun T H => K .normal T H D) (Γ₀ := Γ) (Pr₀ := Pr) (H₀ := H) (w₀ := w) (T₀ := T) (ds := a.defers) hF hO hP rfl ?_ ops.size _ a _ (by simp) ?_ ⟨⟨f', D', T', H, pend', vs', g', Γ, Pr, q1, q2, he, hs', q3, fun t => ?_⟩, hcl, hT.1, rfl⟩
  · intro Γ' Pr' H' w' T' tmps' he' hs2 hT2 hk
    exact ⟨.normal, T', H', D, Γ', Pr', rfl, he', hs2, hT2, hD.ext he'.vl, hk⟩
  · have : ∀ n, cnt (setOf (Array.replicate ops.size false)) n ≤ n := by
      intro n
      induction n with
      | zero => simp [cnt]
      | succ n ihn => simp only [cnt]; split <;> omega
    have := this ops.toList.length
    simpa using this
  · rw [q4 t, hv0 t _ _ hnil]
    exact hT'.2 t
end
end Go.Ab
