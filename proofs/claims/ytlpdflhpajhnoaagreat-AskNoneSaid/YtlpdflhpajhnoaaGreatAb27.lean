/- The abstract layer, part 27: the walk by a plan, continued: fresh memory taken early, rechecks, every order. -/
import Derived.Test.YtlpdflhpajhnoaaGreatAb26
namespace Go.Ab

section
variable {P : Program} {F : Fence} {nt : Nat} {tt : TyT} {conc : Bool} {rec : Rec} {L : List Oper} {B : List Nat} {lz : Nat} {ops : Array Oper} {Q : Exit → Act → World → Prop} {k : Tm → Heap → Prop}

/-- Fresh memory that is there already, but that the walk has not taken. -/
structure HidP (L : List Oper) (lz nt : Nat) (tt : TyT) (Γ : VL) (Pr : Nat → Prop) (H : Heap) (w : World) (s₀ : Nat) (D : Nat) (S : Nat → Bool) (hb : Nat → Nat) (tm : Array Value) : Prop where
  one : ∀ i, lz.testBit i = true → S i = true → D.testBit i = false → ∃ o e d n, L[i]? = some o ∧ o.op = .alloc e ∧ o.guard = none ∧ o.dst = some d ∧ RelObj Γ Pr w (hb i) n (.cells e (zsOf tt e)) ∧ s₀ ≤ hb i ∧ hb i < w.heap.size ∧ ¬ Pr (hb i) ∧
    (∀ l m, live H l → Γ[l]? ≠ some (hb i, m)) ∧ (d < nt → (∀ j, S j = true → dstAt L j = some d → j = i) → tm.getD d undef = .pointer (some ⟨hb i, 0, none⟩))
  two : ∀ i j, lz.testBit i = true → S i = true → D.testBit i = false → lz.testBit j = true → S j = true → D.testBit j = false → i ≠ j → hb i ≠ hb j

theorem valN_over {vs : Nat → AV} {S : Nat → Bool} {T₀ : Tm} {i j t : Nat} {v : AV} (hj : i < j) (hS : S j = true) (hd : dstAt L j = some t) : ∀ {n : Nat}, j < n → valN L (upd vs i v) S T₀ t n = valN L vs S T₀ t n
  | 0, h => by omega
  | n + 1, h => by
    simp only [valN]
    by_cases e : j = n
    · subst e
      have hne : j ≠ i := by omega
      simp [hS, hd, upd, hne]
    · rw [valN_over hj hS hd (by omega)]
      by_cases hc : (S n && (dstAt L n == some t)) = true
      · rw [if_pos hc, if_pos hc]
        simp only [upd]
        split
        · rename_i e'
          subst e'
          omega
        · rfl
      · rw [if_neg hc, if_neg hc]

theorem planA_al {i : Nat} {q : Pl} {T : Tm} {H : Heap} {pend : PendA} (h : planA tt conc rec nt L (.al i q) T H pend k) : ∃ o e, L[i]? = some o ∧ o.op = .alloc e ∧ putK nt T o.dst (.ptr H.length 0) (fun T' => planA tt conc rec nt L q T' (H ++ [.cells e (zsOf tt e)]) pend k) := by
  obtain ⟨o, ho, h⟩ := nthK_iff.1 (show nthK L i (fun o => match o.op with
      | .alloc e => zerosK tt e (fun cs => newK H (.cells e cs) (fun l H' => frK conc (.ptr l 0) (fun v => putK nt T o.dst v (fun T' => planA tt conc rec nt L q T' H' pend k))))
      | _ => bad 1) from h)
  split at h
  · rename_i e he
    have h := newK_iff.1 (zerosK_of h)
    refine ⟨o, e, ho, he, ?_⟩
    unfold frK at h
    cases conc with
    | true => exact fAV_iff.1 h
    | false => exact h
  · exact h.elim

/-- The walk takes fresh memory that is there. -/
theorem adoptP (hO : Ordered L B) (hlz : ∀ i, lz.testBit i = true → ∀ j, bef B j i = false) {T₀ : Tm} {H Hr : Heap} {S : Nat → Bool} {Γ₀ : VL} {Pr₀ : Nat → Prop} {H₀ : Heap} {w₀ : World} {Γ : VL} {Pr : Nat → Prop} {w : World} {tm : Array Value} {hb : Nat → Nat}
    {i : Nat} {q : Pl} {os : List Nat} {D : Nat} {T : Tm} {pend : PendA} {pl : List Nat} {vs : Nat → AV} {g : Act}
    (hs : Sim Γ Pr H w) (he : Ext Γ₀ Pr₀ H₀ w₀ Γ Pr H w) (hC : CanP L B lz nt tt conc rec k T₀ (.al i q) os D T H Hr pend pl vs S) (hT : RelT Γ Pr w nt T g.tmps) (hv : ∀ t, RelV Γ Pr w (valN L vs S T₀ t L.length) (tm.getD t undef))
    (hH : HidP L lz nt tt Γ Pr H w w₀.heap.size D S hb tm) (hSi : S i = true) :
    ∃ T' H' Γ' vs' g', CanP L B lz nt tt conc rec k T₀ q os (Nat.lor D (2 ^ i)) T' H' Hr pend pl vs' S ∧ Sim Γ' Pr H' w ∧ Ext Γ₀ Pr₀ H₀ w₀ Γ' Pr H' w ∧ RelT Γ' Pr w nt T' (Act.tmps g') ∧ (∀ t, RelV Γ' Pr w (valN L vs' S T₀ t L.length) (tm.getD t undef)) ∧ HidP L lz nt tt Γ' Pr H' w w₀.heap.size (Nat.lor D (2 ^ i)) S hb tm := by
  have ok := hC.ok
  simp only [okPl, Bool.and_eq_true, Bool.not_eq_true'] at ok
  obtain ⟨⟨⟨⟨h1, h2⟩, h3⟩, h4⟩, h5⟩ := ok
  obtain ⟨o, e, d, n, hLi, hop, hgu, hdst, hro, hs0, hlt, hnp, hnl, htm⟩ := hH.one i h2 hSi h3
  obtain ⟨o', e', hLi', hop', hput⟩ := planA_al hC.form
  rw [hLi] at hLi'
  cases hLi'
  rw [hop] at hop'
  cases hop'
  obtain ⟨T', form, hT'1, hT'2⟩ := putK_ok hput
  obtain ⟨ds, hds⟩ := zsOf_ro (tt := tt) (e := e)
  have hdn : d < nt := hT'2 d hdst
  have hbits : ∀ j, (Nat.lor D (2 ^ i)).testBit j = (D.testBit j || decide (i = j)) := bit_add D i
  have hdi : dstAt L i = some d := by simp [dstAt, hLi, hdst]
  have hil : i < L.length := lt_of_bit h1
  have hro' : RelObj (Γ ++ [(hb i, n)]) Pr w (hb i) n (.cells e (zsOf tt e)) := by rw [hds] at hro ⊢; exact relObj_ro hro
  have s1 := hs.adopt (o := .cells e (zsOf tt e)) (b := hb i) (n := n) hro' hnp hnl
  have hgi : (Γ ++ [(hb i, n)])[H.length]? = some (hb i, n) := by rw [← hs.len]; simp
  have hptr : RelV (Γ ++ [(hb i, n)]) Pr w (.ptr H.length 0) (.pointer (some ⟨hb i, 0, none⟩)) := ⟨hb i, n, hgi, rfl⟩
  have hm : ∀ {a : AV} {x : Value}, RelV Γ Pr w a x → RelV (Γ ++ [(hb i, n)]) Pr w a x := fun h => h.mono ⟨_, rfl⟩ (fun _ h => h) (fun _ _ => rfl)
  refine ⟨T', _, Γ ++ [(hb i, n)], upd vs i (.ptr H.length 0), g.put (some d) (.pointer (some ⟨hb i, 0, none⟩)), ⟨form, h5, ?_, ?_, ?_, ?_, hC.nodup, ?_, ?_⟩, s1, he.adopt hs hs0, ?_, fun t => ?_, ⟨fun a hz hSa hDa => ?_, fun a b hza hSa hDa hzb hSb hDb => hH.two a b hza hSa ?_ hzb hSb ?_⟩⟩
  · intro j hj l hl
    rw [hbits] at hj ⊢
    rcases Bool.or_eq_true_iff.1 hj with h | h
    · rw [hC.closed j h l hl]; rfl
    · have : i = j := by simpa using h
      subst this
      rw [hlz i h2 l] at hl
      cases hl
  · intro t
    rw [hT'1]
    have e : (Nat.lor D (2 ^ i)).testBit = fun j => D.testBit j || decide (i = j) := funext hbits
    rw [e, val_put hO hLi hC.closed h3]
    simp only [dstAt, hLi, Option.bind_some, hC.tms t]
  · intro j hj
    refine ⟨(hC.sub j hj).1, ?_⟩
    rw [hbits]
    rcases (hC.sub j hj).2 with h | h
    · rw [h]; exact .inl rfl
    · exact .inr h
  · intro j oj hj hrj hd
    rw [hbits] at hd
    rcases Bool.or_eq_true_iff.1 hd with h | h
    · exact hC.effs j oj hj hrj h
    · have : i = j := by simpa using h
      exact this ▸ hSi
  · intro x hx
    obtain ⟨g1, g2⟩ := hC.pendD x hx
    exact ⟨by rw [hbits, g1]; rfl, g2⟩
  · intro j oj hj hrj hd hSj
    rw [hbits] at hd
    have hne : i ≠ j := by rintro rfl; rw [hSi] at hSj; cases hSj
    have hd : D.testBit j = true := by simpa [hne] using hd
    obtain ⟨Tj, vj, g1, g2, g3, g4, g5, g6⟩ := hC.reads j oj hj hrj hd hSj
    refine ⟨Tj, vj, by rw [g1]; simp only [upd]; rw [if_neg (fun e' => hne e'.symm)], g2, g3, g4, fun t ht => ?_, ?_⟩
    · rw [g5 t ht, valN_upd (S := fun l => bef B l j)]
      cases hbb : bef B i j with
      | false => rfl
      | true => rw [hC.closed j hd i hbb] at h3; cases h3
    · rcases g6 with h | h | h
      · exact .inl h
      · exact .inr (.inl h)
      · refine .inr (.inr fun e oe he hre hde hze => h e oe he hre ?_ hze)
        rw [hbits] at hde
        exact (Bool.or_eq_false_iff.1 hde).1
  · refine relT_putK (dst := some d) (hT.mono ⟨_, rfl⟩ (fun _ h => h) (fun _ _ => rfl)) (fun t => ?_) (fun d' hd' => by cases hd'; exact hdn) hptr
    rw [hT'1 t, hdst]
  · by_cases hl : ∃ j, j ≠ i ∧ S j = true ∧ dstAt L j = some t
    · obtain ⟨j, hji, hSj, hdj⟩ := hl
      by_cases hdt : d = t
      · subst hdt
        have hjl := (hC.sub j hSj).1
        have hlt' : i < j := by
          rcases hO.dst i j d o hLi hjl (fun e => hji e.symm) hdj (.inr hdi) with h | h
          · exact hO.lt j i hjl h
          · rw [hlz i h2 j] at h; cases h
        rw [valN_over hlt' hSj hdj hjl]
        exact hm (hv d)
      · rw [valN_congr (S' := S) (vs' := vs) fun x hx hdx => ⟨rfl, fun _ => by
          simp only [upd]; rw [if_neg]; rintro rfl; rw [hdi] at hdx; exact hdt (by simpa using hdx)⟩]
        exact hm (hv t)
    · by_cases hdt : d = t
      · subst hdt
        have hu : ∀ j, S j = true → dstAt L j = some d → j = i := fun j h1 h2 => Classical.byContradiction fun hne => hl ⟨j, hne, h1, h2⟩
        rw [valN_last (i := i) hSi hdi hil fun j hj _ hdj => by
          cases hSj : S j with
          | false => rfl
          | true => have := hu j hSj hdj; omega]
        simp only [upd, if_true]
        rw [htm hdn hu]
        exact hptr
      · rw [valN_congr (S' := S) (vs' := vs) fun x hx hdx => ⟨rfl, fun _ => by
          simp only [upd]; rw [if_neg]; rintro rfl; rw [hdi] at hdx; exact hdt (by simpa using hdx)⟩]
        exact hm (hv t)
  · rw [hbits] at hDa
    obtain ⟨hDa, hne⟩ := Bool.or_eq_false_iff.1 hDa
    have hne : i ≠ a := by simpa using hne
    obtain ⟨oa, ea, da, na, g1, g2, g3, g4, g5, g6, g7, g8, g9, g10⟩ := hH.one a hz hSa hDa
    obtain ⟨dsa, hdsa⟩ := zsOf_ro (tt := tt) (e := ea)
    refine ⟨oa, ea, da, na, g1, g2, g3, g4, by rw [hdsa] at g5 ⊢; exact relObj_ro g5, g6, g7, g8, fun l m hl hg => ?_, g10⟩
    obtain ⟨p, hp, hpd⟩ := hl
    by_cases hlL : l < H.length
    · rw [List.getElem?_append_left hlL] at hp
      rw [List.getElem?_append_left (by rw [hs.len]; exact hlL)] at hg
      exact g9 l m ⟨p, hp, hpd⟩ hg
    · have hlt := (List.getElem?_eq_some_iff.1 hp).1
      simp at hlt
      have : l = H.length := by omega
      subst this
      rw [hgi] at hg
      simp only [Option.some.injEq, Prod.mk.injEq] at hg
      exact hH.two i a h2 hSi h3 hz hSa hDa hne hg.1
  · rw [hbits] at hDa; exact (Bool.or_eq_false_iff.1 hDa).1
  · rw [hbits] at hDb; exact (Bool.or_eq_false_iff.1 hDb).1

theorem tgt_opts : ∀ {q : Pl} {x : Option Nat}, tgt q = some x → opts q = x.toList
  | .done, x, h => by cases h; rfl
  | .al _ q, x, h => by simp only [tgt] at h; simp only [opts]; exact tgt_opts h
  | .ef i rs q, x, h => by cases h; rfl
  | .rd .., x, h => by cases h
  | .rp .., x, h => by cases h
  | .br .., x, h => by cases h
/-- Down to the operation that is done. -/
theorem descend (hO : Ordered L B) (hlz : ∀ i, lz.testBit i = true → ∀ j, bef B j i = false) {T₀ : Tm} {Hr : Heap} {S : Nat → Bool} {Γ₀ : VL} {Pr₀ : Nat → Prop} {H₀ : Heap} {w₀ : World} {Pr : Nat → Prop} {w : World} {tm : Array Value} {hb : Nat → Nat} {i : Nat} (hanc : ∀ j, bef B j i = true → S j = true) :
    ∀ {p : Pl} {os : List Nat} {D : Nat} {T : Tm} {H : Heap} {Γ : VL} {pend : PendA} {pl : List Nat} {vs : Nat → AV} {g : Act},
    Sim Γ Pr H w → Ext Γ₀ Pr₀ H₀ w₀ Γ Pr H w → CanP L B lz nt tt conc rec k T₀ p os D T H Hr pend pl vs S → RelT Γ Pr w nt T g.tmps → (∀ t, RelV Γ Pr w (valN L vs S T₀ t L.length) (tm.getD t undef)) →
    HidP L lz nt tt Γ Pr H w w₀.heap.size D S hb tm → i ∈ opts p →
    ∃ rs q D' T' H' Γ' vs' g', CanP L B lz nt tt conc rec k T₀ (.ef i rs q) os D' T' H' Hr pend pl vs' S ∧ Sim Γ' Pr H' w ∧ Ext Γ₀ Pr₀ H₀ w₀ Γ' Pr H' w ∧ RelT Γ' Pr w nt T' (Act.tmps g') ∧ (∀ t, RelV Γ' Pr w (valN L vs' S T₀ t L.length) (tm.getD t undef)) ∧ HidP L lz nt tt Γ' Pr H' w w₀.heap.size D' S hb tm := by
  intro p
  induction p with
  | done => intro os D T H Γ pend pl vs g _ _ _ _ _ _ h; simp [opts] at h
  | rd j q => intro os D T H Γ pend pl vs g _ _ _ _ _ _ h; simp [opts] at h
  | rp j q => intro os D T H Γ pend pl vs g _ _ _ _ _ _ h; simp [opts] at h
  | ef j rs q ih =>
    intro os D T H Γ pend pl vs g hs he hC hT hv hH h
    have : i = j := by simpa [opts] using h
    subst this
    exact ⟨rs, q, D, T, H, Γ, vs, g, hC, hs, he, hT, hv, hH⟩
  | br a b iha ihb =>
    intro os D T H Γ pend pl vs g hs he hC hT hv hH h
    have ok := hC.ok
    simp only [okPl, Bool.and_eq_true] at ok
    have form : planA tt conc rec nt L a T H pend k ∧ planA tt conc rec nt L b T H pend k := hC.form
    simp only [opts, List.mem_append] at h
    rcases h with h | h
    · exact iha hs he ⟨form.1, ok.1.2, hC.closed, hC.tms, hC.sub, hC.effs, hC.nodup, hC.pendD, hC.reads⟩ hT hv hH h
    · exact ihb hs he ⟨form.2, ok.2, hC.closed, hC.tms, hC.sub, hC.effs, hC.nodup, hC.pendD, hC.reads⟩ hT hv hH h
  | al a q ih =>
    intro os D T H Γ pend pl vs g hs he hC hT hv hH h
    have ok := hC.ok
    simp only [okPl, Bool.and_eq_true, Bool.not_eq_true'] at ok
    obtain ⟨⟨⟨⟨h1, h2⟩, h3⟩, h4⟩, h5⟩ := ok
    simp only [opts] at h
    have hSa : S a = true := by
      cases ht : tgt q with
      | none => rw [ht] at h4; cases h4
      | some x =>
        rw [tgt_opts ht] at h
        rw [ht] at h4
        cases x with
        | none => simp at h
        | some j =>
          have : i = j := by simpa using h
          subst this
          exact hanc a h4
    obtain ⟨T', H', Γ', vs', g', q1, q2, q3, q4, q5, q6⟩ := adoptP hO hlz hs he hC hT hv hH hSa
    exact ih q2 q3 q1 q4 q5 q6 h
/-- The end. -/
theorem finishP (hO : Ordered L B) (hlz : ∀ i, lz.testBit i = true → ∀ j, bef B j i = false) {T₀ : Tm} {Hr : Heap} {S : Nat → Bool} {Γ₀ : VL} {Pr₀ : Nat → Prop} {H₀ : Heap} {w₀ : World} {Pr : Nat → Prop} {w : World} {tm : Array Value} {hb : Nat → Nat} (hall : ∀ i, i < L.length → S i = true) :
    ∀ {p : Pl} {os : List Nat} {D : Nat} {T : Tm} {H : Heap} {Γ : VL} {pend : PendA} {pl : List Nat} {vs : Nat → AV} {g : Act},
    Sim Γ Pr H w → Ext Γ₀ Pr₀ H₀ w₀ Γ Pr H w → CanP L B lz nt tt conc rec k T₀ p os D T H Hr pend pl vs S → RelT Γ Pr w nt T g.tmps → (∀ t, RelV Γ Pr w (valN L vs S T₀ t L.length) (tm.getD t undef)) →
    HidP L lz nt tt Γ Pr H w w₀.heap.size D S hb tm →
    ∃ T' H' Γ', k T' H' ∧ Sim Γ' Pr H' w ∧ Ext Γ₀ Pr₀ H₀ w₀ Γ' Pr H' w ∧ ∀ t, RelV Γ' Pr w (T'.get t) (tm.getD t undef) := by
  have no : ∀ {p : Pl} {os : List Nat} {D : Nat} {T : Tm} {H : Heap} {pend : PendA} {pl : List Nat} {vs : Nat → AV} {i : Nat}, CanP L B lz nt tt conc rec k T₀ p os D T H Hr pend pl vs S → Nat.blt i L.length = true → D.testBit i = false → lz.testBit i = false → False := by
    intro p os D T H pend pl vs i hC h1 h2 h3
    rcases (hC.sub i (hall i (lt_of_bit h1))).2 with h | h <;> simp_all
  intro p
  induction p with
  | done =>
    intro os D T H Γ pend pl vs g hs he hC hT hv hH
    have ok := hC.ok
    simp only [okPl] at ok
    refine ⟨T, H, Γ, hC.form, hs, he, fun t => ?_⟩
    have e : valN L vs D.testBit T₀ t L.length = valN L vs S T₀ t L.length := valN_congr fun j hj _ => ⟨by rw [hall j hj, allI_iff.1 ok j hj], fun _ => rfl⟩
    rw [hC.tms t, e]
    exact hv t
  | rd j q =>
    intro os D T H Γ pend pl vs g hs he hC hT hv hH
    have ok := hC.ok
    simp only [okPl, Bool.and_eq_true, Bool.not_eq_true'] at ok
    obtain ⟨⟨⟨⟨⟨⟨⟨h1, h2⟩, h3⟩, h4⟩, h5⟩, h6⟩, h7⟩, h8⟩ := ok
    exact (no hC h1 h2 h3).elim
  | rp j q =>
    intro os D T H Γ pend pl vs g hs he hC hT hv hH
    have ok := hC.ok
    simp only [okPl, Bool.and_eq_true, Bool.not_eq_true'] at ok
    obtain ⟨⟨⟨⟨⟨⟨h1, h2⟩, h3⟩, h4⟩, h5⟩, h6⟩, h8⟩ := ok
    exact (no hC h1 h2 h3).elim
  | ef j rs q =>
    intro os D T H Γ pend pl vs g hs he hC hT hv hH
    have ok := hC.ok
    simp only [okPl, Bool.and_eq_true, Bool.not_eq_true'] at ok
    obtain ⟨⟨⟨⟨⟨⟨⟨⟨h1, h2⟩, h3⟩, h4⟩, h5⟩, h6⟩, h7⟩, h8⟩, h9⟩ := ok
    exact (no hC h1 h2 h3).elim
  | br a b iha ihb =>
    intro os D T H Γ pend pl vs g hs he hC hT hv hH
    have ok := hC.ok
    simp only [okPl, Bool.and_eq_true] at ok
    have form : planA tt conc rec nt L a T H pend k ∧ planA tt conc rec nt L b T H pend k := hC.form
    exact iha hs he ⟨form.1, ok.1.2, hC.closed, hC.tms, hC.sub, hC.effs, hC.nodup, hC.pendD, hC.reads⟩ hT hv hH
  | al a q ih =>
    intro os D T H Γ pend pl vs g hs he hC hT hv hH
    have ok := hC.ok
    simp only [okPl, Bool.and_eq_true, Bool.not_eq_true'] at ok
    obtain ⟨⟨⟨⟨h1, h2⟩, h3⟩, h4⟩, h5⟩ := ok
    obtain ⟨T', H', Γ', vs', g', q1, q2, q3, q4, q5, q6⟩ := adoptP hO hlz hs he hC hT hv hH (hall a (lt_of_bit h1))
    exact ih q2 q3 q1 q4 q5 q6
end
end Go.Ab
