/- The abstract layer, part 26: the walk by a plan is sound, in every order. -/
import Derived.Test.YtlpdflhpajhnoaaGreatAb25
namespace Go.Ab

def zsOf (tt : TyT) (e : Nat) : List AV := match tt.find e with | some d => d.zs.map .ro | none => []
theorem zerosK_of {tt : TyT} {e : Nat} {k : List AV → Prop} (h : zerosK tt e k) : k (zsOf tt e) := by
  unfold zerosK at h
  unfold zsOf
  split at h
  · rename_i hd; rw [hd]; exact mapK_iff.1 h
  · exact h.elim
theorem zerosK_mk {tt : TyT} {e : Nat} {k : List AV → Prop} {d : Ty} (hd : tt.find e = some d) (h : k (zsOf tt e)) : zerosK tt e k := by
  unfold zerosK
  unfold zsOf at h
  rw [hd] at h ⊢
  exact mapK_iff.2 h
theorem relObj_ro {Γ Γ' : VL} {Pr : Nat → Prop} {w : World} {b n T : Nat} {ds : List RD} (h : RelObj Γ Pr w b n (.cells T (ds.map .ro))) : RelObj Γ' Pr w b n (.cells T (ds.map .ro)) := by
  obtain ⟨c, h1, h2, h3, h4⟩ := h
  refine ⟨c, h1, h2, h3, fun j a ha => ?_⟩
  obtain ⟨v, h5, h6⟩ := h4 j a ha
  rw [List.getElem?_map] at ha
  obtain ⟨d, _, rfl⟩ := Option.map_eq_some_iff.1 ha
  exact ⟨v, h5, h6⟩
theorem zsOf_ro {tt : TyT} {e : Nat} : ∃ ds : List RD, zsOf tt e = ds.map .ro := by
  unfold zsOf
  split
  · exact ⟨_, rfl⟩
  · exact ⟨[], rfl⟩
/-- A block of one's own gets a label. -/
theorem Sim.adopt {Γ : VL} {Pr : Nat → Prop} {H : Heap} {w : World} {o : AObj} {b n : Nat} (hs : Sim Γ Pr H w) (ho : RelObj (Γ ++ [(b, n)]) Pr w b n o) (hnp : ¬ Pr b) (hnl : ∀ l m, live H l → Γ[l]? ≠ some (b, m)) : Sim (Γ ++ [(b, n)]) Pr (H ++ [o]) w := by
  have hlen := hs.len
  have hold : ∀ j, live (H ++ [o]) j → live H j ∨ j = H.length := by
    rintro j ⟨p, hp, hpd⟩
    by_cases hj : j < H.length
    · exact .inl ⟨p, by rwa [List.getElem?_append_left hj] at hp, hpd⟩
    · have := (List.getElem?_eq_some_iff.1 hp).1
      simp at this
      exact .inr (by omega)
  have hgl : ∀ j c m, live H j → (Γ ++ [(b, n)])[j]? = some (c, m) → Γ[j]? = some (c, m) := by
    intro j c m hj h
    rwa [List.getElem?_append_left (by rw [hlen]; exact live_lt hj)] at h
  have hgn : ∀ c m, (Γ ++ [(b, n)])[H.length]? = some (c, m) → c = b := by
    intro c m h
    rw [← hlen] at h
    simp at h
    exact h.1.symm
  refine ⟨by simp [hlen], fun i p hp hpd => ?_, fun i j c m m' hi hj h1 h2 => ?_, hs.prlt⟩
  · by_cases hi : i < H.length
    · rw [List.getElem?_append_left hi] at hp
      obtain ⟨c, m, h1, h2, h3⟩ := hs.obj i p hp hpd
      exact ⟨c, m, by rw [List.getElem?_append_left (by omega)]; exact h1, h2, h3.mono ⟨_, rfl⟩ (fun _ h => h) (fun _ _ => rfl) rfl⟩
    · have hlt := (List.getElem?_eq_some_iff.1 hp).1
      simp at hlt
      have hi : i = H.length := by omega
      subst hi
      simp at hp
      subst hp
      exact ⟨b, n, by rw [← hlen]; simp, hnp, ho⟩
  · rcases hold i hi with hi | rfl <;> rcases hold j hj with hj | rfl
    · exact hs.inj i j c m m' hi hj (hgl i c m hi h1) (hgl j c m' hj h2)
    · rw [hgn c m' h2] at h1
      exact (hnl i m hi (hgl i _ m hi h1)).elim
    · rw [hgn c m h1] at h2
      exact (hnl j m' hj (hgl j _ m' hj h2)).elim
    · rfl
theorem Ext.adopt {Γ₀ Γ : VL} {Pr₀ Pr : Nat → Prop} {H₀ H : Heap} {w₀ w : World} {o : AObj} {b n : Nat} (he : Ext Γ₀ Pr₀ H₀ w₀ Γ Pr H w) (hs : Sim Γ Pr H w) (hb : w₀.heap.size ≤ b) : Ext Γ₀ Pr₀ H₀ w₀ (Γ ++ [(b, n)]) Pr (H ++ [o]) w := by
  obtain ⟨δ, rfl⟩ := he.vl
  refine ⟨he.os, he.tape, he.output, he.size, ⟨δ ++ [(b, n)], by simp⟩, he.pr, he.prNew, ?_, he.frame⟩
  rintro j c m ⟨p, hp, hpd⟩ hg
  by_cases hj : j < H.length
  · rw [List.getElem?_append_left hj] at hp
    rw [List.getElem?_append_left (by rw [hs.len]; exact hj)] at hg
    exact he.own j c m ⟨p, hp, hpd⟩ hg
  · have hlt := (List.getElem?_eq_some_iff.1 hp).1
    simp at hlt
    have : j = (Γ₀ ++ δ).length := by rw [hs.len]; omega
    subst this
    simp at hg
    exact .inl (by omega)

section
variable {P : Program} {F : Fence} {nt : Nat} {tt : TyT} {conc : Bool} {rec : Rec} {L : List Oper} {B : List Nat} {lz : Nat} {ops : Array Oper} {Q : Exit → Act → World → Prop} {k : Tm → Heap → Prop}

/-- What the walk knows: D: what it has taken; vs: the values; Hr: the heap at which what was read holds. -/
structure CanP (L : List Oper) (B : List Nat) (lz : Nat) (nt : Nat) (tt : TyT) (conc : Bool) (rec : Rec) (k : Tm → Heap → Prop) (T₀ : Tm) (p : Pl) (os : List Nat) (D : Nat) (T : Tm) (H Hr : Heap) (pend : PendA) (pl : List Nat) (vs : Nat → AV) (S : Nat → Bool) : Prop where
  form : planA tt conc rec nt L p T H pend k
  ok : okPl tt L B lz L.length p D pl os = true
  closed : Closed B D.testBit
  tms : ∀ t, T.get t = valN L vs D.testBit T₀ t L.length
  sub : ∀ i, S i = true → i < L.length ∧ (D.testBit i = true ∨ lz.testBit i = true)
  effs : ∀ (i : Nat) (o : Oper), L[i]? = some o → isRead o.op = false → D.testBit i = true → S i = true
  nodup : (pend.map (·.1)).Nodup
  pendD : ∀ x ∈ pend, D.testBit x.1 = true ∧ L[x.1]? = some x.2.1 ∧ isRead x.2.1.op = true ∧ detOp tt x.2.1.op = true
  reads : ∀ (i : Nat) (o : Oper), L[i]? = some o → isRead o.op = true → D.testBit i = true → S i = false → ∃ Ti v, v = vs i ∧ (∀ d, o.dst = some d → d < nt) ∧ detOp tt o.op = true ∧ readK L tt o Ti Hr (fun v' => v' = v) ∧
    (∀ t ∈ looks L o, Ti.get t = valN L vs (fun j => bef B j i) T₀ t L.length) ∧
    (pureOp o.op = true ∨ (i ∈ pl ∧ (i, o, Ti, v) ∈ pend) ∨ ∀ (e : Nat) (oe : Oper), L[e]? = some oe → isRead oe.op = false → D.testBit e = false → lz.testBit e = false → bef B i e = true)

theorem planA_rd {i : Nat} {q : Pl} {T : Tm} {H : Heap} {pend : PendA} (h : planA tt conc rec nt L (.rd i q) T H pend k) : ∃ o, L[i]? = some o ∧ readK L tt o T H (fun v => putK nt T o.dst v (fun T' => planA tt conc rec nt L q T' H pend k)) := by
  obtain ⟨o, ho, h⟩ := nthK_iff.1 (show nthK L i (fun o => wantedK L o T (opA tt conc o T H (fun v _ => putK nt T o.dst v (fun T' => planA tt conc rec nt L q T' H pend k))) (putK nt T o.dst (.tup []) (fun T' => planA tt conc rec nt L q T' H pend k))) from h)
  exact ⟨o, ho, wantedK_imp h opA_opK id⟩
theorem planA_rp {i : Nat} {q : Pl} {T : Tm} {H : Heap} {pend : PendA} (h : planA tt conc rec nt L (.rp i q) T H pend k) : ∃ o, L[i]? = some o ∧
    readK L tt o T H (fun v => putK nt T o.dst v (fun T' => planA tt conc rec nt L q T' H ((i, o, T, v) :: pend) k)) := by
  obtain ⟨o, ho, h⟩ := nthK_iff.1 (show nthK L i (fun o => wantedK L o T (opA tt conc o T H (fun v _ => putK nt T o.dst v (fun T' => planA tt conc rec nt L q T' H ((i, o, T, v) :: pend) k))) (putK nt T o.dst (.tup []) (fun T' => planA tt conc rec nt L q T' H ((i, o, T, .tup []) :: pend) k))) from h)
  exact ⟨o, ho, wantedK_imp h opA_opK id⟩

theorem bit_add (D i j : Nat) : (Nat.lor D (2 ^ i)).testBit j = (D.testBit j || decide (i = j)) := testBit_add D i j
theorem lt_of_bit {i n : Nat} (h : Nat.blt i n = true) : i < n := by simpa [Nat.blt, Nat.lt_iff_add_one_le] using h

/-- Reads are taken until none is left. -/
theorem saturateP (hO : Ordered L B) (hP : TyOK P tt) (hops : ops.toList = L) {T₀ : Tm} {H : Heap} {S : Nat → Bool} {Γ : VL} {Pr : Nat → Prop} {w : World} (hs : Sim Γ Pr H w) (hSc : Closed B S) : ∀ {p : Pl} {D : Nat} {T : Tm} {pend : PendA} {pl : List Nat} {vs : Nat → AV} {g : Act},
    CanP L B lz nt tt conc rec k T₀ p (opts p) D T H H pend pl vs S → RelT Γ Pr w nt T g.tmps →
    ∃ p' D' T' pend' pl' vs' g', CanP L B lz nt tt conc rec k T₀ p' (opts p') D' T' H H pend' pl' vs' S ∧ isWait p' = true ∧ RelT Γ Pr w nt T' (Act.tmps g') ∧ (∀ t, valN L vs' S T₀ t L.length = valN L vs S T₀ t L.length) ∧ ∀ i, lz.testBit i = true → D'.testBit i = D.testBit i := by
  -- one read
  have one : ∀ {i : Nat} {q : Pl} {D : Nat} {T : Tm} {pend : PendA} {pl : List Nat} {vs : Nat → AV} {g : Act} {o : Oper} {pend' : PendA} {pl' : List Nat} {os : List Nat} {r : Pl}, CanP L B lz nt tt conc rec k T₀ r os D T H H pend pl vs S → RelT Γ Pr w nt T g.tmps →
      L[i]? = some o → D.testBit i = false → lz.testBit i = false → isRead o.op = true → detOp tt o.op = true → subM (B.getD i 0) D = true → okPl tt L B lz L.length q (Nat.lor D (2 ^ i)) pl' (opts q) = true →
      ∀ v, (∀ k' : AV → Prop, k' v → readK L tt o T H k') → putK nt T o.dst v (fun T' => planA tt conc rec nt L q T' H pend' k) →
      (∀ x, x ∈ pl → x ∈ pl') → (∀ x, x ∈ pend → x ∈ pend') → (pend'.map (·.1)).Nodup → (∀ x, x ∈ pend' → x = (i, o, T, v) ∨ x ∈ pend) →
      (pureOp o.op = true ∨ (i ∈ pl' ∧ (i, o, T, v) ∈ pend') ∨ ∀ (e : Nat) (oe : Oper), L[e]? = some oe → isRead oe.op = false → D.testBit e = false → lz.testBit e = false → bef B i e = true) →
      ∃ T' vs' g', CanP L B lz nt tt conc rec k T₀ q (opts q) (Nat.lor D (2 ^ i)) T' H H pend' pl' vs' S ∧ RelT Γ Pr w nt T' (Act.tmps g') ∧ (∀ t, valN L vs' S T₀ t L.length = valN L vs S T₀ t L.length) := by
    intro i q D T pend pl vs g o pend' pl' os r hC hT hLi hDi hzi hr hdet hanc hok v hread hput hpl hpd hnd hpD halt
    have hi : i < L.length := (List.getElem?_eq_some_iff.1 hLi).1
    have hanc : ∀ j, bef B j i = true → D.testBit j = true := subM_iff.1 hanc
    obtain ⟨T', form, hT'1, hT'2⟩ := putK_ok hput
    obtain ⟨v', x, hv', hvx, _⟩ := readK_ok (ops := ops) hP hops hs hT hr (hread (fun v' => v' = v) rfl)
    subst hv'
    have hSi : S i = false := by
      cases h : S i with
      | false => rfl
      | true => rcases (hC.sub i h).2 with h | h <;> simp_all
    have hbits : ∀ j, (Nat.lor D (2 ^ i)).testBit j = (D.testBit j || decide (i = j)) := bit_add D i
    have hlooks : ∀ t ∈ looks L o, T.get t = valN L vs (fun j => bef B j i) T₀ t L.length := by
      intro t ht
      rw [hC.tms t]
      exact val_looks hO hLi ht hC.closed (closed_anc hO hi) hanc (fun _ h => h) hDi (anc_self hO hi)
    refine ⟨T', upd vs i v', g.put o.dst x, ⟨form, hok, ?_, ?_, ?_, ?_, hnd, ?_, ?_⟩, relT_putK hT hT'1 hT'2 hvx, fun t => valN_upd hSi _⟩
    · intro j hj l hl
      rw [hbits] at hj ⊢
      rcases Bool.or_eq_true_iff.1 hj with h | h
      · rw [hC.closed j h l hl]; rfl
      · have : i = j := by simpa using h
        subst this
        rw [hanc l hl]; rfl
    · intro t
      rw [hT'1]
      have e : (Nat.lor D (2 ^ i)).testBit = fun j => D.testBit j || decide (i = j) := funext hbits
      rw [e, val_put hO hLi hC.closed hDi]
      simp only [dstAt, hLi, Option.bind_some, hC.tms t]
    · intro j hj
      refine ⟨(hC.sub j hj).1, ?_⟩
      rw [hbits]
      rcases (hC.sub j hj).2 with h | h
      · rw [h]; exact .inl rfl
      · exact .inr h
    · intro j oj hj hrj hd
      rw [hbits] at hd
      rcases Bool.or_eq_true_iff.1 hd with h | h
      · exact hC.effs j oj hj hrj h
      · have : i = j := by simpa using h
        subst this
        rw [hLi] at hj
        cases hj
        rw [hr] at hrj; cases hrj
    · intro x hx
      rcases hpD x hx with rfl | h
      · exact ⟨by rw [hbits]; simp, hLi, hr, hdet⟩
      · obtain ⟨h1, h2⟩ := hC.pendD x h
        exact ⟨by rw [hbits, h1]; rfl, h2⟩
    · intro j oj hj hrj hd hSj
      rw [hbits] at hd
      by_cases e : i = j
      · subst e
        rw [hLi] at hj
        cases hj
        refine ⟨T, v', by simp [upd], hT'2, hdet, hread _ rfl, fun t ht => ?_, ?_⟩
        · rw [hlooks t ht, valN_upd (S := fun j => bef B j i) (anc_self hO hi)]
        · rcases halt with h | h | h
          · exact .inl h
          · exact .inr (.inl h)
          · refine .inr (.inr fun e oe he hre hde hze => h e oe he hre ?_ hze)
            rw [hbits] at hde
            exact (Bool.or_eq_false_iff.1 hde).1
      · have hd : D.testBit j = true := by simpa [e] using hd
        obtain ⟨Tj, vj, h1, h2, h3, h4, h5, h6⟩ := hC.reads j oj hj hrj hd hSj
        refine ⟨Tj, vj, by rw [h1]; simp only [upd]; rw [if_neg (fun e' => e e'.symm)], h2, h3, h4, fun t ht => ?_, ?_⟩
        · rw [h5 t ht, valN_upd (S := fun l => bef B l j)]
          cases hb : bef B i j with
          | false => rfl
          | true => rw [hC.closed j hd i hb] at hDi; cases hDi
        · rcases h6 with h | ⟨h, h'⟩ | h
          · exact .inl h
          · exact .inr (.inl ⟨hpl _ h, hpd _ h'⟩)
          · refine .inr (.inr fun e oe he hre hde hze => h e oe he hre ?_ hze)
            rw [hbits] at hde
            exact (Bool.or_eq_false_iff.1 hde).1
  intro p
  induction p with
  | rd i q ih =>
    intro D T pend pl vs g hC hT
    have ok := hC.ok
    simp only [okPl, Bool.and_eq_true, Bool.not_eq_true'] at ok
    obtain ⟨⟨⟨⟨⟨⟨⟨h1, h2⟩, h3⟩, h4⟩, h5⟩, h6⟩, h7⟩, h8⟩ := ok
    obtain ⟨o, hLi, hread⟩ := planA_rd hC.form
    have hr : isRead o.op = true := by simpa [readAt, hLi] using h4
    have hdet : detOp tt o.op = true := by simpa [detAt, hLi] using h5
    obtain ⟨v, hput, hall⟩ := readK_dm hr hdet _ hread
    obtain ⟨T', vs', g', q1, q2, q3⟩ := one hC hT hLi h2 h3 hr hdet h6 h8 v hall hput (fun _ h => h) (fun _ h => h) hC.nodup (fun _ h => .inr h) (by
      rcases Bool.or_eq_true_iff.1 h7 with h | h
      · exact .inl (by simpa [pureAt, hLi] using h)
      · refine .inr (.inr fun e oe he hre hde hze => ?_)
        have := allI_iff.1 h e (List.getElem?_eq_some_iff.1 he).1
        simp only [hde, hze, readAt, he, hre, Bool.false_or] at this
        exact this)
    obtain ⟨p', D', T'', pend', pl', vs'', g'', r1, r2, r3, r4, r5⟩ := ih q1 q2
    refine ⟨p', D', T'', pend', pl', vs'', g'', r1, r2, r3, fun t => by rw [r4 t, q3 t], fun j hj => ?_⟩
    rw [r5 j hj, bit_add]
    have : i ≠ j := by rintro rfl; rw [h3] at hj; cases hj
    simp [this]
  | rp i q ih =>
    intro D T pend pl vs g hC hT
    have ok := hC.ok
    simp only [okPl, Bool.and_eq_true, Bool.not_eq_true'] at ok
    obtain ⟨⟨⟨⟨⟨⟨h1, h2⟩, h3⟩, h4⟩, h5⟩, h6⟩, h8⟩ := ok
    obtain ⟨o, hLi, hread⟩ := planA_rp hC.form
    have hr : isRead o.op = true := by simpa [readAt, hLi] using h4
    have hdet : detOp tt o.op = true := by simpa [detAt, hLi] using h5
    have hni : i ∉ pend.map (·.1) := fun h => by
      obtain ⟨x, hx, e⟩ := List.mem_map.1 h
      subst e
      rw [(hC.pendD x hx).1] at h2; cases h2
    obtain ⟨v, hput, hall⟩ := readK_dm hr hdet _ hread
    obtain ⟨T', vs', g', q1, q2, q3⟩ := one (pl' := i :: pl) hC hT hLi h2 h3 hr hdet h6 h8 v hall hput (fun _ h => List.mem_cons_of_mem _ h) (fun _ h => List.mem_cons_of_mem _ h) (by simpa using ⟨by simpa using hni, hC.nodup⟩) (fun x h => by simpa using h) (.inr (.inl ⟨by simp, by simp⟩))
    obtain ⟨p', D', T'', pend', pl', vs'', g'', r1, r2, r3, r4, r5⟩ := ih q1 q2
    refine ⟨p', D', T'', pend', pl', vs'', g'', r1, r2, r3, fun t => by rw [r4 t, q3 t], fun j hj => ?_⟩
    rw [r5 j hj, bit_add]
    have : i ≠ j := by rintro rfl; rw [h3] at hj; cases hj
    simp [this]
  | done => intro D T pend pl vs g hC hT; exact ⟨_, D, T, pend, pl, vs, g, hC, rfl, hT, fun _ => rfl, fun _ _ => rfl⟩
  | al i q ih => intro D T pend pl vs g hC hT; exact ⟨_, D, T, pend, pl, vs, g, hC, rfl, hT, fun _ => rfl, fun _ _ => rfl⟩
  | ef i rs q ih => intro D T pend pl vs g hC hT; exact ⟨_, D, T, pend, pl, vs, g, hC, rfl, hT, fun _ => rfl, fun _ _ => rfl⟩
  | br a b iha ihb => intro D T pend pl vs g hC hT; exact ⟨_, D, T, pend, pl, vs, g, hC, rfl, hT, fun _ => rfl, fun _ _ => rfl⟩
end
end Go.Ab
