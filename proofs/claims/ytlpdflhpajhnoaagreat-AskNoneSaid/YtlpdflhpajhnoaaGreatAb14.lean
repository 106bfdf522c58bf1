/- The abstract layer, part 14: at a call's end: labels let go, fresh memory frozen; memory lent for a call. -/
import Derived.Test.YtlpdflhpajhnoaaGreatAb13
namespace Go.Ab

/-- Labels that a caller need not know are let go. -/
theorem CallP.keep {P : Program} {f : FuncId} {args : List AV} {H : Heap} {k k' : AV → Heap → Prop} (h : CallP P f args H k)
    (hk : ∀ r H', k r H' → ∃ σ r₀ h₀, (List.range H.length ++ σ).Nodup ∧ Picks H' (List.range H.length ++ σ) h₀ ∧ r = ren (phi (List.range H.length ++ σ) H'.length) r₀ ∧ k' r₀ h₀) : CallP P f args H k' := by
  constructor
  intro Γ Pr w vs hs hv
  refine (h.run Γ Pr w vs hs hv).mono ?_
  rintro v w' ⟨r, H', Γ', Pr', he, hs', hr, hk0⟩
  obtain ⟨σ, r₀, h₀, hn, hp, rfl, hk'⟩ := hk r H' hk0
  obtain ⟨s1, s2⟩ := hs'.select hn hp
  refine ⟨r₀, h₀, small Γ' (List.range H.length ++ σ), Pr', ?_, s1, (relV_ren s2).2 hr, hk'⟩
  obtain ⟨δ, rfl⟩ := he.vl
  have hlen := hs.len
  refine ⟨he.os, he.tape, he.output, he.size, ⟨small (Γ ++ δ) σ, ?_⟩, he.pr, he.prNew, ?_, he.frame⟩
  · unfold small
    rw [List.map_append]
    congr 1
    apply List.ext_getElem?
    intro i
    rw [List.getElem?_map]
    by_cases hi : i < H.length
    · rw [List.getElem?_range hi, List.getElem?_eq_getElem (by omega : i < Γ.length)]
      simp [List.getD_eq_getElem?_getD, List.getElem?_append_left (by omega : i < Γ.length), List.getElem?_eq_getElem (by omega : i < Γ.length)]
    · rw [List.getElem?_eq_none (by simpa using hi), List.getElem?_eq_none (by omega)]
      rfl
  · rintro j b n ⟨o, ho, hd⟩ hg
    obtain ⟨j', hj', he'⟩ := hp.get ho
    rw [s2 j] at hg
    simp only [phi, hj'] at hg
    exact he.own j' b n ⟨_, he', by rw [renO_isDead]; exact hd⟩ hg

/-! ### Freezing -/
/-- What is a view of the memory of a label, turned into data. -/
def frz1 (l : Nat) (ds : List RD) : AV → AV
  | .sl sz id off len cap => if id = l ∧ off + len * sz ≤ ds.length then .ro (.slice sz ((ds.drop off).take (len * sz)) cap) else .sl sz id off len cap
  | .ptr id off => if id = l then .ro (.ptr (ds.drop off)) else .ptr id off
  | a => a
mutual
def frz (l : Nat) (ds : List RD) : AV → AV
  | .fn f first cap => .fn f (frzs l ds first) (frzs l ds cap)
  | .agg cs => .agg (frzs l ds cs)
  | .tup cs => .tup (frzs l ds cs)
  | .ifc t a => .ifc t (frz l ds a)
  | a => frz1 l ds a
def frzs (l : Nat) (ds : List RD) : List AV → List AV
  | [] => []
  | a :: as => frz l ds a :: frzs l ds as
end
section
variable {Γ : VL} {Pr : Nat → Prop} {w : World}
theorem relDs_of_cells {b off : Nat} {c : Array Value} {T : Nat} : ∀ {ds : List RD}, w.heap[b]? = some (.cells c T (0, 0)) → (∀ (j : Nat) (d : RD), ds[j]? = some d → ∃ v, c[off + j]? = some v ∧ RelD Pr w d v) → RelDs Pr w ds b off := by
  intro ds hb h
  refine relDs_of_get fun i d hd => ?_
  obtain ⟨v, hv, hr⟩ := h i d hd
  exact ⟨v, by rw [cell_of_block hb]; simpa using hv, hr⟩
variable {l b n T : Nat} {ds : List RD}
theorem frz1_ok (hg : Γ[l]? = some (b, n)) (ho : RelObj Γ Pr w b n (.cells T (ds.map .ro))) {a : AV} {v : Value} (h : RelV Γ (fun c => Pr c ∨ c = b) w a v) : RelV Γ (fun c => Pr c ∨ c = b) w (frz1 l ds a) v := by
  obtain ⟨c, hb, hc, hle, hcs⟩ := ho
  have hcs' : ∀ (j : Nat) (d : RD), ds[j]? = some d → ∃ v, c[j]? = some v ∧ RelD (fun c => Pr c ∨ c = b) w d v := by
    intro j d hd
    obtain ⟨v, h1, h2⟩ := hcs j (.ro d) (by simp [hd])
    exact ⟨v, h1, RelD.mono (fun _ h => .inl h) (fun _ _ => rfl) h2⟩
  unfold frz1
  split
  · split
    · rename_i sz id off len cap hif
      obtain ⟨rfl, hlen⟩ := hif
      obtain ⟨b', n', c', hg', rfl, h1, h2, h3⟩ := h
      rw [hg] at hg'
      simp only [Option.some.injEq, Prod.mk.injEq] at hg'
      obtain ⟨rfl, rfl⟩ := hg'
      refine ⟨_, len, c', rfl, by simp; omega, h1, h3, .inr ⟨b, off, rfl, .inr rfl, ?_⟩⟩
      refine relDs_take (relDs_of_cells hb fun j d hd => ?_) _
      rw [List.getElem?_drop] at hd
      exact hcs' _ d hd
    · exact h
  · split
    · rename_i id off hif
      subst hif
      obtain ⟨b', n', hg', rfl⟩ := h
      rw [hg] at hg'
      simp only [Option.some.injEq, Prod.mk.injEq] at hg'
      obtain ⟨rfl, rfl⟩ := hg'
      refine ⟨b, off, rfl, .inr rfl, relDs_of_cells hb fun j d hd => ?_⟩
      rw [List.getElem?_drop] at hd
      exact hcs' _ d hd
    · exact h
  · exact h
mutual
theorem frz_ok (hg : Γ[l]? = some (b, n)) (ho : RelObj Γ Pr w b n (.cells T (ds.map .ro))) : ∀ {a : AV} {v : Value}, RelV Γ (fun c => Pr c ∨ c = b) w a v → RelV Γ (fun c => Pr c ∨ c = b) w (frz l ds a) v
  | .fn f first cap, v, ⟨fs, cs, h1, h2, h3⟩ => ⟨fs, cs, h1, frzs_ok hg ho h2, frzs_ok hg ho h3⟩
  | .agg cs, v, ⟨vs, h1, h2⟩ => ⟨vs, h1, frzs_ok hg ho h2⟩
  | .tup cs, v, ⟨vs, h1, h2⟩ => ⟨vs, h1, frzs_ok hg ho h2⟩
  | .ifc t a, v, ⟨u, h1, h2⟩ => ⟨u, h1, frz_ok hg ho h2⟩
  | .any, _, h => h
  | .ro _, _, h => h
  | .ptr id off, v, h => frz1_ok hg ho (a := .ptr id off) h
  | .sl sz id off len cap, v, h => frz1_ok hg ho (a := .sl sz id off len cap) h
  | .mp _, _, h => h
  | .yld _, _, h => h
theorem frzs_ok (hg : Γ[l]? = some (b, n)) (ho : RelObj Γ Pr w b n (.cells T (ds.map .ro))) : ∀ {as : List AV} {vs : List Value}, RelVs Γ (fun c => Pr c ∨ c = b) w as vs → RelVs Γ (fun c => Pr c ∨ c = b) w (frzs l ds as) vs
  | [], _, h => h
  | a :: as, _, ⟨v, vs, h1, h2, h3⟩ => ⟨v, vs, h1, frz_ok hg ho h2, frzs_ok hg ho h3⟩
end
end
/-- A label's block is protected from now on. -/
theorem Sim.protect {Γ : VL} {Pr : Nat → Prop} {H : Heap} {w : World} (hs : Sim Γ Pr H w) {l b n : Nat} {o : AObj} (hl : H[l]? = some o) (hd : o.isDead = false) (hg : Γ[l]? = some (b, n)) :
    Sim Γ (fun c => Pr c ∨ c = b) (H.set l .dead) w := by
  have hlive : live H l := ⟨o, hl, hd⟩
  have hj' : ∀ j, live (H.set l .dead) j → live H j ∧ l ≠ j := by
    rintro j ⟨p, hp, hpd⟩
    rw [List.getElem?_set] at hp
    split at hp
    · split at hp
      · simp only [Option.some.injEq] at hp; subst hp; simp [AObj.isDead] at hpd
      · cases hp
    · rename_i e; exact ⟨⟨p, hp, hpd⟩, e⟩
  refine ⟨by simp [hs.len], fun j p hp hpd => ?_, fun j k c n m hj hk => hs.inj j k c n m (hj' j hj).1 (hj' k hk).1, fun c hc => ?_⟩
  · have hj := hj' j ⟨p, hp, hpd⟩
    rw [List.getElem?_set, if_neg hj.2] at hp
    obtain ⟨c, m, hgc, hpc, hrc⟩ := hs.obj j p hp hpd
    refine ⟨c, m, hgc, fun h => ?_, hrc.mono ⟨[], by simp⟩ (fun _ h => .inl h) (fun _ _ => rfl) rfl⟩
    rcases h with h | h
    · exact hpc h
    · exact hj.2 (hs.inj l j b n m hlive hj.1 hg (h ▸ hgc))
  · rcases hc with h | rfl
    · exact hs.prlt c h
    · exact (hs.blk hlive hg).1
/-- Fresh memory of plain data is frozen. -/
theorem CallP.freeze {P : Program} {f : FuncId} {args : List AV} {H : Heap} {k k' : AV → Heap → Prop} (h : CallP P f args H k)
    (hk : ∀ r H', k r H' → ∃ l T ds, H.length ≤ l ∧ (∀ i, live H i → live H' i) ∧ H'[l]? = some (.cells T (ds.map .ro)) ∧ k' (frz l ds r) (H'.set l .dead)) : CallP P f args H k' := by
  constructor
  intro Γ Pr w vs hs hv
  refine (h.run Γ Pr w vs hs hv).mono ?_
  rintro v w' ⟨r, H', Γ', Pr', he, hs', hr, hk0⟩
  obtain ⟨l, T, ds, hl, hlive, ho, hk'⟩ := hk r H' hk0
  obtain ⟨b, n, hg, hnp, hro⟩ := hs'.obj l _ ho rfl
  have hll : live H' l := ⟨_, ho, rfl⟩
  have hnew : w.heap.size ≤ b := by
    rcases he.own l b n hll hg with h | ⟨i, n', hi, hgi⟩
    · exact h
    · have hgi' : Γ'[i]? = some (b, n') := vl_ext he.vl hgi
      have := hs'.inj l i b n n' hll (hlive i hi) hg hgi'
      subst this
      exact absurd (live_lt hi) (by omega)
  refine ⟨frz l ds r, H'.set l .dead, Γ', fun c => Pr' c ∨ c = b, ?_, hs'.protect ho rfl hg, frz_ok hg hro (hr.mono ⟨[], by simp⟩ (fun _ h => .inl h) (fun _ _ => rfl)), hk'⟩
  refine ⟨he.os, he.tape, he.output, he.size, he.vl, fun c h => .inl (he.pr c h), fun c h => ?_, fun j c m hj hgj => ?_, he.frame⟩
  · rcases h with h | rfl
    · exact he.prNew c h
    · exact .inr hnew
  · refine he.own j c m ?_ hgj
    obtain ⟨p, hp, hpd⟩ := hj
    rw [List.getElem?_set] at hp
    split at hp
    · split at hp
      · simp only [Option.some.injEq] at hp; subst hp; simp [AObj.isDead] at hpd
      · cases hp
    · exact ⟨p, hp, hpd⟩

/-! ### Lending -/
def RD.flat : RD → Bool
  | .slice _ [] _ => true
  | .slice .. => false
  | .ptr _ => false
  | .ifc .. => false
  | _ => true
mutual
def AV.flat : AV → Bool
  | .ro d => d.flat
  | .fn _ first cap => flats first && flats cap
  | .agg cs => flats cs
  | .tup cs => flats cs
  | .ifc _ a => a.flat
  | _ => true
def flats : List AV → Bool
  | [] => true
  | a :: as => a.flat && flats as
end
def AObj.flat : AObj → Bool
  | .cells _ cs => flats cs
  | .siter .. => true
  | .dfr => true
  | .dead => true
  | _ => false
section
variable {Γ : VL} {Pr Pr' : Nat → Prop} {w : World}
theorem relD_flat {d : RD} {v : Value} (hf : d.flat = true) (h : RelD Pr w d v) : RelD Pr' w d v := by
  cases d with
  | slice sz cs cap =>
    cases cs with
    | nil => obtain ⟨A, n, c, h1, h2, h3, h4, h5⟩ := h; exact ⟨A, n, c, h1, h2, h3, h4, .inl rfl⟩
    | cons a as => simp [RD.flat] at hf
  | ptr cs => simp [RD.flat] at hf
  | ifc t cs => simp [RD.flat] at hf
  | _ => exact h
mutual
theorem relV_flat : ∀ {a : AV} {v : Value}, a.flat = true → RelV Γ Pr w a v → RelV Γ Pr' w a v
  | .ro d, v, hf, h => relD_flat (by simpa [AV.flat] using hf) h
  | .fn f first cap, v, hf, ⟨fs, cs, h1, h2, h3⟩ => by
    simp only [AV.flat, Bool.and_eq_true] at hf
    exact ⟨fs, cs, h1, relVs_flat hf.1 h2, relVs_flat hf.2 h3⟩
  | .agg cs, v, hf, ⟨vs, h1, h2⟩ => ⟨vs, h1, relVs_flat (by simpa [AV.flat] using hf) h2⟩
  | .tup cs, v, hf, ⟨vs, h1, h2⟩ => ⟨vs, h1, relVs_flat (by simpa [AV.flat] using hf) h2⟩
  | .ifc t a, v, hf, ⟨u, h1, h2⟩ => ⟨u, h1, relV_flat (by simpa [AV.flat] using hf) h2⟩
  | .any, _, _, h => h
  | .ptr .., _, _, h => h
  | .sl .., _, _, h => h
  | .mp .., _, _, h => h
  | .yld .., _, _, h => h
theorem relVs_flat : ∀ {as : List AV} {vs : List Value}, flats as = true → RelVs Γ Pr w as vs → RelVs Γ Pr' w as vs
  | [], _, _, h => h
  | a :: as, _, hf, ⟨v, vs, h1, h2, h3⟩ => by
    simp only [flats, Bool.and_eq_true] at hf
    exact ⟨v, vs, h1, relV_flat hf.1 h2, relVs_flat hf.2 h3⟩
end
theorem flats_get : ∀ {cs : List AV} {j : Nat} {a : AV}, flats cs = true → cs[j]? = some a → a.flat = true
  | [], j, a, _, h => by simp at h
  | c :: cs, 0, a, hf, h => by simp only [flats, Bool.and_eq_true] at hf; simp at h; subst h; exact hf.1
  | c :: cs, j + 1, a, hf, h => by simp only [flats, Bool.and_eq_true] at hf; exact flats_get hf.2 (by simpa using h)
theorem relObj_flat {b n : Nat} {o : AObj} (hf : o.flat = true) (h : RelObj Γ Pr w b n o) : RelObj Γ Pr' w b n o := by
  cases o with
  | cells T cs =>
    obtain ⟨c, h1, h2, h3, h4⟩ := h
    refine ⟨c, h1, h2, h3, fun j a ha => ?_⟩
    obtain ⟨v, h5, h6⟩ := h4 j a ha
    exact ⟨v, h5, relV_flat (flats_get (by simpa [AObj.flat] using hf) ha) h6⟩
  | siter => exact h
  | dfr => exact h
  | dead => exact h
  | map es => simp [AObj.flat] at hf
  | loop l => simp [AObj.flat] at hf
end
def flatH : Heap → Bool
  | [] => true
  | o :: H => o.flat && flatH H
theorem flatH_get : ∀ {H : Heap} {i : Nat} {o : AObj}, flatH H = true → H[i]? = some o → o.flat = true
  | [], i, o, _, h => by simp at h
  | p :: H, 0, o, hf, h => by simp only [flatH, Bool.and_eq_true] at hf; simp at h; subst h; exact hf.1
  | p :: H, i + 1, o, hf, h => by simp only [flatH, Bool.and_eq_true] at hf; exact flatH_get hf.2 (by simpa using h)
/-- **Memory lent to a call, that keeps nothing of it.** -/
theorem CallP.lend {P : Program} {f : FuncId} {args : List AV} {H : Heap} {k k' : AV → Heap → Prop} {l T : Nat} {ds : List RD} (hl : H[l]? = some (.cells T (ds.map .ro))) (h : CallP P f (frzs l ds args) (H.set l .dead) k)
    (hk : ∀ r H', k r H' → r.flat = true ∧ flatH H' = true ∧ (H'[l]?).map AObj.isDead = some true ∧ k' r (H'.set l (.cells T (ds.map .ro)))) : CallP P f args H k' := by
  constructor
  intro Γ Pr w vs hs hv
  obtain ⟨b, n, hg, hnp, hro⟩ := hs.obj l _ hl rfl
  have hlive : live H l := ⟨_, hl, rfl⟩
  have hs1 := hs.protect hl rfl hg
  refine (h.run Γ (fun c => Pr c ∨ c = b) w vs hs1 (frzs_ok hg hro (hv.mono ⟨[], by simp⟩ (fun _ h => .inl h) (fun _ _ => rfl)))).mono ?_
  rintro v w' ⟨r, H', Γ', Pr', he, hs', hr, hk0⟩
  obtain ⟨hfr, hfH, hdead, hk'⟩ := hk r H' hk0
  have hlt : l < H'.length := by
    cases hx : H'[l]? with
    | none => rw [hx] at hdead; simp at hdead
    | some o => exact (List.getElem?_eq_some_iff.1 hx).1
  have hg' : Γ'[l]? = some (b, n) := vl_ext he.vl hg
  have hbs : b < w.heap.size := (hs.blk hlive hg).1
  have hsub : ∀ j, live (H.set l .dead) j → live H j ∧ l ≠ j := by
    rintro j ⟨p, hp, hpd⟩
    rw [List.getElem?_set] at hp
    split at hp
    · split at hp
      · simp only [Option.some.injEq] at hp; subst hp; simp [AObj.isDead] at hpd
      · cases hp
    · rename_i e; exact ⟨⟨p, hp, hpd⟩, e⟩
  have hkeep : w'.heap[b]? = w.heap[b]? := hs1.keeps he b (.inr rfl)
  have hkp : ∀ c, Pr c → w'.heap[c]? = w.heap[c]? := fun c hc => hs1.keeps he c (.inl hc)
  have hl' : ∀ j, live (H'.set l (.cells T (ds.map .ro))) j → j = l ∨ (l ≠ j ∧ live H' j) := by
    rintro j ⟨p, hp, hpd⟩
    by_cases e : l = j
    · exact .inl e.symm
    · rw [List.getElem?_set, if_neg e] at hp
      exact .inr ⟨e, p, hp, hpd⟩
  have hnb : ∀ j n', l ≠ j → live H' j → Γ'[j]? ≠ some (b, n') := by
    intro j n' hj hlj hgj
    obtain ⟨o, ho, hd⟩ := hlj
    obtain ⟨b', m', hgb, hnpb, _⟩ := hs'.obj j o ho hd
    rw [hgj] at hgb
    simp only [Option.some.injEq, Prod.mk.injEq] at hgb
    exact hnpb (he.pr _ (.inr hgb.1.symm))
  refine ⟨r, H'.set l (.cells T (ds.map .ro)), Γ', fun c => Pr' c ∧ c ≠ b, ?_, ⟨?_, ?_, ?_, fun c hc => hs'.prlt c hc.1⟩, relV_flat hfr hr, hk'⟩
  · refine ⟨he.os, he.tape, he.output, he.size, he.vl, fun c hc => ⟨he.pr c (.inl hc), fun e => hnp (e ▸ hc)⟩, fun c hc => ?_, ?_, ?_⟩
    · rcases he.prNew c hc.1 with (h | h) | h
      · exact .inl h
      · exact absurd h hc.2
      · exact .inr h
    · intro j c m hj hgj
      rcases hl' j hj with rfl | ⟨hne, hj⟩
      · rw [hg'] at hgj
        simp only [Option.some.injEq, Prod.mk.injEq] at hgj
        exact .inr ⟨j, n, hlive, by rw [hg]; simp [hgj.1]⟩
      · rcases he.own j c m hj hgj with h | ⟨i, n', hi, hgi⟩
        · exact .inl h
        · exact .inr ⟨i, n', (hsub i hi).1, hgi⟩
    · intro c hc hno
      exact he.frame c hc fun i n' hi hgi => hno i n' (hsub i hi).1 hgi
  · simp [hs'.len]
  · intro j o ho hd
    rw [List.getElem?_set] at ho
    split at ho
    · rename_i e
      subst e
      try rw [if_pos hlt] at ho
      simp only [Option.some.injEq] at ho
      subst ho
      refine ⟨b, n, hg', fun h => h.2 rfl, ?_⟩
      exact hro.mono he.vl (fun c hc => ⟨he.pr c (.inl hc), fun e => hnp (e ▸ hc)⟩) hkp hkeep
    · obtain ⟨c, m, hgc, hnpc, hrc⟩ := hs'.obj j o ho hd
      exact ⟨c, m, hgc, fun h => hnpc h.1, relObj_flat (flatH_get hfH ho) hrc⟩
  · intro i j c n' m hi0 hj0 hgi hgj
    rcases hl' i hi0 with rfl | ⟨hnei, hi⟩
    · rcases hl' j hj0 with rfl | ⟨hnej, hj⟩
      · rfl
      · rw [hg'] at hgi
        simp only [Option.some.injEq, Prod.mk.injEq] at hgi
        exact (hnb j m hnej hj (by rw [hgi.1]; exact hgj)).elim
    · rcases hl' j hj0 with rfl | ⟨hnej, hj⟩
      · rw [hg'] at hgj
        simp only [Option.some.injEq, Prod.mk.injEq] at hgj
        exact (hnb i n' hnei hi (by rw [hgj.1]; exact hgi)).elim
      · exact hs'.inj i j c n' m hi hj hgi hgj
end Go.Ab
