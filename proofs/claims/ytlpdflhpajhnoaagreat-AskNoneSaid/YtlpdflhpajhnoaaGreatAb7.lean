/- The abstract layer, part 7: parts of slices; what is read of a slice; append, copy; lengths, conversions. -/
import Derived.Test.YtlpdflhpajhnoaaGreatAb6
namespace Go.Ab

section
variable {P : Program} {tt : TyT} {Γ : VL} {Pr : Nat → Prop} {H : Heap} {w : World} {T : Tm} {tmps : Array Value} {ds : List Deferred} {nt : Nat}

def RelO (Γ : VL) (Pr : Nat → Prop) (w : World) : Option AV → Option Value → Prop
  | none, v => v = none
  | some a, v => ∃ u, v = some u ∧ RelV Γ Pr w a u
theorem optEvK_ok (hT : RelT Γ Pr w nt T tmps) {x : Option Operand} {k : Option AV → Prop} (h : optEvK T x k) : ∃ a, RelO Γ Pr w a (x.map (Act.eval ⟨tmps, ds⟩)) ∧ k a := by
  unfold optEvK at h
  split at h
  · exact ⟨none, rfl, h⟩
  · obtain ⟨a, ha, h⟩ := evK_ok (ds := ds) hT h
    exact ⟨some a, ⟨_, rfl, ha⟩, h⟩
theorem boundK_some {a : AV} {d most : Nat} {k : Nat → Prop} (h : boundK (some a) d most k) : ∃ ki n, a = .ro (.int ki n) ∧ 0 ≤ n ∧ n ≤ (most : Int) ∧ k n.toNat := by
  unfold boundK at h
  split at h
  · rename_i e; cases e
  · rename_i ki n e
    cases e
    obtain ⟨hg, h⟩ := guardP_iff.1 h
    simp only [decide_eq_true_eq] at hg
    exact ⟨ki, n, rfl, hg.1, hg.2, h⟩
  · exact h.elim
theorem boundK_none {d most : Nat} {k : Nat → Prop} (h : boundK none d most k) : k d := h
theorem run_sliceBound {ki : IntKind} {n : Int} {y : Nat} {c : BoundsCode} (h0 : 0 ≤ n) (h1 : n ≤ (y : Int)) : (Instr.sliceBound (.int ki n) y c).run P w = .ok n.toNat w := by
  simp [Instr.sliceBound, asIntOf, h0, h1]
/-- The bounds of a part: the real room may be greater than what is known of it. -/
theorem boundsK_ok {isS : Bool} {len cap most rcap : Nat} {lo hi mx : Option AV} {vlo vhi vmx : Option Value} {k : Nat → Nat → Nat → Prop} (hlo : RelO Γ Pr w lo vlo) (hhi : RelO Γ Pr w hi vhi) (hmx : RelO Γ Pr w mx vmx) (hl : len ≤ most) (hc : cap ≤ rcap) (hmr : most ≤ rcap)
    (h : boundsK len cap most lo hi mx k) : ∃ l h' m, (Instr.sliceBounds isS len rcap vlo vhi vmx).run P w = .ok (l, h', if mx.isSome then m else rcap) w ∧ l ≤ h' ∧ h' ≤ most ∧ (mx.isSome = true → h' ≤ m ∧ m ≤ cap) ∧ (mx.isSome = false → m = cap) ∧ k l h' m := by
  have low : ∀ {h' : Nat} {k' : Nat → Prop}, boundK lo 0 h' k' → ∃ l, l ≤ h' ∧ k' l ∧ ((vlo = none ∧ l = 0) ∨ ∃ v, vlo = some v ∧ ∀ c, (Instr.sliceBound v h' c).run P w = .ok l w) := by
    intro h' k' hb
    cases lo with
    | none => exact ⟨0, Nat.zero_le _, boundK_none hb, .inl ⟨hlo, rfl⟩⟩
    | some a =>
      obtain ⟨u, rfl, hu⟩ := hlo
      obtain ⟨ki, n, rfl, h0, h1, hk⟩ := boundK_some hb
      cases getInt hu
      exact ⟨n.toNat, by omega, hk, .inr ⟨_, rfl, fun c => run_sliceBound h0 h1⟩⟩
  unfold boundsK at h
  split at h
  · cases (show vmx = none from hmx)
    cases hi with
    | none =>
      cases (show vhi = none from hhi)
      obtain ⟨l, hle, hk, hr⟩ := low (boundK_none h)
      refine ⟨l, len, cap, ?_, hle, hl, by simp, fun _ => rfl, hk⟩
      rcases hr with ⟨rfl, rfl⟩ | ⟨v, rfl, hr⟩
      · simp [Instr.sliceBounds]
      · simp [Instr.sliceBounds, hr]
    | some a =>
      obtain ⟨u, rfl, hu⟩ := hhi
      obtain ⟨ki, n, rfl, h0, h1, hk⟩ := boundK_some h
      cases getInt hu
      obtain ⟨l, hle, hk, hr⟩ := low hk
      have hb : ∀ c, (Instr.sliceBound (.int ki n) rcap c).run P w = .ok n.toNat w := fun c => run_sliceBound h0 (by omega)
      refine ⟨l, n.toNat, cap, ?_, hle, by omega, by simp, fun _ => rfl, hk⟩
      rcases hr with ⟨rfl, rfl⟩ | ⟨v, rfl, hr⟩
      · simp [Instr.sliceBounds, hb]
      · simp [Instr.sliceBounds, hb, hr]
  · rename_i a b
    obtain ⟨u, rfl, hu⟩ := hmx
    obtain ⟨u', rfl, hu'⟩ := hhi
    obtain ⟨ki, n, rfl, h0, h1, hk⟩ := boundK_some h
    cases getInt hu
    obtain ⟨kj, n', rfl, h2, h3, hk⟩ := boundK_some hk
    cases getInt hu'
    obtain ⟨l, hle, hk, hr⟩ := low hk
    have hb : ∀ c, (Instr.sliceBound (.int ki n) rcap c).run P w = .ok n.toNat w := fun c => run_sliceBound h0 (by omega)
    have hb' : ∀ c, (Instr.sliceBound (.int kj n') n.toNat c).run P w = .ok n'.toNat w := fun c => run_sliceBound h2 (by omega)
    refine ⟨l, n'.toNat, n.toNat, ?_, hle, by omega, fun _ => by omega, by simp, hk⟩
    rcases hr with ⟨rfl, rfl⟩ | ⟨v, rfl, hr⟩
    · simp [Instr.sliceBounds, hb, hb']
    · simp [Instr.sliceBounds, hb, hb', hr]
  · exact h.elim

theorem mulle {a b c : Nat} (h : a ≤ b) : a * c ≤ b * c := Nat.mul_le_mul_right c h
theorem sliceVal_own {id off sz b n c l h m : Nat} {cap : Option Nat} (hg : Γ[id]? = some (b, n)) (hroom : off + c * sz ≤ n) (hlh : l ≤ h) (hh : h ≤ m) (hm : m ≤ c) (hne : m ≠ l) (hcap : ∀ c0, cap = some c0 → m - l = c0) :
    RelV Γ Pr w (.sl sz id (off + l * sz) (h - l) cap) (.slice (if m = l then some ⟨b, off, none⟩ else (some (⟨b, off, none⟩ : Addr)).map (·.add (l * sz))) (h - l) (m - l)) := by
  refine ⟨b, n, m - l, hg, ?_, by omega, ?_, hcap⟩
  · rw [if_neg hne]; simp [add_plain]
  · have h1 : l * sz + (m - l) * sz = m * sz := by rw [← Nat.add_mul]; congr 1; omega
    have h2 := mulle (c := sz) hm
    omega
theorem sliceVal_nil {esz l h m : Nat} {A : Option Addr} {cap : Option Nat} (hlh : l ≤ h) (hh : h ≤ m) (he : l = h) (hcap : ∀ c0, cap = some c0 → m - l = c0) : RelV Γ Pr w (.ro (.slice esz [] cap)) (.slice A (h - l) (m - l)) :=
  ⟨A, h - l, m - l, rfl, by subst he; simp, by omega, hcap, .inl rfl⟩
theorem sliceVal_ro {sz n l h m : Nat} {cs : List RD} {A : Option Addr} {cap : Option Nat} (hn : n * sz = cs.length) (hA : cs = [] ∨ ∃ b off, A = some ⟨b, off, none⟩ ∧ Pr b ∧ RelDs Pr w cs b off) (hpos : 0 < sz) (hlh : l ≤ h) (hh : h ≤ n) (hm : h ≤ m) (hcap : ∀ c0, cap = some c0 → m - l = c0) :
    RelV Γ Pr w (.ro (.slice sz ((cs.take (h * sz)).drop (l * sz)) cap)) (.slice (if m = l then A else A.map (·.add (l * sz))) (h - l) (m - l)) := by
  have h1 := mulle (c := sz) hh
  have h2 := mulle (c := sz) hlh
  have h3 : (h - l) * sz = h * sz - l * sz := Nat.sub_mul h l sz
  have hlen : ((cs.take (h * sz)).drop (l * sz)).length = (h - l) * sz := by simp; omega
  refine ⟨_, h - l, m - l, rfl, hlen.symm, by omega, hcap, ?_⟩
  by_cases he : l = h
  · left
    apply List.eq_nil_of_length_eq_zero
    rw [hlen, he]; simp
  · right
    rcases hA with rfl | ⟨b, off, rfl, hp, hr⟩
    · exfalso
      simp only [List.length_nil] at hn
      have : n = 0 := by
        rcases Nat.mul_eq_zero.1 hn with h0 | h0 <;> omega
      omega
    · rw [if_neg (by omega)]
      exact ⟨b, off + l * sz, by simp [add_plain], hp, relDs_drop (relDs_take hr _) _⟩
theorem relD_sz {Pr : Nat → Prop} {w : World} {sz esz : Nat} {cs : List RD} {cap : Option Nat} {v : Value} (h : szOK sz esz cs = true) (hx : RelV Γ Pr w (.ro (.slice sz cs cap)) v) : RelV Γ Pr w (.ro (.slice esz cs cap)) v := by
  unfold szOK at h
  split at h
  · rename_i e
    have e := Nat.eq_of_beq_eq_true e
    subst e
    exact hx
  · split at h
    · obtain ⟨A, n, c, rfl, hn, h1, h2, h3⟩ := hx
      have hp : 0 < sz := by simp [Nat.blt] at h; omega
      simp only [List.length_nil] at hn
      have hn0 : n = 0 := by rcases Nat.mul_eq_zero.1 hn with h0 | h0 <;> omega
      subst hn0
      exact ⟨A, 0, c, rfl, by simp, h1, h2, h3⟩
    · cases h
theorem sliceK_ok {esz e t : Nat} {ie : TypeInfo} (hu : P.underlying t = some (.slice e)) (hie : P.info? e = some ie) (hse : ie.size = esz) (hpos : 0 < esz) {x : AV} {vx : Value} {lo hi mx : Option AV} {vlo vhi vmx : Option Value} {k : AV → Prop} (hx : RelV Γ Pr w x vx)
    (hlo : RelO Γ Pr w lo vlo) (hhi : RelO Γ Pr w hi vhi) (hmx : RelO Γ Pr w mx vmx) (h : sliceK esz x lo hi mx k) : ∃ y v, (Instr.slice t vx vlo vhi vmx).run P w = .ok v w ∧ RelV Γ Pr w y v ∧ k y := by
  have run : ∀ {A : Option Addr} {n c l h' m : Nat}, (Instr.sliceBounds true n c vlo vhi vmx).run P w = .ok (l, h', m) w →
      (Instr.slice t (.slice A n c) vlo vhi vmx).run P w = .ok (.slice (if m = l then A else A.map (·.add (l * esz))) (h' - l) (m - l)) w := by
    intro A n c l h' m hb
    simp [Instr.slice, run_underlying' hu, hb, sizeOf, typeInfo, hie, hse]
  unfold sliceK at h
  split at h
  · rename_i sz id off len c
    obtain ⟨hsz, h⟩ := guardP_iff.1 h
    simp only [beq_iff_eq] at hsz
    subst hsz
    obtain ⟨b, n, c', hg, rfl, hlc, hroom, hcc⟩ := hx
    cases hcc c rfl
    obtain ⟨l, h', m, hb, h1, h2, h3, h4, hk⟩ := boundsK_ok (P := P) (isS := true) hlo hhi hmx hlc (Nat.le_refl c) (Nat.le_refl c) h
    have hm : (if mx.isSome then m else c) = m := by cases e : mx.isSome <;> simp_all
    rw [hm] at hb
    have hhm : h' ≤ m ∧ m ≤ c := by cases e : mx.isSome <;> simp_all
    split at hk
    · rename_i hd
      simp only [decide_eq_true_eq] at hd
      exact ⟨_, _, run hb, sliceVal_nil h1 hhm.1 (by omega) (fun c0 hc => by cases hc; omega), hk⟩
    · rename_i hd
      simp only [decide_eq_false_iff_not] at hd
      exact ⟨_, _, run hb, sliceVal_own hg hroom h1 hhm.1 hhm.2 hd (fun c0 hc => by cases hc; rfl), hk⟩
  · rename_i sz id off len
    obtain ⟨hsz, h⟩ := guardP_iff.1 h
    simp only [beq_iff_eq] at hsz
    subst hsz
    obtain ⟨b, n, c, hg, rfl, hlc, hroom, _⟩ := hx
    split at h
    · obtain ⟨l, h', m, hb, h1, h2, _, _, hk⟩ := boundsK_ok (P := P) (isS := true) hlo hhi hmx (Nat.le_refl len) hlc hlc h
      simp only [Option.isSome_none, Bool.false_eq_true, if_false] at hb
      split at hk
      · rename_i hd
        simp only [decide_eq_true_eq] at hd
        subst hd
        refine ⟨_, _, run hb, ?_, hk⟩
        exact ⟨b, n, c, hg, by simp [Addr.add], by omega, hroom, fun c0 hc => by cases hc⟩
      · rename_i hd
        simp only [decide_eq_false_iff_not] at hd
        split at hk
        · rename_i hd'
          simp only [decide_eq_true_eq] at hd'
          exact ⟨_, _, run hb, sliceVal_nil h1 (by omega) hd' (fun c0 hc => by cases hc), hk⟩
        · rename_i hd'
          simp only [decide_eq_false_iff_not] at hd'
          exact ⟨_, _, run hb, sliceVal_own hg hroom h1 (by omega) (Nat.le_refl c) (by omega) (fun c0 hc => by cases hc), hk⟩
    · obtain ⟨l, h', m, hb, h1, h2, h3, _, hk⟩ := boundsK_ok (P := P) (isS := true) hlo hhi hmx (Nat.le_refl len) hlc hlc h
      simp only [Option.isSome_some, if_true] at hb h3
      have h3 := h3 trivial
      split at hk
      · rename_i hd
        simp only [decide_eq_true_eq] at hd
        exact ⟨_, _, run hb, sliceVal_nil h1 h3.1 (by omega) (fun c0 hc => by cases hc; omega), hk⟩
      · rename_i hd
        simp only [decide_eq_false_iff_not] at hd
        exact ⟨_, _, run hb, sliceVal_own hg hroom h1 h3.1 (by omega) hd (fun c0 hc => by cases hc; rfl), hk⟩
  · rename_i sz cs c
    obtain ⟨hsz, h⟩ := guardP_iff.1 h
    have hx := relD_sz hsz hx
    clear hsz
    obtain ⟨A, n, c', rfl, hn, hnc, hcc, hA⟩ := hx
    cases hcc c rfl
    have hdiv : cs.length / esz = n := by rw [← hn]; exact Nat.mul_div_cancel _ hpos
    rw [hdiv] at h
    obtain ⟨l, h', m, hb, h1, h2, h3, h4, hk⟩ := boundsK_ok (P := P) (isS := true) hlo hhi hmx (Nat.le_refl n) (Nat.le_refl c) hnc h
    have hm : (if mx.isSome then m else c) = m := by cases e : mx.isSome <;> simp_all
    rw [hm] at hb
    have hhm : h' ≤ m := by cases e : mx.isSome <;> simp_all <;> omega
    exact ⟨_, _, run hb, sliceVal_ro hn hA hpos h1 h2 hhm (fun c0 hc => by cases hc; rfl), hk⟩
  · rename_i sz cs
    obtain ⟨hsz, h⟩ := guardP_iff.1 h
    have hx := relD_sz hsz hx
    clear hsz
    obtain ⟨A, n, c, rfl, hn, hnc, _, hA⟩ := hx
    have hdiv : cs.length / esz = n := by rw [← hn]; exact Nat.mul_div_cancel _ hpos
    rw [hdiv] at h
    split at h
    · obtain ⟨l, h', m, hb, h1, h2, _, _, hk⟩ := boundsK_ok (P := P) (isS := true) hlo hhi hmx (Nat.le_refl n) hnc hnc h
      simp only [Option.isSome_none, Bool.false_eq_true, if_false] at hb
      exact ⟨_, _, run hb, sliceVal_ro hn hA hpos h1 h2 (by omega) (fun c0 hc => by cases hc), hk⟩
    · obtain ⟨l, h', m, hb, h1, h2, h3, _, hk⟩ := boundsK_ok (P := P) (isS := true) hlo hhi hmx (Nat.le_refl n) hnc hnc h
      simp only [Option.isSome_some, if_true] at hb h3
      have h3 := h3 trivial
      exact ⟨_, _, run hb, sliceVal_ro hn hA hpos h1 h2 h3.1 (fun c0 hc => by cases hc; rfl), hk⟩
  · exact h.elim
theorem sliceOpK_ok (hP : TyOK P tt) (hs : Sim Γ Pr H w) {t : Nat} {x : AV} {vx : Value} {lo hi mx : Option AV} {vlo vhi vmx : Option Value} {k : AV → Prop} (hx : RelV Γ Pr w x vx)
    (hlo : RelO Γ Pr w lo vlo) (hhi : RelO Γ Pr w hi vhi) (hmx : RelO Γ Pr w mx vmx) (h : sliceOpK tt H t x lo hi mx k) : ∃ y v, (Instr.sliceAt t vx vlo vhi vmx).run P w = .ok v w ∧ RelV Γ Pr w y v ∧ k y := by
  unfold sliceOpK at h
  split at h
  · rename_i e esz eb ez hd
    obtain ⟨u, hu, _, rfl, ie, z, hie, hse, _, _, _, _, hpos, _⟩ := (hP t _ hd).und
    obtain ⟨y, v, h1, h2, h3⟩ := sliceK_ok hu hie hse hpos hx hlo hhi hmx h
    exact ⟨y, v, by simp [Instr.sliceAt, run_underlying' hu, h1], h2, h3⟩
  · rename_i hd
    obtain ⟨u, hu, _, rfl⟩ := (hP t _ hd).und
    split at h
    · rename_i s
      cases getStr hx
      have h' : boundsK s.size s.size s.size lo hi none (fun l h _ => k (.ro (.str (s.extract l h)))) := h
      obtain ⟨l, h', m, hb, _, _, _, _, hk⟩ := boundsK_ok (P := P) (isS := false) hlo hhi hmx (Nat.le_refl _) (Nat.le_refl _) (Nat.le_refl _) h'
      cases (show vmx = none from hmx)
      exact ⟨_, _, by simp [Instr.sliceAt, Instr.slice, run_underlying' hu, hb], mkStr, hk⟩
    · exact h.elim
  · rename_i n e esz zs hd
    obtain ⟨u, hu, _, rfl, ⟨ie, hie, hse⟩, hpos⟩ := (hP t _ hd).und
    obtain ⟨i, z, hi', hsz, hz, hzs, hza, _⟩ := (hP t _ hd).info
    split at h
    · rename_i id off
      obtain ⟨b, m', hg, rfl⟩ := hx
      obtain ⟨T', cs, b', n', hH, hg', hr, h⟩ := sim_cells hs h
      rw [hg] at hg'
      simp only [Option.some.injEq, Prod.mk.injEq] at hg'
      obtain ⟨rfl, rfl⟩ := hg'
      obtain ⟨hgd, h⟩ := guardP_iff.1 h
      simp only [decide_eq_true_eq] at hgd
      obtain ⟨_, _, _, hcl, _⟩ := hr
      obtain ⟨l, h', m, hb, h1, h2, h3, h4, hk⟩ := boundsK_ok (P := P) (isS := false) hlo hhi hmx (Nat.le_refl n) (Nat.le_refl n) (Nat.le_refl n) h
      have hm : (if mx.isSome then m else n) = m := by cases e : mx.isSome <;> simp_all
      rw [hm] at hb
      have hhm : h' ≤ m ∧ m ≤ n := by cases e : mx.isSome <;> simp_all
      obtain ⟨hlm, hk⟩ := guardP_iff.1 hk
      simp only [decide_eq_true_eq] at hlm
      exact ⟨_, _, by simp [Instr.sliceAt, run_underlying' hu, Instr.sureAddr, hb, sizeOf, typeInfo, hie, hse, show ¬ m = l from by omega], sliceVal_own (c := n) hg (by omega) h1 hhm.1 hhm.2 (by omega) (fun c0 hc => by cases hc; rfl), hk⟩
    · exact h.elim
  · exact h.elim

/-! ### What is read of a slice -/
/-- What is read: so many elements; the first ones of them are read likewise. -/
theorem cell_same {w' : World} (h : w'.heap = w.heap) (a : Addr) : w'.cell? a = w.cell? a := by simp [World.cell?, h]
theorem cellsFromK_ok (hs : Sim Γ Pr H w) {esz : Nat} (hpos : 0 < esz) {x : AV} {vx : Value} {k : Nat → List AV → Prop} (hx : RelV Γ Pr w x vx) (h : cellsFromK H esz x k) :
    ∃ (n : Nat) (as : List AV) (vs : List Value), (Builtin.lenOf vx).run P w = .ok n w ∧ RelVs Γ Pr w as vs ∧ vs.length = n * esz ∧ (∀ w', w'.heap = w.heap → ∀ m, m ≤ n → (Builtin.firstCells esz m vx).run P w' = .ok (vs.take (m * esz)).toArray w') ∧ k n as := by
  unfold cellsFromK at h
  split at h
  · rename_i sz id off len cap
    obtain ⟨hsz, h⟩ := guardP_iff.1 h
    simp only [beq_iff_eq] at hsz
    subst hsz
    obtain ⟨b, n, c, hg, rfl, hlc, hroom, _⟩ := hx
    obtain ⟨T', cs, b', n', hH, hg', hr, h⟩ := sim_cells hs h
    rw [hg] at hg'
    simp only [Option.some.injEq, Prod.mk.injEq] at hg'
    obtain ⟨rfl, rfl⟩ := hg'
    obtain ⟨h1, h⟩ := dropK_iff.1 h
    obtain ⟨h2, h⟩ := takeK_iff.1 h
    simp only [List.length_drop] at h2
    obtain ⟨vs, g1, g2, g3⟩ := relObj_cells hr (off := off) (m := len * sz) (by omega)
    refine ⟨len, _, vs, rfl, g3, g1, fun w' hw' m hm => ?_, h⟩
    have hmm := mulle (c := sz) hm
    exact run_loadCells' (by simp; omega) fun j v hj => (cell_same hw' _).trans (g2 j v (by rw [List.getElem?_take] at hj; split at hj <;> simp_all))
  · rename_i sz cs cap
    obtain ⟨hsz, h⟩ := guardP_iff.1 h
    have hx := relD_sz hsz hx
    clear hsz
    obtain ⟨A, n, c, rfl, hn, hnc, _, hA⟩ := hx
    have hdiv : cs.length / esz = n := by rw [← hn]; exact Nat.mul_div_cancel _ hpos
    have h := mapK_iff.1 h
    rw [hdiv] at h
    rcases hA with rfl | ⟨b, off, rfl, hp, hr⟩
    · simp only [List.length_nil] at hn
      have hn0 : n = 0 := by rcases Nat.mul_eq_zero.1 hn with h0 | h0 <;> omega
      subst hn0
      refine ⟨0, [], [], rfl, rfl, by simp, fun w' hw' m hm => ?_, by simpa using h⟩
      have : m = 0 := by omega
      subst this
      cases A <;> simp [Builtin.firstCells, loadCells, loadCellsFrom]
    · obtain ⟨vs, g1, g2, g3⟩ := relVs_of_relDs (Γ := Γ) hr
      refine ⟨n, _, vs, rfl, g3, by omega, fun w' hw' m hm => ?_, h⟩
      have hmm := mulle (c := esz) hm
      exact run_loadCells' (by simp; omega) fun j v hj => (cell_same hw' _).trans (g2 j v (by rw [List.getElem?_take] at hj; split at hj <;> simp_all))
  · rename_i s
    obtain ⟨hsz, h⟩ := guardP_iff.1 h
    simp only [beq_iff_eq] at hsz
    subst hsz
    cases getStr hx
    refine ⟨s.size, _, s.data.toList.map (fun b => .int .u8 b.toNat), rfl, ?_, by rw [List.length_map, Array.length_toList, Nat.mul_one]; rfl, fun w' hw' m hm => ?_, h⟩
    · refine relVs_of_get (by simp) fun i a hi => ?_
      rw [List.getElem?_map] at hi ⊢
      cases hb : s.data.toList[i]? with
      | none => rw [hb] at hi; cases hi
      | some b => rw [hb] at hi; simp only [Option.map_some, Option.some.injEq] at hi ⊢; exact ⟨_, rfl, hi ▸ mkInt⟩
    · simp only [Builtin.firstCells, Sem.run_pure]
      congr 1
      apply Array.toList_inj.1
      simp [ByteArray.extract, ByteArray.copySlice]
  · exact h.elim
end
end Go.Ab
