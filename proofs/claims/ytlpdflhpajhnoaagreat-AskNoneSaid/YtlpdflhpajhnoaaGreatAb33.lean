/- The abstract layer, part 33: what is handed to a law, as data. -/
import Derived.Test.YtlpdflhpajhnoaaGreatAb32
import Derived.WideShapes
namespace Go.Ab

inductive Sh where
  | int (k : IntKind)
  | bool
  | sl (e : Sh)
  | st (l : List Sh)
  | arr (n : Nat) (e : Sh)
mutual
def Sh.size : Sh → Nat
  | .int _ => 1
  | .bool => 1
  | .sl _ => 1
  | .st l => Sh.sizes l
  | .arr n e => n * Sh.size e
def Sh.sizes : List Sh → Nat
  | [] => 0
  | s :: l => Sh.size s + Sh.sizes l
end
mutual
def Sh.okB (P : Program) : Sh → TypeId → Bool
  | .int k, t => (match P.underlying t with | some (.int k') => kindEq k k' | _ => false)
  | .bool, t => (match P.underlying t with | some .bool => true | _ => false)
  | .sl e, t => (match P.underlying t with | some (.slice te) => Sh.okB P e te && Nat.beq (P.cellsOf te) e.size && Nat.blt 0 e.size | _ => false)
  | .st l, t => (match P.underlying t with | some (.struct fs) => Sh.okBs P l 0 fs.toList && Nat.beq (P.cellsOf t) (Sh.sizes l) | _ => false)
  | .arr n e, t => (match P.underlying t with | some (.array m te) => Nat.beq m n && Sh.okB P e te && Nat.beq (P.cellsOf te) e.size && Nat.beq (P.cellsOf t) (n * e.size) | _ => false)
def Sh.okBs (P : Program) : List Sh → Nat → List Field → Bool
  | [], _, [] => true
  | s :: l, off, f :: r => Nat.beq f.offset off && Sh.okB P s f.type && Nat.beq (P.cellsOf f.type) s.size && Sh.okBs P l (off + s.size) r
  | _, _, _ => false
end
/-- So many, one behind the other. -/
def Els (p : List RD → Prop) : Nat → List RD → Prop
  | 0, ds => ds = []
  | n + 1, ds => ∃ a r, ds = a ++ r ∧ p a ∧ Els p n r
mutual
def Sh.D : Sh → List RD → Prop
  | .int k, ds => ∃ n, ds = [.int k n] ∧ (Lit.int k n).wf = true
  | .bool, ds => ∃ b, ds = [.bool b]
  | .sl e, ds => ∃ n cs c, ds = [.slice (Sh.size e) cs (some c)] ∧ Els (Sh.D e) n cs ∧ cs.length = n * Sh.size e ∧ n ≤ c ∧ c ≤ maxLen
  | .st l, ds => Sh.Ds l ds
  | .arr n e, ds => Els (Sh.D e) n ds
def Sh.Ds : List Sh → List RD → Prop
  | [], ds => ds = []
  | s :: l, ds => ∃ a r, ds = a ++ r ∧ Sh.D s a ∧ Sh.Ds l r
end
def Sh.av (s : Sh) (ds : List RD) : AV := match s with
  | .st _ => .agg (ds.map .ro)
  | .arr .. => .agg (ds.map .ro)
  | _ => match ds with | [d] => .ro d | _ => .any

theorem relDl_append {Pr : Nat → Prop} {w : World} : ∀ {a b : List RD} {x y : List Value}, RelDl Pr w a x → RelDl Pr w b y → RelDl Pr w (a ++ b) (x ++ y)
  | [], b, x, y, h, k => by rw [show x = [] from h]; exact k
  | d :: a, b, x, y, ⟨v, vs, e, h1, h2⟩, k => by subst e; exact ⟨v, _, rfl, h1, relDl_append h2 k⟩
theorem relDl_length {Pr : Nat → Prop} {w : World} : ∀ {a : List RD} {x : List Value}, RelDl Pr w a x → x.length = a.length
  | [], x, h => by rw [show x = [] from h]; rfl
  | d :: a, x, ⟨v, vs, e, h1, h2⟩ => by subst e; simp [relDl_length h2]
theorem relDl_get {Pr : Nat → Prop} {w : World} : ∀ {a : List RD} {x : List Value}, RelDl Pr w a x → ∀ (i : Nat) (d : RD), a[i]? = some d → ∃ v, x[i]? = some v ∧ RelD Pr w d v
  | [], x, _, i, d, h => by simp at h
  | d :: a, x, ⟨v, vs, e, h1, h2⟩, 0, d', h => by simp at h; subst h e; exact ⟨v, rfl, h1⟩
  | d :: a, x, ⟨v, vs, e, h1, h2⟩, i + 1, d', h => by subst e; exact relDl_get h2 i d' (by simpa using h)
theorem relVs_ro {Γ : VL} {Pr : Nat → Prop} {w : World} : ∀ {a : List RD} {x : List Value}, RelDl Pr w a x → RelVs Γ Pr w (a.map .ro) x
  | [], x, h => h
  | d :: a, x, ⟨v, vs, e, h1, h2⟩ => ⟨v, vs, e, h1, relVs_ro h2⟩
section
variable {H : Type} {enc : TypeId × Value → H} {P : Program} {w : World} {sp : Nat → Bool} {held : Bool}
abbrev Old (w : World) : Nat → Prop := fun b => b < w.heap.size
theorem els_app {p : List RD → Prop} : ∀ {n : Nat} {a b : List RD}, Els p n a → p b → Els p (n + 1) (a ++ b)
  | 0, a, b, h, k => by rw [show a = [] from h]; exact ⟨b, [], by simp, k, rfl⟩
  | n + 1, a, b, ⟨x, r, e, h1, h2⟩, k => by subst e; exact ⟨x, r ++ b, by simp, h1, els_app h2 k⟩
theorem addr_add_add (a : Addr) (m n : Nat) : (a.add m).add n = a.add (m + n) := by
  unfold Addr.add
  by_cases h1 : m = 0
  · subst h1
    by_cases h2 : n = 0 <;> simp [h2]
  · by_cases h2 : n = 0
    · subst h2
      simp [h1]
    · rw [if_neg h1, if_neg h2, if_neg (by omega)]
      simp [Nat.add_assoc]
theorem addr_add_plain (b o n : Nat) : (⟨b, o, none⟩ : Addr).add n = ⟨b, o + n, none⟩ := by
  unfold Addr.add
  split
  · rename_i h
    subst h
    rfl
  · rfl
theorem addr_add_block (a : Addr) (n : Nat) : (a.add n).block = a.block := by
  unfold Addr.add
  split <;> rfl
theorem cell_plain {a : Addr} {n : Nat} {v : Value} (h : w.cell? (a.add n) = some v) : a.block < w.heap.size ∧ (n = 0 → a.spot = none) := by
  unfold World.cell? at h
  rw [addr_add_block] at h
  split at h
  · rename_i c x y hb
    refine ⟨?_, ?_⟩
    · exact (Array.getElem?_eq_some_iff.1 hb).1
    · rintro rfl
      cases hs : a.spot with
      | none => rfl
      | some s =>
        have : (a.add 0) = a := rfl
        rw [this, hs] at h
        simp at h
  · cases h
mutual
theorem open_sh : ∀ {s : Sh} {t : TypeId} {cs : List Value} {fuel : Nat} {x : DataW H × List MemPlace}, Sh.okB P s t = true → DataW.trod enc P w 0 sp held fuel t cs = some x → ∃ ds, RelDl (Old w) w ds cs ∧ s.D ds ∧ ds.length = s.size
  | .int k, t, cs, fuel, x, hok, h => by
    unfold Sh.okB at hok
    split at hok
    · rename_i k' hu
      have e := kindEq_eq hok
      subst e
      cases fuel with
      | zero => simp [DataW.trod] at h
      | succ n =>
        unfold DataW.trod at h
        rw [hu] at h
        split at h <;> first | (exfalso; simp_all; done) | skip
        rename_i k1 k2 m e0
        cases e0
        simp only [Option.ite_none_right_eq_some] at h
        obtain ⟨⟨h1, h2⟩, _⟩ := h
        subst h1
        exact ⟨[.int k2 m], ⟨_, [], rfl, rfl, rfl⟩, by simp only [Sh.D]; exact ⟨_, rfl, h2⟩, rfl⟩
    · cases hok
  | .bool, t, cs, fuel, x, hok, h => by
    unfold Sh.okB at hok
    split at hok
    · rename_i hu
      cases fuel with
      | zero => simp [DataW.trod] at h
      | succ n =>
        unfold DataW.trod at h
        rw [hu] at h
        split at h <;> simp_all
        exact ⟨[.bool _], ⟨_, [], rfl, rfl, rfl⟩, by simp only [Sh.D]; exact ⟨_, rfl⟩, rfl⟩
    · cases hok
  | .st l, t, cs, fuel, x, hok, h => by
    unfold Sh.okB at hok
    split at hok
    · rename_i fs hu
      simp only [Bool.and_eq_true] at hok
      obtain ⟨xs, n, rfl, rfl, hl, hxl, hf⟩ := DataW.trod_struct hu h
      have hc := Nat.eq_of_beq_eq_true hok.2
      obtain ⟨ds, h1, h2, h3⟩ := open_shs (cs := cs) (fuel := n) hok.1 (fun i f hi => by
        have := hf i f (by simpa using hi)
        have hlt : i < xs.length := by rw [hxl]; have := (List.getElem?_eq_some_iff.1 hi).1; simpa using this
        rw [List.getElem?_eq_getElem hlt] at this
        exact ⟨_, this⟩) (by omega)
      rw [List.drop_zero, List.take_of_length_le (by omega)] at h1
      exact ⟨ds, h1, by simp only [Sh.D]; exact h2, by simp only [Sh.size]; exact h3⟩
    · cases hok
  | .arr n e, t, cs, fuel, x, hok, h => by
    unfold Sh.okB at hok
    split at hok
    · rename_i m te hu
      simp only [Bool.and_eq_true] at hok
      obtain ⟨⟨⟨h1, h2⟩, h3⟩, h4⟩ := hok
      have h1 := Nat.eq_of_beq_eq_true h1
      have h3 := Nat.eq_of_beq_eq_true h3
      have h4 := Nat.eq_of_beq_eq_true h4
      subst h1
      obtain ⟨xs, q, rfl, rfl, hl, hxl, hf⟩ := DataW.trod_array hu h
      have key : ∀ j, j ≤ m → ∃ ds, RelDl (Old w) w ds (cs.take (j * e.size)) ∧ Els (Sh.D e) j ds ∧ ds.length = j * e.size := by
        intro j
        induction j with
        | zero => intro _; exact ⟨[], by simp [RelDl], rfl, by simp⟩
        | succ j ih =>
          intro hj
          obtain ⟨ds, g1, g2, g3⟩ := ih (by omega)
          have := hf j (by omega)
          rw [List.getElem?_eq_getElem (by omega : j < xs.length), h3] at this
          obtain ⟨d2, k1, k2, k3⟩ := open_sh h2 this
          refine ⟨ds ++ d2, ?_, els_app g2 k2, by simp [g3, k3, Nat.add_mul]⟩
          have e1 : (j + 1) * e.size = j * e.size + e.size := by rw [Nat.add_mul]; omega
          rw [e1, List.take_add]
          exact relDl_append g1 k1
      obtain ⟨ds, g1, g2, g3⟩ := key m (Nat.le_refl _)
      rw [List.take_of_length_le (by omega)] at g1
      exact ⟨ds, g1, by simp only [Sh.D]; exact g2, by simp only [Sh.size]; exact g3⟩
    · cases hok
  | .sl e, t, cs, fuel, x, hok, h => by
    unfold Sh.okB at hok
    split at hok
    · rename_i te hu
      simp only [Bool.and_eq_true] at hok
      obtain ⟨⟨h2, h3⟩, h4⟩ := hok
      have h3 := Nat.eq_of_beq_eq_true h3
      have h4 := lt_of_bit h4
      rcases DataW.trod_slice hu h with ⟨rfl, _⟩ | ⟨a, len, cap, elems, rest, n, rfl, rfl, rfl, _, hlc, hcm, hel, hf, _, _⟩
      · exact ⟨[.slice e.size [] (some 0)], ⟨_, [], rfl, ⟨none, 0, 0, rfl, by simp, Nat.le_refl _, fun c hc => by cases hc; rfl, .inl rfl⟩, rfl⟩, by simp only [Sh.D]; exact ⟨0, [], 0, rfl, rfl, by simp, Nat.le_refl _, Nat.zero_le _⟩, rfl⟩
      · have key : ∀ j, j ≤ len → ∃ ds, (∀ (i : Nat) (d : RD), ds[i]? = some d → a.block < w.heap.size ∧ (i = 0 → a.spot = none) ∧ ∃ v, w.cell? (a.add i) = some v ∧ RelD (Old w) w d v) ∧ Els (Sh.D e) j ds ∧ ds.length = j * e.size := by
          intro j
          induction j with
          | zero => intro _; exact ⟨[], fun i d hd => by simp at hd, rfl, by simp⟩
          | succ j ih =>
            intro hj
            obtain ⟨ds, g1, g2, g3⟩ := ih (by omega)
            have := hf j (by omega)
            rw [List.getElem?_eq_getElem (by omega : j < elems.length), h3] at this
            obtain ⟨cj, hcj, hdj⟩ := Option.bind_eq_some_iff.1 this
            obtain ⟨_, hcl, hcell⟩ := World.cells?_some hcj
            have hblk := World.cells?_block hcj h4
            obtain ⟨d2, k1, k2, k3⟩ := open_sh h2 hdj
            refine ⟨ds ++ d2, fun i d hd => ?_, els_app g2 k2, by simp [g3, k3, Nat.add_mul]⟩
            by_cases hi : i < ds.length
            · rw [List.getElem?_append_left hi] at hd
              exact g1 i d hd
            · rw [List.getElem?_append_right (by omega)] at hd
              obtain ⟨v, hv, hrel⟩ := relDl_get k1 _ d hd
              have hlt : i - ds.length < e.size := k3 ▸ (List.getElem?_eq_some_iff.1 hd).1
              have hc := hcell (i - ds.length) hlt
              rw [hv] at hc
              rw [addr_add_add, show j * e.size + (i - ds.length) = i by rw [← g3]; omega] at hc
              obtain ⟨c1, c2⟩ := cell_plain hc
              exact ⟨c1, c2, v, hc, hrel⟩
        obtain ⟨ds, g1, g2, g3⟩ := key len (Nat.le_refl _)
        refine ⟨[.slice e.size ds (some cap)], ⟨_, [], rfl, ⟨some a, len, cap, rfl, g3.symm, hlc, fun c hc => by cases hc; rfl, ?_⟩, rfl⟩, by simp only [Sh.D]; exact ⟨len, ds, cap, rfl, g2, g3, hlc, hcm⟩, rfl⟩
        cases ds with
        | nil => exact .inl rfl
        | cons d ds =>
          obtain ⟨hb, hsp, _⟩ := g1 0 d rfl
          obtain ⟨ab, ao, asp⟩ := a
          have hsp := hsp rfl
          simp only at hsp hb
          subst hsp
          refine .inr ⟨ab, ao, rfl, hb, relDs_of_get fun i d' hd' => ?_⟩
          obtain ⟨_, _, v, hv, hr⟩ := g1 i d' hd'
          exact ⟨v, by rw [← addr_add_plain]; exact hv, hr⟩
    · cases hok
theorem open_shs : ∀ {l : List Sh} {off : Nat} {fs : List Field} {cs : List Value} {fuel : Nat}, Sh.okBs P l off fs = true → (∀ (i : Nat) (f : Field), fs[i]? = some f → ∃ y : DataW H × List MemPlace, DataW.trod enc P w 0 sp held fuel f.type ((cs.drop f.offset).take (P.cellsOf f.type)) = some y) → off + Sh.sizes l ≤ cs.length →
    ∃ ds, RelDl (Old w) w ds ((cs.drop off).take (Sh.sizes l)) ∧ Sh.Ds l ds ∧ ds.length = Sh.sizes l
  | [], off, fs, cs, fuel, hok, _, _ => ⟨[], by simp [RelDl, Sh.sizes], by simp [Sh.Ds], rfl⟩
  | s :: l, off, fs, cs, fuel, hok, hf, hl => by
    cases fs with
    | nil => simp [Sh.okBs] at hok
    | cons f fs =>
      simp only [Sh.okBs, Bool.and_eq_true] at hok
      obtain ⟨⟨⟨h1, h2⟩, h3⟩, h4⟩ := hok
      have h1 := Nat.eq_of_beq_eq_true h1
      have h3 := Nat.eq_of_beq_eq_true h3
      obtain ⟨y, hy⟩ := hf 0 f rfl
      rw [h1, h3] at hy
      obtain ⟨d1, k1, k2, k3⟩ := open_sh h2 hy
      simp only [Sh.sizes] at hl ⊢
      obtain ⟨d2, m1, m2, m3⟩ := open_shs (cs := cs) h4 (fun i f' hi => hf (i + 1) f' (by simpa using hi)) (by omega)
      refine ⟨d1 ++ d2, ?_, by simp only [Sh.Ds]; exact ⟨d1, d2, rfl, k2, m2⟩, by simp [k3, m3]⟩
      rw [List.take_add, List.drop_drop]
      exact relDl_append k1 m1
end
/-- What is handed in at one place. -/
theorem open_arg {r : Reach} {b0 : Nat} {s : Sh} {t : TypeId} {v : Value} {d : DataW H} {ps : List MemPlace} (hok : Sh.okB P s t = true) (hval : Value.okWide P w r b0 t v) (h : DataW.Trod enc P w 0 sp held t v d ps) : ∃ ds, s.D ds ∧ RelV [] (Old w) w (s.av ds) v := by
  obtain ⟨fuel, h⟩ := h
  obtain ⟨ds, h1, h2, h3⟩ := open_sh hok h
  refine ⟨ds, h2, ?_⟩
  have one : ∀ {x : Value}, (∀ a, x ≠ .agg a) → x = v → s.size = 1 → ∃ d, ds = [d] ∧ RelD (Old w) w d v := by
    rintro x hx rfl hs
    have : x.cells.toList = [x] := by cases x <;> first | rfl | exact (hx _ rfl).elim
    rw [this] at h1
    cases ds with
    | nil => simp [hs] at h3
    | cons d ds =>
      obtain ⟨u, us, e, g1, g2⟩ := h1
      cases ds with
      | nil => cases e; exact ⟨d, rfl, g1⟩
      | cons => simp [hs] at h3
  cases s with
  | int k =>
    unfold Sh.okB at hok
    split at hok
    · rename_i hu
      obtain ⟨n, rfl⟩ := WideShapes.okWide_int hu hval
      obtain ⟨d, rfl, g⟩ := one (x := .int _ n) (fun _ h => by cases h) rfl rfl
      exact g
    · cases hok
  | bool =>
    unfold Sh.okB at hok
    split at hok
    · rename_i hu
      obtain ⟨n, rfl⟩ := WideShapes.okWide_bool hu hval
      obtain ⟨d, rfl, g⟩ := one (x := .bool n) (fun _ h => by cases h) rfl rfl
      exact g
    · cases hok
  | sl e =>
    unfold Sh.okB at hok
    split at hok
    · rename_i hu
      obtain ⟨a, b, c, rfl⟩ := WideShapes.okWide_slice hu hval
      obtain ⟨d, rfl, g⟩ := one (x := .slice a b c) (fun _ h => by cases h) rfl rfl
      exact g
    · cases hok
  | st l =>
    unfold Sh.okB at hok
    split at hok
    · rename_i hu
      obtain ⟨cs, rfl, _⟩ := WideShapes.okWide_struct hu hval
      exact ⟨cs.toList, rfl, relVs_ro h1⟩
    · cases hok
  | arr n e =>
    unfold Sh.okB at hok
    split at hok
    · rename_i hu
      have : ∃ cs, v = .agg cs := by
        simp only [Value.okWide, hu] at hval
        obtain ⟨cs, h1, _⟩ := hval
        exact ⟨cs, h1⟩
      obtain ⟨cs, rfl⟩ := this
      exact ⟨cs.toList, rfl, relVs_ro h1⟩
    · cases hok
/-- All that is handed in. -/
def argD : List Sh → List (List RD) → Prop
  | [], dss => dss = []
  | s :: l, dss => ∃ d r, dss = d :: r ∧ s.D d ∧ argD l r
def argAV : List Sh → List (List RD) → List AV
  | s :: l, d :: r => s.av d :: argAV l r
  | _, _ => []
def okArgs (P : Program) : List Sh → List TypeId → Bool
  | [], [] => true
  | s :: l, t :: ts => Sh.okB P s t && okArgs P l ts
  | _, _ => false
theorem open_args {r : Reach} {b0 : Nat} : ∀ {l : List Sh} {ts : List TypeId} {vs : List Value} {ds : List (DataW H)} {ps : List MemPlace}, okArgs P l ts = true → (∀ (j : Nat) t v, ts[j]? = some t → vs[j]? = some v → Value.okWide P w r b0 t v) → DataW.TrodAll enc P w 0 sp held ts vs ds ps →
    ∃ dss, argD l dss ∧ RelVs [] (Old w) w (argAV l dss) vs ∧ ds.length = ts.length
  | [], [], [], [], _, _, _, _ => ⟨[], rfl, rfl, rfl⟩
  | [], [], v :: vs, ds, _, _, _, h => by cases ds <;> exact h.elim
  | [], [], [], d :: ds, _, _, _, h => h.elim
  | s :: l, t :: ts, [], ds, _, _, _, h => by cases ds <;> exact h.elim
  | s :: l, t :: ts, v :: vs, [], _, _, _, h => h.elim
  | s :: l, t :: ts, v :: vs, d :: ds, ps, hok, hval, ⟨p, q, h1, h2, _⟩ => by
    simp only [okArgs, Bool.and_eq_true] at hok
    obtain ⟨d1, g1, g2⟩ := open_arg hok.1 (hval 0 t v rfl rfl) h1
    obtain ⟨dss, g3, g4, g5⟩ := open_args hok.2 (fun j t' v' a b => hval (j + 1) t' v' (by simpa using a) (by simpa using b)) h2
    exact ⟨d1 :: dss, ⟨d1, dss, rfl, g1, g3⟩, ⟨v, vs, rfl, g2, g4⟩, by simp [g5]⟩
  | [], t :: ts, _, _, _, hok, _, _ => by simp [okArgs] at hok
  | s :: l, [], _, _, _, hok, _, _ => by simp [okArgs] at hok
/-- **A law's step, from its contract.** -/
theorem law_contract {fn : Func} {f : FuncId} {s : ChangeSpec} (hv : s.vars = []) {tb : TypeId} (hr : fn.resultTypes = #[tb]) (htb : P.underlying tb = some .bool) (K : Kids P (· < P.types.size)) (hz : ∀ t e, t < P.types.size → P.underlying t = some (.slice e) → 0 < P.cellsOf e)
    (hp : ∀ t ∈ fn.params.toList, t < P.types.size) {l : List Sh} (hl : okArgs P l fn.params.toList = true) (hb : bodied P f = true) (hc : ∀ dss, argD l dss → CallP P f (argAV l dss) [] (fun r _ => r = .ro (.bool true)))
    {b0 : Nat} {W : World} {args : Array Value} {ds gs : List (DataW H)} {before : List MemPlace} (hval : ∀ (j : Nat) t v, fn.params[j]? = some t → args[j]? = some v → Value.okWide P W .any b0 t v)
    (hW : DataW.Whole enc P fn.params.toList s.vars false W args.toList ds gs before) (hs : ds.length = fn.params.size → s.fn H (ds ++ gs) = { results := [.lit (.bool true)], args := ds }) :
    Calls P f args W fun e W' => ∃ v, e = .returned v ∧ s.post enc P fn false true false false W args v W' := by
  obtain ⟨p, q, h1, _⟩ := id hW
  obtain ⟨dss, g1, g2, g3⟩ := open_args hl (fun j t v a b => hval j t v (by simpa using a) (by simpa using b)) h1
  refine ((hc dss g1).calls hb g2).mono ?_
  rintro e W' ⟨rfl, hk⟩
  exact ⟨_, rfl, law_post hv hr htb K hz hp hk hW (hs (by simpa using g3))⟩
end
end Go.Ab
