/- The abstract layer, part 30: the evaluator that enters calls is sound. -/
import Derived.Test.YtlpdflhpajhnoaaGreatAb29
namespace Go.Ab

/-- What the tables say is so. -/
def FTOK (P : Program) : FT → Prop
  | .leaf => True
  | .node l k fn _ r => FTOK P l ∧ (P.funcs[k]? = some fn ∧ fn.body.isSome = true ∧ (fn.name == "runtime.NumGoroutine") = false) ∧ FTOK P r
def STOK (P : Program) : ST → Prop
  | .leaf => True
  | .node l k s r => STOK P l ∧ (∀ args H c, s args H c → CallP P k args H c) ∧ STOK P r
theorem FT.find_of {P : Program} : ∀ {t : FT} {n : Nat} {c : Func → PlT → Prop}, FTOK P t → t.find n c → ∃ fn pl, P.funcs[n]? = some fn ∧ fn.body.isSome = true ∧ (fn.name == "runtime.NumGoroutine") = false ∧ c fn pl
  | .leaf, n, c, _, h => bad.elim h
  | .node l k fn pl r, n, c, ⟨h1, h2, h3⟩, h => by
    have h' : (if n = k then c fn pl else if n < k then l.find n c else r.find n c) := h
    clear h
    split at h'
    · rename_i e; subst e; exact ⟨fn, pl, h2.1, h2.2.1, h2.2.2, h'⟩
    · split at h'
      · exact FT.find_of h1 h'
      · exact FT.find_of h3 h'
theorem ST.find_of {P : Program} : ∀ {t : ST} {n : Nat} {c : Kr → Prop} {d : Prop}, STOK P t → t.find n c d → (∃ s, (∀ args H k, s args H k → CallP P n args H k) ∧ c s) ∨ d
  | .leaf, n, c, d, _, h => .inr h
  | .node l k s r, n, c, d, ⟨h1, h2, h3⟩, h => by
    have h' : (if n = k then c s else if n < k then l.find n c d else r.find n c d) := h
    clear h
    split at h'
    · rename_i e; subst e; exact .inl ⟨s, h2, h'⟩
    · split at h'
      · exact ST.find_of h1 h'
      · exact ST.find_of h3 h'
theorem PlT.find_of : ∀ {t : PlT} {n : Nat} {c : Pl → Prop}, t.find n c → ∃ p, c p
  | .nil, n, c, h => bad.elim h
  | .cons id p r, n, c, h => by
    have h : (if n = id then c p else r.find n c) := h
    split at h
    · exact ⟨p, h⟩
    · exact PlT.find_of h

section
variable {P : Program} {F : Fence} {nt : Nat} {tt : TyT} {conc : Bool} {rec : Rec}
theorem againA_run {c : Code} {body : Tm → Heap → List Nat → Kont → Prop} (hb : ∀ T H D K, body T H D K → AWP P F nt c T H D K) {K : Kont} {Γ₀ : VL} {Pr₀ : Nat → Prop} {H₀ : Heap} {w₀ : World} : ∀ {m : Nat} {T : Tm} {H : Heap} {D : List Nat} {Γ : VL} {Pr : Nat → Prop} {w : World} {a : Act}, againA body K m T H D →
    Ext Γ₀ Pr₀ H₀ w₀ Γ Pr H w → Sim Γ Pr H w → RelT Γ Pr w nt T a.tmps → RelDf Γ D a.defers → Code.roundsIn F 0 P c (Post nt Γ₀ Pr₀ H₀ w₀ K) m a w
  | 0, T, H, D, Γ, Pr, w, a, h, _, _, _, _ => bad.elim h
  | m + 1, T, H, D, Γ, Pr, w, a, h, he, hs, hT, hD => by
    have h : body T H D (seqK (fun T H D _ => againA body K m T H D) K) := h
    rw [roundsIn_succ]
    refine wpIn_mono ((hb _ _ _ _ h).run Γ Pr w a hs hT hD) ?_
    rintro e a' w' ⟨ae, T', H', D', Γ', Pr', rfl, g2, g3, g4, g5, g6⟩
    cases ae with
    | normal => exact againA_run hb g6 (he.trans g2) g3 g4 g5
    | exit id => exact ⟨_, T', H', D', Γ', Pr', rfl, he.trans g2, g3, g4, g5, g6⟩
    | ret => exact ⟨_, T', H', D', Γ', Pr', rfl, he.trans g2, g3, g4, g5, g6⟩
theorem rangeA_of (hR : RecOK P rec) {tag : Nat} {g : Operand} {ps : Array Tmp} {as bd : Code} {T : Tm} {H : Heap} {D : List Nat} {K : Kont} (h : rangeA rec nt tag g ps as bd T H D K) : AWP P Fence.wide nt (.rangeFunc g ps as bd) T H D K := by
  refine AWP.range (tag := tag) ?_
  obtain ⟨gv, h, f⟩ := evK_dm _ h
  refine f _ ?_
  have h := newK_iff.1 (newK_iff.1 h)
  have h := fNat_iff.1 h
  have h := fNat_iff.1 h
  have e : (H ++ [AObj.dfr]).length = H.length + 1 := by simp
  have e2 : H ++ [AObj.dfr] ++ [AObj.loop { state := .ready, pending := none, nt := nt, T := T, params := ps, assign := as, body := bd, dl := H.length, tag := tag }] = H ++ [.dfr, .loop { state := .ready, pending := none, nt := nt, T := T, params := ps, assign := as, body := bd, dl := H.length, tag := tag }] := by simp
  rw [e, e2] at h
  unfold callRK
  split at h
  · obtain ⟨h1, h2⟩ := hR.bod _ _ h
    exact ⟨h1, hR.call _ _ _ _ h2⟩
  · obtain ⟨h1, h2⟩ := hR.bod _ _ h
    exact ⟨h1, appK_iff.2 (appK_iff.2 (hR.call _ _ _ _ (appK_iff.1 (appK_iff.1 h2))))⟩
  · exact h.elim
/-- **Code.** -/
theorem codeA_run (hF : Plain F) (hP : TyOK P tt) (hR : RecOK P rec) (hm : P.follows .mixedOrders = true) {tag : Nat} {outer : Bool} (hout : outer = true → F = Fence.wide) {pl : PlT} : ∀ {c : Code} {T : Tm} {H : Heap} {D : List Nat} {K : Kont}, codeA tt conc rec nt tag outer pl c T H D K → ∀ Γ Pr w a, Sim Γ Pr H w → RelT Γ Pr w nt T a.tmps → RelDf Γ D a.defers → c.wpIn F 0 P (Post nt Γ Pr H w K) a w := by
  intro c
  induction c with
  | skip => intro T H D K h Γ Pr w a hs hT hD; exact wpIn_skip ⟨.normal, T, H, D, Γ, Pr, rfl, Ext.refl _ _ _ _, hs, hT, hD, h⟩
  | label l => intro T H D K h Γ Pr w a hs hT hD; exact wpIn_label ⟨.normal, T, H, D, Γ, Pr, rfl, Ext.refl _ _ _ _, hs, hT, hD, h⟩
  | exit id => intro T H D K h Γ Pr w a hs hT hD; exact wpIn_exit ⟨.exit id, T, H, D, Γ, Pr, rfl, Ext.refl _ _ _ _, hs, hT, hD, h⟩
  | ret => intro T H D K h Γ Pr w a hs hT hD; exact wpIn_ret ⟨.ret, T, H, D, Γ, Pr, rfl, Ext.refl _ _ _ _, hs, hT, hD, h⟩
  | seq x y ihx ihy =>
    intro T H D K h Γ Pr w a hs hT hD
    refine wpIn_seq (wpIn_mono (ihx h Γ Pr w a hs hT hD) ?_)
    rintro e a' w' ⟨ae, T', H', D', Γ', Pr', rfl, h2, h3, h4, h5, h6⟩
    cases ae with
    | normal => exact wpIn_mono (ihy h6 Γ' Pr' w' a' h3 h4 h5) fun e a w hp => Post.trans h2 hp
    | exit id => exact ⟨_, T', H', D', Γ', Pr', rfl, h2, h3, h4, h5, h6⟩
    | ret => exact ⟨_, T', H', D', Γ', Pr', rfl, h2, h3, h4, h5, h6⟩
  | cond c x y ihx ihy =>
    intro T H D K h Γ Pr w a hs hT hD
    obtain ⟨tmps, ds⟩ := a
    have h : evK T c (fun v => ifK v (codeA tt conc rec nt tag outer pl x T H D K) (codeA tt conc rec nt tag outer pl y T H D K)) := h
    obtain ⟨v, hv, h⟩ := evK_ok (ds := ds) hT h
    unfold ifK at h
    split at h
    · rename_i b
      obtain ⟨h1, h2⟩ := condB_iff.1 h
      exact wpIn_cond_split (t := b) hv (fun hb => ihx (h1 hb) Γ Pr w _ hs hT hD) (fun hb => ihy (h2 hb) Γ Pr w _ hs hT hD)
    · exact h.elim
  | block id c ih =>
    intro T H D K h Γ Pr w a hs hT hD
    refine wpIn_block (wpIn_mono (ih h Γ Pr w a hs hT hD) ?_)
    rintro e a' w' ⟨ae, T', H', D', Γ', Pr', rfl, h2, h3, h4, h5, h6⟩
    cases ae with
    | normal => exact ⟨.normal, T', H', D', Γ', Pr', rfl, h2, h3, h4, h5, h6⟩
    | exit i =>
      simp only [AE.toExit, Exit.inBlock, blockK] at *
      split
      · rename_i hi; rw [if_pos hi] at h6; exact ⟨.normal, T', H', D', Γ', Pr', rfl, h2, h3, h4, h5, h6⟩
      · rename_i hi; rw [if_neg hi] at h6; exact ⟨.exit i, T', H', D', Γ', Pr', rfl, h2, h3, h4, h5, h6⟩
    | ret => exact ⟨.ret, T', H', D', Γ', Pr', rfl, h2, h3, h4, h5, h6⟩
  | region id ops draw =>
    intro T H D K h
    cases draw with
    | true =>
      obtain ⟨p, h⟩ := PlT.find_of h
      obtain ⟨h1, h2⟩ := guardP_iff.1 h
      exact (AWP.plan hF hP hR hm h1 h2).run
    | false =>
      intro Γ Pr w a hs hT hD
      refine wpIn_region_list (opsG_ok (S := stepA tt conc rec) (fun o T H k h => stepA_of hR hP h) hF hP rfl hs hT h ?_)
      intro Γ' Pr' H' w' T' tmps' he hs' hT' h'
      exact ⟨.normal, T', H', D, Γ', Pr', rfl, he, hs', hT', hD.ext he.vl, h'⟩
  | loop c ih =>
    intro T H D K h Γ Pr w a hs hT hD
    have h : againA (codeA tt conc rec nt tag outer pl c) K 100000 T H D := h
    exact wpIn_loop_rounds 100000 (againA_run (fun T H D K h => ⟨ih h⟩) h (Ext.refl Γ Pr H w) hs hT hD)
  | rangeFunc g ps as bd _ _ =>
    intro T H D K h
    cases outer with
    | true =>
      rw [hout rfl]
      exact (rangeA_of hR (show rangeA rec nt tag g ps as bd T H D K from h)).run
    | false => exact bad.elim (show bad _ from h)
  | goto l => intro T H D K h; exact bad.elim h
  | scope c _ => intro T H D K h; exact bad.elim h
  | refuse w => intro T H D K h; exact bad.elim h
theorem codeA_ok (hF : Plain F) (hP : TyOK P tt) (hR : RecOK P rec) (hm : P.follows .mixedOrders = true) {tag : Nat} {outer : Bool} (hout : outer = true → F = Fence.wide) {pl : PlT} {c : Code} {T : Tm} {H : Heap} {D : List Nat} {K : Kont} (h : codeA tt conc rec nt tag outer pl c T H D K) : AWP P F nt c T H D K := ⟨codeA_run hF hP hR hm hout h⟩
/-- A function of the program, from what its body achieves. -/
theorem CallP.enterW (hP : TyOK P tt) {f : FuncId} {fn : Func} {c : Code} {args : List AV} {H : Heap} {k : AV → Heap → Prop} (hf : P.funcs[f]? = some fn) (hb : fn.body = some c) (hn : (fn.name == "runtime.NumGoroutine") = false)
    (hlen : args.length ≤ fn.ntmps) (h : argsK args 0 .leaf (fun T => AWP P Fence.wide fn.ntmps c T H [] (endK tt fn.results.toList k))) : CallP P f args H k := by
  constructor
  intro Γ Pr w vs hs hv
  have hlv := relVs_length hv
  refine .inl ⟨by simp only [callFunc]; rw [Sem.run_bind]; simp [hf, hb]; simpa using hn, ?_⟩
  refine callsIn_of_wp_marks hf hb trivial ?_
  obtain ⟨T, h, hT⟩ := argsK_ok h
  have hT0 : RelT Γ Pr w fn.ntmps T (vs.toArray ++ Array.replicate (fn.ntmps - vs.toArray.size) undef) := by
    refine ⟨by simp; omega, fun i => ?_⟩
    rw [hT]
    simp only [Nat.zero_le, if_true, Nat.sub_zero]
    cases ha : args[i]? with
    | some a =>
      obtain ⟨v, hvi, hr⟩ := relVs_get hv _ _ ha
      have hlt : i < vs.length := (List.getElem?_eq_some_iff.1 hvi).1
      have : (vs.toArray ++ Array.replicate (fn.ntmps - vs.toArray.size) undef).getD i undef = v := by
        rw [Array.getD_eq_getD_getElem?, Array.getElem?_append_left (by simpa using hlt)]
        simp [hvi]
      rw [this]
      exact hr
    | none => exact trivial
  refine wpIn_mono (h.run Γ Pr w _ hs hT0 rfl) ?_
  rintro e a' w' ⟨ae, T', H', D', Γ', Pr', rfl, h2, h3, h4, h5, h6⟩
  have fin : ∀ {H'}, Sim Γ' Pr' H' w' → Ext Γ Pr H w Γ' Pr' H' w' → closeK D' H' (fun H => resultK tt T' H fn.results.toList (fun r => k r H)) → LeavesInM Fence.wide 0 P fn a'.tmps (fun e w' => ∃ v, e = .returned v ∧ ∃ r H' Γ' Pr', Ext Γ Pr H w Γ' Pr' H' w' ∧ Sim Γ' Pr' H' w' ∧ RelV Γ' Pr' w' r v ∧ k r H') a'.defers .returning w' := by
    intro H' h3 h2 h6
    refine closeK_ok h3 h5 h6 ?_
    intro H2 w2 he2 hs2 h6
    have h4' := h4.mono he2.vl he2.pr (h3.keeps he2)
    obtain ⟨r, v, g1, g2, g3⟩ := resultK_ok hP hs2 h4' h6
    exact ⟨v, g1, v, rfl, r, H2, Γ', Pr', h2.trans he2, hs2, g2, g3⟩
  cases ae with
  | normal => exact fin h3 h2 h6
  | exit id => exact h6.elim
  | ret => exact fin h3 h2 h6
theorem argsK_imp : ∀ {as : List AV} {i : Nat} {T : Tm} {k k' : Tm → Prop}, argsK as i T k → (∀ T, k T → k' T) → argsK as i T k'
  | [], i, T, k, k', h, hk => hk _ h
  | a :: as, i, T, k, k', h, hk => by
    obtain ⟨T1, h1, h⟩ := setK_iff.1 h
    exact setK_iff.2 ⟨T1, h1, argsK_imp h hk⟩
variable {ft : FT} {st : ST}
/-- **A call.** -/
theorem callS_ok (hP : TyOK P tt) (hR : RecOK P rec) (hm : P.follows .mixedOrders = true) (hft : FTOK P ft) (hst : STOK P st) {f : Nat} {args : List AV} {H : Heap} {k : AV → Heap → Prop} (h : callS tt conc ft st rec f args H k) : CallP P f args H k := by
  rcases ST.find_of hst h with ⟨s, h1, h2⟩ | h
  · exact h1 _ _ _ h2
  · obtain ⟨fn, pl, h1, _, h3, h⟩ := FT.find_of hft h
    cases hb : fn.body with
    | none => rw [hb] at h; exact bad.elim h
    | some c =>
      rw [hb] at h
      obtain ⟨h4, h5⟩ := guardP_iff.1 h
      cases conc with
      | true => exact CallP.gc (CallP.enterW hP h1 hb h3 (Nat.le_of_ble_eq_true h4) (argsK_imp h5 fun T h => codeA_ok (.inl rfl) hP hR hm (fun _ => rfl) h))
      | false => exact CallP.enterW hP h1 hb h3 (Nat.le_of_ble_eq_true h4) (argsK_imp h5 fun T h => codeA_ok (.inl rfl) hP hR hm (fun _ => rfl) h)
/-- **The evaluator that enters calls is sound.** -/
theorem recA_ok (hP : TyOK P tt) (hm : P.follows .mixedOrders = true) (hft : FTOK P ft) (hst : STOK P st) : ∀ n : Nat, RecOK P (recA tt conc ft st n)
  | 0 => ⟨fun _ _ h => bad.elim h, fun _ _ _ _ h => bad.elim h, fun _ _ _ _ _ _ _ h => bad.elim h⟩
  | n + 1 => by
    have ih := recA_ok hP hm hft hst n
    refine ⟨fun f k h => ?_, fun g args H k h => callS_ok hP ih hm hft hst h, fun nt tag c T H K b h => ?_⟩
    · obtain ⟨fn, pl, h1, h2, h3, h4⟩ := FT.find_of hft (show ft.find f (fun _ _ => k) from h)
      refine ⟨?_, h4⟩
      unfold bodied
      rw [h1]
      simp [h2]
      simpa using h3
    · obtain ⟨fn, pl, _, _, _, h4⟩ := FT.find_of hft (show ft.find tag (fun _ pl => codeA tt conc (recA tt conc ft st n) nt tag false pl c T H [] K) from h)
      exact codeA_ok (.inr ⟨b, rfl⟩) hP ih hm (fun h => by cases h) h4
theorem CallP.auto (hP : TyOK P tt) (hm : P.follows .mixedOrders = true) (hft : FTOK P ft) (hst : STOK P st) (n : Nat) {f : FuncId} {args : List AV} {H : Heap} {k : AV → Heap → Prop} (h : (recA tt conc ft st n).call f args H k) : CallP P f args H k := (recA_ok hP hm hft hst n).call _ _ _ _ h
end
end Go.Ab
