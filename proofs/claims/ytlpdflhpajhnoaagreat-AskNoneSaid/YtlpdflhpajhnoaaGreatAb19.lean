/- The abstract layer, part 19: functions of the model's own; small rules of the walk. -/
import Derived.Test.YtlpdflhpajhnoaaGreatAb18
namespace Go.Ab

theorem extern_run {P : Program} {f : FuncId} {fn : Func} {e : Array Value → Sem Value} {args : Array Value} {w w' : World} {v : Value} (hf : P.funcs[f]? = some fn) (hn : (fn.name == "runtime.NumGoroutine") = false) (hb : fn.body = none) (h1 : Extern.findNext fn = none) (h2 : Extern.find fn = some e) (h : (e args).run P w = .ok v w') :
    (callFunc f args).run P w = .ok (.value v) w' := by
  simp only [callFunc]
  rw [Sem.run_bind]
  have hn' : ¬ fn.name = "runtime.NumGoroutine" := by simpa using hn
  simp [hf, hb, hn', h1, h2, h]
theorem condB_intro {b : Bool} {t e : Prop} (h1 : b = true → t) (h2 : b = false → e) : condB b t e := condB_iff.2 ⟨h1, h2⟩

def idxB (s : ByteArray) (c : UInt8) : Int := match (List.range s.size).find? fun i => s[i]! == c with | some i => i | none => -1
theorem run_indexByte (P : Program) (s : ByteArray) (c : UInt8) (w : World) : (Extern.BytealgIndexByte.indexByte #[.string s, .int .u8 c.toNat]).run P w = .ok (.int .i64 (idxB s c)) w := by
  have e : Extern.BytealgIndexByte.indexByte #[.string s, .int .u8 c.toNat] = (do
    let b ← Extern.Bytes.bytesOf (.string s)
    let c ← Extern.Bytes.asByte (.int .u8 c.toNat)
    match (List.range b.size).find? fun i => b[i]! == c with
    | some i => pure (goInt i)
    | none => pure (goInt (-1)) : Sem Value) := rfl
  have hc : ((c.toNat : Int).toNat).toUInt8 = c := by simp
  rw [e]
  simp only [Extern.Bytes.bytesOf, Extern.Bytes.asByte, pure_bind, hc, idxB]
  cases h : (List.range s.size).find? fun i => s[i]! == c <;> simp [goInt]
/-- The first place of a byte in a string. -/
theorem CallP.indexByte {P : Program} {f : FuncId} {fn : Func} (hf : P.funcs[f]? = some fn) (hn : (fn.name == "runtime.NumGoroutine") = false) (hb : fn.body = none) (h1 : Extern.findNext fn = none) (h2 : Extern.find fn = some Extern.BytealgIndexByte.indexByte) (s : ByteArray) (c : UInt8) {H : Heap} :
    CallP P f [.ro (.str s), .ro (.int .u8 c.toNat)] H (fun r h => r = .ro (.int .i64 (idxB s c)) ∧ h = H) := by
  constructor
  intro Γ Pr w vs hs hv
  obtain ⟨v, u, rfl, h3, h4⟩ := relVs_list2 hv
  cases getStr h3
  cases getInt h4
  exact .inr ⟨_, w, extern_run hf hn hb h1 h2 (run_indexByte P s c w), _, _, Γ, Pr, Ext.refl _ _ _ _, hs, mkInt, rfl, rfl⟩

/-! ### Values without labels -/
mutual
def AV.lf : AV → Bool
  | .any => true
  | .ro _ => true
  | .ptr .. => false
  | .sl .. => false
  | .fn _ first cap => lfs first && lfs cap
  | .agg cs => lfs cs
  | .tup cs => lfs cs
  | .mp _ => false
  | .yld _ => false
  | .ifc _ a => a.lf
def lfs : List AV → Bool
  | [] => true
  | a :: as => a.lf && lfs as
end
section
variable {Γ Γ' : VL} {Pr : Nat → Prop} {w : World}
mutual
theorem relV_lf : ∀ {a : AV} {v : Value}, a.lf = true → RelV Γ Pr w a v → RelV Γ' Pr w a v
  | .any, _, _, h => h
  | .ro d, v, _, h => h
  | .fn f first cap, v, hf, ⟨fs, cs, h1, h2, h3⟩ => by
    simp only [AV.lf, Bool.and_eq_true] at hf
    exact ⟨fs, cs, h1, relVs_lf hf.1 h2, relVs_lf hf.2 h3⟩
  | .agg cs, v, hf, ⟨vs, h1, h2⟩ => ⟨vs, h1, relVs_lf (by simpa [AV.lf] using hf) h2⟩
  | .tup cs, v, hf, ⟨vs, h1, h2⟩ => ⟨vs, h1, relVs_lf (by simpa [AV.lf] using hf) h2⟩
  | .ifc t a, v, hf, ⟨u, h1, h2⟩ => ⟨u, h1, relV_lf (by simpa [AV.lf] using hf) h2⟩
  | .ptr .., _, hf, _ => by simp [AV.lf] at hf
  | .sl .., _, hf, _ => by simp [AV.lf] at hf
  | .mp .., _, hf, _ => by simp [AV.lf] at hf
  | .yld .., _, hf, _ => by simp [AV.lf] at hf
theorem relVs_lf : ∀ {as : List AV} {vs : List Value}, lfs as = true → RelVs Γ Pr w as vs → RelVs Γ' Pr w as vs
  | [], _, _, h => h
  | a :: as, _, hf, ⟨v, vs, h1, h2, h3⟩ => by
    simp only [lfs, Bool.and_eq_true] at hf
    exact ⟨v, vs, h1, relV_lf hf.1 h2, relVs_lf hf.2 h3⟩
end
end
/-- What needs no memory of the caller's, and hands none back that anyone may write, may be called anywhere. -/
theorem CallP.drop {P : Program} {f : FuncId} {args : List AV} {q : AV → Prop} (ha : lfs args = true) (h : CallP P f args [] (fun r _ => r.lf = true ∧ q r)) (H : Heap) : CallP P f args H (fun r h => q r ∧ h = H) := by
  constructor
  intro Γ Pr w vs hs hv
  have h0 : Sim [] Pr [] w := ⟨rfl, fun i o hi => by simp at hi, fun i j b n m _ _ h1 => by simp at h1, hs.prlt⟩
  refine (h.run [] Pr w vs h0 (relVs_lf ha hv)).mono ?_
  rintro v w' ⟨r, H', Γ', Pr', he, hs', hr, hl, hq⟩
  have hkeep : ∀ b, b < w.heap.size → w'.heap[b]? = w.heap[b]? := fun b hb => he.frame b hb fun i n _ hg => by simp at hg
  have hkp : ∀ b, Pr b → w'.heap[b]? = w.heap[b]? := fun b hb => hkeep b (hs.prlt b hb)
  refine ⟨r, H, Γ, Pr', ⟨he.os, he.tape, he.output, he.size, ⟨[], by simp⟩, he.pr, he.prNew, fun j b n hl hg => .inr ⟨j, n, hl, hg⟩, fun b hb _ => hkeep b hb⟩, ⟨hs.len, fun i o hi hd => ?_, hs.inj, hs'.prlt⟩, relV_lf hl hr, hq, rfl⟩
  obtain ⟨b, n, hg, hnp, hro⟩ := hs.obj i o hi hd
  have hb := (hs.blk ⟨o, hi, hd⟩ hg).1
  refine ⟨b, n, hg, fun hp => ?_, hro.mono ⟨[], by simp⟩ he.pr hkp (hkeep b hb)⟩
  rcases he.prNew b hp with h | h
  · exact hnp h
  · omega
/-- Fresh memory is frozen, where there is some. -/
theorem CallP.freezeOr {P : Program} {f : FuncId} {args : List AV} {H : Heap} {k k' : AV → Heap → Prop} (h : CallP P f args H k)
    (hk : ∀ r H', k r H' → k' r H' ∨ ∃ l T ds, H.length ≤ l ∧ (∀ i, live H i → live H' i) ∧ H'[l]? = some (.cells T (ds.map .ro)) ∧ k' (frz l ds r) (H'.set l .dead)) : CallP P f args H k' := by
  constructor
  intro Γ Pr w vs hs hv
  refine (h.run Γ Pr w vs hs hv).mono ?_
  rintro v w' ⟨r, H', Γ', Pr', he, hs', hr, hk0⟩
  rcases hk r H' hk0 with hk' | ⟨l, T, ds, hl, hlive, ho, hk'⟩
  · exact ⟨r, H', Γ', Pr', he, hs', hr, hk'⟩
  · obtain ⟨b, n, hg, hnp, hro⟩ := hs'.obj l _ ho rfl
    have hll : live H' l := ⟨_, ho, rfl⟩
    have hnew : w.heap.size ≤ b := by
      rcases he.own l b n hll hg with h | ⟨i, n', hi, hgi⟩
      · exact h
      · have hgi' : Γ'[i]? = some (b, n') := vl_ext he.vl hgi
        have := hs'.inj l i b n n' hll (hlive i hi) hg hgi'
        subst this
        exact absurd (live_lt hi) (by omega)
    refine ⟨frz l ds r, H'.set l .dead, Γ', fun c => Pr' c ∨ c = b, ?_, hs'.protect ho rfl hg, frz_ok hg hro (hr.mono ⟨[], by simp⟩ (fun _ h => .inl h) (fun _ _ => rfl)), hk'⟩
    refine ⟨he.os, he.tape, he.output, he.size, he.vl, fun c h => .inl (he.pr c h), fun c h => ?_, fun j c m hj hgj => ?_, he.frame⟩
    · rcases h with h | rfl
      · exact he.prNew c h
      · exact .inr hnew
    · refine he.own j c m ?_ hgj
      obtain ⟨p, hp, hpd⟩ := hj
      rw [List.getElem?_set] at hp
      split at hp
      · split at hp
        · simp only [Option.some.injEq] at hp; subst hp; simp [AObj.isDead] at hpd
        · cases hp
      · exact ⟨p, hp, hpd⟩
theorem not_live_nil (i : Nat) : ¬ live [] i := by rintro ⟨o, h, _⟩; simp at h
end Go.Ab
