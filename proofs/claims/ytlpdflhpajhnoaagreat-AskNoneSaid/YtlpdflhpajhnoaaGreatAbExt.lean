/- Functions of the model's own, and the small functions of numbers, for this seat. -/
import Derived.Test.YtlpdflhpajhnoaaGreatAbFt
import Derived.Test.YtlpdflhpajhnoaaGreatAb31
namespace Go.Proofs.YtlpdflhpajhnoaaGreat
open Go.Ab
set_option maxRecDepth 100000

noncomputable def add64S : Kr := fun args H k => match args with
  | [.ro (.int .u64 x), .ro (.int .u64 y), .ro (.int .u64 c)] => guardP (Nat.ble c.toNat 1) (fNat ((x.toNat + y.toNat + c.toNat) % 2 ^ 64) (fun a => fNat ((x.toNat + y.toNat + c.toNat) / 2 ^ 64) (fun b => k (.tup [.ro (.int .u64 (Int.ofNat a)), .ro (.int .u64 (Int.ofNat b))]) H)))
  | _ => False
noncomputable def sub64S : Kr := fun args H k => match args with
  | [.ro (.int .u64 x), .ro (.int .u64 y), .ro (.int .u64 c)] => guardP (Nat.ble c.toNat 1) (fNat ((x.toNat + 2 ^ 64 - y.toNat - c.toNat) % 2 ^ 64) (fun a => fNat (if x.toNat < y.toNat + c.toNat then 1 else 0) (fun b => k (.tup [.ro (.int .u64 (Int.ofNat a)), .ro (.int .u64 (Int.ofNat b))]) H)))
  | _ => False
theorem three_run {P : Program} {w : World} {nm : String} (x y c : Int) (hc : c.toNat ≤ 1) : (Extern.MathBitsCarry.three nm #[.int .u64 x, .int .u64 y, .int .u64 c]).run P w = .ok (x.toNat, y.toNat, c.toNat) w := by
  match c, hc with
  | .ofNat 0, _ => rfl
  | .ofNat 1, _ => rfl
  | .negSucc n, _ => rfl
  | .ofNat (n + 2), hc => exact absurd hc (by show ¬ (n + 2 ≤ 1); omega)
theorem relVs_list3 {Γ : VL} {Pr : Nat → Prop} {w : World} {a b c : AV} {vs : List Value} (h : RelVs Γ Pr w [a, b, c] vs) : ∃ u v x, vs = [u, v, x] ∧ RelV Γ Pr w a u ∧ RelV Γ Pr w b v ∧ RelV Γ Pr w c x := by
  obtain ⟨u, vs1, rfl, h1, h2⟩ := h
  obtain ⟨v, x, rfl, h3, h4⟩ := relVs_list2 h2
  exact ⟨u, v, x, rfl, h1, h3, h4⟩
theorem add64_ok (args : List AV) (H : Heap) (k : AV → Heap → Prop) (h : add64S args H k) : CallP Tryz.prog 271 args H k := by
  unfold add64S at h
  split at h
  · rename_i x y c
    obtain ⟨hc, h⟩ := guardP_iff.1 h
    have hc := Nat.le_of_ble_eq_true hc
    simp only [fNat_iff] at h
    constructor
    intro Γ Pr w vs hs hv
    obtain ⟨a, b, d, rfl, h1, h2, h3⟩ := relVs_list3 hv
    cases getInt h1
    cases getInt h2
    cases getInt h3
    refine .inr ⟨_, w, extern_run Tryz.func271 (by kernel_rfl) (by kernel_rfl) (by kernel_rfl) (e := fun args => do
      let (x, y, c) ← Extern.MathBitsCarry.three "Add64" args
      pure (Extern.MathBitsCarry.pair ((x + y + c) % Extern.MathBitsCarry.m64) ((x + y + c) / Extern.MathBitsCarry.m64))) (by kernel_rfl) (by rw [Sem.run_bind, three_run x y c hc]; rfl), _, _, Γ, Pr, Ext.refl _ _ _ _, hs, ?_, h⟩
    exact ⟨_, rfl, _, _, rfl, mkInt, _, _, rfl, mkInt, rfl⟩
  · exact h.elim
theorem sub64_ok (args : List AV) (H : Heap) (k : AV → Heap → Prop) (h : sub64S args H k) : CallP Tryz.prog 284 args H k := by
  unfold sub64S at h
  split at h
  · rename_i x y c
    obtain ⟨hc, h⟩ := guardP_iff.1 h
    have hc := Nat.le_of_ble_eq_true hc
    simp only [fNat_iff] at h
    constructor
    intro Γ Pr w vs hs hv
    obtain ⟨a, b, d, rfl, h1, h2, h3⟩ := relVs_list3 hv
    cases getInt h1
    cases getInt h2
    cases getInt h3
    refine .inr ⟨_, w, extern_run Tryz.func284 (by kernel_rfl) (by kernel_rfl) (by kernel_rfl) (e := fun args => do
      let (x, y, b) ← Extern.MathBitsCarry.three "Sub64" args
      pure (Extern.MathBitsCarry.pair ((x + Extern.MathBitsCarry.m64 - y - b) % Extern.MathBitsCarry.m64) (if x < y + b then 1 else 0))) (by kernel_rfl) (by rw [Sem.run_bind, three_run x y c hc]; rfl), _, _, Γ, Pr, Ext.refl _ _ _ _, hs, ?_, h⟩
    exact ⟨_, rfl, _, _, rfl, mkInt, _, _, rfl, mkInt, rfl⟩
  · exact h.elim
end Go.Proofs.YtlpdflhpajhnoaaGreat
