/- binnaclekit.LongModel: it says yes or no. -/
import Derived.Test.YtlpdflhpajhnoaaGreatAbSt
import Derived.Test.YtlpdflhpajhnoaaGreatAb33
namespace Go.Proofs.YtlpdflhpajhnoaaGreat
open Go.Ab
set_option maxRecDepth 100000
abbrev vT (b : Bool) : AV := .ro (.bool b)
abbrev vI (n : Int) : AV := .ro (.int .i64 n)
abbrev sI : Sh := .int .i64
abbrev sIs : Sh := .sl sI
abbrev sRow : Sh := .st [sI, sIs, sI]
abbrev sModel : Sh := .st [sI, sIs, sIs, sI, sI, sI, .sl sRow]
abbrev sSetup : Sh := .st [sI, sI, sI, sI, sI]
abbrev sBelief : Sh := .st [sI, sIs, sIs, .bool, sI, sI]
theorem i64_wrap {n : Int} (h1 : -2 ^ 63 ≤ n) (h2 : n < 2 ^ 63) : IntKind.i64.wrap n = n := by
  simp [IntKind.wrap, IntKind.bits, IntKind.signed]
  omega
theorem matchB_intro {b : Bool} {x y : Prop} : (b = true → x) → (b = false → y) → (match b with | true => x | false => y) := by
  cases b
  · exact fun _ h => h rfl
  · exact fun h _ => h rfl
/-- The rows of a model, as data. -/
def Rows3 (cs : List RD) : Prop := ∀ j, 3 * j < cs.length → ∃ h l c, cs[3 * j + 1]? = some (.slice 1 h c) ∧ l = h.length ∧ l ≤ maxLen
theorem longModel (n tick gate rmin : Int) (A Q R : List RD) (cA cQ cR : Option Nat) (hR : Rows3 R) (hl : ∃ m, R.length = m * 3) (H : Heap) : CallP Tryz.prog 8 [.agg [vI n, .ro (.slice 1 A cA), .ro (.slice 1 Q cQ), vI tick, vI gate, vI rmin, .ro (.slice 3 R cR)]] H (fun r h => (∃ b, r = vT b) ∧ h = H) := by
  refine CallP.drop rfl ?_ H
  refine CallP.enter ttOK Tryz.func8 rfl rfl ?_
  conv => whnf
  refine AWP.loop (α := Nat) (.inl rfl) ttOK (fun i => i ≤ 31) (fun i => 31 - i) (fun i => [(1, .ptr 0 0), (2, vT false), (3, vI i)]) (fun _ => [.cells 25 [vI n, .ro (.slice 1 A cA), .ro (.slice 1 Q cQ), vI tick, vI gate, vI rmin, .ro (.slice 3 R cR)]]) 0 (by decide) rfl ⟨rfl, rfl, rfl, trivial⟩ ?_
  intro i hi
  conv => whnf
  refine matchB_intro (fun hd => ?_) (fun hd => ?_)
  · have hd := of_decide_eq_true hd
    conv => whnf
    refine matchB_intro (fun hi2 => ?_) (fun hi2 => ?_)
    · have hi2 := of_decide_eq_true hi2
      obtain ⟨m, hm⟩ := hl
      obtain ⟨h, l, c, hh, rfl, hle⟩ := hR i (by omega)
      obtain ⟨a, b, hcut⟩ : ∃ a b, R.drop (i * 3) = a :: .slice 1 h c :: b := by
        have h0 : i * 3 < R.length := by omega
        have h1 : i * 3 + 1 < R.length := by omega
        refine ⟨R[i * 3], R.drop (i * 3 + 2), ?_⟩
        rw [List.drop_eq_getElem_cons h0, List.drop_eq_getElem_cons h1]
        have := (List.getElem?_eq_some_iff.1 hh).2
        simp only [show 3 * i + 1 = i * 3 + 1 by omega] at this
        rw [this]
      conv => whnf
      refine matchB_intro (fun _ => ?_) (fun hb => ?_)
      case refine_2 => exact absurd hb (by simp; omega)
      conv => whnf
      refine dropK_intro (by omega) ?_
      rw [show ((i : Int).toNat * 3) = i * 3 from rfl, hcut]
      conv => whnf
      refine matchB_intro (fun _ => ?_) (fun _ => ?_)
      · conv => whnf
        exact ⟨rfl, _, rfl⟩
      · conv => whnf
        refine ⟨i + 1, by omega, by omega, rfl, rfl, ?_⟩
        rw [i64_wrap (by omega) (by omega)]
        exact ⟨rfl, rfl, rfl, trivial⟩
    · conv => whnf
      repeat' (refine matchB_intro (fun _ => ?_) (fun _ => ?_) <;> conv => whnf)
      all_goals exact ⟨rfl, _, rfl⟩
  · conv => whnf
    repeat' (refine matchB_intro (fun _ => ?_) (fun _ => ?_) <;> conv => whnf)
    all_goals exact ⟨rfl, _, rfl⟩
/-- A model, as data: its fields. -/
def modelOK (cs : List AV) : Prop := ∃ n tick gate rmin A Q R cA cQ cR, cs = [vI n, .ro (.slice 1 A cA), .ro (.slice 1 Q cQ), vI tick, vI gate, vI rmin, .ro (.slice 3 R cR)] ∧ Rows3 R ∧ ∃ m, R.length = m * 3
noncomputable def longS : Kr := fun args H k => match args with
  | [.agg cs] => modelOK cs ∧ k (vT true) H ∧ k (vT false) H
  | _ => False
theorem long_ok (args : List AV) (H : Heap) (k : AV → Heap → Prop) (h : longS args H k) : CallP Tryz.prog 8 args H k := by
  unfold longS at h
  split at h
  · obtain ⟨⟨n, tick, gate, rmin, A, Q, R, cA, cQ, cR, rfl, hR, hl⟩, h1, h2⟩ := h
    refine (longModel n tick gate rmin A Q R cA cQ cR hR hl H).mono ?_
    rintro r H' ⟨⟨b, rfl⟩, rfl⟩
    cases b
    · exact h2
    · exact h1
  · exact h.elim
theorem rows_of {p : List RD → Prop} (hp : ∀ l, p l → sRow.D l) : ∀ {n : Nat} {cs : List RD}, Els p n cs → Rows3 cs ∧ cs.length = n * 3
  | 0, cs, h => by rw [show cs = [] from h]; exact ⟨fun j hj => by simp at hj, rfl⟩
  | n + 1, cs, ⟨a, r, e, h1, h2⟩ => by
    subst e
    obtain ⟨k1, k2⟩ := rows_of hp h2
    have h1 := hp _ h1
    simp only [Sh.D, Sh.Ds] at h1
    obtain ⟨x, _, rfl, ⟨i, rfl, _⟩, _, _, rfl, ⟨m, q, c, rfl, he, hq, hc, hx⟩, _, _, rfl, ⟨j, rfl, _⟩, rfl⟩ := h1
    refine ⟨fun j' hj => ?_, by simp [k2, Nat.add_mul]⟩
    cases j' with
    | zero => exact ⟨q, _, some c, rfl, rfl, by simp [Sh.size] at hq; omega⟩
    | succ j' =>
      obtain ⟨g1, l, g2, e1, e2, e3⟩ := k1 j' (by simp at hj; omega)
      exact ⟨g1, l, g2, by rw [← e1]; rw [show 3 * (j' + 1) + 1 = (3 * j' + 1) + 3 by omega]; rfl, e2, e3⟩
/-- What is handed in for a model. -/
theorem model_of {ds : List RD} (h : sModel.D ds) : modelOK (ds.map .ro) := by
  simp only [Sh.D, Sh.Ds] at h
  obtain ⟨_, _, rfl, ⟨n, rfl, _⟩, _, _, rfl, ⟨_, A, cA, rfl, _⟩, _, _, rfl, ⟨_, Q, cQ, rfl, _⟩, _, _, rfl, ⟨t, rfl, _⟩, _, _, rfl, ⟨g, rfl, _⟩, _, _, rfl, ⟨r, rfl, _⟩, _, _, rfl, ⟨m, R, cR, rfl, hR, _⟩, rfl⟩ := h
  obtain ⟨k1, k2⟩ := rows_of (fun l hl => by simp only [Sh.D, Sh.Ds]; exact hl) hR
  exact ⟨n, t, g, r, A, Q, R, _, _, _, rfl, k1, m, k2⟩
end Go.Proofs.YtlpdflhpajhnoaaGreat
