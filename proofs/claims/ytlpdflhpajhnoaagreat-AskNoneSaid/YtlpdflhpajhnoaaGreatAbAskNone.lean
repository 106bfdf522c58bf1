/- binnaclelaw24.AskNone. -/
import Derived.Test.YtlpdflhpajhnoaaGreatAbLong
import Derived.Test.YtlpdflhpajhnoaaGreatAbAwk24
namespace Go.Proofs.YtlpdflhpajhnoaaGreat
open Go.Ab
set_option maxRecDepth 10000000
noncomputable def st24a : ST := .node .leaf 8 longS (.node .leaf 9 awakeS .leaf)
set_option maxHeartbeats 0 in
theorem askNone_run (n tick gate rmin : Int) (A Q R : List RD) (cA cQ cR : Option Nat) (a b c d e t : Int) : (recA tt false ft (addST st24a st0) 100).call 3 [.agg [vI n, .ro (.slice 1 A cA), .ro (.slice 1 Q cQ), vI tick, vI gate, vI rmin, .ro (.slice 3 R cR)], .agg [vI a, vI b, vI c, vI d, vI e], vI t] [] (fun r h => r = vT true)
  = (modelOK [vI n, .ro (.slice 1 A cA), .ro (.slice 1 Q cQ), vI tick, vI gate, vI rmin, .ro (.slice 3 R cR)] ∧ (vT true = vT true) ∧ (vT true = vT true)) := by kernel_rfl
theorem st24_ok : STOK Tryz.prog (addST st24a st0) := addST_ok ⟨trivial, long_ok, trivial, awake24_ok, trivial⟩ st0_ok
theorem askNone_c (dss : List (List RD)) (h : argD [sModel, sSetup, sI] dss) : CallP Tryz.prog 3 (argAV [sModel, sSetup, sI] dss) [] (fun r _ => r = vT true) := by
  obtain ⟨d1, _, rfl, h1, d2, _, rfl, h2, d3, _, rfl, h3, rfl⟩ := h
  have hm := model_of h1
  obtain ⟨n, tick, gate, rmin, A, Q, R, cA, cQ, cR, e, hR, hl⟩ := hm
  simp only [Sh.D, Sh.Ds] at h2 h3
  obtain ⟨_, _, rfl, ⟨a, rfl, _⟩, _, _, rfl, ⟨b, rfl, _⟩, _, _, rfl, ⟨c, rfl, _⟩, _, _, rfl, ⟨d, rfl, _⟩, _, _, rfl, ⟨f, rfl, _⟩, rfl⟩ := h2
  obtain ⟨t, rfl, _⟩ := h3
  have key : CallP Tryz.prog 3 [.agg (d1.map .ro), .agg [vI a, vI b, vI c, vI d, vI f], vI t] [] (fun r _ => r = vT true) := by
    rw [e]
    exact CallP.auto (conc := false) ttOK mixed ft_ok st24_ok 100 (cast (askNone_run n tick gate rmin A Q R cA cQ cR a b c d f t).symm ⟨⟨n, tick, gate, rmin, A, Q, R, cA, cQ, cR, rfl, hR, hl⟩, rfl, rfl⟩)
  exact key
end Go.Proofs.YtlpdflhpajhnoaaGreat
