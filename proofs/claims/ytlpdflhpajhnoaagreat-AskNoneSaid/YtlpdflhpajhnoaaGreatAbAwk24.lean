/- The chapter's examples of layer 24. -/
import Derived.Test.YtlpdflhpajhnoaaGreatAbSt
namespace Go.Proofs.YtlpdflhpajhnoaaGreat
open Go.Ab
set_option maxRecDepth 10000000
set_option maxHeartbeats 0 in
theorem awake24_run : (recA tt true ft st0 100).call 9 [] [] (fun r _ => r = .ro (.bool true)) = (AV.ro (.bool true) = AV.ro (.bool true)) := by kernel_rfl
/-- The chapter's examples are as it says. -/
theorem awake24 (H : Heap) : CallP Tryz.prog 9 [] H (fun r h => r = .ro (.bool true) ∧ h = H) := by
  have h : CallP Tryz.prog 9 [] [] (fun r _ => r = .ro (.bool true)) := CallP.auto ttOK mixed ft_ok st0_ok 100 (awake24_run ▸ rfl)
  refine CallP.drop (q := fun r => r = .ro (.bool true)) rfl (h.mono ?_) H
  rintro r _ rfl
  exact ⟨rfl, rfl⟩
theorem awake24_ok (args : List AV) (H : Heap) (k : AV → Heap → Prop) (h : awakeS args H k) : CallP Tryz.prog 9 args H k := by
  unfold awakeS at h
  split at h
  · refine (awake24 H).mono ?_
    rintro r _ ⟨rfl, rfl⟩
    exact h
  · exact h.elim
end Go.Proofs.YtlpdflhpajhnoaaGreat
