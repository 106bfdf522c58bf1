/- What is told of functions that are not walked through, for this seat. -/
import Derived.Test.YtlpdflhpajhnoaaGreatAbExt
import Derived.Test.YtlpdflhpajhnoaaGreatAbClone
namespace Go.Proofs.YtlpdflhpajhnoaaGreat
open Go.Ab
noncomputable def st0 : ST := (.node (.node (.node .leaf 67 (cloneS 3 1 8) .leaf) 97 (cloneS 93 3 40) (.node .leaf 116 (cloneS 153 11 152) .leaf)) 198 (cloneS 73 3 24) (.node (.node .leaf 271 (add64S) .leaf) 284 (sub64S) .leaf))
theorem st0_ok : STOK Tryz.prog st0 := ⟨⟨⟨trivial, clone67_ok, trivial⟩, clone97_ok, ⟨trivial, clone116_ok, trivial⟩⟩, clone198_ok, ⟨⟨trivial, add64_ok, trivial⟩, sub64_ok, trivial⟩⟩
/-- One table of what is told, ahead of another. -/
noncomputable def addST (a b : ST) : ST := @ST.rec (fun _ => ST) b (fun _ k s _ ihl ihr => .node ihl k s ihr) a
theorem addST_ok {P : Program} : ∀ {a b : ST}, STOK P a → STOK P b → STOK P (addST a b)
  | .leaf, b, _, h => h
  | .node l k s r, b, h1, h2 => ⟨addST_ok h1.1 h2, h1.2.1, addST_ok h1.2.2 h2⟩
/-- The chapter's examples: true. -/
noncomputable def awakeS : Kr := fun args H k => match args with
  | [] => k (.ro (.bool true)) H
  | _ => False
end Go.Proofs.YtlpdflhpajhnoaaGreat
