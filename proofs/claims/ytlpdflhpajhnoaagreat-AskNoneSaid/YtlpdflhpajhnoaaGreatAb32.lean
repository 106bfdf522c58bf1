/- The abstract layer, part 32: a law's row, from its contract: the call answers true, and the old memory is as it was. -/
import Derived.Test.YtlpdflhpajhnoaaGreatAb31
import Derived.ReadAgain
import Derived.ChangeSame
import Derived.RowKit
import Derived.RowKit3
import Derived.JoinedCond
import Derived.OpenShut
namespace Go.Ab

/-- What a call leaves that is handed data alone. -/
structure Kept (W W' : World) : Prop where
  os : W'.os = W.os
  output : W'.output = W.output
  size : W.heap.size ≤ W'.heap.size
  heap : ∀ b, b < W.heap.size → W'.heap[b]? = W.heap[b]?
theorem CallP.calls {P : Program} {f : FuncId} {as : List AV} {b : Bool} (h : CallP P f as [] (fun r _ => r = .ro (.bool b))) (hb : bodied P f = true) {W : World} {args : Array Value} (ha : RelVs [] (fun b => b < W.heap.size) W as args.toList) :
    Calls P f args W (fun e W' => e = .returned (.bool b) ∧ Kept W W') := by
  have hs : Sim [] (fun b => b < W.heap.size) [] W := ⟨rfl, fun i o hi => by simp at hi, fun i j b n m _ _ h1 => by simp at h1, fun b hb => hb⟩
  rcases h.run [] _ W _ hs ha with ⟨_, h2⟩ | ⟨v, w', h1, _⟩
  · refine CallsIn.calls (F := Fence.wide) (n := 0) ?_ room_wide
    refine h2.mono ?_
    rintro e W' ⟨v, rfl, r, H', Γ', Pr', g1, g2, g3, rfl⟩
    have hv : v = .bool b := g3
    subst hv
    exact ⟨rfl, g1.os, g1.output, g1.size, fun c hc => g1.frame c hc fun i n hl => by obtain ⟨o, ho, _⟩ := hl; simp at ho⟩
  · rw [bodied_run hb] at h1
    cases h1
theorem Kept.same {W W' : World} (h : Kept W W') {p : MemPlace} (hp : p.block < W.heap.size) : W.sameAt W' p := by
  cases p with
  | cell b off =>
    show W'.cell? ⟨b, off, none⟩ = W.cell? ⟨b, off, none⟩
    exact World.cell?_of_block (w := W) (h.heap b hp)
  | map b => exact h.heap b hp
section
variable {H : Type} {enc : TypeId × Value → H} {P : Program}
theorem trodAll_kept {W W' : World} (hk : Kept W W') {sp : Nat → Bool} : ∀ {ts : List TypeId} {vs : List Value} {ds : List (DataW H)} {ps : List MemPlace}, DataW.TrodAll enc P W 0 sp true ts vs ds ps → (∀ p ∈ ps, p.block < W.heap.size) → DataW.TrodAll enc P W' 0 sp true ts vs ds ps
  | [], [], [], _, h, _ => h
  | _ :: _, _ :: _, _ :: _, _, ⟨p, q, ⟨n, h1⟩, h2, e⟩, hs => ⟨p, q, ⟨n, DataW.trod_carry n _ _ _ h1 (fun x hx => hk.same (hs x (by rw [e]; exact List.mem_append_left _ hx)))⟩, trodAll_kept hk h2 (fun x hx => hs x (by rw [e]; exact List.mem_append_right _ hx)), e⟩
theorem law_post {fn : Func} {s : ChangeSpec} (hv : s.vars = []) {tb : TypeId} (hr : fn.resultTypes = #[tb]) (htb : P.underlying tb = some .bool) (K : Kids P (· < P.types.size)) (hz : ∀ t e, t < P.types.size → P.underlying t = some (.slice e) → 0 < P.cellsOf e)
    (hp : ∀ t ∈ fn.params.toList, t < P.types.size) {W W' : World} (hk : Kept W W') {args : Array Value} {ds gs : List (DataW H)} {before : List MemPlace} (hW : DataW.Whole enc P fn.params.toList s.vars false W args.toList ds gs before)
    (hs : s.fn H (ds ++ gs) = { results := [.lit (.bool true)], args := ds }) : s.post enc P fn false true false false W args (.bool true) W' := by
  have hlt := hW.lt
  obtain ⟨p, q, h1, h2, rfl, h3, h4⟩ := id hW
  rw [hv] at h2
  cases gs with
  | cons g gs => exact h2.elim
  | nil =>
    have hq : q = [] := h2
    subst hq
    refine ⟨ds, [], p ++ [], [], p, [], by simpa using hW, ?_, ?_, ?_, ⟨hk.os, hk.output, fun i hi => ?_⟩, fun h => by cases h⟩
    · rw [hs, hr]
      exact ⟨[], [], Go.RowKit.shut_bool htb true, rfl, rfl⟩
    · rw [hs]
      refine trodAll_kept hk (DataW.TrodAll.respare K hz hp h1 (fun x hx => ?_)) (fun x hx => hlt x (by simpa using hx))
      simpa using hlt x (by simpa using hx)
    · rw [hs, hv]; rfl
    · rw [hk.heap i hi]
      split
      · rename_i h1 h2; rw [h1] at h2; cases h2; exact ⟨rfl, rfl, rfl, fun _ _ => rfl⟩
      · rename_i h1 h2; rw [h1] at h2; cases h2; exact .inr ⟨rfl, rfl⟩
      · rfl
end
end Go.Ab
